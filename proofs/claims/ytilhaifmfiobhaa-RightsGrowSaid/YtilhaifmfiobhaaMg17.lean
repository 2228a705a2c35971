/-
  Several texts in one: Y1, Y2, Y3, Y4, Y5, Y6, Y8, Y7.
-/
import Derived.Test.YtilhaifmfiobhaaMg16

section
/-
  Claims and proofs: the small functions, and what is right.
-/
namespace Go.Proofs.Ytilhaifmfiobhaa
open Go.Eng

set_option maxRecDepth 20000 in
theorem holds_fn (x : Int) (h0 : 0 ≤ x) (h1 : x < 1000000) : Ctr Try.prog 119 [.i .i64 x] [] (.i .i64 (2 * x)) := by
  refine fn_of_exec tabOk Try.func119 (by kernel_rfl) rfl (N := Try.f119.ntmps) rfl (res := [.tmp 2]) rfl rfl [] ?_
  refine RetIs.i ?_
  exact wr (by omega) (by omega)
set_option maxRecDepth 20000 in
theorem fails_fn (x : Int) (h0 : 0 ≤ x) (h1 : x < 1000000) : Ctr Try.prog 84 [.i .i64 x] [] (.i .i64 (2 * x + 1)) := by
  refine fn_of_exec tabOk Try.func84 (by kernel_rfl) rfl (N := Try.f84.ntmps) rfl (res := [.tmp 2]) rfl rfl [] ?_
  refine RetIs.i ?_
  rw [wr (n := 2 * x) (by omega) (by omega)]
  exact wr (by omega) (by omega)
theorem RetIs.agC {c d : Cl} {O : List OE} {nid : Nat} (h : d = c) : RetIs [] (.ag c.av) (.ag d.av) O nid := ⟨[], ⟨⟨⟨rfl, rfl, by subst h; exact AVEq.refl _⟩, trivial⟩, trivial, rfl⟩, rfl, trivial⟩
theorem clauseOf0 {p : Pf} (h : p.kind = 0) : clauseOf p = ⟨2 * p.a, 2 * p.a⟩ := if_pos h
theorem clauseOf1 {p : Pf} (h : p.kind = 1) : clauseOf p = ⟨2 * p.a + 1, 2 * p.a + 1⟩ := by unfold clauseOf; rw [if_neg (by omega), if_pos h]
theorem clauseOf2 {p : Pf} (h : p.kind = 2) : clauseOf p = ⟨2 * p.a, 2 * p.b⟩ := by unfold clauseOf; rw [if_neg (by omega), if_neg (by omega), if_pos h]
theorem clauseOf3 {p : Pf} (h : p.kind = 3) : clauseOf p = ⟨2 * p.a + 1, 2 * p.b + 1⟩ := by unfold clauseOf; rw [if_neg (by omega), if_neg (by omega), if_neg (by omega), if_pos h]
theorem clauseOf4 {p : Pf} (h0 : p.kind ≠ 0) (h1 : p.kind ≠ 1) (h2 : p.kind ≠ 2) (h3 : p.kind ≠ 3) : clauseOf p = ⟨2 * p.a + 1, 2 * p.b⟩ := by unfold clauseOf; rw [if_neg h0, if_neg h1, if_neg h2, if_neg h3]

set_option maxRecDepth 20000 in
set_option maxHeartbeats 1000000 in
theorem clause_fn (p : Pf) (ha : 0 ≤ p.a ∧ p.a < 1000000) (hb : 0 ≤ p.b ∧ p.b < 1000000) : Ctr Try.prog 85 [.ag p.av] [] (.ag (clauseOf p).av) := by
  refine fn_of_exec tabOk Try.func85 (by kernel_rfl) rfl (N := Try.f85.ntmps) rfl (res := [.cell 2 25]) rfl rfl [] ?_
  have Ha := holds_fn p.a ha.1 ha.2
  have Hb := holds_fn p.b hb.1 hb.2
  have Fa := fails_fn p.a ha.1 ha.2
  have Fb := fails_fn p.b hb.1 hb.2
  repeat refine Or.inl ?_
  refine ⟨fun h0 => ?_, fun h0 => ?_⟩
  · have h0 : (p.kind == 0) = true := h0
    repeat refine Or.inl ?_
    refine ⟨[], _, Ha, ?_⟩
    repeat refine Or.inl ?_
    refine ⟨[], _, Ha, ?_⟩
    exact RetIs.agC (d := ⟨2 * p.a, 2 * p.a⟩) (clauseOf0 (beq_iff_eq.1 h0)).symm
  have h0 : (p.kind == 0) = false := h0
  repeat refine Or.inl ?_
  refine ⟨fun h1 => ?_, fun h1 => ?_⟩
  · have h1 : (p.kind == 1) = true := h1
    repeat refine Or.inl ?_
    refine ⟨[], _, Fa, ?_⟩
    repeat refine Or.inl ?_
    refine ⟨[], _, Fa, ?_⟩
    exact RetIs.agC (d := ⟨2 * p.a + 1, 2 * p.a + 1⟩) (clauseOf1 (beq_iff_eq.1 h1)).symm
  have h1 : (p.kind == 1) = false := h1
  repeat refine Or.inl ?_
  refine ⟨fun h2 => ?_, fun h2 => ?_⟩
  · have h2 : (p.kind == 2) = true := h2
    repeat refine Or.inl ?_
    refine ⟨[], _, Ha, ?_⟩
    repeat refine Or.inl ?_
    refine ⟨[], _, Hb, ?_⟩
    exact RetIs.agC (d := ⟨2 * p.a, 2 * p.b⟩) (clauseOf2 (beq_iff_eq.1 h2)).symm
  have h2 : (p.kind == 2) = false := h2
  repeat refine Or.inl ?_
  refine ⟨fun h3 => ?_, fun h3 => ?_⟩
  · have h3 : (p.kind == 3) = true := h3
    repeat refine Or.inl ?_
    refine ⟨[], _, Fa, ?_⟩
    repeat refine Or.inl ?_
    refine ⟨[], _, Fb, ?_⟩
    exact RetIs.agC (d := ⟨2 * p.a + 1, 2 * p.b + 1⟩) (clauseOf3 (beq_iff_eq.1 h3)).symm
  have h3 : (p.kind == 3) = false := h3
  repeat refine Or.inl ?_
  refine ⟨[], _, Fa, ?_⟩
  repeat refine Or.inl ?_
  refine ⟨[], _, Hb, ?_⟩
  exact RetIs.agC (d := ⟨2 * p.a + 1, 2 * p.b⟩) (clauseOf4 (beq_eq_false_iff_ne.1 h0) (beq_eq_false_iff_ne.1 h1) (beq_eq_false_iff_ne.1 h2) (beq_eq_false_iff_ne.1 h3)).symm

set_option maxRecDepth 20000 in
set_option maxHeartbeats 1000000 in
theorem rClause_fn (p : Pf) (ha : 0 ≤ p.a ∧ p.a < 1000000) (hb : 0 ≤ p.b ∧ p.b < 1000000) : Ctr Try.prog 86 [.ag p.av] [] (.ag (clauseOf p).av) := by
  refine fn_of_exec tabOk Try.func86 (by kernel_rfl) rfl (N := Try.f86.ntmps) rfl (res := [.cell 2 25]) rfl rfl [] ?_
  have wa : IntKind.i64.wrap (2 * p.a) = 2 * p.a := wr (by omega) (by omega)
  have wb : IntKind.i64.wrap (2 * p.b) = 2 * p.b := wr (by omega) (by omega)
  have va : IntKind.i64.wrap (IntKind.i64.wrap (2 * p.a) + 1) = 2 * p.a + 1 := by rw [wa]; exact wr (by omega) (by omega)
  have vb : IntKind.i64.wrap (IntKind.i64.wrap (2 * p.b) + 1) = 2 * p.b + 1 := by rw [wb]; exact wr (by omega) (by omega)
  repeat refine Or.inl ?_
  refine ⟨fun h0 => ?_, fun h0 => ?_⟩
  · have h0 : (p.kind == 0) = true := h0
    exact RetIs.agC (d := ⟨IntKind.i64.wrap (2 * p.a), IntKind.i64.wrap (2 * p.a)⟩) (by rw [wa]; exact (clauseOf0 (beq_iff_eq.1 h0)).symm)
  have h0 : (p.kind == 0) = false := h0
  repeat refine Or.inl ?_
  refine ⟨fun h1 => ?_, fun h1 => ?_⟩
  · have h1 : (p.kind == 1) = true := h1
    exact RetIs.agC (d := ⟨IntKind.i64.wrap (IntKind.i64.wrap (2 * p.a) + 1), IntKind.i64.wrap (IntKind.i64.wrap (2 * p.a) + 1)⟩) (by rw [va]; exact (clauseOf1 (beq_iff_eq.1 h1)).symm)
  have h1 : (p.kind == 1) = false := h1
  repeat refine Or.inl ?_
  refine ⟨fun h2 => ?_, fun h2 => ?_⟩
  · have h2 : (p.kind == 2) = true := h2
    exact RetIs.agC (d := ⟨IntKind.i64.wrap (2 * p.a), IntKind.i64.wrap (2 * p.b)⟩) (by rw [wa, wb]; exact (clauseOf2 (beq_iff_eq.1 h2)).symm)
  have h2 : (p.kind == 2) = false := h2
  repeat refine Or.inl ?_
  refine ⟨fun h3 => ?_, fun h3 => ?_⟩
  · have h3 : (p.kind == 3) = true := h3
    exact RetIs.agC (d := ⟨IntKind.i64.wrap (IntKind.i64.wrap (2 * p.a) + 1), IntKind.i64.wrap (IntKind.i64.wrap (2 * p.b) + 1)⟩) (by rw [va, vb]; exact (clauseOf3 (beq_iff_eq.1 h3)).symm)
  have h3 : (p.kind == 3) = false := h3
  exact RetIs.agC (d := ⟨IntKind.i64.wrap (IntKind.i64.wrap (2 * p.a) + 1), IntKind.i64.wrap (2 * p.b)⟩) (by rw [va, wb]; exact (clauseOf4 (beq_eq_false_iff_ne.1 h0) (beq_eq_false_iff_ne.1 h1) (beq_eq_false_iff_ne.1 h2) (beq_eq_false_iff_ne.1 h3)).symm)

set_option maxRecDepth 20000 in
theorem rightP1_fn (n : Nat) (p : Pf) : Ctr Try.prog 88 [.ag p.av, .rp [.i .i64 n]] [] (.b (!pfB n p)) := by
  refine fn_of_exec tabOk Try.func88 (by kernel_rfl) rfl (N := Try.f88.ntmps) rfl (res := [.tmp 3]) rfl rfl [] ?_
  refine RetIs.b ?_
  show ((((((decide (p.kind < 0) || decide (p.kind ≥ 5)) || decide (p.a < 0)) || decide (p.a ≥ (n : Int))) || decide (p.b < 0)) || decide (p.b ≥ (n : Int))) || (((p.kind == 0) || (p.kind == 1)) && (p.b != 0))) = !pfB n p
  rw [Bool.eq_iff_iff, Bool.not_eq_true', ← Bool.not_eq_true, pfB_iff]
  simp only [Bool.or_eq_true, Bool.and_eq_true, decide_eq_true_eq, beq_iff_eq, bne_iff_ne]
  omega
end Go.Proofs.Ytilhaifmfiobhaa
end

section
/-
  Claims and proofs: what is right, and the clauses.
-/
namespace Go.Proofs.Ytilhaifmfiobhaa
open Go.Eng

instance : DecidableEq Cm := fun a b => if h : a.acc = b.acc ∧ a.per = b.per then isTrue (Cm.ext' h.1 h.2) else isFalse (by rintro rfl; exact h ⟨rfl, rfl⟩)
def kfM (c : Cm) : AV := .ag c.av
theorem kfM_inj : ∀ a b : Cm, kfM a = kfM b → a = b := by
  intro a b h
  unfold kfM Cm.av at h
  simp at h
  exact Cm.ext' h.1 h.2
def goodC (C : List Cm) (k : Nat) : Bool := cmB (C.getD k dCm) && !seenB C (C.getD k dCm) k
theorem rightCP_size {C : List Cm} {P : List Pf} (h : ¬ (C.length ≤ 200 ∧ P.length ≤ 400)) : rightCP C P = false := by
  rw [Bool.eq_false_iff]
  intro hf
  have := rightCP_iff.1 hf
  exact h ⟨this.lc, this.lp⟩
theorem rightCP_bad {C : List Cm} {P : List Pf} {k : Nat} (hk : k < C.length) (h : goodC C k = false) : rightCP C P = false := by
  rw [Bool.eq_false_iff]
  intro hf
  unfold rightCP at hf
  rw [Bool.and_eq_true, Bool.and_eq_true] at hf
  have := List.all_eq_true.1 hf.1.2 k (List.mem_range.2 hk)
  unfold goodC at h
  rw [this] at h
  cases h
theorem rightCP_rest {C : List Cm} {P : List Pf} (h1 : C.length ≤ 200) (h2 : P.length ≤ 400) (h : ∀ k, k < C.length → goodC C k = true) : rightCP C P = P.all (pfB C.length) := by
  unfold rightCP
  rw [decide_eq_true h1, decide_eq_true h2, show ((List.range C.length).all fun k => cmB (C.getD k dCm) && !seenB C (C.getD k dCm) k) = true from List.all_eq_true.2 fun k hk => h k (List.mem_range.1 hk)]
  rfl
theorem seenB_succ (C : List Cm) (c : Cm) (k : Nat) : seenB C c (k + 1) = (seenB C c k || cmEq (C.getD k dCm) c) := by
  unfold seenB
  rw [List.range_succ, List.any_append]
  simp
theorem cmB_calc (c : Cm) : ((((decide (c.acc < 0) || decide (c.acc ≥ 2000)) || decide (c.per < 0)) || decide (c.per ≥ 2000)) : Bool) = !cmB c := by
  unfold cmB
  rw [Bool.eq_iff_iff]
  simp only [Bool.or_eq_true, decide_eq_true_eq, Bool.not_eq_true', Bool.and_eq_false_iff, decide_eq_false_iff_not]
  omega

set_option maxRecDepth 20000 in
set_option maxHeartbeats 4000000 in
theorem ClaimRight_fn (C : List Cm) (P : List Pf) (hC : C.length < 2 ^ 62) (hP : P.length < 2 ^ 62) : Ctr Try.prog 40 [.rs 2 C.length (rowsM C), .rs 3 P.length (rowsP P)] [] (.b (rightCP C P)) := by
  refine fn_of_exec tabOk Try.func40 (by kernel_rfl) rfl (N := Try.f40.ntmps) rfl (res := [.tmp 4]) rfl rfl [] ?_
  repeat refine Or.inl ?_
  refine ⟨fun h => RetIs.b ?_, fun h => ?_⟩
  · have h : (decide ((C.length : Int) > 200) || decide ((P.length : Int) > 400)) = true := h
    simp only [Bool.or_eq_true, decide_eq_true_eq] at h
    exact (rightCP_size (by omega)).symm
  have h : (decide ((C.length : Int) > 200) || decide ((P.length : Int) > 400)) = false := h
  simp only [Bool.or_eq_false_iff, decide_eq_false_iff_not] at h
  repeat refine Or.inl ?_
  refine ⟨[], Nat × List (Cm × Bool), fun x => x.1 ≤ C.length ∧ (∀ j, j < x.1 → goodC C j = true) ∧ ∀ c, mget x.2 c = if seenB C c x.1 = true then some true else none, fun x => [⟨21, [], .i .i64 x.1⟩], fun x => [⟨1, [], mpL kfM (fun b : Bool => AV.b b) (dCm, false) x.2⟩], fun x => C.length - x.1,
    ⟨(0, []), [], ⟨Nat.zero_le _, fun j hj => absurd hj (Nat.not_lt_zero j), fun c => rfl⟩, rfl, rfl, rfl, rfl, rfl, ⟨rfl, rfl⟩, ⟨rfl, rfl, fun k hk => absurd hk (Nat.not_lt_zero k)⟩⟩, ?_⟩
  rintro ⟨k, L⟩ ⟨hk, hgood, hL⟩
  dsimp only at hk hgood hL
  refine .inl ⟨fun hc => ?_, fun hc => ?_⟩
  · have hc := dlt hc
    have hc : (k : Int) < C.length := hc
    have ek : (k : Int).toNat = k := Int.toNat_natCast k
    repeat refine Or.inl ?_
    refine ⟨⟨by dsimp only; omega, by dsimp only; omega⟩, ?_⟩
    have lk := lookOk_mget (L := L) (d := (dCm, false)) (vf := fun v : Bool => AV.b v) kfM_inj (C.getD (k : Int).toNat dCm) false
    have hs : (mget L (C.getD (k : Int).toNat dCm)).getD false = seenB C (C.getD k dCm) k := by
      rw [hL, ek]
      cases seenB C (C.getD k dCm) k <;> rfl
    repeat refine Or.inl ?_
    refine ⟨_, _, ⟨fun _ => ⟨fun _ _ => rfl, rfl, lk⟩, ?_⟩⟩
    refine ⟨fun h3 => RetIs.b ?_, fun h3 => ?_⟩
    · have h3 : (((((decide ((C.getD (k : Int).toNat dCm).acc < 0) || decide ((C.getD (k : Int).toNat dCm).acc ≥ 2000)) || decide ((C.getD (k : Int).toNat dCm).per < 0)) || decide ((C.getD (k : Int).toNat dCm).per ≥ 2000))) || (mget L (C.getD (k : Int).toNat dCm)).getD false) = true := h3
      rw [hs, cmB_calc, ek] at h3
      refine (rightCP_bad (k := k) (by omega) ?_).symm
      unfold goodC
      cases hx : cmB (C.getD k dCm) with
      | false => rfl
      | true =>
        rw [hx] at h3
        rw [show seenB C (C.getD k dCm) k = true from h3]
        rfl
    · have h3 : (((((decide ((C.getD (k : Int).toNat dCm).acc < 0) || decide ((C.getD (k : Int).toNat dCm).acc ≥ 2000)) || decide ((C.getD (k : Int).toNat dCm).per < 0)) || decide ((C.getD (k : Int).toNat dCm).per ≥ 2000))) || (mget L (C.getD (k : Int).toNat dCm)).getD false) = false := h3
      rw [hs, cmB_calc, ek, Bool.or_eq_false_iff, Bool.not_eq_false'] at h3
      refine ⟨_, _, _, _, _, ⟨fun _ _ => rfl, rfl, updOk_mset (L := L) (d := (dCm, false)) (vf := fun v : Bool => AV.b v) kfM_inj (C.getD (k : Int).toNat dCm) true⟩, ?_⟩
      have ao := AOEq.refl (mpL kfM (fun b : Bool => AV.b b) (dCm, false) (mset L (C.getD (k : Int).toNat dCm) true))
      refine ⟨(k + 1, mset L (C.getD (k : Int).toNat dCm) true), [], ⟨by dsimp only; omega, fun j hj => ?_, fun c => ?_⟩, by dsimp only; omega, rfl, rfl, rfl, rfl, rfl, ⟨rfl, wr (by omega) (by omega)⟩, ao⟩
      · have hj : j < k + 1 := hj
        by_cases hjk : j = k
        · subst hjk
          unfold goodC
          rw [h3.1, h3.2]
          rfl
        · exact hgood j (by omega)
      · show mget (mset L (C.getD (k : Int).toNat dCm) true) c = if seenB C c (k + 1) = true then some true else none
        rw [mget_mset, hL, ek, seenB_succ]
        by_cases hcc : c = C.getD k dCm
        · rw [if_pos hcc, cmEq_iff.2 hcc.symm, Bool.or_true, if_pos rfl]
        · rw [if_neg hcc, show cmEq (C.getD k dCm) c = false by rw [Bool.eq_false_iff]; exact fun h => hcc (cmEq_iff.1 h).symm, Bool.or_false]
  · have hc := dnlt hc
    have hc : (C.length : Int) ≤ k := hc
    obtain rfl : k = C.length := by omega
    repeat refine Or.inl ?_
    refine ⟨[], _, containsP1_fn P hP 88 [.i .i64 C.length] (fun p => !pfB C.length p) (fun x _ => rightP1_fn C.length x), ?_⟩
    refine RetIs.b ?_
    rw [rightCP_rest (by omega) (by omega) hgood]
    rw [Bool.eq_iff_iff, Bool.not_eq_true', List.any_eq_false, List.all_eq_true]
    exact forall_congr' fun x => forall_congr' fun _ => by simp

set_option maxRecDepth 20000 in
set_option maxHeartbeats 4000000 in
theorem rClaimRight_fn (C : List Cm) (P : List Pf) (hC : C.length < 2 ^ 62) (hP : P.length < 2 ^ 62) : Ctr Try.prog 41 [.rs 2 C.length (rowsM C), .rs 3 P.length (rowsP P)] [] (.b (rightCP C P)) := by
  refine fn_of_exec tabOk Try.func41 (by kernel_rfl) rfl (N := Try.f41.ntmps) rfl (res := [.tmp 4]) rfl rfl [] ?_
  repeat refine Or.inl ?_
  refine ⟨fun h => RetIs.b ?_, fun h => ?_⟩
  · have h : (decide ((C.length : Int) > 200) || decide ((P.length : Int) > 400)) = true := h
    simp only [Bool.or_eq_true, decide_eq_true_eq] at h
    exact (rightCP_size (by omega)).symm
  have h : (decide ((C.length : Int) > 200) || decide ((P.length : Int) > 400)) = false := h
  simp only [Bool.or_eq_false_iff, decide_eq_false_iff_not] at h
  repeat refine Or.inl ?_
  refine ⟨[], Nat, fun k => k ≤ C.length ∧ (∀ j, j < k → goodC C j = true), fun k => [⟨5, [], .i .i64 k⟩], fun _ => [], fun k => C.length - k,
    ⟨0, [], ⟨Nat.zero_le _, fun j hj => absurd hj (Nat.not_lt_zero j)⟩, rfl, rfl, rfl, rfl, rfl, ⟨rfl, rfl⟩, trivial⟩, ?_⟩
  rintro k ⟨hk, hgood⟩
  refine .inl ⟨fun hc => ?_, fun hc => ?_⟩
  · have hc := dlt hc
    have hc : (k : Int) < C.length := hc
    have ek : (k : Int).toNat = k := Int.toNat_natCast k
    repeat refine Or.inl ?_
    refine ⟨⟨by omega, by omega⟩, ?_⟩
    repeat refine Or.inl ?_
    refine ⟨fun h3 => RetIs.b ?_, fun h3 => ?_⟩
    · have h3 : ((((decide ((C.getD (k : Int).toNat dCm).acc < 0) || decide ((C.getD (k : Int).toNat dCm).acc ≥ 2000)) || decide ((C.getD (k : Int).toNat dCm).per < 0)) || decide ((C.getD (k : Int).toNat dCm).per ≥ 2000))) = true := h3
      rw [cmB_calc, ek, Bool.not_eq_true'] at h3
      refine (rightCP_bad (k := k) (by omega) ?_).symm
      unfold goodC
      rw [h3]
      rfl
    have h3 : ((((decide ((C.getD (k : Int).toNat dCm).acc < 0) || decide ((C.getD (k : Int).toNat dCm).acc ≥ 2000)) || decide ((C.getD (k : Int).toNat dCm).per < 0)) || decide ((C.getD (k : Int).toNat dCm).per ≥ 2000))) = false := h3
    rw [cmB_calc, ek, Bool.not_eq_false'] at h3
    repeat refine Or.inl ?_
    refine ⟨[], Nat, fun m => m ≤ k ∧ seenB C (C.getD k dCm) m = false, fun m => [⟨7, [], .i .i64 m⟩], fun _ => [], fun m => k - m,
      ⟨0, [], ⟨Nat.zero_le _, rfl⟩, rfl, rfl, rfl, rfl, rfl, ⟨rfl, rfl⟩, trivial⟩, ?_⟩
    rintro m ⟨hm, hns⟩
    refine .inl ⟨fun hc2 => ?_, fun hc2 => ?_⟩
    · have hc2 := dlt hc2
      have hc2 : (m : Int) < k := hc2
      have em : (m : Int).toNat = m := Int.toNat_natCast m
      repeat refine Or.inl ?_
      refine ⟨⟨by omega, by omega⟩, ⟨fun h4 => RetIs.b ?_, fun h4 => ?_⟩⟩
      · have h4 : (((C.getD (m : Int).toNat dCm).acc == (C.getD (k : Int).toNat dCm).acc) && ((C.getD (m : Int).toNat dCm).per == (C.getD (k : Int).toNat dCm).per)) = true := h4
        rw [em, ek, Bool.and_eq_true, beq_iff_eq, beq_iff_eq] at h4
        refine (rightCP_bad (k := k) (by omega) ?_).symm
        unfold goodC
        have : seenB C (C.getD k dCm) k = true := by
          unfold seenB
          rw [List.any_eq_true]
          exact ⟨m, List.mem_range.2 (by omega), cmEq_iff.2 (Cm.ext' h4.1 h4.2)⟩
        rw [this, Bool.not_true, Bool.and_false]
      · have h4 : (((C.getD (m : Int).toNat dCm).acc == (C.getD (k : Int).toNat dCm).acc) && ((C.getD (m : Int).toNat dCm).per == (C.getD (k : Int).toNat dCm).per)) = false := h4
        rw [em, ek] at h4
        refine ⟨m + 1, [], ⟨by omega, ?_⟩, by dsimp only; omega, rfl, rfl, rfl, rfl, rfl, ⟨rfl, wr (by omega) (by omega)⟩, trivial⟩
        rw [seenB_succ, hns, Bool.false_or]
        have b : ∀ x y : Int, decide (x = y) = (x == y) := fun x y => by rw [Bool.eq_iff_iff, decide_eq_true_eq, beq_iff_eq]
        unfold cmEq
        rw [b, b]
        exact h4
    · have hc2 := dnlt hc2
      have hc2 : (k : Int) ≤ m := hc2
      obtain rfl : m = k := by omega
      refine ⟨m + 1, [], ⟨by omega, fun j hj => ?_⟩, by dsimp only; omega, rfl, rfl, rfl, rfl, rfl, ⟨rfl, wr (by omega) (by omega)⟩, trivial⟩
      by_cases hjk : j = m
      · subst hjk
        unfold goodC
        rw [h3, hns]
        rfl
      · exact hgood j (by omega)
  have hc := dnlt hc
  have hc : (C.length : Int) ≤ k := hc
  obtain rfl : k = C.length := by omega
  have hrest := rightCP_rest (P := P) (by omega) (by omega) hgood
  repeat refine Or.inl ?_
  refine ⟨[], Nat, fun q => q ≤ P.length ∧ (∀ j, j < q → pfB C.length (P.getD j dPf) = true), fun q => [⟨8, [], .i .i64 q⟩], fun _ => [], fun q => P.length - q,
    ⟨0, [], ⟨Nat.zero_le _, fun j hj => absurd hj (Nat.not_lt_zero j)⟩, rfl, rfl, rfl, rfl, rfl, ⟨rfl, rfl⟩, trivial⟩, ?_⟩
  rintro q ⟨hq, hok⟩
  refine .inl ⟨fun hc => ?_, fun hc => ?_⟩
  · have hc := dlt hc
    have hc : (q : Int) < P.length := hc
    have eq : (q : Int).toNat = q := Int.toNat_natCast q
    have key : ∀ p : Pf, ((((((decide (p.kind < 0) || decide (p.kind ≥ 5)) || decide (p.a < 0)) || decide (p.a ≥ (C.length : Int))) || (((p.kind == 0) || (p.kind == 1)) && (p.b != 0))) || decide (p.b < 0)) || decide (p.b ≥ (C.length : Int))) = !pfB C.length p := fun p => by
      rw [Bool.eq_iff_iff, Bool.not_eq_true', ← Bool.not_eq_true, pfB_iff]
      simp only [Bool.or_eq_true, Bool.and_eq_true, decide_eq_true_eq, beq_iff_eq, bne_iff_ne]
      omega
    repeat refine Or.inl ?_
    refine ⟨⟨by omega, by omega⟩, ?_⟩
    repeat refine Or.inl ?_
    refine ⟨fun h4 => RetIs.b ?_, fun h4 => ?_⟩
    · have h4 := (key (P.getD (q : Int).toNat dPf)).symm.trans h4
      rw [eq, Bool.not_eq_true'] at h4
      rw [hrest]
      exact (not_all dPf (by omega) h4).symm
    · have h4 := (key (P.getD (q : Int).toNat dPf)).symm.trans h4
      rw [eq, Bool.not_eq_false'] at h4
      refine ⟨q + 1, [], ⟨by omega, fun j hj => ?_⟩, by dsimp only; omega, rfl, rfl, rfl, rfl, rfl, ⟨rfl, wr (by omega) (by omega)⟩, trivial⟩
      by_cases hjk : j = q
      · rw [hjk]; exact h4
      · exact hok j (by omega)
  · have hc := dnlt hc
    have hc : (P.length : Int) ≤ q := hc
    obtain rfl : q = P.length := by omega
    refine RetIs.b ?_
    rw [hrest]
    exact (all_upto dPf hok).symm
end Go.Proofs.Ytilhaifmfiobhaa
end

section
/-
  Claims and proofs: Clauses, both ways.
-/
namespace Go.Proofs.Ytilhaifmfiobhaa
open Go.Eng

def okCO (y : List Cl × Int) : List AO := if y.2 = 0 then [.row 25 2 y.1.length (rowsC y.1)] else []
def okCR (y : List Cl × Int) : AV := .tup [if y.2 = 0 then .so 0 else .val (.slice none 0 0), .i .i64 y.2]
theorem clausesY_bad {C : List Cm} {P : List Pf} (h : rightCP C P = false) : clausesY C P = ([], 1) := by
  unfold clausesY
  rw [h]
  rfl
theorem clausesY_big {C : List Cm} {P : List Pf} (h : rightCP C P = true) (h2 : 4000 < (clausesL C P).length) : clausesY C P = ([], 6) := by
  unfold clausesY
  rw [h, if_pos rfl, if_pos h2]
theorem clausesY_ok {C : List Cm} {P : List Pf} (h : rightCP C P = true) (h2 : (clausesL C P).length ≤ 4000) : clausesY C P = (clausesL C P, 0) := by
  unfold clausesY
  rw [h, if_pos rfl, if_neg (by omega)]
theorem pairsL_pos {C : List Cm} {k m : Nat} (h : (C.getD k dCm).acc = (C.getD m dCm).acc) : pairsL C k (m + 1) = pairsL C k m ++ [⟨2 * (m : Int) + 1, 2 * (k : Int) + 1⟩] := by
  rw [pairsL_succ, if_pos h]
theorem pairsL_neg {C : List Cm} {k m : Nat} (h : (C.getD k dCm).acc ≠ (C.getD m dCm).acc) : pairsL C k (m + 1) = pairsL C k m := by
  rw [pairsL_succ, if_neg h, List.append_nil]
theorem base_short {C : List Cm} {k m : Nat} (hC : C.length ≤ 200) (hk : k ≤ C.length) (hm : m ≤ 200) : (baseL C k ++ pairsL C k m).length ≤ 40400 := by
  have h1 := baseL_len C 200 k (by omega)
  have h2 := pairsL_len C k m
  have h3 : k * 200 ≤ 200 * 200 := Nat.mul_le_mul_right _ (by omega)
  rw [List.length_append]
  omega
theorem proofs_short {C : List Cm} {P : List Pf} {q : Nat} (hC : C.length ≤ 200) (hP : P.length ≤ 400) : (baseL C C.length ++ (P.take q).map clauseOf).length ≤ 40900 := by
  have h1 := base_short (m := 0) hC (Nat.le_refl _) (by omega)
  simp only [List.length_append, List.length_map, List.length_take] at h1 ⊢
  omega
theorem take_map_snoc (P : List Pf) {q : Nat} (h : q < P.length) : (P.take (q + 1)).map clauseOf = (P.take q).map clauseOf ++ [clauseOf (P.getD q dPf)] := by
  rw [List.take_succ_eq_append_getElem h, List.map_append]
  simp [List.getD, h]
theorem pf_small {C : List Cm} {P : List Pf} (h : RightCP C P) {q : Nat} (hq : q < P.length) : (0 ≤ (P.getD q dPf).a ∧ (P.getD q dPf).a < 1000000) ∧ (0 ≤ (P.getD q dPf).b ∧ (P.getD q dPf).b < 1000000) := by
  have h1 := h.pf _ (getD_memA dPf hq)
  have h2 := h.lc
  omega

set_option maxRecDepth 20000 in
set_option maxHeartbeats 4000000 in
theorem Clauses_fn (C : List Cm) (P : List Pf) (hC : C.length < 2 ^ 62) (hP : P.length < 2 ^ 62) : Ctr Try.prog 38 [.rs 2 C.length (rowsM C), .rs 3 P.length (rowsP P)] (okCO (clausesY C P)) (okCR (clausesY C P)) := by
  refine fn_of_exec tabOk Try.func38 (by kernel_rfl) rfl (N := Try.f38.ntmps) rfl (res := [.tmp 4, .tmp 5]) rfl rfl [] ?_
  repeat refine Or.inl ?_
  refine ⟨[], _, ClaimRight_fn C P hC hP, ?_⟩
  repeat refine Or.inl ?_
  refine ⟨fun h => ?_, fun h => ?_⟩
  · have h : (!rightCP C P) = true := h
    rw [clausesY_bad (show rightCP C P = false by simpa using h)]
    exact ⟨⟨[], ⟨⟨⟨rfl, rfl, AVEq.refl _⟩, trivial⟩, trivial, rfl⟩, rfl, trivial⟩⟩
  have h : (!rightCP C P) = false := h
  have hrt : rightCP C P = true := by simpa using h
  have hR := rightCP_iff.1 hrt
  have hlc := hR.lc
  have hlp := hR.lp
  repeat refine Or.inl ?_
  refine ⟨[(6, 25, 2)], Nat, fun k => k ≤ C.length, fun k => [⟨19, [], .i .i64 k⟩, ⟨6, [], .so 0⟩], fun k => [⟨0, [], .row 25 2 (baseL C k).length (rowsC (baseL C k))⟩], fun k => C.length - k,
    ⟨0, [], Nat.zero_le _, rfl, rfl, rfl, rfl, rfl, ⟨⟨rfl, rfl⟩, rfl⟩, ⟨rfl, rfl, rfl, fun j hj => absurd hj (Nat.not_lt_zero j)⟩⟩, ?_⟩
  intro k hk
  have hk : k ≤ C.length := hk
  refine .inl ⟨fun hc => ?_, fun hc => ?_⟩
  · have hc := dlt hc
    have hc : (k : Int) < C.length := hc
    have ek : (k : Int).toNat = k := Int.toNat_natCast k
    repeat refine Or.inl ?_
    refine ⟨⟨by omega, by omega⟩, ?_⟩
    repeat refine Or.inl ?_
    refine ⟨⟨by omega, by omega, by omega⟩, ?_⟩
    repeat refine Or.inl ?_
    refine ⟨[], Nat, fun m => m ≤ k, fun m => [⟨28, [], .i .i64 m⟩, ⟨6, [], .so 0⟩], fun m => [⟨0, [], .row 25 2 (baseL C k ++ pairsL C k m).length (rowsC (baseL C k ++ pairsL C k m))⟩], fun m => k - m,
      ⟨0, [], Nat.zero_le _, rfl, rfl, rfl, rfl, rfl, ⟨⟨rfl, rfl⟩, rfl⟩, ?_⟩, ?_⟩
    · have ao : AOEq (.row 25 2 (baseL C k ++ pairsL C k 0).length (rowsC (baseL C k ++ pairsL C k 0))) (.row 25 2 (baseL C k).length (rowsC (baseL C k))) := by
        rw [show pairsL C k 0 = [] from rfl, List.append_nil]
        exact AOEq.refl _
      exact ao
    intro m hm
    have hm : m ≤ k := hm
    have hsh := base_short (m := m) hlc hk (by omega)
    refine .inl ⟨fun hc2 => ?_, fun hc2 => ?_⟩
    · have hc2 := dlt hc2
      have hc2 : (m : Int) < (((k : Int) - 0).toNat : Int) := hc2
      have hmk : m < k := by omega
      have em : Int.toNat 0 + (m : Int).toNat = m := by rw [Int.toNat_natCast]; exact Nat.zero_add m
      repeat refine Or.inl ?_
      refine ⟨⟨by omega, by omega⟩, ?_⟩
      repeat refine Or.inl ?_
      refine ⟨fun h4 => ?_, fun h4 => ?_⟩
      · have h4 : ((C.getD (k : Int).toNat dCm).acc == (C.getD (Int.toNat 0 + (m : Int).toNat) dCm).acc) = true := h4
        rw [ek, em, beq_iff_eq] at h4
        repeat refine Or.inl ?_
        refine ⟨[], _, fails_fn (m : Int) (by omega) (by omega), ?_⟩
        repeat refine Or.inl ?_
        refine ⟨[], _, fails_fn (k : Int) (by omega) (by omega), ?_⟩
        refine ⟨fits (by omega), ?_⟩
        refine ⟨m + 1, [(0, 4)], hmk, by dsimp only; omega, rfl, rfl, rfl, rfl, rfl, ⟨⟨rfl, wr (by omega) (by omega)⟩, rfl⟩, ?_⟩
        exact snocC_row _ ⟨2 * (m : Int) + 1, 2 * (k : Int) + 1⟩ (by rw [pairsL_pos h4, List.append_assoc])
      · have h4 : ((C.getD (k : Int).toNat dCm).acc == (C.getD (Int.toNat 0 + (m : Int).toNat) dCm).acc) = false := h4
        rw [ek, em, beq_eq_false_iff_ne] at h4
        refine ⟨m + 1, [], hmk, by dsimp only; omega, rfl, rfl, rfl, rfl, rfl, ⟨⟨rfl, wr (by omega) (by omega)⟩, rfl⟩, ?_⟩
        have ao : AOEq (.row 25 2 (baseL C k ++ pairsL C k (m + 1)).length (rowsC (baseL C k ++ pairsL C k (m + 1)))) (.row 25 2 (baseL C k ++ pairsL C k m).length (rowsC (baseL C k ++ pairsL C k m))) := by
          rw [pairsL_neg h4]
          exact AOEq.refl _
        exact ao
    · have hc2 := dnlt hc2
      have hc2 : (((k : Int) - 0).toNat : Int) ≤ m := hc2
      obtain rfl : m = k := by omega
      refine ⟨m + 1, [], by dsimp only; omega, by dsimp only; omega, rfl, rfl, rfl, rfl, rfl, ⟨⟨rfl, wr (by omega) (by omega)⟩, rfl⟩, ?_⟩
      have ao : AOEq (.row 25 2 (baseL C (m + 1)).length (rowsC (baseL C (m + 1)))) (.row 25 2 (baseL C m ++ pairsL C m m).length (rowsC (baseL C m ++ pairsL C m m))) := by
        rw [baseL_succ]
        exact AOEq.refl _
      exact ao
  have hc := dnlt hc
  have hc : (C.length : Int) ≤ k := hc
  obtain rfl : k = C.length := by omega
  repeat refine Or.inl ?_
  refine ⟨[], Nat, fun q => q ≤ P.length, fun q => [⟨50, [], .i .i64 q⟩, ⟨6, [], .so 0⟩], fun q => [⟨0, [], .row 25 2 (baseL C C.length ++ (P.take q).map clauseOf).length (rowsC (baseL C C.length ++ (P.take q).map clauseOf))⟩], fun q => P.length - q,
    ⟨0, [], Nat.zero_le _, rfl, rfl, rfl, rfl, rfl, ⟨⟨rfl, rfl⟩, rfl⟩, ?_⟩, ?_⟩
  · have ao : AOEq (.row 25 2 (baseL C C.length ++ (P.take 0).map clauseOf).length (rowsC (baseL C C.length ++ (P.take 0).map clauseOf))) (.row 25 2 (baseL C C.length).length (rowsC (baseL C C.length))) := by
      rw [show (P.take 0).map clauseOf = [] by simp, List.append_nil]
      exact AOEq.refl _
    exact ao
  intro q hq
  have hq : q ≤ P.length := hq
  have hsh := proofs_short (q := q) hlc hlp
  refine .inl ⟨fun hc => ?_, fun hc => ?_⟩
  · have hc := dlt hc
    have hc : (q : Int) < P.length := hc
    have eq : (q : Int).toNat = q := Int.toNat_natCast q
    have hsm := pf_small hR (q := (q : Int).toNat) (by omega)
    repeat refine Or.inl ?_
    refine ⟨⟨by omega, by omega⟩, ?_⟩
    repeat refine Or.inl ?_
    refine ⟨[], _, clause_fn (P.getD (q : Int).toNat dPf) hsm.1 hsm.2, ?_⟩
    refine ⟨fits (by omega), ?_⟩
    refine ⟨q + 1, [(0, 3)], by dsimp only; omega, by dsimp only; omega, rfl, rfl, rfl, rfl, rfl, ⟨⟨rfl, wr (by omega) (by omega)⟩, rfl⟩, ?_⟩
    exact snocC_row _ (clauseOf (P.getD (q : Int).toNat dPf)) (by rw [take_map_snoc P (by omega), eq, List.append_assoc])
  · have hc := dnlt hc
    have hc : (P.length : Int) ≤ q := hc
    have et : P.take q = P := List.take_of_length_le (by omega)
    have ecl : baseL C C.length ++ (P.take q).map clauseOf = clausesL C P := by rw [et]; rfl
    have hsh2 : (clausesL C P).length ≤ 40900 := by rw [← ecl]; exact hsh
    rw [ecl]
    repeat refine Or.inl ?_
    refine ⟨fun h5 => ?_, fun h5 => ?_⟩
    · have h5 : decide (((clausesL C P).length : Int) > 4000) = true := h5
      rw [decide_eq_true_eq] at h5
      rw [clausesY_big hrt (by omega)]
      exact ⟨⟨[], ⟨⟨⟨rfl, rfl, AVEq.refl _⟩, trivial⟩, trivial, rfl⟩, rfl, trivial⟩⟩
    · have h5 : decide (((clausesL C P).length : Int) > 4000) = false := h5
      rw [decide_eq_false_iff_not] at h5
      rw [clausesY_ok hrt (by omega)]
      exact RetIs.so_i rfl rfl (fun _ _ => rfl) (fun _ _ => rfl)

set_option maxRecDepth 20000 in
set_option maxHeartbeats 4000000 in
theorem rClauses_fn (C : List Cm) (P : List Pf) (hC : C.length < 2 ^ 62) (hP : P.length < 2 ^ 62) : Ctr Try.prog 39 [.rs 2 C.length (rowsM C), .rs 3 P.length (rowsP P)] (okCO (clausesY C P)) (okCR (clausesY C P)) := by
  refine fn_of_exec tabOk Try.func39 (by kernel_rfl) rfl (N := Try.f39.ntmps) rfl (res := [.tmp 4, .tmp 5]) rfl rfl [] ?_
  repeat refine Or.inl ?_
  refine ⟨[], _, rClaimRight_fn C P hC hP, ?_⟩
  repeat refine Or.inl ?_
  refine ⟨fun h => ?_, fun h => ?_⟩
  · have h : (!rightCP C P) = true := h
    rw [clausesY_bad (show rightCP C P = false by simpa using h)]
    exact ⟨⟨[], ⟨⟨⟨rfl, rfl, AVEq.refl _⟩, trivial⟩, trivial, rfl⟩, rfl, trivial⟩⟩
  have h : (!rightCP C P) = false := h
  have hrt : rightCP C P = true := by simpa using h
  have hR := rightCP_iff.1 hrt
  have hlc := hR.lc
  have hlp := hR.lp
  repeat refine Or.inl ?_
  refine ⟨[(6, 25, 2)], Nat, fun k => k ≤ C.length, fun k => [⟨7, [], .i .i64 k⟩, ⟨6, [], .so 0⟩], fun k => [⟨0, [], .row 25 2 (baseL C k).length (rowsC (baseL C k))⟩], fun k => C.length - k,
    ⟨0, [], Nat.zero_le _, rfl, rfl, rfl, rfl, rfl, ⟨⟨rfl, rfl⟩, rfl⟩, ⟨rfl, rfl, rfl, fun j hj => absurd hj (Nat.not_lt_zero j)⟩⟩, ?_⟩
  intro k hk
  have hk : k ≤ C.length := hk
  refine .inl ⟨fun hc => ?_, fun hc => ?_⟩
  · have hc := dlt hc
    have hc : (k : Int) < C.length := hc
    have ek : (k : Int).toNat = k := Int.toNat_natCast k
    have wk : IntKind.i64.wrap (IntKind.i64.wrap (2 * (k : Int)) + 1) = 2 * k + 1 := by rw [wr (n := 2 * (k : Int)) (by omega) (by omega)]; exact wr (by omega) (by omega)
    repeat refine Or.inl ?_
    refine ⟨[], Nat, fun m => m ≤ k, fun m => [⟨8, [], .i .i64 m⟩, ⟨6, [], .so 0⟩], fun m => [⟨0, [], .row 25 2 (baseL C k ++ pairsL C k m).length (rowsC (baseL C k ++ pairsL C k m))⟩], fun m => k - m,
      ⟨0, [], Nat.zero_le _, rfl, rfl, rfl, rfl, rfl, ⟨⟨rfl, rfl⟩, rfl⟩, ?_⟩, ?_⟩
    · have ao : AOEq (.row 25 2 (baseL C k ++ pairsL C k 0).length (rowsC (baseL C k ++ pairsL C k 0))) (.row 25 2 (baseL C k).length (rowsC (baseL C k))) := by
        rw [show pairsL C k 0 = [] from rfl, List.append_nil]
        exact AOEq.refl _
      exact ao
    intro m hm
    have hm : m ≤ k := hm
    have hsh := base_short (m := m) hlc hk (by omega)
    refine .inl ⟨fun hc2 => ?_, fun hc2 => ?_⟩
    · have hc2 := dlt hc2
      have hc2 : (m : Int) < (k : Int) := hc2
      have hmk : m < k := by omega
      have em : (m : Int).toNat = m := Int.toNat_natCast m
      have wm : IntKind.i64.wrap (IntKind.i64.wrap (2 * (m : Int)) + 1) = 2 * m + 1 := by rw [wr (n := 2 * (m : Int)) (by omega) (by omega)]; exact wr (by omega) (by omega)
      repeat refine Or.inl ?_
      refine ⟨⟨by omega, by omega⟩, ⟨by omega, by omega⟩, ?_⟩
      repeat refine Or.inl ?_
      refine ⟨fun h4 => ?_, fun h4 => ?_⟩
      · have h4 : ((C.getD (m : Int).toNat dCm).acc == (C.getD (k : Int).toNat dCm).acc) = true := h4
        rw [ek, em, beq_iff_eq] at h4
        refine ⟨fits (by omega), ?_⟩
        refine ⟨m + 1, [(0, 2)], hmk, by dsimp only; omega, rfl, rfl, rfl, rfl, rfl, ⟨⟨rfl, wr (by omega) (by omega)⟩, rfl⟩, ?_⟩
        rw [wk, wm]
        exact snocC_row _ ⟨2 * (m : Int) + 1, 2 * (k : Int) + 1⟩ (by rw [pairsL_pos h4.symm, List.append_assoc])
      · have h4 : ((C.getD (m : Int).toNat dCm).acc == (C.getD (k : Int).toNat dCm).acc) = false := h4
        rw [ek, em, beq_eq_false_iff_ne] at h4
        refine ⟨m + 1, [], hmk, by dsimp only; omega, rfl, rfl, rfl, rfl, rfl, ⟨⟨rfl, wr (by omega) (by omega)⟩, rfl⟩, ?_⟩
        have ao : AOEq (.row 25 2 (baseL C k ++ pairsL C k (m + 1)).length (rowsC (baseL C k ++ pairsL C k (m + 1)))) (.row 25 2 (baseL C k ++ pairsL C k m).length (rowsC (baseL C k ++ pairsL C k m))) := by
          rw [pairsL_neg (fun h => h4 h.symm)]
          exact AOEq.refl _
        exact ao
    · have hc2 := dnlt hc2
      have hc2 : (k : Int) ≤ m := hc2
      obtain rfl : m = k := by omega
      refine ⟨m + 1, [], by dsimp only; omega, by dsimp only; omega, rfl, rfl, rfl, rfl, rfl, ⟨⟨rfl, wr (by omega) (by omega)⟩, rfl⟩, ?_⟩
      have ao : AOEq (.row 25 2 (baseL C (m + 1)).length (rowsC (baseL C (m + 1)))) (.row 25 2 (baseL C m ++ pairsL C m m).length (rowsC (baseL C m ++ pairsL C m m))) := by
        rw [baseL_succ]
        exact AOEq.refl _
      exact ao
  have hc := dnlt hc
  have hc : (C.length : Int) ≤ k := hc
  obtain rfl : k = C.length := by omega
  repeat refine Or.inl ?_
  refine ⟨[], Nat, fun q => q ≤ P.length, fun q => [⟨9, [], .i .i64 q⟩, ⟨6, [], .so 0⟩], fun q => [⟨0, [], .row 25 2 (baseL C C.length ++ (P.take q).map clauseOf).length (rowsC (baseL C C.length ++ (P.take q).map clauseOf))⟩], fun q => P.length - q,
    ⟨0, [], Nat.zero_le _, rfl, rfl, rfl, rfl, rfl, ⟨⟨rfl, rfl⟩, rfl⟩, ?_⟩, ?_⟩
  · have ao : AOEq (.row 25 2 (baseL C C.length ++ (P.take 0).map clauseOf).length (rowsC (baseL C C.length ++ (P.take 0).map clauseOf))) (.row 25 2 (baseL C C.length).length (rowsC (baseL C C.length))) := by
      rw [show (P.take 0).map clauseOf = [] by simp, List.append_nil]
      exact AOEq.refl _
    exact ao
  intro q hq
  have hq : q ≤ P.length := hq
  have hsh := proofs_short (q := q) hlc hlp
  refine .inl ⟨fun hc => ?_, fun hc => ?_⟩
  · have hc := dlt hc
    have hc : (q : Int) < P.length := hc
    have eq : (q : Int).toNat = q := Int.toNat_natCast q
    have hsm := pf_small hR (q := (q : Int).toNat) (by omega)
    repeat refine Or.inl ?_
    refine ⟨⟨by omega, by omega⟩, ?_⟩
    repeat refine Or.inl ?_
    refine ⟨[], _, rClause_fn (P.getD (q : Int).toNat dPf) hsm.1 hsm.2, ?_⟩
    refine ⟨fits (by omega), ?_⟩
    refine ⟨q + 1, [(0, 2)], by dsimp only; omega, by dsimp only; omega, rfl, rfl, rfl, rfl, rfl, ⟨⟨rfl, wr (by omega) (by omega)⟩, rfl⟩, ?_⟩
    exact snocC_row _ (clauseOf (P.getD (q : Int).toNat dPf)) (by rw [take_map_snoc P (by omega), eq, List.append_assoc])
  · have hc := dnlt hc
    have hc : (P.length : Int) ≤ q := hc
    have et : P.take q = P := List.take_of_length_le (by omega)
    have ecl : baseL C C.length ++ (P.take q).map clauseOf = clausesL C P := by rw [et]; rfl
    have hsh2 : (clausesL C P).length ≤ 40900 := by rw [← ecl]; exact hsh
    rw [ecl]
    repeat refine Or.inl ?_
    refine ⟨fun h5 => ?_, fun h5 => ?_⟩
    · have h5 : decide (((clausesL C P).length : Int) > 4000) = true := h5
      rw [decide_eq_true_eq] at h5
      rw [clausesY_big hrt (by omega)]
      exact ⟨⟨[], ⟨⟨⟨rfl, rfl, AVEq.refl _⟩, trivial⟩, trivial, rfl⟩, rfl, trivial⟩⟩
    · have h5 : decide (((clausesL C P).length : Int) > 4000) = false := h5
      rw [decide_eq_false_iff_not] at h5
      rw [clausesY_ok hrt (by omega)]
      exact RetIs.so_i rfl rfl (fun _ _ => rfl) (fun _ _ => rfl)
end Go.Proofs.Ytilhaifmfiobhaa
end

section
/-
  Claims and proofs: copies, lists without one number, and what contradicts.
-/
namespace Go.Proofs.Ytilhaifmfiobhaa
open Go.Eng

instance : DecidableEq Cl := fun x y => if h : x.a = y.a ∧ x.b = y.b then isTrue (by cases x; cases y; simp at h; rw [h.1, h.2]) else isFalse (by rintro rfl; exact h ⟨rfl, rfl⟩)
set_option maxRecDepth 20000 in
theorem sameC_fn (a b : List Cl) (ha : a.length < 2^62) (hb : b.length < 2^62) : Ctr Try.prog 42 [.rs 2 a.length (rowsC a), .rs 2 b.length (rowsC b)] [] (.b (decide (a = b))) := by
  refine fn_of_exec tabOk Try.func42 (by kernel_rfl) rfl (N := Try.f42.ntmps) rfl (res := [.tmp 4]) rfl rfl [] ?_
  refine .inl ⟨fun h => ?_, fun h => ?_⟩
  · refine RetIs.b ?_
    have h : ((a.length : Int) != b.length) = true := h
    simp at h
    simp
    intro he
    exact h (by rw [he])
  have h : ((a.length : Int) != b.length) = false := h
  simp at h
  have hl : a.length = b.length := by omega
  refine .inl ⟨[], Nat, fun k => k ≤ a.length ∧ eqUpto dC a b k, fun k => [⟨5, [], .i .i64 k⟩], fun _ => [], fun k => a.length - k,
    ⟨0, [], ⟨Nat.zero_le _, fun j hj => by omega⟩, rfl, rfl, rfl, rfl, rfl, ⟨rfl, rfl⟩, trivial⟩, ?_⟩
  rintro k ⟨hk, he⟩
  refine .inl ⟨fun hc => ?_, fun hc => ?_⟩
  · have hc := dlt hc
    have ek : (k : Int).toNat = k := Int.toNat_natCast k
    refine .inl ⟨⟨by omega, by omega⟩, ⟨by omega, by omega⟩, ⟨fun h2 => ?_, fun h2 => ?_⟩⟩
    · refine RetIs.b ?_
      have h2 : (!(((a.getD (k : Int).toNat dC).a == (b.getD (k : Int).toNat dC).a) && ((a.getD (k : Int).toNat dC).b == (b.getD (k : Int).toNat dC).b))) = true := h2
      rw [ek] at h2
      symm
      rw [decide_eq_false_iff_not]
      rintro rfl
      simp at h2
    · have h2 : (!(((a.getD (k : Int).toNat dC).a == (b.getD (k : Int).toNat dC).a) && ((a.getD (k : Int).toNat dC).b == (b.getD (k : Int).toNat dC).b))) = false := h2
      rw [ek, Bool.not_eq_false', Bool.and_eq_true, beq_iff_eq, beq_iff_eq] at h2
      have h3 : a.getD k dC = b.getD k dC := by
        generalize a.getD k dC = x at h2
        generalize b.getD k dC = y at h2
        cases x; cases y; simp at h2; rw [h2.1, h2.2]
      refine ⟨k + 1, [], ⟨by omega, fun j hj => ?_⟩, by dsimp only; omega, rfl, rfl, rfl, rfl, rfl, ⟨rfl, wr (by omega) (by omega)⟩, trivial⟩
      by_cases hjk : j = k
      · rw [hjk]; exact h3
      · exact he j (by omega)
  · have hc := dnlt hc
    refine RetIs.b ?_
    have hk2 : k = a.length := by omega
    subst hk2
    simp [eqUpto_all hl he]

set_option maxRecDepth 20000 in
theorem cloneC_fn (l : List Cl) (hl : l.length ≤ 1000000) : Ctr Try.prog 90 [.rs 2 l.length (rowsC l)] [.row 25 2 l.length (rowsC l)] (.so 0) := by
  refine fn_of_exec tabOk Try.func90 (by kernel_rfl) rfl (N := Try.f90.ntmps) rfl (res := [.tmp 2]) rfl rfl [(999999, [.nl 2 25 2])] ?_
  refine .inl fun c hc => ⟨fun h => ?_, fun h => ⟨fits (by omega), ?_⟩⟩
  · have h0 : l.length = 0 := hc (by cases c <;> first | rfl | cases h)
    exact RetIs.so rfl h0.symm (fun k hk => by omega) (fun k hk => by omega)
  · exact RetIs.so rfl (Nat.zero_add _) (fun k hk => catC0 _ l k hk) (fun _ _ => rfl)
theorem catI0 (f : Nat → List AV) (o : List Int) : ∀ q, q < o.length → catG 0 f (rowsI o) q = rowsI o q := by
  intro q _
  unfold catG
  rw [if_neg (by omega), Nat.sub_zero]
set_option maxRecDepth 20000 in
theorem cloneI_fn (l : List Int) (hl : l.length ≤ 1000000) : Ctr Try.prog 92 [.rs 1 l.length (rowsI l)] [.row 3 1 l.length (rowsI l)] (.so 0) := by
  refine fn_of_exec tabOk Try.func92 (by kernel_rfl) rfl (N := Try.f92.ntmps) rfl (res := [.tmp 2]) rfl rfl [(999999, [.nl 2 3 1])] ?_
  refine .inl fun c hc => ⟨fun h => ?_, fun h => ⟨fits (by omega), ?_⟩⟩
  · have h0 : l.length = 0 := hc (by cases c <;> first | rfl | cases h)
    exact RetIs.so rfl h0.symm (fun k hk => by omega) (fun k hk => by omega)
  · exact RetIs.so rfl (Nat.zero_add _) (fun k hk => catI0 _ l k hk) (fun _ _ => rfl)

/-! ### a list without one number -/
def without (x : Int) (S : List Int) : List Int := S.filter fun k => decide (k ≠ x)
theorem without_take (x : Int) (S : List Int) {k : Nat} (h : k < S.length) : without x (S.take (k + 1)) = if S.getD k 0 = x then without x (S.take k) else without x (S.take k) ++ [S.getD k 0] := by
  unfold without
  rw [List.take_succ_eq_append_getElem h, List.filter_append]
  have e : S.getD k 0 = S[k] := by simp [List.getD, h]
  rw [← e]
  by_cases hx : S.getD k 0 = x
  · rw [if_pos hx, List.filter_cons_of_neg (by simpa using hx)]; simp
  · rw [if_neg hx, List.filter_cons_of_pos (by simpa using hx)]; simp
theorem without_le (x : Int) (S : List Int) : (without x S).length ≤ S.length := List.length_filter_le _ _
set_option maxRecDepth 20000 in
theorem conflict2_fn (x i : Int) : Ctr Try.prog 93 [.i .i64 x, .rp [.i .i64 i]] [] (.b (x == i)) := by
  refine fn_of_exec tabOk Try.func93 (by kernel_rfl) rfl (N := Try.f93.ntmps) rfl (res := [.tmp 3]) rfl rfl [] ?_
  exact RetIs.b rfl
set_option maxRecDepth 20000 in
theorem indexI1_fn (l : List Int) (hl : l.length < 2^62) (fid : FuncId) (c1 : List AV) (p : Int → Bool) (hp : ∀ x ∈ l, Ctr Try.prog fid [.i .i64 x, .rp c1] [] (.b (p x))) :
    Ctr Try.prog 121 [.rs 1 l.length (rowsI l), .fn fid [.rp c1]] [] (.i .i64 (idxF p l)) := by
  refine fn_of_exec tabOk Try.func121 (by kernel_rfl) rfl (N := Try.f121.ntmps) rfl (res := [.tmp 4]) rfl rfl [] ?_
  refine .inl ⟨[], Nat, fun k => k ≤ l.length ∧ ∀ j, j < k → p (l.getD j 0) = false, fun k => [⟨8, [], .i .i64 k⟩], fun _ => [], fun k => l.length - k,
    ⟨0, [], ⟨Nat.zero_le _, fun j hj => by omega⟩, rfl, rfl, rfl, rfl, rfl, ⟨rfl, rfl⟩, trivial⟩, ?_⟩
  intro k hk
  obtain ⟨hk, hno⟩ := hk
  refine .inl ⟨fun hc => ?_, fun hc => ?_⟩
  · have hc := dlt hc
    refine .inl ⟨by omega, .inl ⟨[], _, hp (l.getD k 0) (getD_memA 0 (by omega)), ⟨fun h => ?_, fun h => ?_⟩⟩⟩
    · refine RetIs.i ?_
      exact (idxF_some 0 p l k (by omega) hno h).symm
    · refine ⟨k + 1, [], ⟨by omega, fun j hj => ?_⟩, by dsimp only; omega, rfl, rfl, rfl, rfl, rfl, ⟨rfl, wr (by omega) (by omega)⟩, trivial⟩
      by_cases hjk : j = k
      · subst hjk; exact h
      · exact hno j (by omega)
  · have hc := dnlt hc
    refine RetIs.i ?_
    exact (idxF_none 0 p l fun j hj => hno j (by omega)).symm
theorem first_at {S : List Int} {x : Int} (h : x ∈ S) : ∃ k, k < S.length ∧ S.getD k 0 = x ∧ (∀ j, j < k → S.getD j 0 ≠ x) ∧ idxF (fun y => y == x) S = k := by
  have key : ∀ m, m ≤ S.length → (∀ j, j < m → S.getD j 0 ≠ x) ∨ ∃ k, k < m ∧ S.getD k 0 = x ∧ ∀ j, j < k → S.getD j 0 ≠ x := by
    intro m
    induction m with
    | zero => exact fun _ => .inl fun j hj => by omega
    | succ m ih =>
      intro hm
      rcases ih (by omega) with h1 | ⟨k, h1, h2, h3⟩
      · by_cases he : S.getD m 0 = x
        · exact .inr ⟨m, by omega, he, h1⟩
        · refine .inl fun j hj => ?_
          by_cases hjm : j = m
          · rw [hjm]; exact he
          · exact h1 j (by omega)
      · exact .inr ⟨k, by omega, h2, h3⟩
  rcases key S.length (Nat.le_refl _) with h1 | ⟨k, h1, h2, h3⟩
  · obtain ⟨j, hj, e⟩ := mem_getDX h
    exact absurd e (h1 j hj)
  · exact ⟨k, h1, h2, h3, idxF_some 0 _ S k h1 (fun j hj => by simpa using h3 j hj) (by simpa using h2)⟩
theorem without_head {S : List Int} {x : Int} : ∀ {k : Nat}, k ≤ S.length → (∀ j, j < k → S.getD j 0 ≠ x) → without x (S.take k) = S.take k := by
  intro k hk h
  unfold without
  rw [List.filter_eq_self]
  intro y hy
  obtain ⟨j, hj, e⟩ := mem_getDX hy
  rw [List.length_take] at hj
  have : S.getD j 0 = y := by
    rw [← e]
    simp only [List.getD]
    rw [List.getElem?_take_of_lt (by omega)]
  rw [← this]
  simpa using h j (by omega)
/-- The row while the numbers are moved. -/
def movedG (x : Int) (S : List Int) (j q : Nat) : Int := if q < (without x (S.take j)).length then (without x (S.take j)).getD q 0 else S.getD q 0

set_option maxRecDepth 20000 in
set_option maxHeartbeats 4000000 in
theorem deleteFunc_fn (S : List Int) (hS : S.length ≤ 1000000) (x : Int) (hx : x ∈ S) :
    CtrM Try.prog 91 false [.row 3 1 S.length (rowsI S)] [.so 0, .fn 93 [.rp [.i .i64 x]]] (fun _ : Unit => True) (fun _ => [.dead]) (fun _ => [.row 3 1 (without x S).length (rowsI (without x S))]) (fun _ => .so 1) := by
  refine fn_of_execM tabOk Try.func91 (by kernel_rfl) rfl (N := Try.f91.ntmps) rfl (res := [.tmp 4]) rfl false false [.row 3 1 S.length (rowsI S)] _ _ _ _ rfl (fun h => by cases h) [(999999, [.own 4])] ?_
  obtain ⟨k0, hk0, hk1, hk2, hk3⟩ := first_at hx
  repeat refine Or.inl ?_
  refine ⟨[], _, indexI1_fn S (by omega) 93 [.i .i64 x] (fun y => y == x) (fun y _ => conflict2_fn y x), ?_⟩
  rw [hk3]
  repeat refine Or.inl ?_
  refine ⟨fun h => ?_, fun _ => ?_⟩
  · have h : ((k0 : Int) == -1) = true := h
    rw [beq_iff_eq] at h
    omega
  have w0 : without x (S.take k0) = S.take k0 := without_head (by omega) hk2
  have w1 : without x (S.take (k0 + 1)) = S.take k0 := by rw [without_take x S hk0, if_pos hk1, w0]
  have l0 : (S.take k0).length = k0 := by rw [List.length_take]; omega
  repeat refine Or.inl ?_
  refine ⟨[], Nat, fun j => k0 < j ∧ j ≤ S.length, fun j => [⟨6, [], .i .i64 j⟩, ⟨5, [], .i .i64 (without x (S.take j)).length⟩], fun j => [⟨0, [], .row 3 1 S.length fun q => [.i .i64 (movedG x S j q)]⟩], fun j => S.length - j,
    ⟨k0 + 1, [], ⟨by omega, by omega⟩, rfl, rfl, rfl, rfl, rfl, ⟨⟨rfl, wr (by omega) (by omega)⟩, ⟨rfl, ?_⟩⟩, ⟨rfl, rfl, rfl, fun q hq => ?_⟩⟩, ?_⟩
  · rw [w1, l0]
  · show [AV.i .i64 (S.getD q 0)] = [AV.i .i64 (movedG x S (k0 + 1) q)]
    unfold movedG
    rw [w1, l0]
    split
    · rename_i hq2
      have : (S.take k0).getD q 0 = S.getD q 0 := by
        simp only [List.getD]
        rw [List.getElem?_take_of_lt hq2]
      rw [this]
    · rfl
  rintro j ⟨hj1, hj2⟩
  have hwl : (without x (S.take j)).length < j := by
    have : ∀ d, k0 + 1 + d ≤ S.length → (without x (S.take (k0 + 1 + d))).length < k0 + 1 + d := by
      intro d
      induction d with
      | zero => intro _; rw [Nat.add_zero, w1, l0]; omega
      | succ d ih =>
        intro hd
        have := ih (by omega)
        rw [show k0 + 1 + (d + 1) = (k0 + 1 + d) + 1 by omega, without_take x S (by omega)]
        split
        · omega
        · rw [List.length_append]; simp; omega
    have := this (j - (k0 + 1)) (by omega)
    rwa [show k0 + 1 + (j - (k0 + 1)) = j by omega] at this
  refine .inl ⟨fun hc => ?_, fun hc => ?_⟩
  · have hc := dlt hc
    have hc : (j : Int) < S.length := hc
    have ej : (j : Int).toNat = j := Int.toNat_natCast j
    have hgj : movedG x S j (j : Int).toNat = S.getD j 0 := by
      unfold movedG
      rw [ej, if_neg (by omega)]
    have hwt := without_take x S (k := j) (by omega)
    repeat refine Or.inl ?_
    refine ⟨⟨by omega, by omega⟩, by omega, ?_⟩
    repeat refine Or.inl ?_
    refine ⟨[], _, conflict2_fn (movedG x S j (j : Int).toNat) x, ?_⟩
    repeat refine Or.inl ?_
    refine ⟨fun h3 => ?_, fun h3 => ?_⟩
    · have h3 : (!(movedG x S j (j : Int).toNat == x)) = true := h3
      rw [hgj, Bool.not_eq_true', beq_eq_false_iff_ne] at h3
      rw [if_neg h3] at hwt
      refine ⟨⟨by omega, by omega⟩, by omega, ?_⟩
      refine ⟨j + 1, [], ⟨by omega, by omega⟩, by dsimp only; omega, rfl, rfl, rfl, rfl, rfl, ⟨⟨rfl, wr (by omega) (by omega)⟩, ⟨rfl, ?_⟩⟩, ⟨rfl, rfl, rfl, fun q hq => ?_⟩⟩
      · rw [hwt, List.length_append, wr (by omega) (by omega)]
        rfl
      · show (if q = ((without x (S.take j)).length : Int).toNat then Go.Eng.over 0 [AV.i .i64 (movedG x S j (j : Int).toNat)] [AV.i .i64 (movedG x S j q)] else [AV.i .i64 (movedG x S j q)]) = [AV.i .i64 (movedG x S (j + 1) q)]
        rw [Int.toNat_natCast, hgj]
        unfold movedG
        rw [hwt, getD_snocI, List.length_append, List.length_singleton]
        by_cases h1 : q = (without x (S.take j)).length
        · have e1 : (if q < (without x (S.take j)).length + 1 then (if q < (without x (S.take j)).length then (without x (S.take j)).getD q 0 else if q = (without x (S.take j)).length then S.getD j 0 else 0) else S.getD q 0) = S.getD j 0 := by
            rw [if_pos (show q < (without x (S.take j)).length + 1 by omega), if_neg (show ¬ q < (without x (S.take j)).length by omega), if_pos h1]
          rw [e1, if_pos h1]
          rfl
        · rw [if_neg h1]
          by_cases h2 : q < (without x (S.take j)).length
          · rw [if_pos h2, if_pos (show q < (without x (S.take j)).length + 1 by omega), if_pos h2]
          · rw [if_neg h2, if_neg (show ¬ q < (without x (S.take j)).length + 1 by omega)]
    · have h3 : (!(movedG x S j (j : Int).toNat == x)) = false := h3
      rw [hgj, Bool.not_eq_false', beq_iff_eq] at h3
      rw [if_pos h3] at hwt
      refine ⟨j + 1, [], ⟨by omega, by omega⟩, by dsimp only; omega, rfl, rfl, rfl, rfl, rfl, ⟨⟨rfl, wr (by omega) (by omega)⟩, ⟨rfl, by rw [hwt]⟩⟩, ⟨rfl, rfl, rfl, fun q hq => ?_⟩⟩
      show [AV.i .i64 (movedG x S j q)] = [AV.i .i64 (movedG x S (j + 1) q)]
      unfold movedG
      rw [hwt]
  · have hc := dnlt hc
    have hc : (S.length : Int) ≤ j := hc
    obtain rfl : j = S.length := by omega
    have et : S.take S.length = S := List.take_length
    repeat refine Or.inl ?_
    refine ⟨⟨by omega, by omega, by omega⟩, ?_⟩
    repeat refine Or.inl ?_
    refine ⟨⟨by omega, by omega, by omega⟩, ?_⟩
    refine ⟨⟨(), [(1, 1)], trivial, ⟨⟨⟨rfl, rfl, rfl⟩, trivial⟩, ⟨⟨rfl, rfl, trivial, trivial⟩, ⟨rfl, rfl, trivial, ⟨rfl, rfl, ?_, fun q hq => ?_⟩⟩, trivial⟩, rfl⟩, rfl, fun _ => ⟨rfl, trivial, fun _ _ => rfl⟩⟩⟩
    · rw [et]
      omega
    · have hq : q < (without x S).length := hq
      show (if ((without x (S.take S.length)).length : Int).toNat ≤ q ∧ q < ((without x (S.take S.length)).length : Int).toNat + ((S.length : Int) - (without x (S.take S.length)).length).toNat then _ else [AV.i .i64 (movedG x S S.length q)]) = [AV.i .i64 ((without x S).getD q 0)]
      rw [if_neg (by rw [et]; omega)]
      unfold movedG
      rw [et, if_pos hq]
end Go.Proofs.Ytilhaifmfiobhaa
end

section
/-
  Claims and proofs: Conflict.
-/
namespace Go.Proofs.Ytilhaifmfiobhaa
open Go.Eng

/-- The first b clauses, and some of the others. -/
def selC (L : List Cl) (b : Nat) (S : List Int) : List Cl := L.take b ++ S.map fun i => L.getD (b + i.toNat) dC
theorem selC_len (L : List Cl) (b : Nat) (S : List Int) (hb : b ≤ L.length) : (selC L b S).length = b + S.length := by
  unfold selC
  rw [List.length_append, List.length_take, List.length_map]
  omega
theorem selC_succ (L : List Cl) (b : Nat) (S : List Int) {k : Nat} (h : k < S.length) : selC L b (S.take (k + 1)) = selC L b (S.take k) ++ [L.getD (b + (S.getD k 0).toNat) dC] := by
  unfold selC
  rw [List.take_succ_eq_append_getElem h, List.map_append, List.append_assoc]
  simp [List.getD, h]
theorem selC_right {n : Int} {L : List Cl} (h : RightC n L) (b : Nat) {S : List Int} (hS : ∀ i ∈ S, 0 ≤ i ∧ b + i.toNat < L.length) : RightC n (selC L b S) := by
  intro c hc
  rcases List.mem_append.1 hc with hc | hc
  · exact h c (List.mem_of_mem_take hc)
  · obtain ⟨i, hi, rfl⟩ := List.mem_map.1 hc
    exact h _ (getD_memA dC (hS i hi).2)
/-- Whether some of the clauses contradict each other. -/
def unsS (L : List Cl) (n b : Nat) (S : List Int) : Bool := (firstL (selC L b S) n []).isNone

set_option maxRecDepth 20000 in
set_option maxHeartbeats 4000000 in
theorem conflict1_fn (L : List Cl) (C : List Cm) (b : Nat) (S : List Int) (hR : RightP L C.length) (hb : b ≤ L.length) (hS : ∀ i ∈ S, 0 ≤ i ∧ b + i.toNat < L.length) (hl : b + S.length ≤ 4000) :
    Ctr Try.prog 89 [.rs 1 S.length (rowsI S), .rp [.rs 2 L.length (rowsC L)], .rp [.i .i64 b], .rp [.rs 2 C.length (rowsM C)]] [] (.b (unsS L C.length b S)) := by
  refine fn_of_exec tabOk Try.func89 (by kernel_rfl) rfl (N := Try.f89.ntmps) rfl (res := [.tmp 5]) rfl rfl [(2, [.sl 15 .u])] ?_
  have hLl := hR.len
  have htl : (L.take b).length = b := by rw [List.length_take]; omega
  repeat refine Or.inl ?_
  refine ⟨⟨by omega, by omega, by omega⟩, ?_⟩
  have cc : Ctr Try.prog 90 [.rs 2 ((b : Int) - 0).toNat (fun q => rowsC L (Int.toNat 0 + q))] [.row 25 2 (L.take b).length (rowsC (L.take b))] (.so 0) := by
    refine Ctr.of_eq (args := [.rs 2 (L.take b).length (rowsC (L.take b))]) ⟨rfl, by omega, fun q hq => ?_⟩ (cloneC_fn (L.take b) (by omega))
    have hq : q < (L.take b).length := hq
    show rowsC L (0 + q) = rowsC (L.take b) q
    unfold rowsC
    rw [Nat.zero_add]
    simp only [List.getD]
    rw [List.getElem?_take_of_lt (by omega)]
  repeat refine Or.inl ?_
  refine ⟨_, _, cc, ?_⟩
  repeat refine Or.inl ?_
  refine ⟨trivial, ?_⟩
  repeat refine Or.inl ?_
  refine ⟨[], Nat, fun k => k ≤ S.length, fun k => [⟨18, [], .i .i64 k⟩, ⟨6, [], .so 0⟩], fun k => [⟨0, [], .row 25 2 (selC L b (S.take k)).length (rowsC (selC L b (S.take k)))⟩], fun k => S.length - k,
    ⟨0, [], Nat.zero_le _, rfl, rfl, rfl, rfl, rfl, ⟨⟨rfl, rfl⟩, rfl⟩, ?_⟩, ?_⟩
  · have ao : AOEq (.row 25 2 (selC L b (S.take 0)).length (rowsC (selC L b (S.take 0)))) (.row 25 2 (L.take b).length (rowsC (L.take b))) := by
      rw [show selC L b (S.take 0) = L.take b by simp [selC]]
      exact AOEq.refl _
    exact ao
  intro k hk
  have hk : k ≤ S.length := hk
  have hsl := selC_len L b (S.take k) hb
  rw [List.length_take] at hsl
  refine .inl ⟨fun hc => ?_, fun hc => ?_⟩
  · have hc := dlt hc
    have hc : (k : Int) < S.length := hc
    have ek : (k : Int).toNat = k := Int.toNat_natCast k
    have hi := hS (S.getD (k : Int).toNat 0) (getD_memX (by omega))
    have w : IntKind.i64.wrap ((b : Int) + S.getD (k : Int).toNat 0) = b + S.getD (k : Int).toNat 0 := wr (by omega) (by omega)
    repeat refine Or.inl ?_
    refine ⟨⟨by omega, by omega⟩, ?_⟩
    repeat refine Or.inl ?_
    refine ⟨⟨by rw [w]; omega, by rw [w]; omega⟩, fits (by omega), ?_⟩
    refine ⟨k + 1, [(0, 2)], by dsimp only; omega, by dsimp only; omega, rfl, rfl, rfl, rfl, rfl, ⟨⟨rfl, wr (by omega) (by omega)⟩, rfl⟩, ?_⟩
    refine snocC_row _ (L.getD (IntKind.i64.wrap ((b : Int) + S.getD (k : Int).toNat 0)).toNat dC) ?_
    rw [selC_succ L b S (by omega), w, ek]
    rw [ek] at hi
    rw [show ((b : Int) + S.getD k 0).toNat = b + (S.getD k 0).toNat by omega]
  · have hc := dnlt hc
    have hc : (S.length : Int) ≤ k := hc
    have et : S.take k = S := List.take_of_length_le (by omega)
    rw [et] at hsl ⊢
    have hRs : RightP (selC L b S) C.length := ⟨hR.lo, hR.hi, by omega, selC_right hR.cl b hS⟩
    refine .inr (.inr ⟨false, [], rfl, _, _, _, _, _, Solve_fn (selC L b S) (by omega) C.length, fun y hy => ?_⟩)
    unfold unsS
    cases e : firstL (selC L b S) C.length [] with
    | some vs =>
      obtain rfl := SolvK.of_sat hy (rightB_iff.2 hRs) e
      exact RetIs.b rfl
    | none =>
      obtain ⟨c, rfl, _⟩ := SolvK.of_uns hy (rightB_iff.2 hRs) e
      exact RetIs.b rfl

def baseN (C : List Cm) : Nat := (baseL C C.length).length
/-- Whether some proofs contradict each other. -/
def unsC (C : List Cm) (P : List Pf) (S : List Int) : Bool := unsS (clausesL C P) C.length (baseN C) S
theorem clausesL_len (C : List Cm) (P : List Pf) : (clausesL C P).length = baseN C + P.length := by
  unfold clausesL baseN
  rw [List.length_append, List.length_map]
/-- What Conflict returns. -/
def conflictY (C : List Cm) (P : List Pf) : Option (List Int) := if okCP C P = true ∧ unsC C P (allI P.length) = true then some (cutDown (unsC C P) P.length (allI P.length)) else none
theorem allI_len (n : Nat) : (allI n).length = n := by simp [allI]
theorem allI_succ (n : Nat) : allI (n + 1) = allI n ++ [(n : Int)] := by
  unfold allI
  rw [List.range_succ, List.map_append]
  rfl

set_option maxRecDepth 20000 in
set_option maxHeartbeats 8000000 in
theorem Conflict_fn (C : List Cm) (P : List Pf) (hC : C.length < 2 ^ 62) (hP : P.length < 2 ^ 62) : Ctr Try.prog 44 [.rs 2 C.length (rowsM C), .rs 3 P.length (rowsP P)] (pathO (conflictY C P)) (pathV (conflictY C P)) := by
  refine fn_of_exec tabOk Try.func44 (by kernel_rfl) rfl (N := Try.f44.ntmps) rfl (res := [.tmp 4]) rfl rfl [(14, [.sl 38 .u])] ?_
  have cl := Clauses_fn C P hC hP
  by_cases hok : okCP C P = true
  · obtain ⟨hR, hlen⟩ := okCP_iff.1 hok
    rw [clausesY_ok (rightCP_iff.2 hR) hlen] at cl
    have cl : Ctr Try.prog 38 [.rs 2 C.length (rowsM C), .rs 3 P.length (rowsP P)] [.row 25 2 (clausesL C P).length (rowsC (clausesL C P))] (.tup [.so 0, .i .i64 0]) := cl
    have hRL := clausesL_right hR hlen
    have hll := clausesL_len C P
    have hlp := hR.lp
    have hrg : ∀ S : List Int, (∀ x ∈ S, 0 ≤ x ∧ x < P.length) → ∀ i ∈ S, 0 ≤ i ∧ baseN C + i.toNat < (clausesL C P).length := fun S h i hi => by
      have := h i hi
      omega
    repeat refine Or.inl ?_
    refine ⟨_, _, cl, ?_⟩
    repeat refine Or.inl ?_
    refine ⟨fun h => (by cases h), fun _ => ?_⟩
    have wb : IntKind.i64.wrap (((clausesL C P).length : Int) - P.length) = (baseN C : Int) := by rw [wr (by omega) (by omega)]; omega
    repeat refine Or.inl ?_
    refine ⟨[(9, 3, 1)], Nat, fun k => k ≤ P.length, fun k => [⟨29, [], .i .i64 k⟩, ⟨9, [], .so 4⟩], fun k => [⟨4, [], .row 3 1 (allI k).length (rowsI (allI k))⟩], fun k => P.length - k,
      ⟨0, [], Nat.zero_le _, rfl, rfl, rfl, rfl, rfl, ⟨⟨rfl, rfl⟩, rfl⟩, ⟨rfl, rfl, rfl, fun j hj => absurd hj (Nat.not_lt_zero j)⟩⟩, ?_⟩
    intro k hk
    have hk : k ≤ P.length := hk
    have hal := allI_len k
    refine .inl ⟨fun hc => ?_, fun hc => ?_⟩
    · have hc := dlt hc
      have hc : (k : Int) < P.length := hc
      repeat refine Or.inl ?_
      refine ⟨fits (by omega), ?_⟩
      refine ⟨k + 1, [(4, 6)], by dsimp only; omega, by dsimp only; omega, rfl, rfl, rfl, rfl, rfl, ⟨⟨rfl, wr (by omega) (by omega)⟩, rfl⟩, snocZ_row _ _ (allI_succ k)⟩
    have hc := dnlt hc
    have hc : (P.length : Int) ≤ k := hc
    obtain rfl : k = P.length := by omega
    have U1 : ∀ S : List Int, (∀ x ∈ S, 0 ≤ x ∧ x < P.length) → S.length ≤ P.length → Ctr Try.prog 89 [.rs 1 S.length (rowsI S), .rp [.rs 2 (clausesL C P).length (rowsC (clausesL C P))], .rp [.i .i64 (IntKind.i64.wrap (((clausesL C P).length : Int) - P.length))], .rp [.rs 2 C.length (rowsM C)]] [] (.b (unsC C P S)) := fun S h1 h2 => by
      rw [wb]
      exact conflict1_fn (clausesL C P) C (baseN C) S hRL (by omega) (hrg S h1) (by omega)
    repeat refine Or.inl ?_
    refine ⟨[], _, U1 (allI P.length) (fun x hx => mem_allI.1 hx) (by omega), ?_⟩
    repeat refine Or.inl ?_
    refine ⟨fun h => ?_, fun h => ?_⟩
    · have h : (!unsC C P (allI P.length)) = true := h
      have e : conflictY C P = none := if_neg (fun hh => by rw [hh.2] at h; cases h)
      rw [e]
      exact ⟨⟨[], ⟨⟨⟨rfl, rfl, AVEq.refl _⟩, trivial⟩, trivial, rfl⟩, rfl, trivial⟩⟩
    have h : (!unsC C P (allI P.length)) = false := h
    have hu : unsC C P (allI P.length) = true := by simpa using h
    have e : conflictY C P = some (cutDown (unsC C P) P.length (allI P.length)) := if_pos ⟨hok, hu⟩
    rw [e]
    repeat refine Or.inl ?_
    refine ⟨trivial, ?_⟩
    repeat refine Or.inl ?_
    have hinv0 : (∀ y : Int, 0 ≤ y → y < (P.length : Nat) → y ∈ allI P.length) ∧ (∀ y ∈ allI P.length, 0 ≤ y ∧ y < P.length) ∧ (allI P.length).length ≤ P.length := ⟨fun y h1 h2 => mem_allI.2 ⟨h1, h2⟩, fun y h => mem_allI.1 h, by omega⟩
    refine ⟨[], Nat × List Int, fun x => x.1 ≤ P.length ∧ cutDown (unsC C P) x.1 x.2 = cutDown (unsC C P) P.length (allI P.length) ∧ (∀ y : Int, 0 ≤ y → y < (x.1 : Nat) → y ∈ x.2) ∧ (∀ y ∈ x.2, 0 ≤ y ∧ y < P.length) ∧ x.2.length ≤ P.length, fun x => [⟨9, [], .so 4⟩, ⟨11, [], .p 5 0⟩], fun x => [⟨4, [], .row 3 1 x.2.length (rowsI x.2)⟩, ⟨5, [], .cells 3 [.i .i64 ((x.1 : Int) - 1)]⟩], fun x => x.1,
      ⟨(P.length, allI P.length), [], ⟨Nat.le_refl _, rfl, hinv0⟩, rfl, rfl, rfl, rfl, rfl, ⟨rfl, rfl⟩, ⟨AOEq.refl _, ⟨rfl, ?_⟩⟩⟩, ?_⟩
    · exact ⟨rfl, wr (by omega) (by omega)⟩
    rintro ⟨m, left⟩ ⟨hm, hcut, hin, hrg2, hll2⟩
    dsimp only at hm hcut hin hrg2 hll2
    refine .inl ⟨fun hc => ?_, fun hc => ?_⟩
    · have hc : decide ((m : Int) - 1 ≥ 0) = true := hc
      rw [decide_eq_true_eq] at hc
      obtain ⟨i, rfl⟩ : ∃ i, m = i + 1 := ⟨m - 1, by omega⟩
      have ei : ((i + 1 : Nat) : Int) - 1 = i := by omega
      have hmem : ((i + 1 : Nat) : Int) - 1 ∈ left := hin _ (by omega) (by omega)
      repeat refine Or.inl ?_
      refine ⟨_, _, cloneI_fn left (by omega), ?_⟩
      refine .inr (.inr ⟨false, [6], rfl, Unit, _, _, _, _, deleteFunc_fn left (by omega) (((i + 1 : Nat) : Int) - 1) hmem, fun _ _ => ?_⟩)
      have hwl := without_le (((i + 1 : Nat) : Int) - 1) left
      repeat refine Or.inl ?_
      refine ⟨[], _, U1 (without (((i + 1 : Nat) : Int) - 1) left) (fun x hx => hrg2 x (List.mem_filter.1 hx).1) (by omega), ?_⟩
      have hc1 : cutOne (unsC C P) left (i : Nat) = if unsC C P (without (((i + 1 : Nat) : Int) - 1) left) then without (((i + 1 : Nat) : Int) - 1) left else left := by
        rw [ei]
        rfl
      repeat refine Or.inl ?_
      refine ⟨fun h4 => ?_, fun h4 => ?_⟩
      · have h4 : unsC C P (without (((i + 1 : Nat) : Int) - 1) left) = true := h4
        rw [if_pos h4] at hc1
        refine ⟨(i, without (((i + 1 : Nat) : Int) - 1) left), [(4, 7), (5, 8)], ⟨by dsimp only; omega, ?_, fun y h1 h2 => ?_, fun x hx => hrg2 x (List.mem_filter.1 hx).1, by dsimp only; omega⟩, by dsimp only; omega, rfl, rfl, rfl, rfl, rfl, ⟨rfl, rfl⟩, ⟨AOEq.refl _, ⟨rfl, ?_⟩⟩⟩
        · rw [← hcut, ← hc1]
          rfl
        · dsimp only at h2
          exact List.mem_filter.2 ⟨hin y h1 (by omega), by simp; omega⟩
        · refine ⟨rfl, ?_⟩
          rw [wr (by omega) (by omega)]
          omega
      · have h4 : unsC C P (without (((i + 1 : Nat) : Int) - 1) left) = false := h4
        rw [h4] at hc1
        refine ⟨(i, left), [(5, 8)], ⟨by dsimp only; omega, ?_, fun y h1 h2 => ?_, hrg2, hll2⟩, by dsimp only; omega, rfl, rfl, rfl, rfl, rfl, ⟨rfl, rfl⟩, ⟨AOEq.refl _, ⟨rfl, ?_⟩⟩⟩
        · rw [← hcut]
          show cutDown (unsC C P) i left = cutDown (unsC C P) i (cutOne (unsC C P) left (i : Nat))
          rw [hc1]
          rfl
        · dsimp only at h2
          exact hin y h1 (by omega)
        · refine ⟨rfl, ?_⟩
          rw [wr (by omega) (by omega)]
          omega
    · have hc : decide ((m : Int) - 1 ≥ 0) = false := hc
      rw [decide_eq_false_iff_not] at hc
      obtain rfl : m = 0 := by omega
      rw [← hcut]
      exact RetIs.so rfl rfl (fun _ _ => rfl) (fun _ _ => rfl)
  · have hok : okCP C P = false := by simpa using hok
    have e : conflictY C P = none := if_neg (fun hh => by rw [hh.1] at hok; cases hok)
    rw [e]
    have h2 : ∃ k : Int, k ≠ 0 ∧ clausesY C P = ([], k) := by
      unfold clausesY
      cases hr : rightCP C P with
      | false => exact ⟨1, by decide, rfl⟩
      | true =>
        by_cases h4 : 4000 < (clausesL C P).length
        · exact ⟨6, by decide, by rw [if_pos rfl, if_pos h4]⟩
        · rw [okCP_iff.2 ⟨rightCP_iff.1 hr, by omega⟩] at hok
          cases hok
    obtain ⟨k, hk0, hk⟩ := h2
    rw [hk] at cl
    have cl : Ctr Try.prog 38 [.rs 2 C.length (rowsM C), .rs 3 P.length (rowsP P)] [] (.tup [.val (.slice none 0 0), .i .i64 k]) := by
      unfold okCO okCR at cl
      rw [if_neg hk0, if_neg hk0] at cl
      exact cl
    repeat refine Or.inl ?_
    refine ⟨_, _, cl, ?_⟩
    repeat refine Or.inl ?_
    refine ⟨fun _ => ?_, fun h => ?_⟩
    · exact ⟨⟨[], ⟨⟨⟨rfl, rfl, AVEq.refl _⟩, trivial⟩, trivial, rfl⟩, rfl, trivial⟩⟩
    · have h : (k != 0) = false := h
      rw [bne_eq_false_iff_eq] at h
      exact absurd h hk0
end Go.Proofs.Ytilhaifmfiobhaa
end

section
/-
  Claims and proofs: the reference's Conflict; Bits; Agrees.
-/
namespace Go.Proofs.Ytilhaifmfiobhaa
open Go.Eng

def pickP (P : List Pf) (S : List Int) : List Pf := S.map fun i => P.getD i.toNat dPf
/-- The proofs with some indices, but for one of these. -/
def chosenL (P : List Pf) (S : List Int) (but : Int) : List Pf := pickP P (without but S)
theorem getD_snocP (o : List Pf) (c : Pf) (q : Nat) : (o ++ [c]).getD q dPf = if q < o.length then o.getD q dPf else if q = o.length then c else dPf := by
  simp only [List.getD]
  by_cases h : q < o.length
  · rw [if_pos h, List.getElem?_append_left h]
  · rw [if_neg h, List.getElem?_append_right (by omega)]
    by_cases h2 : q = o.length
    · rw [if_pos h2, h2]; simp
    · rw [if_neg h2, List.getElem?_eq_none (by simp; omega)]; rfl
theorem catP2 (o : List Pf) (c : Pf) : ∀ q, q < (o ++ [c]).length → catG o.length (rowsP o) (rowOf 3 c.av) q = rowsP (o ++ [c]) q := by
  intro q hq
  unfold catG rowsP
  rw [getD_snocP]
  by_cases h : q < o.length
  · rw [if_pos h, if_pos h]
  · rw [if_neg h, if_neg h]
    have : q = o.length := by simp at hq; omega
    subst this
    rw [Nat.sub_self, if_pos rfl]
    rfl
theorem snocP_row (o : List Pf) (c : Pf) {l : List Pf} (hl : l = o ++ [c]) : AOEq (.row 55 3 l.length (rowsP l)) (.row 55 3 (o.length + 1) (catG o.length (rowsP o) (rowOf 3 c.av))) := by
  subst hl
  exact ⟨rfl, rfl, by simp, catP2 o c⟩
theorem chosen_take (P : List Pf) (S : List Int) (but : Int) {k : Nat} (h : k < S.length) : chosenL P (S.take (k + 1)) but = if S.getD k 0 = but then chosenL P (S.take k) but else chosenL P (S.take k) but ++ [P.getD (S.getD k 0).toNat dPf] := by
  unfold chosenL pickP
  rw [without_take but S h]
  split
  · rfl
  · rw [List.map_append]; rfl

set_option maxRecDepth 20000 in
set_option maxHeartbeats 1000000 in
theorem Chosen_fn (P : List Pf) (_hP : P.length < 2 ^ 62) (S : List Int) (hl : S.length ≤ 100000) (hS : ∀ x ∈ S, 0 ≤ x ∧ x < P.length) (but : Int) :
    Ctr Try.prog 46 [.rs 3 P.length (rowsP P), .rs 1 S.length (rowsI S), .i .i64 but] [.row 55 3 (chosenL P S but).length (rowsP (chosenL P S but))] (.so 0) := by
  refine fn_of_exec tabOk Try.func46 (by kernel_rfl) rfl (N := Try.f46.ntmps) rfl (res := [.tmp 6]) rfl rfl [] ?_
  repeat refine Or.inl ?_
  refine ⟨[(7, 55, 3)], Nat, fun k => k ≤ S.length, fun k => [⟨8, [], .i .i64 k⟩, ⟨7, [], .so 0⟩], fun k => [⟨0, [], .row 55 3 (chosenL P (S.take k) but).length (rowsP (chosenL P (S.take k) but))⟩], fun k => S.length - k,
    ⟨0, [], Nat.zero_le _, rfl, rfl, rfl, rfl, rfl, ⟨⟨rfl, rfl⟩, rfl⟩, ⟨rfl, rfl, rfl, fun j hj => absurd hj (Nat.not_lt_zero j)⟩⟩, ?_⟩
  intro k hk
  have hk : k ≤ S.length := hk
  have hcl : (chosenL P (S.take k) but).length ≤ S.length := by
    have := without_le but (S.take k)
    rw [List.length_take] at this
    unfold chosenL pickP
    rw [List.length_map]
    omega
  refine .inl ⟨fun hc => ?_, fun hc => ?_⟩
  · have hc := dlt hc
    have hc : (k : Int) < S.length := hc
    have ek : (k : Int).toNat = k := Int.toNat_natCast k
    have hx := hS (S.getD (k : Int).toNat 0) (getD_memX (by omega))
    have ct := chosen_take P S but (k := k) (by omega)
    repeat refine Or.inl ?_
    refine ⟨⟨by omega, by omega⟩, ?_⟩
    repeat refine Or.inl ?_
    refine ⟨fun h => ?_, fun h => ?_⟩
    · have h : (S.getD (k : Int).toNat 0 != but) = true := h
      rw [ek, bne_iff_ne] at h
      rw [if_neg h] at ct
      refine ⟨⟨by omega, by omega⟩, ⟨by omega, by omega⟩, fits (by omega), ?_⟩
      refine ⟨k + 1, [(0, 2)], by dsimp only; omega, by dsimp only; omega, rfl, rfl, rfl, rfl, rfl, ⟨⟨rfl, wr (by omega) (by omega)⟩, rfl⟩, ?_⟩
      exact snocP_row _ (P.getD (S.getD (k : Int).toNat 0).toNat dPf) (by rw [ct, ek])
    · have h : (S.getD (k : Int).toNat 0 != but) = false := h
      rw [ek, bne_eq_false_iff_eq] at h
      rw [if_pos h] at ct
      refine ⟨k + 1, [], by dsimp only; omega, by dsimp only; omega, rfl, rfl, rfl, rfl, rfl, ⟨⟨rfl, wr (by omega) (by omega)⟩, rfl⟩, ?_⟩
      have ao : AOEq (.row 55 3 (chosenL P (S.take (k + 1)) but).length (rowsP (chosenL P (S.take (k + 1)) but))) (.row 55 3 (chosenL P (S.take k) but).length (rowsP (chosenL P (S.take k) but))) := by
        rw [ct]
        exact AOEq.refl _
      exact ao
  · have hc := dnlt hc
    have hc : (S.length : Int) ≤ k := hc
    have et : S.take k = S := List.take_of_length_le (by omega)
    rw [et]
    exact RetIs.so rfl rfl (fun _ _ => rfl) (fun _ _ => rfl)

/-- Clauses, as the kinds of its results say it. -/
theorem Clauses_or {C : List Cm} {P : List Pf} : (okCP C P = true ∧ clausesY C P = (clausesL C P, 0)) ∨ (okCP C P = false ∧ ∃ k : Int, k ≠ 0 ∧ clausesY C P = ([], k)) := by
  cases hok : okCP C P with
  | true => exact .inl ⟨rfl, okCP_cl hok⟩
  | false =>
    obtain ⟨h1, h2⟩ := not_okCP_cl hok
    exact .inr ⟨rfl, (clausesY C P).2, h2, Prod.ext h1 rfl⟩
theorem okC_no {k : Int} (h : k ≠ 0) : okCO ([], k) = [] ∧ okCR ([], k) = .tup [.val (.slice none 0 0), .i .i64 k] := by
  unfold okCO okCR
  rw [if_neg h, if_neg h]
  exact ⟨rfl, rfl⟩

set_option maxRecDepth 20000 in
set_option maxHeartbeats 1000000 in
theorem Possible_fn (C : List Cm) (P : List Pf) (hC : C.length ≤ 20) (hP : P.length < 2 ^ 62) : Ctr Try.prog 94 [.rs 2 C.length (rowsM C), .rs 3 P.length (rowsP P)] [] (.b (hasW C P)) := by
  refine fn_of_exec tabOk Try.func94 (by kernel_rfl) rfl (N := Try.f94.ntmps) rfl (res := [.tmp 4]) rfl rfl [] ?_
  have cl := rClauses_fn C P (by omega) hP
  unfold hasW
  rcases Clauses_or (C := C) (P := P) with ⟨hok, e⟩ | ⟨hok, k, hk, e⟩
  · obtain ⟨hR, hlen⟩ := okCP_iff.1 hok
    rw [e] at cl
    have cl : Ctr Try.prog 39 [.rs 2 C.length (rowsM C), .rs 3 P.length (rowsP P)] [.row 25 2 (clausesL C P).length (rowsC (clausesL C P))] (.tup [.so 0, .i .i64 0]) := cl
    have cf := rFirst_fn (clausesL C P) (by omega) C.length (clausesL_right hR hlen) hC
    rw [hok, Bool.true_and]
    repeat refine Or.inl ?_
    refine ⟨_, _, cl, ?_⟩
    repeat refine Or.inl ?_
    refine ⟨fun h => (by cases h), fun _ => ?_⟩
    cases e2 : firstL (clausesL C P) C.length [] with
    | some vs =>
      rw [e2] at cf
      repeat refine Or.inl ?_
      refine ⟨_, _, cf, ?_⟩
      exact RetIs.b rfl
    | none =>
      rw [e2] at cf
      repeat refine Or.inl ?_
      refine ⟨_, _, cf, ?_⟩
      exact RetIs.b rfl
  · rw [e, (okC_no hk).1, (okC_no hk).2] at cl
    rw [hok, Bool.false_and]
    repeat refine Or.inl ?_
    refine ⟨_, _, cl, ?_⟩
    repeat refine Or.inl ?_
    refine ⟨fun _ => RetIs.b rfl, fun h => ?_⟩
    have h : (k != 0) = false := h
    rw [bne_eq_false_iff_eq] at h
    exact absurd h hk

theorem sel_pick {C : List Cm} {P : List Pf} {S : List Int} (hS : ∀ x ∈ S, 0 ≤ x ∧ x < P.length) : selC (clausesL C P) (baseN C) S = clausesL C (pickP P S) := by
  unfold selC clausesL pickP baseN
  rw [List.take_left', List.map_map]
  · congr 1
    refine List.map_congr_left fun i hi => ?_
    have := hS i hi
    simp only [List.getD, Function.comp]
    rw [List.getElem?_append_right (by omega), List.getElem?_map]
    have h2 : (baseL C C.length).length + i.toNat - (baseL C C.length).length = i.toNat := by omega
    rw [h2, List.getElem?_eq_getElem (show i.toNat < P.length by omega)]
    rfl
  · rfl
theorem pick_right {C : List Cm} {P : List Pf} (h : RightCP C P) {S : List Int} (hS : ∀ x ∈ S, 0 ≤ x ∧ x < P.length) (hl : S.length ≤ 400) : RightCP C (pickP P S) := by
  refine ⟨h.lc, by unfold pickP; rw [List.length_map]; exact hl, h.cm, h.nd, fun p hp => ?_⟩
  obtain ⟨i, hi, rfl⟩ := List.mem_map.1 hp
  have := hS i hi
  exact h.pf _ (getD_memA dPf (show i.toNat < P.length by omega))
theorem pick_ok {C : List Cm} {P : List Pf} (h : okCP C P = true) {S : List Int} (hS : ∀ x ∈ S, 0 ≤ x ∧ x < P.length) (hl : S.length ≤ P.length) : okCP C (pickP P S) = true := by
  obtain ⟨hR, hlen⟩ := okCP_iff.1 h
  have h1 := hR.lp
  rw [clausesL_len] at hlen
  refine okCP_iff.2 ⟨pick_right hR hS (by omega), ?_⟩
  rw [clausesL_len]
  unfold pickP
  rw [List.length_map]
  omega
theorem pick_has {C : List Cm} {P : List Pf} (h : okCP C P = true) {S : List Int} (hS : ∀ x ∈ S, 0 ≤ x ∧ x < P.length) (hl : S.length ≤ P.length) : hasW C (pickP P S) = !unsC C P S := by
  unfold hasW unsC unsS
  rw [pick_ok h hS hl, sel_pick hS, Bool.true_and]
  cases firstL (clausesL C (pickP P S)) C.length [] <;> rfl
theorem pick_all (P : List Pf) : pickP P (allI P.length) = P := by
  unfold pickP allI
  rw [List.map_map]
  refine List.ext_getElem (by simp) fun i h1 h2 => ?_
  simp [List.getD, h2]
theorem allI_rg (n : Nat) : ∀ x ∈ allI n, 0 ≤ x ∧ x < (n : Int) := fun _ h => mem_allI.1 h
theorem has_all {C : List Cm} {P : List Pf} (h : okCP C P = true) : hasW C P = !unsC C P (allI P.length) := by
  have := pick_has h (allI_rg P.length) (by rw [allI_len]; exact Nat.le_refl _)
  rwa [pick_all] at this
theorem without_rg {P : List Pf} {S : List Int} (hS : ∀ x ∈ S, 0 ≤ x ∧ x < (P.length : Int)) (i : Int) : ∀ x ∈ without i S, 0 ≤ x ∧ x < (P.length : Int) := fun x hx => hS x (List.mem_filter.1 hx).1

set_option maxRecDepth 20000 in
set_option maxHeartbeats 8000000 in
theorem rConflict_fn (C : List Cm) (P : List Pf) (hC : C.length ≤ 20) (hP : P.length < 2 ^ 62) : Ctr Try.prog 45 [.rs 2 C.length (rowsM C), .rs 3 P.length (rowsP P)] (pathO (conflictY C P)) (pathV (conflictY C P)) := by
  refine fn_of_exec tabOk Try.func45 (by kernel_rfl) rfl (N := Try.f45.ntmps) rfl (res := [.tmp 4]) rfl rfl [] ?_
  have cl := rClauses_fn C P (by omega) hP
  have po := Possible_fn C P hC hP
  rcases Clauses_or (C := C) (P := P) with ⟨hok, e⟩ | ⟨hok, k, hk, e⟩
  · obtain ⟨hR, hlen⟩ := okCP_iff.1 hok
    rw [e] at cl
    have cl : Ctr Try.prog 39 [.rs 2 C.length (rowsM C), .rs 3 P.length (rowsP P)] [.row 25 2 (clausesL C P).length (rowsC (clausesL C P))] (.tup [.so 0, .i .i64 0]) := cl
    have hlp := hR.lp
    repeat refine Or.inl ?_
    refine ⟨_, _, cl, ?_⟩
    repeat refine Or.inl ?_
    refine ⟨[], _, fun _ => po, ?_⟩
    repeat refine Or.inl ?_
    refine ⟨fun h => ?_, fun h => ?_⟩
    · have h : (((0 : Int) != 0) || hasW C P) = true := h
      have e : conflictY C P = none := if_neg (fun hh => by rw [has_all hok, hh.2] at h; cases h)
      rw [e]
      exact ⟨⟨[], ⟨⟨⟨rfl, rfl, AVEq.refl _⟩, trivial⟩, trivial, rfl⟩, rfl, trivial⟩⟩
    have h : (((0 : Int) != 0) || hasW C P) = false := h
    have hu : unsC C P (allI P.length) = true := by
      rw [has_all hok] at h
      simpa using h
    have e : conflictY C P = some (cutDown (unsC C P) P.length (allI P.length)) := if_pos ⟨hok, hu⟩
    rw [e]
    repeat refine Or.inl ?_
    refine ⟨[(7, 3, 1)], Nat, fun k => k ≤ P.length, fun k => [⟨8, [], .i .i64 k⟩, ⟨7, [], .so 1⟩], fun k => [⟨1, [], .row 3 1 (allI k).length (rowsI (allI k))⟩], fun k => P.length - k,
      ⟨0, [], Nat.zero_le _, rfl, rfl, rfl, rfl, rfl, ⟨⟨rfl, rfl⟩, rfl⟩, ⟨rfl, rfl, rfl, fun j hj => absurd hj (Nat.not_lt_zero j)⟩⟩, ?_⟩
    intro k hk
    have hk : k ≤ P.length := hk
    have hal := allI_len k
    refine .inl ⟨fun hc => ?_, fun hc => ?_⟩
    · have hc := dlt hc
      have hc : (k : Int) < P.length := hc
      repeat refine Or.inl ?_
      refine ⟨fits (by omega), ?_⟩
      refine ⟨k + 1, [(1, 3)], by dsimp only; omega, by dsimp only; omega, rfl, rfl, rfl, rfl, rfl, ⟨⟨rfl, wr (by omega) (by omega)⟩, rfl⟩, snocZ_row _ _ (allI_succ k)⟩
    have hc := dnlt hc
    have hc : (P.length : Int) ≤ k := hc
    obtain rfl : k = P.length := by omega
    have hinv0 : (∀ y ∈ allI P.length, 0 ≤ y ∧ y < P.length) ∧ (allI P.length).length ≤ P.length := ⟨fun y h => mem_allI.1 h, by omega⟩
    repeat refine Or.inl ?_
    refine ⟨[], Nat × List Int, fun x => x.1 ≤ P.length ∧ cutDown (unsC C P) x.1 x.2 = cutDown (unsC C P) P.length (allI P.length) ∧ (∀ y ∈ x.2, 0 ≤ y ∧ y < P.length) ∧ x.2.length ≤ P.length, fun x => [⟨7, [], .so 1⟩, ⟨9, [], .i .i64 ((x.1 : Int) - 1)⟩], fun x => [⟨1, [], .row 3 1 x.2.length (rowsI x.2)⟩], fun x => x.1,
      ⟨(P.length, allI P.length), [], ⟨Nat.le_refl _, rfl, hinv0⟩, rfl, rfl, rfl, rfl, rfl, ⟨rfl, ⟨rfl, wr (by omega) (by omega)⟩⟩, AOEq.refl (.row 3 1 (allI P.length).length (rowsI (allI P.length)))⟩, ?_⟩
    rintro ⟨m, left⟩ ⟨hm, hcut, hrg2, hll2⟩
    dsimp only at hm hcut hrg2 hll2
    refine .inl ⟨fun hc => ?_, fun hc => ?_⟩
    · have hc : decide ((m : Int) - 1 ≥ 0) = true := hc
      rw [decide_eq_true_eq] at hc
      obtain ⟨i, rfl⟩ : ∃ i, m = i + 1 := ⟨m - 1, by omega⟩
      have ei : ((i + 1 : Nat) : Int) - 1 = i := by omega
      have hwl := without_le (((i + 1 : Nat) : Int) - 1) left
      have hch : (chosenL P left (((i + 1 : Nat) : Int) - 1)).length ≤ P.length := by
        unfold chosenL pickP
        rw [List.length_map]
        omega
      have hc1 : cutOne (unsC C P) left (i : Nat) = if unsC C P (without (((i + 1 : Nat) : Int) - 1) left) then without (((i + 1 : Nat) : Int) - 1) left else left := by
        rw [ei]
        rfl
      have ph := pick_has hok (without_rg hrg2 (((i + 1 : Nat) : Int) - 1)) (by omega)
      repeat refine Or.inl ?_
      refine ⟨_, _, Chosen_fn P hP left (by omega) hrg2 (((i + 1 : Nat) : Int) - 1), ?_⟩
      repeat refine Or.inl ?_
      refine ⟨[], _, Possible_fn C (chosenL P left (((i + 1 : Nat) : Int) - 1)) hC (by omega), ?_⟩
      repeat refine Or.inl ?_
      refine ⟨fun h4 => ?_, fun h4 => ?_⟩
      · have h4 : hasW C (chosenL P left (((i + 1 : Nat) : Int) - 1)) = true := h4
        unfold chosenL at h4
        rw [ph, Bool.not_eq_true'] at h4
        rw [h4] at hc1
        refine ⟨(i, left), [], ⟨by dsimp only; omega, ?_, hrg2, hll2⟩, by dsimp only; omega, rfl, rfl, rfl, rfl, rfl, ⟨rfl, ⟨rfl, ?_⟩⟩, AOEq.refl (.row 3 1 left.length (rowsI left))⟩
        · rw [← hcut]
          show cutDown (unsC C P) i left = cutDown (unsC C P) i (cutOne (unsC C P) left (i : Nat))
          rw [hc1]
          rfl
        · rw [wr (by omega) (by omega)]
          omega
      · have h4 : hasW C (chosenL P left (((i + 1 : Nat) : Int) - 1)) = false := h4
        unfold chosenL at h4
        rw [ph, Bool.not_eq_false'] at h4
        rw [if_pos h4] at hc1
        repeat refine Or.inl ?_
        refine ⟨[(10, 3, 1)], Nat, fun q => q ≤ left.length, fun q => [⟨11, [], .i .i64 q⟩, ⟨10, [], .so 3⟩], fun q => [⟨3, [], .row 3 1 (without (((i + 1 : Nat) : Int) - 1) (left.take q)).length (rowsI (without (((i + 1 : Nat) : Int) - 1) (left.take q)))⟩], fun q => left.length - q,
          ⟨0, [], Nat.zero_le _, rfl, rfl, rfl, rfl, rfl, ⟨⟨rfl, rfl⟩, rfl⟩, ⟨rfl, rfl, rfl, fun j hj => absurd hj (Nat.not_lt_zero j)⟩⟩, ?_⟩
        intro q hq
        have hq : q ≤ left.length := hq
        have hwq := without_le (((i + 1 : Nat) : Int) - 1) (left.take q)
        rw [List.length_take] at hwq
        refine .inl ⟨fun hc2 => ?_, fun hc2 => ?_⟩
        · have hc2 := dlt hc2
          have hc2 : (q : Int) < left.length := hc2
          have eq : (q : Int).toNat = q := Int.toNat_natCast q
          have wt := without_take (((i + 1 : Nat) : Int) - 1) left (k := q) (by omega)
          repeat refine Or.inl ?_
          refine ⟨⟨by omega, by omega⟩, by omega, ?_⟩
          repeat refine Or.inl ?_
          refine ⟨fun h5 => ?_, fun h5 => ?_⟩
          · have h5 : (left.getD (q : Int).toNat 0 != ((i + 1 : Nat) : Int) - 1) = true := h5
            rw [eq, bne_iff_ne] at h5
            rw [if_neg h5] at wt
            refine ⟨⟨by omega, by omega⟩, by omega, fits (by omega), ?_⟩
            refine ⟨q + 1, [(3, 5)], by dsimp only; omega, by dsimp only; omega, rfl, rfl, rfl, rfl, rfl, ⟨⟨rfl, wr (by omega) (by omega)⟩, rfl⟩, ?_⟩
            exact snocZ_row _ (left.getD (q : Int).toNat 0) (by rw [wt, eq])
          · have h5 : (left.getD (q : Int).toNat 0 != ((i + 1 : Nat) : Int) - 1) = false := h5
            rw [eq, bne_eq_false_iff_eq] at h5
            rw [if_pos h5] at wt
            refine ⟨q + 1, [], by dsimp only; omega, by dsimp only; omega, rfl, rfl, rfl, rfl, rfl, ⟨⟨rfl, wr (by omega) (by omega)⟩, rfl⟩, ?_⟩
            exact same_row wt
        · have hc2 := dnlt hc2
          have hc2 : (left.length : Int) ≤ q := hc2
          have et : left.take q = left := List.take_of_length_le (by omega)
          rw [et]
          refine ⟨(i, without (((i + 1 : Nat) : Int) - 1) left), [(1, 3)], ⟨by dsimp only; omega, ?_, without_rg hrg2 _, by dsimp only; omega⟩, by dsimp only; omega, rfl, rfl, rfl, rfl, rfl, ⟨rfl, ⟨rfl, ?_⟩⟩, AOEq.refl (.row 3 1 (without (((i + 1 : Nat) : Int) - 1) left).length (rowsI (without (((i + 1 : Nat) : Int) - 1) left)))⟩
          · rw [← hcut, ← hc1]
            rfl
          · rw [wr (by omega) (by omega)]
            omega
    · have hc : decide ((m : Int) - 1 ≥ 0) = false := hc
      rw [decide_eq_false_iff_not] at hc
      obtain rfl : m = 0 := by omega
      rw [← hcut]
      exact RetIs.so rfl rfl (fun _ _ => rfl) (fun _ _ => rfl)
  · rw [e, (okC_no hk).1, (okC_no hk).2] at cl
    have e : conflictY C P = none := if_neg (fun hh => by rw [hh.1] at hok; cases hok)
    rw [e]
    repeat refine Or.inl ?_
    refine ⟨_, _, cl, ?_⟩
    repeat refine Or.inl ?_
    refine ⟨[], _, fun _ => po, ?_⟩
    repeat refine Or.inl ?_
    refine ⟨fun _ => ?_, fun h => ?_⟩
    · exact ⟨⟨[], ⟨⟨⟨rfl, rfl, AVEq.refl _⟩, trivial⟩, trivial, rfl⟩, rfl, trivial⟩⟩
    · have h : ((k != 0) || hasW C P) = false := h
      rw [Bool.or_eq_false_iff, bne_eq_false_iff_eq] at h
      exact absurd h.1 hk
end Go.Proofs.Ytilhaifmfiobhaa
end

section
/-
  Claims and proofs: what is known of conflicts; plain Lean, no program in sight.
-/
namespace Go.Proofs.Ytilhaifmfiobhaa
open Go.Eng

theorem selC_mono {L : List Cl} {b n : Nat} {S T : List Int} (h : ∀ x ∈ S, x ∈ T) {vals : List Bool} (g : Good (selC L b T) n [] vals) : Good (selC L b S) n [] vals := by
  refine ⟨g.len, fun c hc => g.sat c ?_, fun x hx => by simp at hx⟩
  rcases List.mem_append.1 hc with hc | hc
  · exact List.mem_append_left _ hc
  · obtain ⟨i, hi, rfl⟩ := List.mem_map.1 hc
    exact List.mem_append_right _ (List.mem_map.2 ⟨i, h i hi, rfl⟩)
theorem isNone_iff {l : List Cl} {n : Nat} {lits : List Int} : (firstL l n lits).isNone = true ↔ ¬ ∃ vals, Good l n lits vals := by
  rw [Option.isNone_iff_eq_none, firstL_none]
theorem unsC_mono (C : List Cm) (P : List Pf) : MonoU (unsC C P) := by
  intro S T h hu
  unfold unsC unsS at hu ⊢
  rw [isNone_iff] at hu ⊢
  exact fun ⟨vals, g⟩ => hu ⟨vals, selC_mono h g⟩
theorem base_good (C : List Cm) : Good (baseL C C.length) C.length [] (List.replicate C.length false) := by
  refine ⟨by simp, fun c hc => ?_, fun x hx => by simp at hx⟩
  obtain ⟨k, i, hk, hi, _, rfl⟩ := mem_baseL.1 hc
  refine .inl ?_
  show tv _ (2 * (i : Int) + 1) = true
  rw [tv_odd]
  have : (List.replicate C.length false).getD i false = false := by
    simp only [List.getD, List.getElem?_replicate]
    split <;> rfl
  rw [this]
  rfl
theorem selC_nil (C : List Cm) (P : List Pf) : selC (clausesL C P) (baseN C) [] = baseL C C.length := by
  unfold selC clausesL baseN
  rw [List.take_left']
  · simp
  · rfl
theorem unsC_nil (C : List Cm) (P : List Pf) : ¬ unsC C P [] = true := by
  unfold unsC unsS
  rw [isNone_iff, selC_nil]
  exact fun h => h ⟨_, base_good C⟩
/-- The conflict, as a list. -/
def conL (C : List Cm) (P : List Pf) : List Int := (conflictY C P).getD []
theorem conL_eq {C : List Cm} {P : List Pf} (h : okCP C P = true) : conL C P = conflictL (unsC C P) P.length := by
  unfold conL conflictY conflictL
  by_cases hu : unsC C P (allI P.length) = true
  · rw [if_pos ⟨h, hu⟩, if_pos hu]
    rfl
  · rw [if_neg fun hh => hu hh.2, if_neg hu]
    rfl
theorem conY_none {C : List Cm} {P : List Pf} (h : okCP C P = true) : conflictY C P = none ↔ hasW C P = true := by
  rw [has_all h]
  unfold conflictY
  cases hu : unsC C P (allI P.length) with
  | true => rw [if_pos ⟨h, rfl⟩]; exact ⟨fun e => (by cases e), fun e => (by cases e)⟩
  | false => rw [if_neg fun hh => (by cases hh.2)]; exact ⟨fun _ => rfl, fun _ => rfl⟩
theorem conY_some {C : List Cm} {P : List Pf} (h : okCP C P = true) {l : List Int} (e : conflictY C P = some l) : hasW C P = false ∧ ConfS (unsC C P) P.length l ∧ l = conflictL (unsC C P) P.length := by
  have hn : hasW C P = false := by
    rw [Bool.eq_false_iff]
    intro hw
    rw [(conY_none h).2 hw] at e
    cases e
  have hu : unsC C P (allI P.length) = true := by
    rw [has_all h] at hn
    simpa using hn
  have el : l = conflictL (unsC C P) P.length := by
    have := conL_eq h
    unfold conL at this
    rw [e] at this
    exact this
  refine ⟨hn, ?_, el⟩
  rw [el]
  exact conflict_spec (unsC_mono C P) hu
theorem confS_ne {C : List Cm} {P : List Pf} {l : List Int} (h : ConfS (unsC C P) P.length l) : l ≠ [] := by
  rintro rfl
  exact unsC_nil C P h.u
theorem asc_len : ∀ {n : Nat} {l : List Int}, l.Pairwise (· < ·) → (∀ x ∈ l, 0 ≤ x ∧ x < (n : Int)) → l.length ≤ n := by
  intro n l h hr
  have := sub_len (m := allI n) (h.imp fun h => by omega) fun x hx => mem_allI.2 (hr x hx)
  rwa [allI_len] at this
theorem confS_len {C : List Cm} {P : List Pf} {l : List Int} (h : ConfS (unsC C P) P.length l) : l.length ≤ P.length := asc_len h.asc h.rng
theorem without_eq (x : Int) (S : List Int) : without x S = S.filter fun q => decide (q ≠ x) := rfl
theorem without_out {x : Int} {S : List Int} (h : x ∉ S) : without x S = S := by
  unfold without
  rw [List.filter_eq_self]
  intro y hy
  simp
  rintro rfl
  exact h hy
theorem right_sub {C : List Cm} {P Q : List Pf} (h : RightCP C P) (hs : ∀ p ∈ Q, p ∈ P) (hl : Q.length ≤ 400) : RightCP C Q := ⟨h.lc, hl, h.cm, h.nd, fun p hp => h.pf p (hs p hp)⟩
theorem ok_small {C : List Cm} {P : List Pf} (h : RightCP C P) (hC : C.length ≤ 60) : okCP C P = true := okCP_iff.2 ⟨h, clausesL_small hC h.lp⟩
theorem wd_sub {C : List Cm} {P Q : List Pf} (hs : ∀ p ∈ Q, p ∈ P) {vals : List Bool} (h : Wd C P vals) : Wd C Q vals := by
  refine ⟨h.len, fun c hc => h.sat c ?_, fun x hx => by simp at hx⟩
  rcases List.mem_append.1 hc with hc | hc
  · exact List.mem_append_left _ hc
  · obtain ⟨p, hp, rfl⟩ := List.mem_map.1 hc
    exact List.mem_append_right _ (List.mem_map.2 ⟨p, hs p hp, rfl⟩)
theorem has_sub {C : List Cm} {P Q : List Pf} (hs : ∀ p ∈ Q, p ∈ P) (hq : okCP C Q = true) (h : hasW C P = true) : hasW C Q = true := by
  rw [hasW_iff] at h ⊢
  obtain ⟨_, vals, hv⟩ := h
  exact ⟨hq, vals, wd_sub hs hv⟩
theorem pick_pick (P : List Pf) (l S : List Int) (hS : ∀ x ∈ S, 0 ≤ x ∧ x < (l.length : Int)) : pickP (pickP P l) S = pickP P (S.map fun i => l.getD i.toNat 0) := by
  unfold pickP
  rw [List.map_map]
  refine List.map_congr_left fun i hi => ?_
  have := hS i hi
  simp only [List.getD, List.getElem?_map, Function.comp]
  rw [List.getElem?_eq_getElem (show i.toNat < l.length by omega)]
  rfl
theorem map_allI (l : List Int) : (allI l.length).map (fun i => l.getD i.toNat 0) = l := by
  unfold allI
  rw [List.map_map]
  refine List.ext_getElem (by simp) fun i h1 h2 => ?_
  simp [List.getD, h2]
/-- The proofs of a conflict, alone, are their own conflict. -/
theorem con_again {C : List Cm} {P : List Pf} (h : okCP C P = true) {l : List Int} (hl : ConfS (unsC C P) P.length l) : conflictY C (pickP P l) = some (allI l.length) := by
  have hle := confS_len hl
  have hok := pick_ok h hl.rng hle
  have hpl : (pickP P l).length = l.length := by simp [pickP]
  have key : ∀ S : List Int, (∀ x ∈ S, 0 ≤ x ∧ x < (l.length : Int)) → (unsC C (pickP P l) S = true ↔ unsC C P (S.map fun i => l.getD i.toNat 0) = true) := fun S hS => by
    unfold unsC unsS
    rw [sel_pick (P := pickP P l) (by rw [hpl]; exact hS), pick_pick P l S hS, sel_pick]
    intro x hx
    obtain ⟨i, hi, rfl⟩ := List.mem_map.1 hx
    have := hS i hi
    exact hl.rng _ (getD_memX (by omega))
  have h1 : unsC C (pickP P l) (allI l.length) = true := (key _ (allI_rg _)).2 (by rw [map_allI]; exact hl.u)
  have h2 : ∀ x ∈ allI l.length, ¬ unsC C (pickP P l) ((allI l.length).filter fun q => decide (q ≠ x)) = true := by
    intro x hx hu
    have hxr := mem_allI.1 hx
    have hu2 := (key _ fun y hy => allI_rg _ y (List.mem_filter.1 hy).1).1 hu
    refine hl.min (l.getD x.toNat 0) (getD_memX (by omega)) (unsC_mono C P _ _ (fun y hy => ?_) hu2)
    obtain ⟨i, hi, rfl⟩ := List.mem_map.1 hy
    obtain ⟨hi1, hi2⟩ := List.mem_filter.1 hi
    have hir := mem_allI.1 hi1
    refine List.mem_filter.2 ⟨getD_memX (by omega), ?_⟩
    rw [decide_eq_true_eq]
    intro e
    have := getD_injX (hl.asc.imp fun h => by omega) (show i.toNat < l.length by omega) (show x.toNat < l.length by omega) e
    rw [decide_eq_true_eq] at hi2
    omega
  have h3 := conflict_all h1 h2
  unfold conflictY
  rw [hpl, if_pos ⟨hok, h1⟩]
  unfold conflictL at h3
  rw [if_pos h1] at h3
  rw [h3]
/-- With fewer of the first proofs the conflict is the same, if there is one. -/
theorem con_first {C : List Cm} {P : List Pf} (h : okCP C P = true) {b : Nat} (hb : b ≤ P.length) (hok : okCP C (P.take b) = true) {l1 : List Int} (e : conflictY C (P.take b) = some l1) : conflictY C P = some l1 := by
  obtain ⟨hn, hS, el⟩ := conY_some hok e
  have hbl : (P.take b).length = b := by rw [List.length_take]; omega
  have tk : ∀ S : List Int, (∀ x ∈ S, 0 ≤ x ∧ x < (b : Int)) → (unsC C (P.take b) S = true ↔ unsC C P S = true) := fun S hS => by
    unfold unsC unsS
    rw [sel_pick (by rw [hbl]; exact hS), sel_pick (fun x hx => by have := hS x hx; omega)]
    have : pickP (P.take b) S = pickP P S := by
      unfold pickP
      refine List.map_congr_left fun i hi => ?_
      have := hS i hi
      simp only [List.getD]
      rw [List.getElem?_take_of_lt (by omega)]
    rw [this]
  have hu : unsC C P (allI b) = true := by
    refine (tk _ (allI_rg b)).1 ?_
    have := has_all hok
    rw [hn, hbl] at this
    simpa using this.symm
  have hf := conflict_first (unsC_mono C P) hu (P.length - b)
  rw [show b + (P.length - b) = P.length by omega] at hf
  have hall : unsC C P (allI P.length) = true := unsC_mono C P _ _ (fun x hx => mem_allI.2 (by have := mem_allI.1 hx; omega)) hu
  have : conflictY C P = some (conflictL (unsC C P) P.length) := by
    unfold conflictY conflictL
    rw [if_pos ⟨h, hall⟩, if_pos hall]
  rw [this, hf, el, hbl]
  exact congrArg some (conflict_congr fun S hS => (tk S hS).symm)
end Go.Proofs.Ytilhaifmfiobhaa
end

section
/-
  Claims and proofs: the small examples; ClaimTells.
-/
namespace Go.Proofs.Ytilhaifmfiobhaa
open Go.Eng

set_option maxRecDepth 20000 in
theorem few_fn (C : List Cm) (P : List Pf) (n m : Int) : Ctr Try.prog 37 [.rs 2 C.length (rowsM C), .rs 3 P.length (rowsP P), .i .i64 n, .i .i64 m] [] (.b (decide ((C.length : Int) ≤ n) && decide ((P.length : Int) ≤ m))) := by
  refine fn_of_exec tabOk Try.func37 (by kernel_rfl) rfl (N := Try.f37.ntmps) rfl (res := [.tmp 8]) rfl rfl [] ?_
  exact RetIs.b rfl
theorem three3 {p : Nat → Prop} (h0 : p 0) (h1 : p 1) (h2 : p 2) : ∀ k, k < 3 → p k := by
  intro k hk
  match k, hk with
  | 0, _ => exact h0
  | 1, _ => exact h1
  | 2, _ => exact h2
theorem four4 {p : Nat → Prop} (h0 : p 0) (h1 : p 1) (h2 : p 2) (h3 : p 3) : ∀ k, k < 4 → p k := by
  intro k hk
  match k, hk with
  | 0, _ => exact h0
  | 1, _ => exact h1
  | 2, _ => exact h2
  | 3, _ => exact h3
theorem five5 {p : Nat → Prop} (h0 : p 0) (h1 : p 1) (h2 : p 2) (h3 : p 3) (h4 : p 4) : ∀ k, k < 5 → p k := by
  intro k hk
  match k, hk with
  | 0, _ => exact h0
  | 1, _ => exact h1
  | 2, _ => exact h2
  | 3, _ => exact h3
  | 4, _ => exact h4
def exC : List Cm := [⟨5, 1⟩, ⟨5, 2⟩, ⟨17, 1⟩]
def exP1 : List Pf := [⟨2, 0, 1⟩, ⟨4, 0, 2⟩]
def exP2 : List Pf := [⟨0, 2, 0⟩, ⟨0, 0, 0⟩, ⟨1, 2, 0⟩, ⟨0, 1, 0⟩]
set_option maxRecDepth 20000 in
theorem three_fn : Ctr Try.prog 83 [] [.row 73 2 exC.length (rowsM exC)] (.so 0) := by
  refine fn_of_exec tabOk Try.func83 (by kernel_rfl) rfl (N := Try.f83.ntmps) rfl (res := [.tmp 0]) rfl rfl [] ?_
  exact RetIs.so rfl rfl (three3 rfl rfl rfl) (fun _ _ => rfl)
def exL1 : List Cl := [⟨1, 3⟩, ⟨0, 2⟩, ⟨1, 4⟩]
def exL2 : List Cl := [⟨1, 3⟩, ⟨4, 4⟩, ⟨0, 0⟩, ⟨5, 5⟩, ⟨2, 2⟩]
theorem ex_cl1 : clausesY exC exP1 = (exL1, 0) := by decide +kernel
theorem ex_cl2 : clausesY exC exP2 = (exL2, 0) := by decide +kernel
theorem ex_cf2 : conflictY exC exP2 = some [0, 2] := by decide +kernel
theorem ex_cf0 : conflictY exC [] = none := by decide +kernel
theorem ex_r2 : rightCP exC exP2 = true := by decide +kernel
theorem ints43_same (a : List Int) (ha : a.length < 2^62) : Ctr Try.prog 43 [.rs 1 a.length (rowsI a), .rs 1 a.length (rowsI a)] [] (.b true) := by
  have := ints43_fn a a ha ha
  rw [decide_eq_true rfl] at this
  exact this
theorem ints43_nil : Ctr Try.prog 43 [.val (.slice none 0 0), .val (.slice none 0 0)] [] (.b true) :=
  Ctr.of_eq (args := [.rs 1 0 (rowsI []), .rs 1 0 (rowsI [])]) ⟨⟨rfl, rfl⟩, ⟨rfl, rfl⟩⟩ (ints43_same [] (by decide))
theorem sameC_same (a : List Cl) (ha : a.length < 2^62) : Ctr Try.prog 42 [.rs 2 a.length (rowsC a), .rs 2 a.length (rowsC a)] [] (.b true) := by
  have := sameC_fn a a ha ha
  rw [decide_eq_true rfl] at this
  exact this
theorem sameC_nil : Ctr Try.prog 42 [.val (.slice none 0 0), .val (.slice none 0 0)] [] (.b true) :=
  Ctr.of_eq (args := [.rs 2 0 (rowsC []), .rs 2 0 (rowsC [])]) ⟨⟨rfl, rfl⟩, ⟨rfl, rfl⟩⟩ (sameC_same [] (by decide))

set_option maxRecDepth 20000 in
set_option maxHeartbeats 4000000 in
theorem smallC_fn : Ctr Try.prog 36 [] [] (.b true) := by
  refine fn_of_exec tabOk Try.func36 (by kernel_rfl) rfl (N := Try.f36.ntmps) rfl (res := [.tmp 0]) rfl rfl [(3, [.eq 3 (.row 55 3 exP2.length (rowsP exP2))])] ?_
  repeat refine Or.inl ?_
  refine ⟨_, _, three_fn, ?_⟩
  have c1 : Ctr Try.prog 38 [.rs 2 exC.length (rowsM exC), .rs 3 2 (rowOf 3 [.i .i64 2, .i .i64 0, .i .i64 1, .i .i64 4, .i .i64 0, .i .i64 2])] [.row 25 2 exL1.length (rowsC exL1)] (.tup [.so 0, .i .i64 0]) := by
    have := Clauses_fn exC exP1 (by decide) (by decide)
    rw [ex_cl1] at this
    exact Ctr.of_eq (args := [.rs 2 exC.length (rowsM exC), .rs 3 exP1.length (rowsP exP1)]) ⟨AVEq.refl _, ⟨rfl, rfl, two rfl rfl⟩⟩ this
  have c2 : Ctr Try.prog 38 [.rs 2 exC.length (rowsM exC), .rs 3 exP2.length (rowsP exP2)] [.row 25 2 exL2.length (rowsC exL2)] (.tup [.so 0, .i .i64 0]) := by
    have := Clauses_fn exC exP2 (by decide) (by decide)
    rw [ex_cl2] at this
    exact this
  have c3 := Conflict_fn exC exP2 (by decide) (by decide)
  rw [ex_cf2] at c3
  have c4 : Ctr Try.prog 44 [.rs 2 exC.length (rowsM exC), .val (.slice none 0 0)] [] (.val (.slice none 0 0)) := by
    have := Conflict_fn exC [] (by decide) (by decide)
    rw [ex_cf0] at this
    exact Ctr.of_eq (args := [.rs 2 exC.length (rowsM exC), .rs 3 0 (rowsP [])]) ⟨AVEq.refl _, ⟨rfl, rfl⟩⟩ this
  have c5 := ClaimRight_fn exC exP2 (by decide) (by decide)
  rw [ex_r2] at c5
  have s1 : Ctr Try.prog 42 [.rs 2 exL1.length (rowsC exL1), .rs 2 3 (rowOf 2 [.i .i64 1, .i .i64 3, .i .i64 0, .i .i64 2, .i .i64 1, .i .i64 4])] [] (.b true) :=
    Ctr.of_eq (args := [.rs 2 exL1.length (rowsC exL1), .rs 2 exL1.length (rowsC exL1)]) ⟨AVEq.refl _, ⟨rfl, rfl, three3 rfl rfl rfl⟩⟩ (sameC_same exL1 (by decide))
  have s2 : Ctr Try.prog 42 [.rs 2 exL2.length (rowsC exL2), .rs 2 5 (rowOf 2 [.i .i64 1, .i .i64 3, .i .i64 4, .i .i64 4, .i .i64 0, .i .i64 0, .i .i64 5, .i .i64 5, .i .i64 2, .i .i64 2])] [] (.b true) :=
    Ctr.of_eq (args := [.rs 2 exL2.length (rowsC exL2), .rs 2 exL2.length (rowsC exL2)]) ⟨AVEq.refl _, ⟨rfl, rfl, five5 rfl rfl rfl rfl rfl⟩⟩ (sameC_same exL2 (by decide))
  have i1 : Ctr Try.prog 43 [.rs 1 2 (rowsI [0, 2]), .rs 1 2 (rowOf 1 [.i .i64 0, .i .i64 2])] [] (.b true) :=
    Ctr.of_eq (args := [.rs 1 2 (rowsI [0, 2]), .rs 1 2 (rowsI [0, 2])]) ⟨AVEq.refl _, ⟨rfl, rfl, two rfl rfl⟩⟩ (ints43_same [0, 2] (by decide))
  repeat refine Or.inl ?_
  refine ⟨_, _, c1, ?_⟩
  refine ⟨⟨rfl, rfl, rfl, four4 rfl rfl rfl rfl⟩, ?_⟩
  repeat refine Or.inl ?_
  refine ⟨_, _, three_fn, ?_⟩
  repeat refine Or.inl ?_
  refine ⟨_, _, c2, ?_⟩
  repeat refine Or.inl ?_
  refine ⟨[], _, s1, ?_⟩
  repeat refine Or.inl ?_
  refine ⟨[], _, s2, ?_⟩
  repeat refine Or.inl ?_
  refine ⟨_, _, fun _ => three_fn, ?_⟩
  repeat refine Or.inl ?_
  refine ⟨_, _, fun _ => c3, ?_⟩
  repeat refine Or.inl ?_
  refine ⟨[], _, fun _ => i1, ?_⟩
  repeat refine Or.inl ?_
  refine ⟨_, _, fun _ => three_fn, ?_⟩
  repeat refine Or.inl ?_
  refine ⟨[], _, fun _ => c5, ?_⟩
  repeat refine Or.inl ?_
  refine ⟨_, _, fun _ => three_fn, ?_⟩
  repeat refine Or.inl ?_
  refine ⟨[], _, fun _ => c4, ?_⟩
  exact RetIs.b rfl

theorem few_false {C : List Cm} {P : List Pf} {n m : Int} (h : (!(decide ((C.length : Int) ≤ n) && decide ((P.length : Int) ≤ m))) = false) : (C.length : Int) ≤ n ∧ (P.length : Int) ≤ m := by
  simpa using h

set_option maxRecDepth 20000 in
set_option maxHeartbeats 4000000 in
theorem claimTells_fn (C : List Cm) (P : List Pf) : Ctr Try.prog 8 [.rs 2 C.length (rowsM C), .rs 3 P.length (rowsP P)] [] (.b true) := by
  refine fn_of_exec tabOk Try.func8 (by kernel_rfl) rfl (N := Try.f8.ntmps) rfl (res := [.tmp 4]) rfl rfl [] ?_
  repeat refine Or.inl ?_
  refine ⟨[], _, smallC_fn, ?_⟩
  repeat refine Or.inl ?_
  refine ⟨[], _, few_fn C P 10 14, ?_⟩
  repeat refine Or.inl ?_
  refine ⟨fun _ => RetIs.b rfl, fun h => ?_⟩
  obtain ⟨hC, hP⟩ := few_false h
  have c1 := Clauses_fn C P (by omega) (by omega)
  have c2 := rClauses_fn C P (by omega) (by omega)
  have r1 := ClaimRight_fn C P (by omega) (by omega)
  have r2 := rClaimRight_fn C P (by omega) (by omega)
  have f1 := Conflict_fn C P (by omega) (by omega)
  have f2 := rConflict_fn C P (by omega) (by omega)
  have fin : ((true && (rightCP C P == rightCP C P)) && true) = true := by rw [beq_self_eq_true]; rfl
  rcases Clauses_or (C := C) (P := P) with ⟨hok, e⟩ | ⟨hok, k, hk, e⟩
  · obtain ⟨hR, hlen⟩ := okCP_iff.1 hok
    rw [e] at c1 c2
    have c1 : Ctr Try.prog 38 [.rs 2 C.length (rowsM C), .rs 3 P.length (rowsP P)] [.row 25 2 (clausesL C P).length (rowsC (clausesL C P))] (.tup [.so 0, .i .i64 0]) := c1
    have c2 : Ctr Try.prog 39 [.rs 2 C.length (rowsM C), .rs 3 P.length (rowsP P)] [.row 25 2 (clausesL C P).length (rowsC (clausesL C P))] (.tup [.so 0, .i .i64 0]) := c2
    repeat refine Or.inl ?_
    refine ⟨_, _, c1, ?_⟩
    repeat refine Or.inl ?_
    refine ⟨_, _, c2, ?_⟩
    repeat refine Or.inl ?_
    refine ⟨[], _, fun _ => r1, ?_⟩
    repeat refine Or.inl ?_
    refine ⟨[], _, fun _ => r2, ?_⟩
    repeat refine Or.inl ?_
    refine ⟨[], _, fun _ => sameC_same (clausesL C P) (by omega), ?_⟩
    cases ec : conflictY C P with
    | some l =>
      have hll : l.length ≤ 1000 := by
        unfold conflictY at ec
        split at ec
        · obtain rfl := Option.some.inj ec
          have := List.Subset.refl (cutDown (unsC C P) P.length (allI P.length))
          have h1 : (cutDown (unsC C P) P.length (allI P.length)).length ≤ (allI P.length).length := sub_len ((cutDown_asc (allI_asc P.length)).imp fun h => by omega) fun x hx => cutDown_sub hx
          rw [allI_len] at h1
          omega
        · cases ec
      rw [ec] at f1 f2
      repeat refine Or.inl ?_
      refine ⟨_, _, fun _ => f1, ?_⟩
      repeat refine Or.inl ?_
      refine ⟨_, _, fun _ => f2, ?_⟩
      repeat refine Or.inl ?_
      refine ⟨[], _, fun _ => ints43_same l (by omega), ?_⟩
      refine RetIs.b ?_
      show ((((true && (rightCP C P == rightCP C P)) && true) && ((0 : Int) == 0)) && true) = true
      rw [fin]
      rfl
    | none =>
      rw [ec] at f1 f2
      repeat refine Or.inl ?_
      refine ⟨_, _, fun _ => f1, ?_⟩
      repeat refine Or.inl ?_
      refine ⟨_, _, fun _ => f2, ?_⟩
      repeat refine Or.inl ?_
      refine ⟨[], _, fun _ => ints43_nil, ?_⟩
      refine RetIs.b ?_
      show ((((true && (rightCP C P == rightCP C P)) && true) && ((0 : Int) == 0)) && true) = true
      rw [fin]
      rfl
  · have ec : conflictY C P = none := if_neg (fun hh => by rw [hh.1] at hok; cases hok)
    rw [e, (okC_no hk).1, (okC_no hk).2] at c1 c2
    rw [ec] at f1 f2
    repeat refine Or.inl ?_
    refine ⟨_, _, c1, ?_⟩
    repeat refine Or.inl ?_
    refine ⟨_, _, c2, ?_⟩
    repeat refine Or.inl ?_
    refine ⟨[], _, fun _ => r1, ?_⟩
    repeat refine Or.inl ?_
    refine ⟨[], _, fun _ => r2, ?_⟩
    repeat refine Or.inl ?_
    refine ⟨[], _, fun _ => sameC_nil, ?_⟩
    repeat refine Or.inl ?_
    refine ⟨_, _, fun _ => f1, ?_⟩
    repeat refine Or.inl ?_
    refine ⟨_, _, fun _ => f2, ?_⟩
    repeat refine Or.inl ?_
    refine ⟨[], _, fun _ => ints43_nil, ?_⟩
    refine RetIs.b ?_
    show ((((true && (rightCP C P == rightCP C P)) && true) && (k == k)) && true) = true
    rw [fin, beq_self_eq_true]
    rfl
end Go.Proofs.Ytilhaifmfiobhaa
end
