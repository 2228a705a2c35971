/-
  Several texts in one: V4, V5, V6, V7, V8, V9, Y11, Z5.
-/
import Derived.Test.YtilhaifmfiobhaaMg19

section
/-
  Rights: the claims by which an account may use a right; Holds.
-/
namespace Go.Proofs.Ytilhaifmfiobhaa
open Go.Eng

def usesB (C : List Cm) (G : List Gt) (grp a r : Int) (i : Nat) : Bool := (C.getD i dCm).acc == a && hasG G grp (C.getD i dCm).per r
def litsGTo (C : List Cm) (G : List Gt) (grp a r : Int) (k : Nat) : List Int := (List.range k).flatMap fun i => if usesB C G grp a r i = true then [2 * (i : Int)] else []
def litsG (C : List Cm) (G : List Gt) (grp a r : Int) : List Int := litsGTo C G grp a r C.length
theorem litsGTo_succ (C : List Cm) (G : List Gt) (grp a r : Int) (k : Nat) : litsGTo C G grp a r (k + 1) = litsGTo C G grp a r k ++ (if usesB C G grp a r k = true then [2 * (k : Int)] else []) := by
  unfold litsGTo
  rw [List.range_succ, List.flatMap_append]
  simp
theorem litsGTo_len (C : List Cm) (G : List Gt) (grp a r : Int) : ∀ k, (litsGTo C G grp a r k).length ≤ k
  | 0 => by simp [litsGTo]
  | k + 1 => by
    have := litsGTo_len C G grp a r k
    rw [litsGTo_succ, List.length_append]
    split <;> simp <;> omega
theorem litsG_len (C : List Cm) (G : List Gt) (grp a r : Int) : (litsG C G grp a r).length ≤ C.length := litsGTo_len _ _ _ _ _ _
theorem mem_litsG {C : List Cm} {G : List Gt} {grp a r x : Int} : x ∈ litsG C G grp a r ↔ ∃ i, i < C.length ∧ usesB C G grp a r i = true ∧ x = 2 * (i : Int) := by
  unfold litsG litsGTo
  rw [List.mem_flatMap]
  constructor
  · rintro ⟨i, hi, h⟩
    by_cases hu : usesB C G grp a r i = true
    · rw [if_pos hu] at h
      exact ⟨i, List.mem_range.1 hi, hu, List.mem_singleton.1 h⟩
    · rw [if_neg hu] at h
      cases h
  · rintro ⟨i, hi, hu, rfl⟩
    exact ⟨i, List.mem_range.2 hi, by rw [if_pos hu]; simp⟩
theorem litsG_ok {C : List Cm} {G : List Gt} {grp a r : Int} : ∀ x ∈ litsG C G grp a r, 0 ≤ x ∧ x < 2 * (C.length : Int) := by
  intro x hx
  obtain ⟨i, hi, _, rfl⟩ := mem_litsG.1 hx
  omega

def gB (y : List (Int × Bool)) (p : Int) : Bool := (mget y p).getD false
theorem lookH (y : List (Int × Bool)) (p : Int) : LookOk y.length (fun i => .i .i64 (y.getD i dIB).1) (fun i => .b (y.getD i dIB).2) (.i .i64 p) (.b (gB y p)) (.b false) (mget y p).isSome := lookOk_mget (kf := .i .i64) (vf := .b) (d := dIB) i64_inj p false

set_option maxRecDepth 20000 in
set_option maxHeartbeats 4000000 in
theorem literalsG_fn (C : List Cm) (P : List Pf) (G : List Gt) (hC : C.length ≤ 1000) (grp r : Int) (y : List (Int × Bool)) (hy : IsHas G grp r y) (a : Int) :
    Ctr Try.prog 106 [probA C P y, .i .i64 a] [.row 3 1 (litsG C G grp a r).length (rowsI (litsG C G grp a r))] (.so 0) := by
  refine fn_of_exec tabOk Try.func106 (by kernel_rfl) rfl (N := Try.f106.ntmps) rfl (res := [.tmp 4]) rfl rfl [] ?_
  repeat refine Or.inl ?_
  refine ⟨[(5, 3, 1)], Nat, fun k => k ≤ C.length, fun k => [⟨13, [], .i .i64 k⟩, ⟨5, [], .so 0⟩], fun k => [⟨0, [], .row 3 1 (litsGTo C G grp a r k).length (rowsI (litsGTo C G grp a r k))⟩], fun k => C.length - k,
    ⟨0, [], Nat.zero_le _, rfl, rfl, rfl, rfl, rfl, ⟨⟨rfl, rfl⟩, rfl⟩, ⟨rfl, rfl, rfl, fun j hj => by cases hj⟩⟩, ?_⟩
  intro k hk
  have hk : k ≤ C.length := hk
  have hll := litsGTo_len C G grp a r k
  refine .inl ⟨fun hc => ?_, fun hc => ?_⟩
  · have hc := dlt hc
    have ek : (k : Int).toNat = k := Int.toNat_natCast k
    have hst := litsGTo_succ C G grp a r k
    have hu : ((C.getD (k : Int).toNat dCm).acc == a && gB y (C.getD (k : Int).toNat dCm).per) = usesB C G grp a r k := by
      rw [ek]
      unfold usesB gB
      rw [hy]
    repeat refine Or.inl ?_
    refine ⟨⟨by omega, by omega⟩, ?_⟩
    repeat refine Or.inl ?_
    refine ⟨_, _, ⟨fun _ => ⟨fun _ _ => rfl, rfl, lookH y _⟩, ?_⟩⟩
    repeat refine Or.inl ?_
    refine ⟨fun h => ?_, fun h => ?_⟩
    · have h : ((C.getD (k : Int).toNat dCm).acc == a && gB y (C.getD (k : Int).toNat dCm).per) = true := h
      rw [hu] at h
      rw [if_pos h] at hst
      refine ⟨fits (by omega), ?_⟩
      refine ⟨k + 1, [(0, 3)], by dsimp only; omega, by dsimp only; omega, rfl, rfl, rfl, rfl, rfl, ⟨⟨rfl, wr (by omega) (by omega)⟩, rfl⟩, snocZ_row _ _ ?_⟩
      rw [hst, wr (by omega) (by omega)]
    · have h : ((C.getD (k : Int).toNat dCm).acc == a && gB y (C.getD (k : Int).toNat dCm).per) = false := h
      rw [hu] at h
      rw [if_neg (by rw [h]; decide), List.append_nil] at hst
      refine ⟨k + 1, [], by dsimp only; omega, by dsimp only; omega, rfl, rfl, rfl, rfl, rfl, ⟨⟨rfl, wr (by omega) (by omega)⟩, rfl⟩, same_row hst⟩
  · have hc := dnlt hc
    obtain rfl : k = C.length := by omega
    exact RetIs.so rfl rfl (fun _ _ => rfl) (fun _ _ => rfl)

set_option maxRecDepth 20000 in
theorem holds1_fn (C : List Cm) (P : List Pf) (G : List Gt) (hC : C.length ≤ 1000) (hl : (clausesL C P).length < 2 ^ 62) (grp r : Int) (y : List (Int × Bool)) (hy : IsHas G grp r y) (a : Int) :
    Ctr Try.prog 105 [probA C P y, .i .i64 a] [] (.b (followsB (clausesL C P) C.length (litsG C G grp a r))) := by
  refine fn_of_exec tabOk Try.func105 (by kernel_rfl) rfl (N := Try.f105.ntmps) rfl (res := [.tmp 4]) rfl rfl [] ?_
  have hll := litsG_len C G grp a r
  repeat refine Or.inl ?_
  refine ⟨_, _, literalsG_fn C P G hC grp r y hy a, ?_⟩
  repeat refine Or.inl ?_
  refine ⟨[], _, Follows_fn (clausesL C P) hl C.length (litsG C G grp a r) (by omega), ?_⟩
  exact RetIs.b rfl

def holdsY (C : List Cm) (P : List Pf) (G : List Gt) (grp a r : Int) : Bool := decide (poseE C P G r = 0) && followsB (clausesL C P) C.length (litsG C G grp a r)
set_option maxRecDepth 20000 in
set_option maxHeartbeats 4000000 in
theorem Holds_fn (C : List Cm) (P : List Pf) (G : List Gt) (hC : C.length ≤ 1000) (hP : P.length < 2 ^ 62) (hG : G.length < 2 ^ 62) (grp a r : Int) :
    Ctr Try.prog 60 [.rs 2 C.length (rowsM C), .rs 3 P.length (rowsP P), .rs 3 G.length (rowsG G), .i .i64 grp, .i .i64 a, .i .i64 r] [] (.tup [.b (holdsY C P G grp a r), .i .i64 (poseE C P G r)]) := by
  refine fn_of_exec tabOk Try.func60 (by kernel_rfl) rfl (N := Try.f60.ntmps) rfl (res := [.tmp 12, .tmp 13]) rfl rfl [] ?_
  by_cases he : poseE C P G r = 0
  · have hlen := (okCP_iff.1 (pose_ok he).2.1).2
    have hh : holdsY C P G grp a r = followsB (clausesL C P) C.length (litsG C G grp a r) := by
      unfold holdsY
      rw [decide_eq_true he, Bool.true_and]
    rw [hh, he]
    refine .inr (.inr ⟨true, [], rfl, _, _, _, _, _, pose_yes C P G (by omega) hP hG grp r he, fun y hy => ?_⟩)
    repeat refine Or.inl ?_
    refine ⟨fun h => (by cases h), fun _ => ?_⟩
    repeat refine Or.inl ?_
    refine ⟨[], _, holds1_fn C P G hC (by omega) grp r y hy a, ?_⟩
    exact ⟨⟨[], ⟨⟨⟨rfl, rfl, AVEq.refl _⟩, trivial⟩, trivial, rfl⟩, rfl, trivial⟩⟩
  · have hh : holdsY C P G grp a r = false := by
      unfold holdsY
      rw [decide_eq_false he, Bool.false_and]
    rw [hh]
    repeat refine Or.inl ?_
    refine ⟨[], _, pose_no C P G (by omega) hP hG grp r he, ?_⟩
    repeat refine Or.inl ?_
    refine ⟨fun _ => ?_, fun h => ?_⟩
    · exact ⟨⟨[], ⟨⟨⟨rfl, rfl, AVEq.refl _⟩, trivial⟩, trivial, rfl⟩, rfl, trivial⟩⟩
    · have h : (poseE C P G r != 0) = false := h
      rw [bne_eq_false_iff_eq] at h
      exact absurd h he
end Go.Proofs.Ytilhaifmfiobhaa
end

section
/-
  Rights: Holders, Gained, Lost.
-/
namespace Go.Proofs.Ytilhaifmfiobhaa
open Go.Eng

/-! ### who holds a right -/
def folB (C : List Cm) (P : List Pf) (G : List Gt) (grp a r : Int) : Bool := followsB (clausesL C P) C.length (litsG C G grp a r)
/-- The accounts that hold the right, as they come first. -/
def hdTo (C : List Cm) (F : Int → Bool) : Nat → List Int
  | 0 => []
  | k + 1 => if (!hasN (hdTo C F k) (C.getD k dCm).acc && F (C.getD k dCm).acc) = true then hdTo C F k ++ [(C.getD k dCm).acc] else hdTo C F k
def holdL (C : List Cm) (P : List Pf) (G : List Gt) (grp r : Int) : List Int := sortI (hdTo C (fun a => folB C P G grp a r) C.length)
theorem hdTo_len (C : List Cm) (F : Int → Bool) : ∀ k, (hdTo C F k).length ≤ k
  | 0 => Nat.le_refl _
  | k + 1 => by
    have := hdTo_len C F k
    unfold hdTo
    split
    · rw [List.length_append, List.length_singleton]; omega
    · omega
theorem hdTo_spec (C : List Cm) (F : Int → Bool) : ∀ k, (hdTo C F k).Nodup ∧ ∀ a, a ∈ hdTo C F k ↔ F a = true ∧ ∃ i, i < k ∧ (C.getD i dCm).acc = a
  | 0 => ⟨List.nodup_nil, fun a => ⟨fun h => (by cases h), fun ⟨_, i, hi, _⟩ => absurd hi (Nat.not_lt_zero i)⟩⟩
  | k + 1 => by
    obtain ⟨h1, h2⟩ := hdTo_spec C F k
    unfold hdTo
    by_cases hc : (!hasN (hdTo C F k) (C.getD k dCm).acc && F (C.getD k dCm).acc) = true
    · rw [if_pos hc]
      rw [Bool.and_eq_true, Bool.not_eq_true', ← Bool.not_eq_true, hasN_iff] at hc
      refine ⟨?_, fun a => ?_⟩
      · rw [List.nodup_append]
        refine ⟨h1, by simp, fun x hx b hb => ?_⟩
        rw [List.mem_singleton.1 hb]
        rintro rfl
        exact hc.1 hx
      · rw [List.mem_append, List.mem_singleton, h2]
        constructor
        · rintro (⟨h3, i, hi, h4⟩ | rfl)
          · exact ⟨h3, i, by omega, h4⟩
          · exact ⟨hc.2, k, by omega, rfl⟩
        · rintro ⟨h3, i, hi, h4⟩
          by_cases hik : i < k
          · exact .inl ⟨h3, i, hik, h4⟩
          · obtain rfl : i = k := by omega
            exact .inr h4.symm
    · rw [if_neg hc]
      refine ⟨h1, fun a => ?_⟩
      rw [h2]
      constructor
      · rintro ⟨h3, i, hi, h4⟩
        exact ⟨h3, i, by omega, h4⟩
      · rintro ⟨h3, i, hi, h4⟩
        by_cases hik : i < k
        · exact ⟨h3, i, hik, h4⟩
        · obtain rfl : i = k := by omega
          have : a ∈ hdTo C F i := Classical.byContradiction fun hn => hc (by
            rw [Bool.and_eq_true, Bool.not_eq_true', ← Bool.not_eq_true, hasN_iff, h4]
            exact ⟨hn, h3⟩)
          exact (h2 a).1 this
theorem holdL_len (C : List Cm) (P : List Pf) (G : List Gt) (grp r : Int) : (holdL C P G grp r).length ≤ C.length := by
  unfold holdL
  rw [sortI_length]
  exact hdTo_len _ _ _
theorem mem_holdL {C : List Cm} {P : List Pf} {G : List Gt} {grp r a : Int} : a ∈ holdL C P G grp r ↔ folB C P G grp a r = true ∧ ∃ i, i < C.length ∧ (C.getD i dCm).acc = a := by
  unfold holdL
  rw [sortI_mem]
  exact (hdTo_spec C (fun a => folB C P G grp a r) C.length).2 a
theorem holdL_asc (C : List Cm) (P : List Pf) (G : List Gt) (grp r : Int) : (holdL C P G grp r).Pairwise (· < ·) := by
  have h1 : (holdL C P G grp r).Pairwise (· ≤ ·) := sortI_le _
  have h2 : (holdL C P G grp r).Nodup := (List.mergeSort_perm _ _).nodup_iff.2 (hdTo_spec C (fun a => folB C P G grp a r) C.length).1
  exact (h1.and h2).imp fun h => by omega

def nilL : AV := .val (.slice none 0 0)
set_option maxRecDepth 20000 in
set_option maxHeartbeats 4000000 in
theorem Holders_yes (C : List Cm) (P : List Pf) (G : List Gt) (hC : C.length ≤ 1000) (hP : P.length < 2 ^ 62) (hG : G.length < 2 ^ 62) (grp r : Int) (he : poseE C P G r = 0) :
    Ctr Try.prog 64 [.rs 2 C.length (rowsM C), .rs 3 P.length (rowsP P), .rs 3 G.length (rowsG G), .i .i64 grp, .i .i64 r] [.row 3 1 (holdL C P G grp r).length (rowsI (holdL C P G grp r))] (.tup [.so 0, .i .i64 0]) := by
  refine fn_of_exec tabOk Try.func64 (by kernel_rfl) rfl (N := Try.f64.ntmps) rfl (res := [.tmp 10, .tmp 11]) rfl rfl [] ?_
  have hlen := (okCP_iff.1 (pose_ok he).2.1).2
  refine .inr (.inr ⟨true, [], rfl, _, _, _, _, _, pose_yes C P G (by omega) hP hG grp r he, fun y hy => ?_⟩)
  repeat refine Or.inl ?_
  refine ⟨fun h => (by cases h), fun _ => ?_⟩
  repeat refine Or.inl ?_
  refine ⟨[(14, 3, 1)], Nat, fun k => k ≤ C.length, fun k => [⟨31, [], .i .i64 k⟩, ⟨14, [], .so 0⟩], fun k => [⟨0, [], .row 3 1 (hdTo C (fun a => folB C P G grp a r) k).length (rowsI (hdTo C (fun a => folB C P G grp a r) k))⟩], fun k => C.length - k,
    ⟨0, [], Nat.zero_le _, rfl, rfl, rfl, rfl, rfl, ⟨⟨rfl, rfl⟩, rfl⟩, ⟨rfl, rfl, rfl, fun j hj => absurd hj (Nat.not_lt_zero j)⟩⟩, ?_⟩
  intro k hk
  have hk : k ≤ C.length := hk
  have hll := hdTo_len C (fun a => folB C P G grp a r) k
  refine .inl ⟨fun hc => ?_, fun hc => ?_⟩
  · have hc := dlt hc
    have hc : (k : Int) < C.length := hc
    have ek : (k : Int).toNat = k := Int.toNat_natCast k
    have gk : C.getD (k : Int).toNat dCm = C.getD k dCm := by rw [ek]
    have hst : hdTo C (fun a => folB C P G grp a r) (k + 1) = if (!hasN (hdTo C (fun a => folB C P G grp a r) k) (C.getD k dCm).acc && folB C P G grp (C.getD k dCm).acc r) = true then hdTo C (fun a => folB C P G grp a r) k ++ [(C.getD k dCm).acc] else hdTo C (fun a => folB C P G grp a r) k := rfl
    repeat refine Or.inl ?_
    refine ⟨⟨by omega, by omega⟩, ?_⟩
    repeat refine Or.inl ?_
    refine ⟨[], _, contains_fn (hdTo C (fun a => folB C P G grp a r) k) (by omega) (C.getD (k : Int).toNat dCm).acc, ?_⟩
    repeat refine Or.inl ?_
    refine ⟨[], .b (folB C P G grp (C.getD (k : Int).toNat dCm).acc r), fun _ => holds1_fn C P G hC (by omega) grp r y hy _, ?_⟩
    repeat refine Or.inl ?_
    refine ⟨fun h => ?_, fun h => ?_⟩
    · have h : (!hasN (hdTo C (fun a => folB C P G grp a r) k) (C.getD (k : Int).toNat dCm).acc && folB C P G grp (C.getD (k : Int).toNat dCm).acc r) = true := h
      rw [gk] at h
      rw [if_pos h] at hst
      refine ⟨fits (by omega), ?_⟩
      refine ⟨k + 1, [(0, 3)], by dsimp only; omega, by dsimp only; omega, rfl, rfl, rfl, rfl, rfl, ⟨⟨rfl, wr (by omega) (by omega)⟩, rfl⟩, snocZ_row _ (C.getD (k : Int).toNat dCm).acc (by rw [gk]; exact hst)⟩
    · have h : (!hasN (hdTo C (fun a => folB C P G grp a r) k) (C.getD (k : Int).toNat dCm).acc && folB C P G grp (C.getD (k : Int).toNat dCm).acc r) = false := h
      rw [gk] at h
      rw [if_neg (by rw [h]; decide)] at hst
      refine ⟨k + 1, [], by dsimp only; omega, by dsimp only; omega, rfl, rfl, rfl, rfl, rfl, ⟨⟨rfl, wr (by omega) (by omega)⟩, rfl⟩, same_row hst⟩
  · have hc := dnlt hc
    have hc : (C.length : Int) ≤ k := hc
    obtain rfl : k = C.length := by omega
    refine .inr (.inr ⟨false, [0], rfl, Unit, _, _, _, _, sortRow_ctr sortsRow (kt := 3) (hdTo C (fun a => folB C P G grp a r) C.length) (rowsI (hdTo C (fun a => folB C P G grp a r) C.length)) (fun _ _ => rfl) (by omega), fun _ _ => ?_⟩)
    have hn : (holdL C P G grp r).length = (hdTo C (fun a => folB C P G grp a r) C.length).length := sortI_length _
    exact ⟨⟨[(0, 0)], ⟨⟨⟨rfl, rfl, AVEq.refl _⟩, trivial⟩, ⟨⟨rfl, rfl, trivial, ⟨rfl, rfl, hn.symm, fun _ _ => rfl⟩⟩, trivial⟩, rfl⟩, rfl, fun _ _ => rfl⟩⟩

set_option maxRecDepth 20000 in
theorem Holders_no (C : List Cm) (P : List Pf) (G : List Gt) (hC : C.length ≤ 1000) (hP : P.length < 2 ^ 62) (hG : G.length < 2 ^ 62) (grp r : Int) (he : poseE C P G r ≠ 0) :
    Ctr Try.prog 64 [.rs 2 C.length (rowsM C), .rs 3 P.length (rowsP P), .rs 3 G.length (rowsG G), .i .i64 grp, .i .i64 r] [] (.tup [nilL, .i .i64 (poseE C P G r)]) := by
  refine fn_of_exec tabOk Try.func64 (by kernel_rfl) rfl (N := Try.f64.ntmps) rfl (res := [.tmp 10, .tmp 11]) rfl rfl [] ?_
  repeat refine Or.inl ?_
  refine ⟨[], _, pose_no C P G (by omega) hP hG grp r he, ?_⟩
  repeat refine Or.inl ?_
  refine ⟨fun _ => ?_, fun h => ?_⟩
  · exact ⟨⟨[], ⟨⟨⟨rfl, rfl, AVEq.refl _⟩, trivial⟩, trivial, rfl⟩, rfl, trivial⟩⟩
  · have h : (poseE C P G r != 0) = false := h
    rw [bne_eq_false_iff_eq] at h
    exact absurd h he

/-! ### one list without the other's numbers -/
set_option maxRecDepth 20000 in
theorem differ_some (a b : List Int) (ha : a.length ≤ 1000000) (hb : b.length < 2 ^ 62) (hx : ∃ x ∈ a, hasN b x = true) :
    CtrM Try.prog 112 false [.row 3 1 a.length (rowsI a)] [.so 0, .rs 1 b.length (rowsI b)] (fun _ : Unit => True) (fun _ => [.dead]) (fun _ => [.row 3 1 (minusL a b).length (rowsI (minusL a b))]) (fun _ => .so 1) := by
  refine fn_of_execM tabOk Try.func112 (by kernel_rfl) rfl (N := Try.f112.ntmps) rfl (res := [.tmp 4]) rfl false false [.row 3 1 a.length (rowsI a)] _ _ _ _ rfl (fun h => by cases h) [] ?_
  refine .inr (.inr ⟨false, [0], rfl, Unit, _, _, _, _, delF_some a ha 127 _ (hasN b) (fun x _ => differ1_fn b hb x) hx, fun _ _ => ?_⟩)
  exact ⟨⟨(), [(1, 2)], trivial, ⟨⟨⟨rfl, rfl, rfl⟩, trivial⟩, ⟨⟨rfl, rfl, trivial, trivial⟩, ⟨rfl, rfl, trivial, ⟨rfl, rfl, rfl, fun _ _ => rfl⟩⟩, trivial⟩, rfl⟩, rfl, fun _ => ⟨rfl, trivial, fun _ _ => rfl⟩⟩⟩
set_option maxRecDepth 20000 in
theorem differ_none (a b : List Int) (ha : a.length ≤ 1000000) (hb : b.length < 2 ^ 62) (hx : ∀ x ∈ a, hasN b x = false) :
    CtrM Try.prog 112 false [.row 3 1 a.length (rowsI a)] [.so 0, .rs 1 b.length (rowsI b)] (fun _ : Unit => True) (fun _ => [.row 3 1 a.length (rowsI a)]) (fun _ => []) (fun _ => .so 0) := by
  refine fn_of_execM tabOk Try.func112 (by kernel_rfl) rfl (N := Try.f112.ntmps) rfl (res := [.tmp 4]) rfl false false [.row 3 1 a.length (rowsI a)] _ _ _ _ rfl (fun h => by cases h) [] ?_
  refine .inr (.inr ⟨false, [0], rfl, Unit, _, _, _, _, delF_none a ha 127 _ (hasN b) (fun x _ => differ1_fn b hb x) hx, fun _ _ => ?_⟩)
  exact ⟨⟨(), [], trivial, ⟨⟨⟨rfl, rfl, rfl⟩, trivial⟩, ⟨⟨rfl, rfl, trivial, ⟨rfl, rfl, rfl, fun _ _ => rfl⟩⟩, trivial⟩, rfl⟩, rfl, fun _ => ⟨rfl, fun _ _ => rfl⟩⟩⟩
theorem minus_none {a b : List Int} (hx : ∀ x ∈ a, hasN b x = false) : minusL a b = a := by
  unfold minusL keepF
  rw [List.filter_eq_self]
  intro x h
  rw [hx x h]
  rfl
theorem minusL_len (a b : List Int) : (minusL a b).length ≤ a.length := keepF_len _ _
theorem mem_minus {a b : List Int} {x : Int} : x ∈ minusL a b ↔ x ∈ a ∧ x ∉ b := by
  unfold minusL keepF
  rw [List.mem_filter, Bool.not_eq_true', ← Bool.not_eq_true, hasN_iff]
theorem minus_cases (a b : List Int) : (∃ x ∈ a, hasN b x = true) ∨ ∀ x ∈ a, hasN b x = false := by
  by_cases h : ∃ x ∈ a, hasN b x = true
  · exact .inl h
  · refine .inr fun x hx => ?_
    cases hb : hasN b x with
    | false => rfl
    | true => exact absurd ⟨x, hx, hb⟩ h

/-! ### with a proof more, and with one less -/
theorem snocP_rs (P : List Pf) (p : Pf) : AVEq (.rs 3 (P ++ [p]).length (rowsP (P ++ [p]))) (.rs 3 (P.length + 1) (catG P.length (rowsP P) (rowOf 3 p.av))) :=
  ⟨rfl, by rw [List.length_append]; rfl, fun k hk => catP2 P p k hk⟩
set_option maxRecDepth 20000 in
set_option maxHeartbeats 4000000 in
theorem Gained_yes (C : List Cm) (P : List Pf) (G : List Gt) (p : Pf) (hC : C.length ≤ 1000) (hP : P.length ≤ 1000) (hG : G.length < 2 ^ 62) (grp r : Int) (he : poseE C P G r = 0) (he2 : poseE C (P ++ [p]) G r = 0) :
    Ctr Try.prog 66 [.rs 2 C.length (rowsM C), .rs 3 P.length (rowsP P), .rs 3 G.length (rowsG G), .i .i64 grp, .i .i64 r, .ag p.av] [.row 3 1 (minusL (holdL C (P ++ [p]) G grp r) (holdL C P G grp r)).length (rowsI (minusL (holdL C (P ++ [p]) G grp r) (holdL C P G grp r)))] (.tup [.so 0, .i .i64 0]) := by
  refine fn_of_exec tabOk Try.func66 (by kernel_rfl) rfl (N := Try.f66.ntmps) rfl (res := [.tmp 12, .tmp 13]) rfl rfl [] ?_
  have hl1 := holdL_len C P G grp r
  have hl2 := holdL_len C (P ++ [p]) G grp r
  have hpl : (P ++ [p]).length = P.length + 1 := by rw [List.length_append]; rfl
  repeat refine Or.inl ?_
  refine ⟨_, _, Holders_yes C P G hC (by omega) hG grp r he, ?_⟩
  repeat refine Or.inl ?_
  refine ⟨fun h => (by cases h), fun _ => ?_⟩
  repeat refine Or.inl ?_
  refine ⟨_, _, cloneP_fn P (by omega), ?_⟩
  repeat refine Or.inl ?_
  refine ⟨fits (by omega), ?_⟩
  repeat refine Or.inl ?_
  refine ⟨_, _, Ctr.of_eq (args := [.rs 2 C.length (rowsM C), .rs 3 (P ++ [p]).length (rowsP (P ++ [p])), .rs 3 G.length (rowsG G), .i .i64 grp, .i .i64 r]) ⟨AVEq.refl _, snocP_rs P p, AVEq.refl _, AVEq.refl _, AVEq.refl _⟩ (Holders_yes C (P ++ [p]) G hC (by omega) hG grp r he2), ?_⟩
  repeat refine Or.inl ?_
  refine ⟨fun h => (by cases h), fun _ => ?_⟩
  rcases minus_cases (holdL C (P ++ [p]) G grp r) (holdL C P G grp r) with hx | hx
  · refine .inr (.inr ⟨false, [5], rfl, Unit, _, _, _, _, differ_some _ _ (by omega) (by omega) hx, fun _ _ => ?_⟩)
    exact ⟨⟨[(0, 6)], ⟨⟨⟨rfl, rfl, AVEq.refl _⟩, trivial⟩, ⟨⟨rfl, rfl, trivial, ⟨rfl, rfl, rfl, fun _ _ => rfl⟩⟩, trivial⟩, rfl⟩, rfl, fun _ _ => rfl⟩⟩
  · rw [minus_none hx]
    refine .inr (.inr ⟨false, [5], rfl, Unit, _, _, _, _, differ_none _ _ (by omega) (by omega) hx, fun _ _ => ?_⟩)
    exact ⟨⟨[(0, 5)], ⟨⟨⟨rfl, rfl, AVEq.refl _⟩, trivial⟩, ⟨⟨rfl, rfl, trivial, ⟨rfl, rfl, rfl, fun _ _ => rfl⟩⟩, trivial⟩, rfl⟩, rfl, fun _ _ => rfl⟩⟩
set_option maxRecDepth 20000 in
set_option maxHeartbeats 4000000 in
theorem Gained_e1 (C : List Cm) (P : List Pf) (G : List Gt) (p : Pf) (hC : C.length ≤ 1000) (hP : P.length ≤ 1000) (hG : G.length < 2 ^ 62) (grp r : Int) (he : poseE C P G r ≠ 0) :
    Ctr Try.prog 66 [.rs 2 C.length (rowsM C), .rs 3 P.length (rowsP P), .rs 3 G.length (rowsG G), .i .i64 grp, .i .i64 r, .ag p.av] [] (.tup [nilL, .i .i64 (poseE C P G r)]) := by
  refine fn_of_exec tabOk Try.func66 (by kernel_rfl) rfl (N := Try.f66.ntmps) rfl (res := [.tmp 12, .tmp 13]) rfl rfl [] ?_
  repeat refine Or.inl ?_
  refine ⟨[], _, Holders_no C P G hC (by omega) hG grp r he, ?_⟩
  repeat refine Or.inl ?_
  refine ⟨fun _ => ?_, fun h => ?_⟩
  · exact ⟨⟨[], ⟨⟨⟨rfl, rfl, AVEq.refl _⟩, trivial⟩, trivial, rfl⟩, rfl, trivial⟩⟩
  · have h : (poseE C P G r != 0) = false := h
    rw [bne_eq_false_iff_eq] at h
    exact absurd h he
set_option maxRecDepth 20000 in
set_option maxHeartbeats 4000000 in
theorem Gained_e2 (C : List Cm) (P : List Pf) (G : List Gt) (p : Pf) (hC : C.length ≤ 1000) (hP : P.length ≤ 1000) (hG : G.length < 2 ^ 62) (grp r : Int) (he : poseE C P G r = 0) (he2 : poseE C (P ++ [p]) G r ≠ 0) :
    Ctr Try.prog 66 [.rs 2 C.length (rowsM C), .rs 3 P.length (rowsP P), .rs 3 G.length (rowsG G), .i .i64 grp, .i .i64 r, .ag p.av] [] (.tup [nilL, .i .i64 (poseE C (P ++ [p]) G r)]) := by
  refine fn_of_exec tabOk Try.func66 (by kernel_rfl) rfl (N := Try.f66.ntmps) rfl (res := [.tmp 12, .tmp 13]) rfl rfl [] ?_
  have hpl : (P ++ [p]).length = P.length + 1 := by rw [List.length_append]; rfl
  repeat refine Or.inl ?_
  refine ⟨_, _, Holders_yes C P G hC (by omega) hG grp r he, ?_⟩
  repeat refine Or.inl ?_
  refine ⟨fun h => (by cases h), fun _ => ?_⟩
  repeat refine Or.inl ?_
  refine ⟨_, _, cloneP_fn P (by omega), ?_⟩
  repeat refine Or.inl ?_
  refine ⟨fits (by omega), ?_⟩
  repeat refine Or.inl ?_
  refine ⟨_, _, Ctr.of_eq (args := [.rs 2 C.length (rowsM C), .rs 3 (P ++ [p]).length (rowsP (P ++ [p])), .rs 3 G.length (rowsG G), .i .i64 grp, .i .i64 r]) ⟨AVEq.refl _, snocP_rs P p, AVEq.refl _, AVEq.refl _, AVEq.refl _⟩ (Holders_no C (P ++ [p]) G hC (by omega) hG grp r he2), ?_⟩
  repeat refine Or.inl ?_
  refine ⟨fun _ => ?_, fun h => ?_⟩
  · exact ⟨⟨[], ⟨⟨⟨rfl, rfl, AVEq.refl _⟩, trivial⟩, trivial, rfl⟩, rfl, trivial⟩⟩
  · have h : (poseE C (P ++ [p]) G r != 0) = false := h
    rw [bne_eq_false_iff_eq] at h
    exact absurd h he2
set_option maxRecDepth 20000 in
set_option maxHeartbeats 4000000 in
theorem Lost_out (C : List Cm) (P : List Pf) (G : List Gt) (i : Int) (hi : i < 0 ∨ (P.length : Int) ≤ i) (grp r : Int) :
    Ctr Try.prog 68 [.rs 2 C.length (rowsM C), .rs 3 P.length (rowsP P), .rs 3 G.length (rowsG G), .i .i64 grp, .i .i64 r, .i .i64 i] [] (.tup [nilL, .i .i64 4]) := by
  refine fn_of_exec tabOk Try.func68 (by kernel_rfl) rfl (N := Try.f68.ntmps) rfl (res := [.tmp 12, .tmp 13]) rfl rfl [] ?_
  repeat refine Or.inl ?_
  refine ⟨fun _ => ?_, fun h => ?_⟩
  · exact ⟨⟨[], ⟨⟨⟨rfl, rfl, AVEq.refl _⟩, trivial⟩, trivial, rfl⟩, rfl, trivial⟩⟩
  · have h : (decide (i < 0) || decide (i ≥ (P.length : Int))) = false := h
    rw [Bool.or_eq_false_iff, decide_eq_false_iff_not, decide_eq_false_iff_not] at h
    omega
set_option maxRecDepth 20000 in
set_option maxHeartbeats 4000000 in
theorem Lost_e1 (C : List Cm) (P : List Pf) (G : List Gt) (i : Nat) (hC : C.length ≤ 1000) (hP : P.length ≤ 1000) (hG : G.length < 2 ^ 62) (grp r : Int) (hi : i < P.length) (he : poseE C P G r ≠ 0) :
    Ctr Try.prog 68 [.rs 2 C.length (rowsM C), .rs 3 P.length (rowsP P), .rs 3 G.length (rowsG G), .i .i64 grp, .i .i64 r, .i .i64 i] [] (.tup [nilL, .i .i64 (poseE C P G r)]) := by
  refine fn_of_exec tabOk Try.func68 (by kernel_rfl) rfl (N := Try.f68.ntmps) rfl (res := [.tmp 12, .tmp 13]) rfl rfl [] ?_
  repeat refine Or.inl ?_
  refine ⟨fun h => ?_, fun _ => ?_⟩
  · have h : (decide ((i : Int) < 0) || decide ((i : Int) ≥ (P.length : Int))) = true := h
    rw [Bool.or_eq_true, decide_eq_true_eq, decide_eq_true_eq] at h
    omega
  repeat refine Or.inl ?_
  refine ⟨[], _, Holders_no C P G hC (by omega) hG grp r he, ?_⟩
  repeat refine Or.inl ?_
  refine ⟨fun _ => ?_, fun h => ?_⟩
  · exact ⟨⟨[], ⟨⟨⟨rfl, rfl, AVEq.refl _⟩, trivial⟩, trivial, rfl⟩, rfl, trivial⟩⟩
  · have h : (poseE C P G r != 0) = false := h
    rw [bne_eq_false_iff_eq] at h
    exact absurd h he
set_option maxRecDepth 20000 in
set_option maxHeartbeats 4000000 in
theorem Lost_e2 (C : List Cm) (P : List Pf) (G : List Gt) (i : Nat) (hC : C.length ≤ 1000) (hP : P.length ≤ 1000) (hG : G.length < 2 ^ 62) (grp r : Int) (hi : i < P.length) (he : poseE C P G r = 0) (he2 : poseE C (P.eraseIdx i) G r ≠ 0) :
    Ctr Try.prog 68 [.rs 2 C.length (rowsM C), .rs 3 P.length (rowsP P), .rs 3 G.length (rowsG G), .i .i64 grp, .i .i64 r, .i .i64 i] [] (.tup [nilL, .i .i64 (poseE C (P.eraseIdx i) G r)]) := by
  refine fn_of_exec tabOk Try.func68 (by kernel_rfl) rfl (N := Try.f68.ntmps) rfl (res := [.tmp 12, .tmp 13]) rfl rfl [] ?_
  repeat refine Or.inl ?_
  refine ⟨fun h => ?_, fun _ => ?_⟩
  · have h : (decide ((i : Int) < 0) || decide ((i : Int) ≥ (P.length : Int))) = true := h
    rw [Bool.or_eq_true, decide_eq_true_eq, decide_eq_true_eq] at h
    omega
  have hel : (P.eraseIdx i).length = P.length - 1 := by rw [List.length_eraseIdx, if_pos hi]
  repeat refine Or.inl ?_
  refine ⟨_, _, Holders_yes C P G hC (by omega) hG grp r he, ?_⟩
  repeat refine Or.inl ?_
  refine ⟨fun h => (by cases h), fun _ => ?_⟩
  repeat refine Or.inl ?_
  refine ⟨_, _, cloneP_fn P (by omega), ?_⟩
  refine .inr (.inr ⟨false, [1], rfl, Unit, _, _, _, _, deleteP_fn P (by omega) i hi _ (wr (by omega) (by omega)), fun _ _ => ?_⟩)
  repeat refine Or.inl ?_
  refine ⟨_, _, Holders_no C (P.eraseIdx i) G hC (by omega) hG grp r he2, ?_⟩
  repeat refine Or.inl ?_
  refine ⟨fun _ => ?_, fun h => ?_⟩
  · exact ⟨⟨[], ⟨⟨⟨rfl, rfl, AVEq.refl _⟩, trivial⟩, trivial, rfl⟩, rfl, trivial⟩⟩
  · have h : (poseE C (P.eraseIdx i) G r != 0) = false := h
    rw [bne_eq_false_iff_eq] at h
    exact absurd h he2
set_option maxRecDepth 20000 in
set_option maxHeartbeats 4000000 in
theorem Lost_yes (C : List Cm) (P : List Pf) (G : List Gt) (i : Nat) (hC : C.length ≤ 1000) (hP : P.length ≤ 1000) (hG : G.length < 2 ^ 62) (grp r : Int) (hi : i < P.length) (he : poseE C P G r = 0) (he2 : poseE C (P.eraseIdx i) G r = 0) :
    Ctr Try.prog 68 [.rs 2 C.length (rowsM C), .rs 3 P.length (rowsP P), .rs 3 G.length (rowsG G), .i .i64 grp, .i .i64 r, .i .i64 i] [.row 3 1 (minusL (holdL C P G grp r) (holdL C (P.eraseIdx i) G grp r)).length (rowsI (minusL (holdL C P G grp r) (holdL C (P.eraseIdx i) G grp r)))] (.tup [.so 0, .i .i64 0]) := by
  refine fn_of_exec tabOk Try.func68 (by kernel_rfl) rfl (N := Try.f68.ntmps) rfl (res := [.tmp 12, .tmp 13]) rfl rfl [] ?_
  repeat refine Or.inl ?_
  refine ⟨fun h => ?_, fun _ => ?_⟩
  · have h : (decide ((i : Int) < 0) || decide ((i : Int) ≥ (P.length : Int))) = true := h
    rw [Bool.or_eq_true, decide_eq_true_eq, decide_eq_true_eq] at h
    omega
  have hl1 := holdL_len C P G grp r
  have hl2 := holdL_len C (P.eraseIdx i) G grp r
  have hel : (P.eraseIdx i).length = P.length - 1 := by rw [List.length_eraseIdx, if_pos hi]
  repeat refine Or.inl ?_
  refine ⟨_, _, Holders_yes C P G hC (by omega) hG grp r he, ?_⟩
  repeat refine Or.inl ?_
  refine ⟨fun h => (by cases h), fun _ => ?_⟩
  repeat refine Or.inl ?_
  refine ⟨_, _, cloneP_fn P (by omega), ?_⟩
  refine .inr (.inr ⟨false, [1], rfl, Unit, _, _, _, _, deleteP_fn P (by omega) i hi _ (wr (by omega) (by omega)), fun _ _ => ?_⟩)
  repeat refine Or.inl ?_
  refine ⟨_, _, Holders_yes C (P.eraseIdx i) G hC (by omega) hG grp r he2, ?_⟩
  repeat refine Or.inl ?_
  refine ⟨fun h => (by cases h), fun _ => ?_⟩
  rcases minus_cases (holdL C P G grp r) (holdL C (P.eraseIdx i) G grp r) with hx | hx
  · refine .inr (.inr ⟨false, [0], rfl, Unit, _, _, _, _, differ_some _ _ (by omega) (by omega) hx, fun _ _ => ?_⟩)
    exact ⟨⟨[(0, 4)], ⟨⟨⟨rfl, rfl, AVEq.refl _⟩, trivial⟩, ⟨⟨rfl, rfl, trivial, ⟨rfl, rfl, rfl, fun _ _ => rfl⟩⟩, trivial⟩, rfl⟩, rfl, fun _ _ => rfl⟩⟩
  · rw [minus_none hx]
    refine .inr (.inr ⟨false, [0], rfl, Unit, _, _, _, _, differ_none _ _ (by omega) (by omega) hx, fun _ _ => ?_⟩)
    exact ⟨⟨[(0, 0)], ⟨⟨⟨rfl, rfl, AVEq.refl _⟩, trivial⟩, ⟨⟨rfl, rfl, trivial, ⟨rfl, rfl, rfl, fun _ _ => rfl⟩⟩, trivial⟩, rfl⟩, rfl, fun _ _ => rfl⟩⟩
end Go.Proofs.Ytilhaifmfiobhaa
end

section
/-
  Rights: a world in which an account does not use a right.
-/
namespace Go.Proofs.Ytilhaifmfiobhaa
open Go.Eng

theorem good_noX {l : List Cl} {n : Nat} {lits : List Int} {vals : List Bool} : Good l n (lits.map opp) vals ↔ Good l n [] vals ∧ ∀ x ∈ lits, tv vals x = false := by
  constructor
  · rintro ⟨h1, h2, h3⟩
    refine ⟨⟨h1, h2, fun x hx => by cases hx⟩, fun x hx => ?_⟩
    have := h3 (opp x) (List.mem_map.2 ⟨x, hx, rfl⟩)
    rw [tv_opp] at this
    simpa using this
  · rintro ⟨⟨h1, h2, _⟩, h3⟩
    refine ⟨h1, h2, fun z hz => ?_⟩
    obtain ⟨x, hx, rfl⟩ := List.mem_map.1 hz
    rw [tv_opp, h3 x hx]
    rfl
/-- What is given says just what was decided. -/
structure FG (L : List Cl) (n : Nat) (lits : List Int) (vs : List Bool) (given : List Int) (i : Nat) : Prop where
  ok : ∀ x ∈ given, 0 ≤ x ∧ x < 2 * (n : Int)
  eq : ∀ vals, Good L n [] vals → ((∀ x ∈ given, tv vals x = false) ↔ (∀ x ∈ lits, tv vals x = false) ∧ ∀ j, j < i → vals.getD j false = vs.getD j false)
section
variable {L : List Cl} {n : Nat} {lits : List Int} {vs : List Bool} {given : List Int} {i : Nat}
theorem FG.init (h : ∀ x, x ∈ given ↔ x ∈ lits) (hl : ∀ x ∈ lits, 0 ≤ x ∧ x < 2 * (n : Int)) : FG L n lits vs given 0 :=
  ⟨fun x hx => hl x ((h x).1 hx), fun _ _ => ⟨fun hg => ⟨fun x hx => hg x ((h x).2 hx), fun j hj => absurd hj (Nat.not_lt_zero j)⟩, fun hg x hx => hg.1 x ((h x).1 hx)⟩⟩
theorem FG.skip (h : FG L n lits vs given i) (hf : IsFirst L n (lits.map opp) vs) (hm : 2 * (i : Int) ∈ lits) : vs.getD i false = false ∧ FG L n lits vs given (i + 1) := by
  have hv : vs.getD i false = false := by
    have := (good_noX.1 hf.good).2 _ hm
    rwa [tv_even] at this
  refine ⟨hv, h.ok, fun vals g => ?_⟩
  rw [h.eq vals g]
  constructor
  · rintro ⟨h1, h2⟩
    refine ⟨h1, fun j hj => ?_⟩
    by_cases hji : j < i
    · exact h2 j hji
    · obtain rfl : j = i := by omega
      have := h1 _ hm
      rw [tv_even] at this
      rw [this, hv]
  · rintro ⟨h1, h2⟩
    exact ⟨h1, fun j hj => h2 j (by omega)⟩
theorem FG.snoc (h : FG L n lits vs given i) {x : Int} (hx : 0 ≤ x ∧ x < 2 * (n : Int)) (ht : ∀ vals, tv vals x = false ↔ vals.getD i false = vs.getD i false) : FG L n lits vs (given ++ [x]) (i + 1) := by
  refine ⟨fun y hy => ?_, fun vals g => ?_⟩
  · rcases List.mem_append.1 hy with hy | hy
    · exact h.ok y hy
    · rw [List.mem_singleton.1 hy]; exact hx
  · constructor
    · intro hg
      obtain ⟨h1, h2⟩ := (h.eq vals g).1 fun y hy => hg y (List.mem_append_left _ hy)
      refine ⟨h1, fun j hj => ?_⟩
      by_cases hji : j < i
      · exact h2 j hji
      · obtain rfl : j = i := by omega
        exact (ht vals).1 (hg x (by simp))
    · rintro ⟨h1, h2⟩ y hy
      rcases List.mem_append.1 hy with hy | hy
      · exact (h.eq vals g).2 ⟨h1, fun j hj => h2 j (by omega)⟩ y hy
      · rw [List.mem_singleton.1 hy]
        exact (ht vals).2 (h2 i (by omega))
theorem FG.yes (h : FG L n lits vs given i) (hf : IsFirst L n (lits.map opp) vs) (hi : i < n) (hF : followsB L n (given ++ [2 * (i : Int)]) = true) : vs.getD i false = true ∧ FG L n lits vs (given ++ [2 * (i : Int) + 1]) (i + 1) := by
  have hv : vs.getD i false = true := by
    cases hv : vs.getD i false with
    | true => rfl
    | false =>
      have g := good_noX.1 hf.good
      have g1 : Good L n [] vs := g.1
      obtain ⟨x, hx, ht⟩ := (followsB_iff.1 hF).2.2 vs (by rw [Int.toNat_natCast]; exact g1)
      rcases List.mem_append.1 hx with hx | hx
      · have := (h.eq vs g1).2 ⟨g.2, fun _ _ => rfl⟩ x hx
        rw [ht] at this
        cases this
      · rw [List.mem_singleton.1 hx, tv_even, hv] at ht
        cases ht
  refine ⟨hv, h.snoc (by omega) fun _ => ?_⟩
  rw [tv_odd, hv]
  simp
theorem FG.no (h : FG L n lits vs given i) (hR : RightP L n) (hf : IsFirst L n (lits.map opp) vs) (hi : i < n) (hF : followsB L n (given ++ [2 * (i : Int)]) = false) : vs.getD i false = false ∧ FG L n lits vs (given ++ [2 * (i : Int)]) (i + 1) := by
  have hv : vs.getD i false = false := by
    cases hv : vs.getD i false with
    | false => rfl
    | true =>
      have : followsB L n (given ++ [2 * (i : Int)]) = true := by
        refine followsB_iff.2 ⟨hR, fun x hx => ?_, fun vals g => Classical.byContradiction fun hn => ?_⟩
        · rcases List.mem_append.1 hx with hx | hx
          · exact h.ok x hx
          · rw [List.mem_singleton.1 hx]; omega
        · rw [Int.toNat_natCast] at g
          have hall : ∀ x ∈ given ++ [2 * (i : Int)], tv vals x = false := fun x hx => by
            cases ht : tv vals x with
            | false => rfl
            | true => exact absurd ⟨x, hx, ht⟩ hn
          obtain ⟨h1, h2⟩ := (h.eq vals g).1 fun y hy => hall y (List.mem_append_left _ hy)
          have h3 := hf.least i hi hv vals (good_noX.2 ⟨g, h1⟩) h2
          have h4 := hall (2 * (i : Int)) (by simp)
          rw [tv_even, h3] at h4
          cases h4
      rw [hF] at this
      cases this
  refine ⟨hv, h.snoc (by omega) fun vals => ?_⟩
  rw [tv_even, hv]
end

/-! ### the numbers of a set, from the least on -/
def ginTo (S : List Int) (k : Nat) : List Int := ((List.range k).map fun l : Nat => (l : Int)).filter fun x => decide (x ∈ S)
theorem ginTo_succ (S : List Int) (k : Nat) : ginTo S (k + 1) = if (k : Int) ∈ S then ginTo S k ++ [(k : Int)] else ginTo S k := by
  unfold ginTo
  rw [List.range_succ, List.map_append, List.filter_append]
  by_cases h : (k : Int) ∈ S
  · rw [if_pos h]; simp [h]
  · rw [if_neg h]; simp [h]
theorem ginTo_len (S : List Int) (k : Nat) : (ginTo S k).length ≤ k := by
  unfold ginTo
  refine Nat.le_trans (List.length_filter_le _ _) ?_
  simp
theorem mem_ginTo {S : List Int} {k : Nat} {x : Int} : x ∈ ginTo S k ↔ (0 ≤ x ∧ x < k) ∧ x ∈ S := by
  unfold ginTo
  rw [List.mem_filter, List.mem_map, decide_eq_true_eq]
  constructor
  · rintro ⟨⟨l, hl, rfl⟩, h⟩
    have := List.mem_range.1 hl
    exact ⟨by omega, h⟩
  · rintro ⟨h1, h⟩
    exact ⟨⟨x.toNat, List.mem_range.2 (by omega), by omega⟩, h⟩

theorem upTo_no {vs : List Bool} {i : Nat} (hv : vs.getD i false = false) (q : Nat) : (decide (q < i) && vs.getD q false) = (decide (q < i + 1) && vs.getD q false) := by
  by_cases h : q = i
  · rw [h, hv, Bool.and_false, Bool.and_false]
  · have : decide (q < i + 1) = decide (q < i) := by rw [Bool.eq_iff_iff, decide_eq_true_eq, decide_eq_true_eq]; omega
    rw [this]
theorem upTo_yes {vs : List Bool} {i : Nat} (hv : vs.getD i false = true) (q : Nat) : (if q = (i : Int).toNat then Go.Eng.over 0 [AV.b true] [AV.b (decide (q < i) && vs.getD q false)] else [AV.b (decide (q < i) && vs.getD q false)]) = [AV.b (decide (q < i + 1) && vs.getD q false)] := by
  rw [Int.toNat_natCast]
  by_cases h : q = i
  · rw [if_pos h, h, hv, decide_eq_true (show i < i + 1 by omega)]
    rfl
  · rw [if_neg h]
    have : decide (q < i + 1) = decide (q < i) := by rw [Bool.eq_iff_iff, decide_eq_true_eq, decide_eq_true_eq]; omega
    rw [this]
theorem snocI_rs (o : List Int) (x : Int) {x' : Int} (hx : x' = x) : AVEq (.rs 1 (o ++ [x]).length (rowsI (o ++ [x]))) (.rs 1 (o.length + 1) (catG o.length (rowsI o) (rowOf 1 [.i .i64 x']))) := by
  subst hx
  refine ⟨rfl, by rw [List.length_append]; rfl, fun q hq => ?_⟩
  rw [List.length_append, List.length_singleton] at hq
  show _ = [AV.i .i64 ((o ++ [x']).getD q 0)]
  rw [getD_snocI]
  unfold catG
  by_cases h : q < o.length
  · rw [if_pos h, if_pos h]
    rfl
  · obtain rfl : q = o.length := by omega
    rw [if_neg h, if_neg h, if_pos rfl, Nat.sub_self]
    rfl

def setR (S : List Int) : AV := .rm S.length (fun i => .i .i64 (S.getD i 0)) (fun _ => .b true)
set_option maxRecDepth 20000 in
set_option maxHeartbeats 4000000 in
theorem firstG_fn (C : List Cm) (P : List Pf) (hC : C.length ≤ 200) (hok : okCP C P = true) (y : List (Int × Bool)) (lits S : List Int) (hS : ∀ x, x ∈ S ↔ x ∈ lits) (hl : ∀ x ∈ lits, 0 ≤ x ∧ x < 2 * (C.length : Int)) (vs : List Bool)
    (hf : IsFirst (clausesL C P) C.length (lits.map opp) vs) :
    Ctr Try.prog 107 [probA C P y, setR S] [.row 4 1 vs.length (rowsB vs)] (.tup [.so 0, .b true]) := by
  refine fn_of_exec tabOk Try.func107 (by kernel_rfl) rfl (N := Try.f107.ntmps) rfl (res := [.tmp 4, .tmp 5]) rfl rfl [] ?_
  have hlen := (okCP_iff.1 hok).2
  have hR : RightP (clausesL C P) C.length := clausesL_right (okCP_iff.1 hok).1 hlen
  have hg := good_noX.1 hf.good
  have hvl : vs.length = C.length := hg.1.len
  have w2 : IntKind.i64.wrap (2 * (C.length : Int)) = 2 * C.length := wr (by omega) (by omega)
  repeat refine Or.inl ?_
  refine ⟨⟨rfl, by omega, by rw [Int.toNat_natCast]; show 1 * C.length ≤ _; omega⟩, ?_⟩
  repeat refine Or.inl ?_
  refine ⟨[(8, 3, 1)], Nat, fun k => k ≤ 2 * C.length, fun k => [⟨20, [], .i .i64 k⟩, ⟨8, [], .so 1⟩], fun k => [⟨1, [], .row 3 1 (ginTo S k).length (rowsI (ginTo S k))⟩], fun k => 2 * C.length - k,
    ⟨0, [], Nat.zero_le _, rfl, rfl, rfl, rfl, rfl, ⟨⟨rfl, rfl⟩, rfl⟩, ⟨rfl, rfl, rfl, fun j hj => absurd hj (Nat.not_lt_zero j)⟩⟩, ?_⟩
  intro k hk
  have hk : k ≤ 2 * C.length := hk
  have hgl := ginTo_len S k
  refine .inl ⟨fun hc => ?_, fun hc => ?_⟩
  · have hc := dlt hc
    rw [w2] at hc
    have hst := ginTo_succ S k
    repeat refine Or.inl ?_
    refine ⟨_, _, ⟨fun _ _ => rfl, rfl, lookOk_set S k⟩, ?_⟩
    repeat refine Or.inl ?_
    refine ⟨fun h => ?_, fun h => ?_⟩
    · have h : decide ((k : Int) ∈ S) = true := h
      rw [if_pos (of_decide_eq_true h)] at hst
      refine ⟨fits (by omega), ?_⟩
      refine ⟨k + 1, [(1, 3)], by dsimp only; omega, by dsimp only; omega, rfl, rfl, rfl, rfl, rfl, ⟨⟨rfl, wr (by omega) (by omega)⟩, rfl⟩, snocZ_row _ (k : Int) hst⟩
    · have h : decide ((k : Int) ∈ S) = false := h
      rw [if_neg (of_decide_eq_false h)] at hst
      refine ⟨k + 1, [], by dsimp only; omega, by dsimp only; omega, rfl, rfl, rfl, rfl, rfl, ⟨⟨rfl, wr (by omega) (by omega)⟩, rfl⟩, same_row hst⟩
  · have hc := dnlt hc
    rw [w2] at hc
    obtain rfl : k = 2 * C.length := by omega
    repeat refine Or.inl ?_
    refine ⟨[], List Int × Nat, fun x => x.2 ≤ C.length ∧ x.1.length ≤ 2 * C.length + x.2 ∧ FG (clausesL C P) C.length lits vs x.1 x.2, fun x => [⟨32, [], .i .i64 x.2⟩, ⟨8, [], .so 1⟩],
      fun x => [⟨0, [], .row 4 1 C.length fun q => [.b (decide (q < x.2) && vs.getD q false)]⟩, ⟨1, [], .row 3 1 x.1.length (rowsI x.1)⟩], fun x => C.length - x.2,
      ⟨(ginTo S (2 * C.length), 0), [], ⟨Nat.zero_le _, by dsimp only; omega, FG.init (fun x => ?_) hl⟩, rfl, rfl, rfl, rfl, rfl, ⟨⟨rfl, rfl⟩, rfl⟩, ⟨⟨rfl, rfl, rfl, fun q hq => ?_⟩, ⟨rfl, rfl, rfl, fun _ _ => rfl⟩⟩⟩, ?_⟩
    · rw [mem_ginTo, hS]
      constructor
      · exact fun h => h.2
      · intro h
        have := hl x h
        exact ⟨by omega, h⟩
    · rfl
    rintro ⟨given, i⟩ ⟨hi, hgn, hF⟩
    dsimp only at hi hgn hF
    refine .inl ⟨fun hc => ?_, fun hc => ?_⟩
    · have hc := dlt hc
      have hc : (i : Int) < C.length := hc
      have w3 : IntKind.i64.wrap (2 * (i : Int)) = 2 * i := wr (by omega) (by omega)
      repeat refine Or.inl ?_
      refine ⟨_, _, ⟨fun _ _ => rfl, rfl, lookOk_set S _⟩, ?_⟩
      repeat refine Or.inl ?_
      refine ⟨fun h => ?_, fun h => ?_⟩
      · have h : decide (IntKind.i64.wrap (2 * (i : Int)) ∈ S) = true := h
        rw [w3, decide_eq_true_eq, hS] at h
        obtain ⟨hv, hF2⟩ := hF.skip hf h
        refine ⟨(given, i + 1), [], ⟨by dsimp only; omega, by dsimp only; omega, hF2⟩, by dsimp only; omega, rfl, rfl, rfl, rfl, rfl, ⟨⟨rfl, wr (by omega) (by omega)⟩, rfl⟩, ⟨⟨rfl, rfl, rfl, fun q _ => ?_⟩, ⟨rfl, rfl, rfl, fun _ _ => rfl⟩⟩⟩
        show [AV.b (decide (q < i) && vs.getD q false)] = [AV.b (decide (q < i + 1) && vs.getD q false)]
        rw [upTo_no hv]
      · repeat refine Or.inl ?_
        refine ⟨_, _, cloneI_fn given (by omega), ?_⟩
        repeat refine Or.inl ?_
        refine ⟨fits (by omega), ?_⟩
        repeat refine Or.inl ?_
        refine ⟨[], _, Ctr.of_eq (args := [.rs 2 (clausesL C P).length (rowsC (clausesL C P)), .i .i64 C.length, .rs 1 (given ++ [2 * (i : Int)]).length (rowsI (given ++ [2 * (i : Int)]))]) ⟨AVEq.refl _, AVEq.refl _, snocI_rs given _ w3⟩ (Follows_fn (clausesL C P) (by omega) C.length (given ++ [2 * (i : Int)]) (by rw [List.length_append, List.length_singleton]; omega)), ?_⟩
        repeat refine Or.inl ?_
        refine ⟨fun h2 => ?_, fun h2 => ?_⟩
        · have h2 : followsB (clausesL C P) C.length (given ++ [2 * (i : Int)]) = true := h2
          obtain ⟨hv, hF2⟩ := hF.yes hf (by omega) h2
          have w4 : IntKind.i64.wrap (IntKind.i64.wrap (2 * (i : Int)) + 1) = 2 * i + 1 := by rw [w3]; exact wr (by omega) (by omega)
          repeat refine Or.inl ?_
          refine ⟨⟨by dsimp only; omega, by dsimp only; omega⟩, by dsimp only; omega, ?_⟩
          refine ⟨fits (by dsimp only; omega), ?_⟩
          refine ⟨(given ++ [2 * (i : Int) + 1], i + 1), [(1, 6)], ⟨by dsimp only; omega, by dsimp only; rw [List.length_append, List.length_singleton]; omega, hF2⟩, by dsimp only; omega, rfl, rfl, rfl, rfl, rfl, ⟨⟨rfl, wr (by omega) (by omega)⟩, rfl⟩, ⟨⟨rfl, rfl, rfl, fun q _ => upTo_yes hv q⟩, snocZ_row _ _ (by rw [w4])⟩⟩
        · have h2 : followsB (clausesL C P) C.length (given ++ [2 * (i : Int)]) = false := h2
          obtain ⟨hv, hF2⟩ := hF.no hR hf (by omega) h2
          repeat refine Or.inl ?_
          refine ⟨fits (by dsimp only; omega), ?_⟩
          refine ⟨(given ++ [2 * (i : Int)], i + 1), [(1, 6)], ⟨by dsimp only; omega, by dsimp only; rw [List.length_append, List.length_singleton]; omega, hF2⟩, by dsimp only; omega, rfl, rfl, rfl, rfl, rfl, ⟨⟨rfl, wr (by omega) (by omega)⟩, rfl⟩, ⟨⟨rfl, rfl, rfl, fun q _ => ?_⟩, snocZ_row _ _ (by rw [w3])⟩⟩
          show [AV.b (decide (q < i) && vs.getD q false)] = [AV.b (decide (q < i + 1) && vs.getD q false)]
          rw [upTo_no hv]
    · have hc := dnlt hc
      have hc : (C.length : Int) ≤ i := hc
      obtain rfl : i = C.length := by omega
      have hchk : checkB (clausesL C P) C.length vs = true := checkB_iff.2 ⟨hR, by rw [Int.toNat_natCast]; exact hg.1⟩
      have hrow : ∀ q, q < C.length → [AV.b (decide (q < C.length) && vs.getD q false)] = rowsB vs q := fun q hq => by
        rw [decide_eq_true hq, Bool.true_and]
        rfl
      have hck := Check_fn (clausesL C P) (by omega) C.length vs (by omega)
      rw [hchk] at hck
      repeat refine Or.inl ?_
      refine ⟨[], _, Ctr.of_eq (args := [.rs 2 (clausesL C P).length (rowsC (clausesL C P)), .i .i64 C.length, .rs 1 vs.length (rowsB vs)]) ⟨AVEq.refl _, AVEq.refl _, ⟨rfl, hvl.symm, fun q hq => hrow q (by omega)⟩⟩ hck, ?_⟩
      exact RetIs.sob rfl hvl.symm (fun q hq => hrow q (by omega)) (fun _ _ => rfl) rfl
end Go.Proofs.Ytilhaifmfiobhaa
end

section
/-
  Rights: Counter.
-/
namespace Go.Proofs.Ytilhaifmfiobhaa
open Go.Eng

theorem fol_no {C : List Cm} {P : List Pf} {G : List Gt} {grp a r : Int} (hok : okCP C P = true) (h : folB C P G grp a r = false) : ∃ vs, IsFirst (clausesL C P) C.length ((litsG C G grp a r).map opp) vs := by
  rcases firstL_or (clausesL C P) C.length ((litsG C G grp a r).map opp) with ⟨vs, _, hf⟩ | ⟨_, hn⟩
  · exact ⟨vs, hf⟩
  · have hR : RightP (clausesL C P) C.length := clausesL_right (okCP_iff.1 hok).1 (okCP_iff.1 hok).2
    have : folB C P G grp a r = true := followsB_iff.2 ⟨hR, litsG_ok, fun vals g => Classical.byContradiction fun hx => hn ⟨vals, good_noX.2 ⟨by rw [Int.toNat_natCast] at g; exact g, fun x hxl => by
      cases ht : tv vals x with
      | false => rfl
      | true => exact absurd ⟨x, hxl, ht⟩ hx⟩⟩⟩
    rw [h] at this
    cases this
/-- The set of the literals. -/
def insTo (lits : List Int) (k : Nat) : List Int := (lits.take k).foldl ins []
theorem insTo_succ (lits : List Int) {k : Nat} (h : k < lits.length) : insTo lits (k + 1) = ins (insTo lits k) (lits.getD k 0) := by
  unfold insTo
  rw [List.take_succ_eq_append_getElem h, List.foldl_append]
  simp [List.getD, h]
theorem mem_insTo (lits : List Int) : ∀ k, k ≤ lits.length → ∀ x, x ∈ insTo lits k ↔ x ∈ lits.take k
  | 0, _, x => by simp [insTo]
  | k + 1, h, x => by
    rw [insTo_succ lits h, mem_ins, mem_insTo lits k (by omega), List.take_succ_eq_append_getElem h, List.mem_append, List.mem_singleton]
    simp [List.getD, show k < lits.length from h]
theorem mem_insAll (lits : List Int) (x : Int) : x ∈ insTo lits lits.length ↔ x ∈ lits := by
  rw [mem_insTo lits _ (Nat.le_refl _), List.take_length]

set_option maxRecDepth 20000 in
set_option maxHeartbeats 4000000 in
theorem Counter_e (C : List Cm) (P : List Pf) (G : List Gt) (hC : C.length ≤ 1000) (hP : P.length < 2 ^ 62) (hG : G.length < 2 ^ 62) (grp a r : Int) (he : poseE C P G r ≠ 0) :
    Ctr Try.prog 62 [.rs 2 C.length (rowsM C), .rs 3 P.length (rowsP P), .rs 3 G.length (rowsG G), .i .i64 grp, .i .i64 a, .i .i64 r] [] (.tup [nilL, .b false]) := by
  refine fn_of_exec tabOk Try.func62 (by kernel_rfl) rfl (N := Try.f62.ntmps) rfl (res := [.tmp 12, .tmp 13]) rfl rfl [] ?_
  have hb : (poseE C P G r != 0) = true := by rw [bne_iff_ne]; exact he
  repeat refine Or.inl ?_
  refine ⟨[], _, pose_no C P G (by omega) hP hG grp r he, ?_⟩
  repeat refine Or.inl ?_
  refine ⟨[], .b false, fun hg => ?_, ?_⟩
  · have h := hg.1
    exact absurd h (by rw [hb]; decide)
  repeat refine Or.inl ?_
  refine ⟨fun _ => ?_, fun h => ?_⟩
  · exact ⟨⟨[], ⟨⟨⟨rfl, rfl, AVEq.refl _⟩, trivial⟩, trivial, rfl⟩, rfl, trivial⟩⟩
  · have h : ((poseE C P G r != 0) || false) = false := h
    rw [hb] at h
    cases h

set_option maxRecDepth 20000 in
set_option maxHeartbeats 4000000 in
theorem Counter_h (C : List Cm) (P : List Pf) (G : List Gt) (hC : C.length ≤ 1000) (hP : P.length < 2 ^ 62) (hG : G.length < 2 ^ 62) (grp a r : Int) (he : poseE C P G r = 0) (hh : folB C P G grp a r = true) :
    Ctr Try.prog 62 [.rs 2 C.length (rowsM C), .rs 3 P.length (rowsP P), .rs 3 G.length (rowsG G), .i .i64 grp, .i .i64 a, .i .i64 r] [] (.tup [nilL, .b false]) := by
  refine fn_of_exec tabOk Try.func62 (by kernel_rfl) rfl (N := Try.f62.ntmps) rfl (res := [.tmp 12, .tmp 13]) rfl rfl [] ?_
  have hlen := (okCP_iff.1 (pose_ok he).2.1).2
  refine .inr (.inr ⟨true, [], rfl, _, _, _, _, _, pose_yes C P G (by omega) hP hG grp r he, fun y hy => ?_⟩)
  repeat refine Or.inl ?_
  refine ⟨[], .b (folB C P G grp a r), fun _ => holds1_fn C P G hC (by omega) grp r y hy a, ?_⟩
  repeat refine Or.inl ?_
  refine ⟨fun _ => ?_, fun h => ?_⟩
  · exact ⟨⟨[], ⟨⟨⟨rfl, rfl, AVEq.refl _⟩, trivial⟩, trivial, rfl⟩, rfl, trivial⟩⟩
  · have h : (((0 : Int) != 0) || folB C P G grp a r) = false := h
    rw [hh] at h
    cases h

set_option maxRecDepth 20000 in
set_option maxHeartbeats 4000000 in
theorem Counter_yes (C : List Cm) (P : List Pf) (G : List Gt) (hC : C.length ≤ 200) (hP : P.length < 2 ^ 62) (hG : G.length < 2 ^ 62) (grp a r : Int) (he : poseE C P G r = 0) (hh : folB C P G grp a r = false) (vs : List Bool)
    (hf : IsFirst (clausesL C P) C.length ((litsG C G grp a r).map opp) vs) :
    Ctr Try.prog 62 [.rs 2 C.length (rowsM C), .rs 3 P.length (rowsP P), .rs 3 G.length (rowsG G), .i .i64 grp, .i .i64 a, .i .i64 r] [.row 4 1 vs.length (rowsB vs)] (.tup [.so 0, .b true]) := by
  refine fn_of_exec tabOk Try.func62 (by kernel_rfl) rfl (N := Try.f62.ntmps) rfl (res := [.tmp 12, .tmp 13]) rfl rfl [] ?_
  have hok := (pose_ok he).2.1
  have hlen := (okCP_iff.1 hok).2
  have hll := litsG_len C G grp a r
  refine .inr (.inr ⟨true, [], rfl, _, _, _, _, _, pose_yes C P G (by omega) hP hG grp r he, fun y hy => ?_⟩)
  repeat refine Or.inl ?_
  refine ⟨[], .b (folB C P G grp a r), fun _ => holds1_fn C P G (by omega) (by omega) grp r y hy a, ?_⟩
  repeat refine Or.inl ?_
  refine ⟨fun h => ?_, fun _ => ?_⟩
  · have h : (((0 : Int) != 0) || folB C P G grp a r) = true := h
    rw [hh] at h
    cases h
  repeat refine Or.inl ?_
  refine ⟨_, _, literalsG_fn C P G (by omega) grp r y hy a, ?_⟩
  repeat refine Or.inl ?_
  refine ⟨[], Nat, fun k => k ≤ (litsG C G grp a r).length, fun k => [⟨40, [], .i .i64 k⟩], fun k => [⟨0, [], setO (insTo (litsG C G grp a r) k)⟩], fun k => (litsG C G grp a r).length - k,
    ⟨0, [], Nat.zero_le _, rfl, rfl, rfl, rfl, rfl, ⟨rfl, rfl⟩, ⟨rfl, rfl, fun k hk => absurd hk (Nat.not_lt_zero k)⟩⟩, ?_⟩
  intro k hk
  have hk : k ≤ (litsG C G grp a r).length := hk
  refine .inl ⟨fun hc => ?_, fun hc => ?_⟩
  · have hc := dlt hc
    have hst := insTo_succ (litsG C G grp a r) (k := k) (by omega)
    repeat refine Or.inl ?_
    refine ⟨⟨by omega, by omega⟩, by omega, ?_⟩
    repeat refine Or.inl ?_
    refine ⟨_, _, _, _, _, ⟨fun _ _ => rfl, rfl, updOk_set (insTo (litsG C G grp a r) k) ((litsG C G grp a r).getD k 0)⟩, ?_⟩
    refine ⟨k + 1, [], by dsimp only; omega, by dsimp only; omega, rfl, rfl, rfl, rfl, rfl, ⟨rfl, wr (by omega) (by omega)⟩, ?_⟩
    have ao : AOEq (setO (insTo (litsG C G grp a r) (k + 1))) (setO (ins (insTo (litsG C G grp a r) k) ((litsG C G grp a r).getD k 0))) := by
      rw [hst]
      exact AOEq.refl _
    exact ao
  · have hc := dnlt hc
    obtain rfl : k = (litsG C G grp a r).length := by omega
    repeat refine Or.inl ?_
    refine ⟨_, _, firstG_fn C P hC hok y (litsG C G grp a r) (insTo (litsG C G grp a r) (litsG C G grp a r).length) (mem_insAll _) litsG_ok vs hf, ?_⟩
    exact RetIs.sob rfl rfl (fun _ _ => rfl) (fun _ _ => rfl) rfl
end Go.Proofs.Ytilhaifmfiobhaa
end

section
/-
  Rights: the examples of the documentation.
-/
namespace Go.Proofs.Ytilhaifmfiobhaa
open Go.Eng

def exR : List Cm := [⟨5, 1⟩, ⟨5, 2⟩, ⟨6, 1⟩]
def exG : List Gt := [⟨0, 1, 3⟩, ⟨0, 2, 1⟩]
set_option maxRecDepth 20000 in
theorem claimsR_fn : Ctr Try.prog 102 [] [.row 73 2 exR.length (rowsM exR)] (.so 0) := by
  refine fn_of_exec tabOk Try.func102 (by kernel_rfl) rfl (N := Try.f102.ntmps) rfl (res := [.tmp 0]) rfl rfl [] ?_
  exact RetIs.so rfl rfl (three3 rfl rfl rfl) (fun _ _ => rfl)
set_option maxRecDepth 20000 in
theorem givenR_fn : Ctr Try.prog 103 [] [.row 68 3 exG.length (rowsG exG)] (.so 0) := by
  refine fn_of_exec tabOk Try.func103 (by kernel_rfl) rfl (N := Try.f103.ntmps) rfl (res := [.tmp 0]) rfl rfl [] ?_
  exact RetIs.so rfl rfl (two rfl rfl) (fun _ _ => rfl)
theorem holdL_of {C : List Cm} {P : List Pf} {G : List Gt} {grp r : Int} {L : List Int} (h : hdTo C (fun a => folB C P G grp a r) C.length = L) (ha : L.Pairwise (· < ·)) : holdL C P G grp r = L :=
  asc_unique (holdL_asc C P G grp r) ha fun x => by
    unfold holdL
    rw [h]
    exact sortI_mem
theorem exR1 : poseE exR [] exG 1 = 0 := by decide +kernel
theorem exR2 : holdL exR [] exG 0 1 = [] := holdL_of (by decide +kernel) (by decide)
theorem exR3 : (holdsY exR [⟨2, 0, 1⟩] exG 0 5 1, poseE exR [⟨2, 0, 1⟩] exG 1) = (true, 0) := by decide +kernel
theorem exR4 : (holdsY exR [⟨2, 0, 1⟩] exG 0 5 2, poseE exR [⟨2, 0, 1⟩] exG 2) = (false, 0) := by decide +kernel
theorem exR5 : folB exR [⟨2, 0, 1⟩] exG 0 5 2 = false := by decide +kernel
theorem exR6 : firstL (clausesL exR [⟨2, 0, 1⟩]) exR.length ((litsG exR exG 0 5 2).map opp) = some [false, true, false] := by decide +kernel
theorem exR7 : poseE exR [⟨0, 0, 0⟩] exG 3 = 0 := by decide +kernel
theorem exR8 : holdL exR [⟨0, 0, 0⟩] exG 0 3 = [5] := holdL_of (by decide +kernel) (by decide)
theorem exR9 : poseE exR [⟨0, 0, 0⟩, ⟨4, 0, 2⟩] exG 3 = 0 := by decide +kernel
theorem exRa : holdL exR [⟨0, 0, 0⟩, ⟨4, 0, 2⟩] exG 0 3 = [5, 6] := holdL_of (by decide +kernel) (by decide)
theorem exRb : (holdsY exR [⟨0, 0, 0⟩, ⟨0, 1, 0⟩] exG 0 5 1, poseE exR [⟨0, 0, 0⟩, ⟨0, 1, 0⟩] exG 1) = (false, 17) := by decide +kernel
theorem exRc : minusL [5, 6] [5] = [6] := by decide

abbrev rE : AV := .rs 3 1 (rowOf 3 [.i .i64 2, .i .i64 0, .i .i64 1])
abbrev rY : AV := .rs 3 1 (rowOf 3 [.i .i64 0, .i .i64 0, .i .i64 0])
abbrev rB : AV := .rs 3 2 (rowOf 3 [.i .i64 0, .i .i64 0, .i .i64 0, .i .i64 4, .i .i64 0, .i .i64 2])
abbrev rU : AV := .rs 3 2 (catG 1 (rowOf 3 [.i .i64 0, .i .i64 0, .i .i64 0]) (rowOf 3 [.i .i64 0, .i .i64 1, .i .i64 0]))
abbrev aR : AV := .rs 2 exR.length (rowsM exR)
abbrev aG : AV := .rs 3 exG.length (rowsG exG)

set_option maxRecDepth 20000 in
set_option maxHeartbeats 4000000 in
theorem smallR_fn : Ctr Try.prog 58 [] [] (.b true) := by
  refine fn_of_exec tabOk Try.func58 (by kernel_rfl) rfl (N := Try.f58.ntmps) rfl (res := [.tmp 0]) rfl rfl [] ?_
  have h1 : Ctr Try.prog 64 [aR, .val (.slice none 0 0), aG, .i .i64 0, .i .i64 1] [.row 3 1 0 (rowsI [])] (.tup [.so 0, .i .i64 0]) := by
    have := Holders_yes exR [] exG (by decide) (by decide) (by decide) 0 1 exR1
    rw [exR2] at this
    exact Ctr.of_eq (args := [aR, .rs 3 0 (rowsP []), aG, .i .i64 0, .i .i64 1]) ⟨AVEq.refl _, ⟨rfl, rfl⟩, AVEq.refl _, AVEq.refl _, AVEq.refl _⟩ this
  have h2 : Ctr Try.prog 60 [aR, rE, aG, .i .i64 0, .i .i64 5, .i .i64 1] [] (.tup [.b true, .i .i64 0]) := by
    have := Holds_fn exR [⟨2, 0, 1⟩] exG (by decide) (by decide) (by decide) 0 5 1
    rw [(Prod.mk.inj exR3).1, (Prod.mk.inj exR3).2] at this
    exact Ctr.of_eq (args := [aR, .rs 3 1 (rowsP [⟨2, 0, 1⟩]), aG, .i .i64 0, .i .i64 5, .i .i64 1]) ⟨AVEq.refl _, ⟨rfl, rfl, one rfl⟩, AVEq.refl _, AVEq.refl _, AVEq.refl _, AVEq.refl _⟩ this
  have h3 : Ctr Try.prog 60 [aR, rE, aG, .i .i64 0, .i .i64 5, .i .i64 2] [] (.tup [.b false, .i .i64 0]) := by
    have := Holds_fn exR [⟨2, 0, 1⟩] exG (by decide) (by decide) (by decide) 0 5 2
    rw [(Prod.mk.inj exR4).1, (Prod.mk.inj exR4).2] at this
    exact Ctr.of_eq (args := [aR, .rs 3 1 (rowsP [⟨2, 0, 1⟩]), aG, .i .i64 0, .i .i64 5, .i .i64 2]) ⟨AVEq.refl _, ⟨rfl, rfl, one rfl⟩, AVEq.refl _, AVEq.refl _, AVEq.refl _, AVEq.refl _⟩ this
  have h4 : Ctr Try.prog 62 [aR, rE, aG, .i .i64 0, .i .i64 5, .i .i64 2] [.row 4 1 3 (rowsB [false, true, false])] (.tup [.so 0, .b true]) :=
    Ctr.of_eq (args := [aR, .rs 3 1 (rowsP [⟨2, 0, 1⟩]), aG, .i .i64 0, .i .i64 5, .i .i64 2]) ⟨AVEq.refl _, ⟨rfl, rfl, one rfl⟩, AVEq.refl _, AVEq.refl _, AVEq.refl _, AVEq.refl _⟩
      (Counter_yes exR [⟨2, 0, 1⟩] exG (by decide) (by decide) (by decide) 0 5 2 (Prod.mk.inj exR4).2 exR5 _ (firstL_some.1 exR6))
  have h5 : Ctr Try.prog 64 [aR, rY, aG, .i .i64 0, .i .i64 3] [.row 3 1 1 (rowsI [5])] (.tup [.so 0, .i .i64 0]) := by
    have := Holders_yes exR [⟨0, 0, 0⟩] exG (by decide) (by decide) (by decide) 0 3 exR7
    rw [exR8] at this
    exact Ctr.of_eq (args := [aR, .rs 3 1 (rowsP [⟨0, 0, 0⟩]), aG, .i .i64 0, .i .i64 3]) ⟨AVEq.refl _, ⟨rfl, rfl, one rfl⟩, AVEq.refl _, AVEq.refl _, AVEq.refl _⟩ this
  have h6 : Ctr Try.prog 64 [aR, rB, aG, .i .i64 0, .i .i64 3] [.row 3 1 2 (rowsI [5, 6])] (.tup [.so 0, .i .i64 0]) := by
    have := Holders_yes exR [⟨0, 0, 0⟩, ⟨4, 0, 2⟩] exG (by decide) (by decide) (by decide) 0 3 exR9
    rw [exRa] at this
    exact Ctr.of_eq (args := [aR, .rs 3 2 (rowsP [⟨0, 0, 0⟩, ⟨4, 0, 2⟩]), aG, .i .i64 0, .i .i64 3]) ⟨AVEq.refl _, ⟨rfl, rfl, two rfl rfl⟩, AVEq.refl _, AVEq.refl _, AVEq.refl _⟩ this
  have h7 : Ctr Try.prog 68 [aR, rB, aG, .i .i64 0, .i .i64 3, .i .i64 1] [.row 3 1 1 (rowsI [6])] (.tup [.so 0, .i .i64 0]) := by
    have := Lost_yes exR [⟨0, 0, 0⟩, ⟨4, 0, 2⟩] exG 1 (by decide) (by decide) (by decide) 0 3 (by decide) exR9 exR7
    rw [exRa, show ([⟨0, 0, 0⟩, ⟨4, 0, 2⟩] : List Pf).eraseIdx 1 = [⟨0, 0, 0⟩] from rfl, exR8, exRc] at this
    exact Ctr.of_eq (args := [aR, .rs 3 2 (rowsP [⟨0, 0, 0⟩, ⟨4, 0, 2⟩]), aG, .i .i64 0, .i .i64 3, .i .i64 1]) ⟨AVEq.refl _, ⟨rfl, rfl, two rfl rfl⟩, AVEq.refl _, AVEq.refl _, AVEq.refl _, AVEq.refl _⟩ this
  have h8 : Ctr Try.prog 60 [aR, rU, aG, .i .i64 0, .i .i64 5, .i .i64 1] [] (.tup [.b false, .i .i64 17]) := by
    have := Holds_fn exR [⟨0, 0, 0⟩, ⟨0, 1, 0⟩] exG (by decide) (by decide) (by decide) 0 5 1
    rw [(Prod.mk.inj exRb).1, (Prod.mk.inj exRb).2] at this
    exact Ctr.of_eq (args := [aR, .rs 3 2 (rowsP [⟨0, 0, 0⟩, ⟨0, 1, 0⟩]), aG, .i .i64 0, .i .i64 5, .i .i64 1]) ⟨AVEq.refl _, ⟨rfl, rfl, two rfl rfl⟩, AVEq.refl _, AVEq.refl _, AVEq.refl _, AVEq.refl _⟩ this
  have b1 : Ctr Try.prog 35 [.rs 1 3 (rowsB [false, true, false]), .rs 1 3 (rowOf 1 [.b false, .b true, .b false])] [] (.b true) :=
    Ctr.of_eq (args := [.rs 1 3 (rowsB [false, true, false]), .rs 1 3 (rowsB [false, true, false])]) ⟨AVEq.refl _, ⟨rfl, rfl, three3 rfl rfl rfl⟩⟩ (bools_same [false, true, false] (by decide))
  have i1 : Ctr Try.prog 26 [.rs 1 1 (rowsI [5]), .rs 1 1 (rowOf 1 [.i .i64 5])] [] (.b true) :=
    Ctr.of_eq (args := [.rs 1 1 (rowsI [5]), .rs 1 1 (rowsI [5])]) ⟨AVEq.refl _, ⟨rfl, rfl, one rfl⟩⟩ (ints26_same [5] (by decide))
  have i2 : Ctr Try.prog 26 [.rs 1 2 (rowsI [5, 6]), .rs 1 2 (rowOf 1 [.i .i64 5, .i .i64 6])] [] (.b true) :=
    Ctr.of_eq (args := [.rs 1 2 (rowsI [5, 6]), .rs 1 2 (rowsI [5, 6])]) ⟨AVEq.refl _, ⟨rfl, rfl, two rfl rfl⟩⟩ (ints26_same [5, 6] (by decide))
  have i3 : Ctr Try.prog 26 [.rs 1 1 (rowsI [6]), .rs 1 1 (rowOf 1 [.i .i64 6])] [] (.b true) :=
    Ctr.of_eq (args := [.rs 1 1 (rowsI [6]), .rs 1 1 (rowsI [6])]) ⟨AVEq.refl _, ⟨rfl, rfl, one rfl⟩⟩ (ints26_same [6] (by decide))
  repeat refine Or.inl ?_
  refine ⟨_, _, claimsR_fn, ?_⟩
  repeat refine Or.inl ?_
  refine ⟨_, _, givenR_fn, ?_⟩
  repeat refine Or.inl ?_
  refine ⟨_, _, h1, ?_⟩
  repeat refine Or.inl ?_
  refine ⟨_, _, claimsR_fn, ?_⟩
  repeat refine Or.inl ?_
  refine ⟨_, _, givenR_fn, ?_⟩
  repeat refine Or.inl ?_
  refine ⟨[], _, h2, ?_⟩
  repeat refine Or.inl ?_
  refine ⟨_, _, claimsR_fn, ?_⟩
  repeat refine Or.inl ?_
  refine ⟨_, _, givenR_fn, ?_⟩
  repeat refine Or.inl ?_
  refine ⟨[], _, h3, ?_⟩
  repeat refine Or.inl ?_
  refine ⟨_, _, claimsR_fn, ?_⟩
  repeat refine Or.inl ?_
  refine ⟨_, _, givenR_fn, ?_⟩
  repeat refine Or.inl ?_
  refine ⟨_, _, h4, ?_⟩
  repeat refine Or.inl ?_
  refine ⟨_, _, claimsR_fn, ?_⟩
  repeat refine Or.inl ?_
  refine ⟨_, _, givenR_fn, ?_⟩
  repeat refine Or.inl ?_
  refine ⟨_, _, h5, ?_⟩
  repeat refine Or.inl ?_
  refine ⟨_, _, claimsR_fn, ?_⟩
  repeat refine Or.inl ?_
  refine ⟨_, _, givenR_fn, ?_⟩
  repeat refine Or.inl ?_
  refine ⟨_, _, h6, ?_⟩
  repeat refine Or.inl ?_
  refine ⟨_, _, claimsR_fn, ?_⟩
  repeat refine Or.inl ?_
  refine ⟨_, _, givenR_fn, ?_⟩
  repeat refine Or.inl ?_
  refine ⟨_, _, h7, ?_⟩
  repeat refine Or.inl ?_
  refine ⟨_, _, claimsR_fn, ?_⟩
  repeat refine Or.inl ?_
  refine ⟨by decide, ?_⟩
  repeat refine Or.inl ?_
  refine ⟨_, _, givenR_fn, ?_⟩
  repeat refine Or.inl ?_
  refine ⟨[], _, h8, ?_⟩
  repeat refine Or.inl ?_
  refine ⟨[], _, fun _ => b1, ?_⟩
  repeat refine Or.inl ?_
  refine ⟨[], _, fun _ => i1, ?_⟩
  repeat refine Or.inl ?_
  refine ⟨[], _, fun _ => i2, ?_⟩
  repeat refine Or.inl ?_
  refine ⟨[], _, fun _ => i3, ?_⟩
  exact RetIs.b rfl
end Go.Proofs.Ytilhaifmfiobhaa
end

section
/-
  Rights: RightsGrants.
-/
namespace Go.Proofs.Ytilhaifmfiobhaa
open Go.Eng

theorem catG0 (f : Nat → List AV) (o : List Gt) : ∀ q, q < o.length → catG 0 f (rowsG o) q = rowsG o q := by
  intro q _
  unfold catG
  rw [if_neg (by omega), Nat.sub_zero]
theorem snocG_av (f : Nat → List AV) (o : List Gt) (c : Gt) : AVEq (.rs 3 (o ++ [c]).length (rowsG (o ++ [c]))) (.rs 3 (0 + o.length + 1) (catG (0 + o.length) (catG 0 f (rowsG o)) (rowOf 3 c.av))) := by
  refine ⟨rfl, by simp, fun q hq => ?_⟩
  rw [List.length_append, List.length_singleton] at hq
  show _ = ((o ++ [c]).getD q dGt).av
  rw [getD_snoc]
  unfold catG
  by_cases h : q < o.length
  · rw [if_pos h, if_pos (by omega), if_neg (by omega), Nat.sub_zero]
    rfl
  · obtain rfl : q = o.length := by omega
    rw [if_neg h, if_pos rfl, if_neg (by omega), Nat.zero_add, Nat.sub_self]
    rfl

theorem hasG_other {G : List Gt} {g : Gt} {grp p r : Int} (h : ¬ (g.grp = grp ∧ g.per = p)) : hasG (G ++ [g]) grp p r = hasG G grp p r := by
  unfold hasG
  have e : ∀ i, (G ++ [g]).any (grB grp p i) = G.any (grB grp p i) := fun i => by
    have : grB grp p i g = false := by
      unfold grB
      have : ((g.grp == grp) && (g.per == p)) = false := by
        rw [← Bool.not_eq_true, Bool.and_eq_true, beq_iff_eq, beq_iff_eq]
        exact h
      rw [this, Bool.false_and]
    simp [List.any_append, this]
  simp only [e]
theorem fol_mono {L : List Cl} {n : Int} {l m : List Int} (h : followsB L n l = true) (hs : ∀ x ∈ l, x ∈ m) (hm : ∀ x ∈ m, 0 ≤ x ∧ x < 2 * n) : followsB L n m = true := by
  rw [followsB_iff] at h ⊢
  refine ⟨h.1, hm, fun vals g => ?_⟩
  obtain ⟨x, hx, ht⟩ := h.2.2 vals g
  exact ⟨x, hs x hx, ht⟩
theorem lits_mono {C : List Cm} {G H : List Gt} {grp a r : Int} (h : ∀ g ∈ G, g ∈ H) : ∀ x ∈ litsG C G grp a r, x ∈ litsG C H grp a r := by
  intro x hx
  obtain ⟨i, hi, hu, e⟩ := mem_litsG.1 hx
  unfold usesB at hu
  rw [Bool.and_eq_true] at hu
  refine mem_litsG.2 ⟨i, hi, ?_, e⟩
  unfold usesB
  rw [hu.1, hasG_mono h hu.2]
  rfl
theorem lits_congr {C : List Cm} {G H : List Gt} {grp a r : Int} (h : ∀ i, i < C.length → usesB C G grp a r i = usesB C H grp a r i) : litsG C G grp a r = litsG C H grp a r := by
  unfold litsG
  have : ∀ k, k ≤ C.length → litsGTo C G grp a r k = litsGTo C H grp a r k := by
    intro k
    induction k with
    | zero => exact fun _ => rfl
    | succ k ih =>
      intro hk
      rw [litsGTo_succ, litsGTo_succ, ih (by omega), h k (by omega)]
  exact this _ (Nat.le_refl _)
theorem lits_nil {C : List Cm} {grp a r : Int} (h1 : 1 ≤ r) (h2 : r ≤ 15) : litsG C [] grp a r = [] := by
  rw [List.eq_nil_iff_forall_not_mem]
  intro x hx
  obtain ⟨i, _, hu, _⟩ := mem_litsG.1 hx
  unfold usesB at hu
  rw [hasG_nil h1 h2, Bool.and_false] at hu
  cases hu
theorem pose_nil {C : List Cm} {P : List Pf} {G : List Gt} {r : Int} (h : poseE C P G r = 0) : poseE C P [] r = 0 := by
  obtain ⟨h1, h2, h3⟩ := badQ_no (pose_ok h).1
  have hb : badQ [] r = false := by
    unfold badQ validG
    rw [decide_eq_false (by omega), decide_eq_false (by omega)]
    rfl
  unfold poseE at h ⊢
  rw [if_neg (by rw [(pose_ok h).1]; decide)] at h
  rw [if_neg (by rw [hb]; decide)]
  exact h
theorem holds_nil (C : List Cm) (P : List Pf) (grp a r : Int) : holdsY C P [] grp a r = false := by
  unfold holdsY
  by_cases he : poseE C P [] r = 0
  · obtain ⟨h1, h2, _⟩ := badQ_no (pose_ok he).1
    rw [lits_nil h1 h2, (pose_ok he).2.2, Bool.and_false]
  · rw [decide_eq_false he, Bool.false_and]
theorem holds_e {C : List Cm} {P : List Pf} {G : List Gt} {grp a r : Int} (h : holdsY C P G grp a r = true) : poseE C P G r = 0 := by
  unfold holdsY at h
  rw [Bool.and_eq_true, decide_eq_true_eq] at h
  exact h.1
theorem holds_fol {C : List Cm} {P : List Pf} {G : List Gt} {grp a r : Int} (h : poseE C P G r = 0) : holdsY C P G grp a r = folB C P G grp a r := by
  unfold holdsY folB
  rw [decide_eq_true h, Bool.true_and]

theorem holds_ne (C : List Cm) (P : List Pf) (G : List Gt) (grp a r : Int) : (holdsY C P G grp a r && poseE C P G r != 0) = false := by
  cases h : holdsY C P G grp a r with
  | false => rfl
  | true => rw [holds_e h]; rfl

def namB (C : List Cm) (a p : Int) (k : Nat) : Bool := (List.range k).any fun i => (C.getD i dCm).acc == a && (C.getD i dCm).per == p
theorem namB_succ (C : List Cm) (a p : Int) (k : Nat) : namB C a p (k + 1) = (namB C a p k || ((C.getD k dCm).acc == a && (C.getD k dCm).per == p)) := by
  unfold namB
  rw [List.range_succ, List.any_append]
  simp
theorem grants_same {C : List Cm} {P : List Pf} {G : List Gt} {g : Gt} {grp a r : Int} (h : (namB C a g.per C.length && (g.grp == grp)) = false) : folB C P (G ++ [g]) grp a r = folB C P G grp a r := by
  unfold folB
  congr 1
  refine lits_congr fun i hi => ?_
  unfold usesB
  by_cases ha : (C.getD i dCm).acc = a
  · by_cases hg : g.grp = grp ∧ g.per = (C.getD i dCm).per
    · exfalso
      rw [show (g.grp == grp) = true from beq_iff_eq.2 hg.1, Bool.and_true] at h
      unfold namB at h
      rw [List.any_eq_false] at h
      refine h i (List.mem_range.2 hi) ?_
      rw [beq_iff_eq.2 ha, beq_iff_eq.2 hg.2.symm]
      rfl
    · rw [hasG_other hg]
  · rw [beq_eq_false_iff_ne.2 ha, Bool.false_and, Bool.false_and]

set_option maxRecDepth 20000 in
set_option maxHeartbeats 4000000 in
theorem rightsGrants_fn (C : List Cm) (P : List Pf) (G : List Gt) (grp a r : Int) (g : Gt) : Ctr Try.prog 16 [.rs 2 C.length (rowsM C), .rs 3 P.length (rowsP P), .rs 3 G.length (rowsG G), .i .i64 grp, .i .i64 a, .i .i64 r, .ag g.av] [] (.b true) := by
  refine fn_of_exec tabOk Try.func16 (by kernel_rfl) rfl (N := Try.f16.ntmps) rfl (res := [.tmp 14]) rfl rfl [] ?_
  repeat refine Or.inl ?_
  refine ⟨[], _, smallR_fn, ?_⟩
  repeat refine Or.inl ?_
  refine ⟨[], _, few27_fn C P G, ?_⟩
  repeat refine Or.inl ?_
  refine ⟨fun _ => RetIs.b rfl, fun h => ?_⟩
  have h : (!((decide ((C.length : Int) ≤ 8) && decide ((P.length : Int) ≤ 10)) && decide ((G.length : Int) ≤ 12)) || decide ((G.length : Int) > 11)) = false := h
  rw [Bool.or_eq_false_iff, Bool.not_eq_false', Bool.and_eq_true, Bool.and_eq_true, decide_eq_true_eq, decide_eq_true_eq, decide_eq_true_eq, decide_eq_false_iff_not] at h
  obtain ⟨⟨⟨hC, hP⟩, _⟩, hG⟩ := h
  have hgl : (G ++ [g]).length = G.length + 1 := by rw [List.length_append]; rfl
  repeat refine Or.inl ?_
  refine ⟨[], _, Holds_fn C P G (by omega) (by omega) (by omega) grp a r, ?_⟩
  repeat refine Or.inl ?_
  refine ⟨fits (by omega), ?_⟩
  repeat refine Or.inl ?_
  refine ⟨fits (by omega), ?_⟩
  repeat refine Or.inl ?_
  refine ⟨[], _, Ctr.of_eq (args := [.rs 2 C.length (rowsM C), .rs 3 P.length (rowsP P), .rs 3 (G ++ [g]).length (rowsG (G ++ [g])), .i .i64 grp, .i .i64 a, .i .i64 r]) ⟨AVEq.refl _, AVEq.refl _, snocG_av _ G g, AVEq.refl _, AVEq.refl _, AVEq.refl _⟩ (Holds_fn C P (G ++ [g]) (by omega) (by omega) (by omega) grp a r), ?_⟩
  repeat refine Or.inl ?_
  refine ⟨[], _, Ctr.of_eq (args := [.rs 2 C.length (rowsM C), .rs 3 P.length (rowsP P), .rs 3 0 (rowsG []), .i .i64 grp, .i .i64 a, .i .i64 r]) ⟨AVEq.refl _, AVEq.refl _, ⟨rfl, rfl⟩, AVEq.refl _, AVEq.refl _, AVEq.refl _⟩ (Holds_fn C P [] (by omega) (by omega) (by decide) grp a r), ?_⟩
  have hz := holds_nil C P grp a r
  repeat refine Or.inl ?_
  refine ⟨fun h => ?_, fun h => ?_⟩
  · refine RetIs.b ?_
    show (true && !(holdsY C P G grp a r && poseE C P G r != 0) && !(holdsY C P (G ++ [g]) grp a r && poseE C P (G ++ [g]) r != 0) && !holdsY C P [] grp a r) = true
    rw [holds_ne, holds_ne, hz]
    rfl
  have h : (poseE C P G r != 0 || poseE C P (G ++ [g]) r != 0) = false := h
  rw [Bool.or_eq_false_iff, bne_eq_false_iff_eq, bne_eq_false_iff_eq] at h
  obtain ⟨e1, e2⟩ := h
  have e3 := pose_nil e1
  repeat refine Or.inl ?_
  refine ⟨[], Nat, fun k => k ≤ C.length, fun k => [⟨23, [], .i .i64 k⟩, ⟨22, [], .b (namB C a g.per k)⟩], fun _ => [], fun k => C.length - k,
    ⟨0, [], Nat.zero_le _, rfl, rfl, rfl, rfl, rfl, ⟨⟨rfl, rfl⟩, rfl⟩, trivial⟩, ?_⟩
  intro k hk
  have hk : k ≤ C.length := hk
  refine .inl ⟨fun hc => ?_, fun hc => ?_⟩
  · have hc := dlt hc
    have hc : (k : Int) < C.length := hc
    repeat refine Or.inl ?_
    refine ⟨fun _ => ⟨by omega, by omega⟩, ?_⟩
    repeat refine Or.inl ?_
    refine ⟨fun _ => ⟨by omega, by omega⟩, ?_⟩
    refine ⟨k + 1, [], by dsimp only; omega, by dsimp only; omega, rfl, rfl, rfl, rfl, rfl, ⟨⟨rfl, wr (by omega) (by omega)⟩, ?_⟩, trivial⟩
    exact (namB_succ C a g.per k).symm
  · have hc := dnlt hc
    have hc : (C.length : Int) ≤ k := hc
    obtain rfl : k = C.length := by omega
    refine RetIs.b ?_
    show ((((true && (poseE C P [] r == 0)) && !holdsY C P [] grp a r) && (!holdsY C P G grp a r || holdsY C P (G ++ [g]) grp a r)) && ((holdsY C P G grp a r == holdsY C P (G ++ [g]) grp a r) || (namB C a g.per C.length && (g.grp == grp)))) = true
    rw [hz, e3, holds_fol e1, holds_fol e2]
    have hm : folB C P G grp a r = true → folB C P (G ++ [g]) grp a r = true := fun h => fol_mono h (lits_mono fun x hx => List.mem_append_left _ hx) litsG_ok
    have hs := grants_same (C := C) (P := P) (G := G) (g := g) (grp := grp) (a := a) (r := r)
    cases h1 : folB C P G grp a r with
    | true => rw [hm h1]; rfl
    | false =>
      cases h3 : (namB C a g.per C.length && (g.grp == grp)) with
      | true => cases folB C P (G ++ [g]) grp a r <;> rfl
      | false => rw [hs h3, h1]; rfl
end Go.Proofs.Ytilhaifmfiobhaa
end

section
/-
  ClaimFollows.
-/
namespace Go.Proofs.Ytilhaifmfiobhaa
open Go.Eng

theorem snocP_av (f : Nat → List AV) (o : List Pf) (c : Pf) : AVEq (.rs 3 (o ++ [c]).length (rowsP (o ++ [c]))) (.rs 3 (0 + o.length + 1) (catG (0 + o.length) (catG 0 f (rowsP o)) (rowOf 3 c.av))) := by
  refine ⟨rfl, by simp, fun q hq => ?_⟩
  rw [← catP2 o c q hq, Nat.zero_add]
  unfold catG
  split
  · rw [if_neg (by omega), Nat.sub_zero]
  · rfl
theorem clausesL_snoc (C : List Cm) (P : List Pf) (p : Pf) : clausesL C (P ++ [p]) = clausesL C P ++ [clauseOf p] := by
  unfold clausesL
  rw [List.map_append, List.append_assoc]
  rfl
theorem right_snoc {C : List Cm} {P : List Pf} (h : RightCP C P) (hl : P.length + 1 ≤ 400) {k I : Int} (hk : k = 0 ∨ k = 1) (hI : 0 ≤ I ∧ I < (C.length : Int)) : RightCP C (P ++ [⟨k, I, 0⟩]) := by
  refine ⟨h.lc, by simp; omega, h.cm, h.nd, fun p hp => ?_⟩
  rcases List.mem_append.1 hp with hp | hp
  · exact h.pf p hp
  · rw [List.mem_singleton.1 hp]
    exact ⟨⟨by dsimp only; omega, hI⟩, ⟨by dsimp only; omega, fun _ => rfl⟩⟩
theorem first_unit (L : List Cl) (n : Nat) (x : Int) : firstL (L ++ [unit x]) n [] = firstL L n [x] := firstL_congr fun vals _ => by rw [good_append, satV_unit, good_one]
theorem follows_has {C : List Cm} {P : List Pf} (h : okCP C P = true) {p : Pf} (hp : okCP C (P ++ [p]) = true) {x : Int} (hc : clauseOf p = unit x) (hx : 0 ≤ opp x ∧ opp x < 2 * (C.length : Int)) : followsB (clausesL C P) C.length [opp x] = !hasW C (P ++ [p]) := by
  obtain ⟨hR, hlen⟩ := okCP_iff.1 h
  unfold followsB hasW
  rw [rightB_iff.2 (clausesL_right hR hlen), hp, clausesL_snoc, hc, first_unit, Int.toNat_natCast, Bool.true_and, Bool.true_and]
  have : okLits (C.length : Int) [opp x] = true := okLits_iff.2 fun y hy => by rw [List.mem_singleton.1 hy]; exact hx
  rw [this, Bool.true_and, List.map_cons, opp_opp, List.map_nil]
  cases firstL (clausesL C P) C.length [x] <;> rfl
theorem follows_same {L : List Cl} {n : Int} {x y : Int} (hR : RightP L n) (hR2 : RightP (L ++ [unit x]) n) (h : followsB L n [x] = true) : followsB (L ++ [unit x]) n [y] = followsB L n [y] := by
  have key : ∀ vals, Good (L ++ [unit x]) n.toNat [] vals ↔ Good L n.toNat [] vals := fun vals => by
    rw [good_append, satV_unit]
    refine ⟨fun h => h.1, fun g => ⟨g, ?_⟩⟩
    obtain ⟨z, hz, ht⟩ := (followsB_iff.1 h).2.2 vals g
    rw [List.mem_singleton.1 hz] at ht
    exact ht
  rw [Bool.eq_iff_iff, followsB_iff, followsB_iff]
  simp only [key]
  exact ⟨fun h => ⟨hR, h.2⟩, fun h => ⟨hR2, h.2⟩⟩
theorem rem_in {a : Int} (ha : (Lit.int .u8 a).wf = true) {n : Nat} (hn : 0 < n) : 0 ≤ (IntKind.i64.wrap a).tmod n ∧ (IntKind.i64.wrap a).tmod n < (n : Int) := by
  have hs2 : (decide (IntKind.u8.min ≤ a) && decide (a ≤ IntKind.u8.max)) = true := ha
  have e1 : IntKind.u8.min = 0 := rfl
  have e2 : IntKind.u8.max = 255 := rfl
  rw [e1, e2, Bool.and_eq_true, decide_eq_true_eq, decide_eq_true_eq] at hs2
  rw [wr (by omega) (by omega)]
  exact ⟨Int.tmod_nonneg _ hs2.1, Int.tmod_lt_of_pos a (by omega)⟩
theorem w_two {x : Int} (h : 0 ≤ x ∧ x < 1000) : IntKind.i64.wrap (2 * x) = 2 * x := wr (by omega) (by omega)
theorem w_two1 {x : Int} (h : 0 ≤ x ∧ x < 1000) : IntKind.i64.wrap (IntKind.i64.wrap (2 * x) + 1) = 2 * x + 1 := by
  rw [w_two h]
  exact wr (by omega) (by omega)

set_option maxRecDepth 20000 in
set_option maxHeartbeats 8000000 in
theorem claimFollows_fn (C : List Cm) (P : List Pf) (a a2 : Int) (ha : (Lit.int .u8 a).wf = true) (ha2 : (Lit.int .u8 a2).wf = true) :
    Ctr Try.prog 11 [.rs 2 C.length (rowsM C), .rs 3 P.length (rowsP P), .i .u8 a, .i .u8 a2] [] (.b true) := by
  refine fn_of_exec tabOk Try.func11 (by kernel_rfl) rfl (N := Try.f11.ntmps) rfl (res := [.tmp 8]) rfl rfl [] ?_
  repeat refine Or.inl ?_
  refine ⟨[], _, smallC_fn, ?_⟩
  repeat refine Or.inl ?_
  refine ⟨[], _, few_fn C P 10 14, ?_⟩
  repeat refine Or.inl ?_
  refine ⟨[], _, fun hg => ClaimRight_fn C P (by have := few_false hg.1; omega) (by have := few_false hg.1; omega), ?_⟩
  have lens : ((!(decide ((C.length : Int) ≤ 10) && decide ((P.length : Int) ≤ 14)) || !rightCP C P) || ((C.length : Int) == 0)) = false → C.length < 2 ^ 62 ∧ P.length < 2 ^ 62 := fun h => by
    rw [Bool.or_eq_false_iff, Bool.or_eq_false_iff] at h
    have := few_false h.1.1
    omega
  cases e0 : conflictY C P with
  | some l =>
    have f0 : C.length < 2 ^ 62 ∧ P.length < 2 ^ 62 → _ := fun h => Conflict_fn C P h.1 h.2
    rw [e0] at f0
    repeat refine Or.inl ?_
    refine ⟨_, _, fun hg => f0 (lens hg.1), ?_⟩
    refine ⟨fun _ => RetIs.b rfl, fun h => ?_⟩
    have h : (((!(decide ((C.length : Int) ≤ 10) && decide ((P.length : Int) ≤ 14)) || !rightCP C P) || ((C.length : Int) == 0)) || decide ((l.length : Int) > 0)) = false := h
    rw [Bool.or_eq_false_iff, Bool.or_eq_false_iff, Bool.or_eq_false_iff, Bool.not_eq_false' (b := rightCP C P), decide_eq_false_iff_not] at h
    obtain ⟨⟨⟨hfew, hr⟩, _⟩, hl0⟩ := h
    obtain ⟨hC, hP⟩ := few_false hfew
    obtain ⟨_, hS, _⟩ := conY_some (ok_small (rightCP_iff.1 hr) (by omega)) e0
    have := List.length_pos_iff.2 (confS_ne hS)
    omega
  | none =>
  have f0 : C.length < 2 ^ 62 ∧ P.length < 2 ^ 62 → _ := fun h => Conflict_fn C P h.1 h.2
  rw [e0] at f0
  repeat refine Or.inl ?_
  refine ⟨_, _, fun hg => f0 (lens hg.1), ?_⟩
  refine ⟨fun _ => RetIs.b rfl, fun h => ?_⟩
  have h : (((!(decide ((C.length : Int) ≤ 10) && decide ((P.length : Int) ≤ 14)) || !rightCP C P) || ((C.length : Int) == 0)) || decide ((0 : Int) > 0)) = false := h
  rw [Bool.or_eq_false_iff, Bool.or_eq_false_iff, Bool.or_eq_false_iff, Bool.not_eq_false' (b := rightCP C P), beq_eq_false_iff_ne] at h
  obtain ⟨⟨⟨hfew, hr⟩, hn0⟩, _⟩ := h
  obtain ⟨hC, hP⟩ := few_false hfew
  have hR := rightCP_iff.1 hr
  have hok := ok_small hR (by omega)
  have hlen := (okCP_iff.1 hok).2
  have hRL := clausesL_right hR hlen
  have hll := clausesL_len C P
  have hw := (conY_none hok).1 e0
  have hI := rem_in ha (n := C.length) (by omega)
  have hK := rem_in ha2 (n := C.length) (by omega)
  have cl := Clauses_fn C P (by omega) (by omega)
  rw [okCP_cl hok] at cl
  have cl : Ctr Try.prog 38 [.rs 2 C.length (rowsM C), .rs 3 P.length (rowsP P)] [.row 25 2 (clausesL C P).length (rowsC (clausesL C P))] (.tup [.so 0, .i .i64 0]) := cl
  have hR0 := right_snoc hR (by omega) (.inl rfl) hI
  have hR1 := right_snoc hR (by omega) (.inr rfl) hI
  have hok0 := ok_small hR0 (by omega)
  have hok1 := ok_small hR1 (by omega)
  have hlen0 := (okCP_iff.1 hok0).2
  have hRL0 := clausesL_right hR0 hlen0
  have ec0 : clauseOf (⟨0, (IntKind.i64.wrap a).tmod C.length, 0⟩ : Pf) = unit (2 * (IntKind.i64.wrap a).tmod C.length) := clauseOf0 rfl
  have ec1 : clauseOf (⟨1, (IntKind.i64.wrap a).tmod C.length, 0⟩ : Pf) = unit (2 * (IntKind.i64.wrap a).tmod C.length + 1) := clauseOf1 rfl
  have es0 := clausesL_snoc C P (⟨0, (IntKind.i64.wrap a).tmod C.length, 0⟩ : Pf)
  rw [ec0] at es0
  have fNo : followsB (clausesL C P) C.length [2 * (IntKind.i64.wrap a).tmod C.length + 1] = !hasW C (P ++ [(⟨0, (IntKind.i64.wrap a).tmod C.length, 0⟩ : Pf)]) := by
    have := follows_has hok hok0 ec0 (by rw [opp_even]; omega)
    rwa [opp_even] at this
  have fIs : followsB (clausesL C P) C.length [2 * (IntKind.i64.wrap a).tmod C.length] = !hasW C (P ++ [(⟨1, (IntKind.i64.wrap a).tmod C.length, 0⟩ : Pf)]) := by
    have := follows_has hok hok1 ec1 (by rw [opp_odd]; omega)
    rwa [opp_odd] at this
  have fin : followsB (clausesL C P) C.length [2 * (IntKind.i64.wrap a).tmod C.length] = true → followsB (clausesL C (P ++ [(⟨0, (IntKind.i64.wrap a).tmod C.length, 0⟩ : Pf)])) C.length [2 * (IntKind.i64.wrap a2).tmod C.length] = followsB (clausesL C P) C.length [2 * (IntKind.i64.wrap a2).tmod C.length] := fun h => by
    rw [es0] at hRL0 ⊢
    exact follows_same hRL hRL0 h
  have cm0 := Clauses_fn C (P ++ [(⟨0, (IntKind.i64.wrap a).tmod C.length, 0⟩ : Pf)]) (by omega) (by simp; omega)
  rw [okCP_cl hok0] at cm0
  have cm0 : Ctr Try.prog 38 [.rs 2 C.length (rowsM C), .rs 3 (P ++ [(⟨0, (IntKind.i64.wrap a).tmod C.length, 0⟩ : Pf)]).length (rowsP (P ++ [(⟨0, (IntKind.i64.wrap a).tmod C.length, 0⟩ : Pf)]))] [.row 25 2 (clausesL C (P ++ [(⟨0, (IntKind.i64.wrap a).tmod C.length, 0⟩ : Pf)])).length (rowsC (clausesL C (P ++ [(⟨0, (IntKind.i64.wrap a).tmod C.length, 0⟩ : Pf)])))] (.tup [.so 0, .i .i64 0]) := cm0
  have cm : ∀ f, Ctr Try.prog 38 [.rs 2 C.length (rowsM C), .rs 3 (0 + P.length + 1) (catG (0 + P.length) (catG 0 f (rowsP P)) (rowOf 3 [.i .i64 0, .i .i64 ((IntKind.i64.wrap a).tmod C.length), .i .i64 0]))] [.row 25 2 (clausesL C (P ++ [(⟨0, (IntKind.i64.wrap a).tmod C.length, 0⟩ : Pf)])).length (rowsC (clausesL C (P ++ [(⟨0, (IntKind.i64.wrap a).tmod C.length, 0⟩ : Pf)])))] (.tup [.so 0, .i .i64 0]) := fun f =>
    Ctr.of_eq (args := [.rs 2 C.length (rowsM C), .rs 3 (P ++ [(⟨0, (IntKind.i64.wrap a).tmod C.length, 0⟩ : Pf)]).length (rowsP (P ++ [(⟨0, (IntKind.i64.wrap a).tmod C.length, 0⟩ : Pf)]))]) ⟨AVEq.refl _, snocP_av f P (⟨0, (IntKind.i64.wrap a).tmod C.length, 0⟩ : Pf)⟩ cm0
  have g0 : ∀ f, Ctr Try.prog 44 [.rs 2 C.length (rowsM C), .rs 3 (0 + P.length + 1) (catG (0 + P.length) (catG 0 f (rowsP P)) (rowOf 3 [.i .i64 0, .i .i64 ((IntKind.i64.wrap a).tmod C.length), .i .i64 0]))] (pathO (conflictY C (P ++ [(⟨0, (IntKind.i64.wrap a).tmod C.length, 0⟩ : Pf)]))) (pathV (conflictY C (P ++ [(⟨0, (IntKind.i64.wrap a).tmod C.length, 0⟩ : Pf)]))) := fun f =>
    Ctr.of_eq (args := [.rs 2 C.length (rowsM C), .rs 3 (P ++ [(⟨0, (IntKind.i64.wrap a).tmod C.length, 0⟩ : Pf)]).length (rowsP (P ++ [(⟨0, (IntKind.i64.wrap a).tmod C.length, 0⟩ : Pf)]))]) ⟨AVEq.refl _, snocP_av f P (⟨0, (IntKind.i64.wrap a).tmod C.length, 0⟩ : Pf)⟩ (Conflict_fn C _ (by omega) (by simp; omega))
  have g1 : ∀ f, Ctr Try.prog 44 [.rs 2 C.length (rowsM C), .rs 3 (0 + P.length + 1) (catG (0 + P.length) (catG 0 f (rowsP P)) (rowOf 3 [.i .i64 1, .i .i64 ((IntKind.i64.wrap a).tmod C.length), .i .i64 0]))] (pathO (conflictY C (P ++ [(⟨1, (IntKind.i64.wrap a).tmod C.length, 0⟩ : Pf)]))) (pathV (conflictY C (P ++ [(⟨1, (IntKind.i64.wrap a).tmod C.length, 0⟩ : Pf)]))) := fun f =>
    Ctr.of_eq (args := [.rs 2 C.length (rowsM C), .rs 3 (P ++ [(⟨1, (IntKind.i64.wrap a).tmod C.length, 0⟩ : Pf)]).length (rowsP (P ++ [(⟨1, (IntKind.i64.wrap a).tmod C.length, 0⟩ : Pf)]))]) ⟨AVEq.refl _, snocP_av f P (⟨1, (IntKind.i64.wrap a).tmod C.length, 0⟩ : Pf)⟩ (Conflict_fn C _ (by omega) (by simp; omega))
  have F1 := Follows_one (clausesL C P) (by omega) C.length (2 * (IntKind.i64.wrap a).tmod C.length) _ (w_two ⟨hI.1, by omega⟩)
  have F2 := Follows_one (clausesL C P) (by omega) C.length (2 * (IntKind.i64.wrap a).tmod C.length + 1) _ (w_two1 ⟨hI.1, by omega⟩)
  have F3 := Follows_one (clausesL C P) (by omega) C.length (2 * (IntKind.i64.wrap a2).tmod C.length) _ (w_two ⟨hK.1, by omega⟩)
  have F4 := Follows_one (clausesL C (P ++ [(⟨0, (IntKind.i64.wrap a).tmod C.length, 0⟩ : Pf)])) (by omega) C.length (2 * (IntKind.i64.wrap a2).tmod C.length) _ (w_two ⟨hK.1, by omega⟩)
  repeat refine Or.inl ?_
  refine ⟨by show (C.length : Int) ≠ 0; omega, ?_⟩
  repeat refine Or.inl ?_
  refine ⟨by show (C.length : Int) ≠ 0; omega, ?_⟩
  repeat refine Or.inl ?_
  refine ⟨_, _, cl, ?_⟩
  refine ⟨fits (by omega), fits (by omega), ?_⟩
  repeat refine Or.inl ?_
  refine ⟨fits (by omega), fits (by omega), ?_⟩
  repeat refine Or.inl ?_
  refine ⟨_, _, cm _, ?_⟩
  repeat refine Or.inl ?_
  refine ⟨fun h => (by cases h), fun _ => ?_⟩
  repeat refine Or.inl ?_
  refine ⟨[], _, F1, ?_⟩
  repeat refine Or.inl ?_
  refine ⟨[], _, F2, ?_⟩
  cases e1 : conflictY C (P ++ [(⟨0, (IntKind.i64.wrap a).tmod C.length, 0⟩ : Pf)]) with
  | none =>
    rw [e1] at g0
    have hw0 := (conY_none hok0).1 e1
    cases e2 : conflictY C (P ++ [(⟨1, (IntKind.i64.wrap a).tmod C.length, 0⟩ : Pf)]) with
    | none =>
      rw [e2] at g1
      have hw1 := (conY_none hok1).1 e2
      repeat refine Or.inl ?_
      refine ⟨_, _, g0 _, ?_⟩
      repeat refine Or.inl ?_
      refine ⟨_, _, fun _ => g1 _, ?_⟩
      repeat refine Or.inl ?_
      refine ⟨fun h => ?_, fun _ => ?_⟩
      · have h : ((followsB (clausesL C P) C.length [2 * (IntKind.i64.wrap a).tmod C.length + 1] != decide ((0 : Int) > 0)) || (followsB (clausesL C P) C.length [2 * (IntKind.i64.wrap a).tmod C.length] != decide ((0 : Int) > 0))) = true := h
        rw [fNo, fIs, hw0, hw1] at h
        cases h
      repeat refine Or.inl ?_
      refine ⟨[], _, fun _ => F3, ?_⟩
      repeat refine Or.inl ?_
      refine ⟨[], _, fun _ => F4, ?_⟩
      refine RetIs.b ?_
      show (true && (!followsB (clausesL C P) C.length [2 * (IntKind.i64.wrap a).tmod C.length] || (followsB (clausesL C P) C.length [2 * (IntKind.i64.wrap a2).tmod C.length] == followsB (clausesL C (P ++ [(⟨0, (IntKind.i64.wrap a).tmod C.length, 0⟩ : Pf)])) C.length [2 * (IntKind.i64.wrap a2).tmod C.length]))) = true
      cases hx : followsB (clausesL C P) C.length [2 * (IntKind.i64.wrap a).tmod C.length] with
      | false => rfl
      | true => rw [fin hx, beq_self_eq_true]; rfl
    | some l1 =>
      rw [e2] at g1
      obtain ⟨hw1, hS1, _⟩ := conY_some hok1 e2
      have hp1 : (l1.length : Int) > 0 := by have := List.length_pos_iff.2 (confS_ne hS1); omega
      repeat refine Or.inl ?_
      refine ⟨_, _, g0 _, ?_⟩
      repeat refine Or.inl ?_
      refine ⟨_, _, fun _ => g1 _, ?_⟩
      repeat refine Or.inl ?_
      refine ⟨fun h => ?_, fun _ => ?_⟩
      · have h : ((followsB (clausesL C P) C.length [2 * (IntKind.i64.wrap a).tmod C.length + 1] != decide ((0 : Int) > 0)) || (followsB (clausesL C P) C.length [2 * (IntKind.i64.wrap a).tmod C.length] != decide ((l1.length : Int) > 0))) = true := h
        rw [fNo, fIs, hw0, hw1, decide_eq_true hp1] at h
        cases h
      repeat refine Or.inl ?_
      refine ⟨[], _, fun _ => F3, ?_⟩
      repeat refine Or.inl ?_
      refine ⟨[], _, fun _ => F4, ?_⟩
      refine RetIs.b ?_
      show (true && (!followsB (clausesL C P) C.length [2 * (IntKind.i64.wrap a).tmod C.length] || (followsB (clausesL C P) C.length [2 * (IntKind.i64.wrap a2).tmod C.length] == followsB (clausesL C (P ++ [(⟨0, (IntKind.i64.wrap a).tmod C.length, 0⟩ : Pf)])) C.length [2 * (IntKind.i64.wrap a2).tmod C.length]))) = true
      cases hx : followsB (clausesL C P) C.length [2 * (IntKind.i64.wrap a).tmod C.length] with
      | false => rfl
      | true => rw [fin hx, beq_self_eq_true]; rfl
  | some l0 =>
    rw [e1] at g0
    obtain ⟨hw0, hS0, _⟩ := conY_some hok0 e1
    have hp0 : (l0.length : Int) > 0 := by have := List.length_pos_iff.2 (confS_ne hS0); omega
    cases e2 : conflictY C (P ++ [(⟨1, (IntKind.i64.wrap a).tmod C.length, 0⟩ : Pf)]) with
    | none =>
      rw [e2] at g1
      have hw1 := (conY_none hok1).1 e2
      repeat refine Or.inl ?_
      refine ⟨_, _, g0 _, ?_⟩
      repeat refine Or.inl ?_
      refine ⟨_, _, fun _ => g1 _, ?_⟩
      repeat refine Or.inl ?_
      refine ⟨fun h => ?_, fun _ => ?_⟩
      · have h : ((followsB (clausesL C P) C.length [2 * (IntKind.i64.wrap a).tmod C.length + 1] != decide ((l0.length : Int) > 0)) || (followsB (clausesL C P) C.length [2 * (IntKind.i64.wrap a).tmod C.length] != decide ((0 : Int) > 0))) = true := h
        rw [fNo, fIs, hw0, hw1, decide_eq_true hp0] at h
        cases h
      repeat refine Or.inl ?_
      refine ⟨[], _, fun _ => F3, ?_⟩
      repeat refine Or.inl ?_
      refine ⟨[], _, fun _ => F4, ?_⟩
      refine RetIs.b ?_
      show (true && (!followsB (clausesL C P) C.length [2 * (IntKind.i64.wrap a).tmod C.length] || (followsB (clausesL C P) C.length [2 * (IntKind.i64.wrap a2).tmod C.length] == followsB (clausesL C (P ++ [(⟨0, (IntKind.i64.wrap a).tmod C.length, 0⟩ : Pf)])) C.length [2 * (IntKind.i64.wrap a2).tmod C.length]))) = true
      cases hx : followsB (clausesL C P) C.length [2 * (IntKind.i64.wrap a).tmod C.length] with
      | false => rfl
      | true => rw [fin hx, beq_self_eq_true]; rfl
    | some l1 =>
      rw [e2] at g1
      obtain ⟨hw1, hS1, _⟩ := conY_some hok1 e2
      have hp1 : (l1.length : Int) > 0 := by have := List.length_pos_iff.2 (confS_ne hS1); omega
      repeat refine Or.inl ?_
      refine ⟨_, _, g0 _, ?_⟩
      repeat refine Or.inl ?_
      refine ⟨_, _, fun _ => g1 _, ?_⟩
      repeat refine Or.inl ?_
      refine ⟨fun h => ?_, fun _ => ?_⟩
      · have h : ((followsB (clausesL C P) C.length [2 * (IntKind.i64.wrap a).tmod C.length + 1] != decide ((l0.length : Int) > 0)) || (followsB (clausesL C P) C.length [2 * (IntKind.i64.wrap a).tmod C.length] != decide ((l1.length : Int) > 0))) = true := h
        rw [fNo, fIs, hw0, hw1, decide_eq_true hp0, decide_eq_true hp1] at h
        cases h
      repeat refine Or.inl ?_
      refine ⟨[], _, fun _ => F3, ?_⟩
      repeat refine Or.inl ?_
      refine ⟨[], _, fun _ => F4, ?_⟩
      refine RetIs.b ?_
      show (true && (!followsB (clausesL C P) C.length [2 * (IntKind.i64.wrap a).tmod C.length] || (followsB (clausesL C P) C.length [2 * (IntKind.i64.wrap a2).tmod C.length] == followsB (clausesL C (P ++ [(⟨0, (IntKind.i64.wrap a).tmod C.length, 0⟩ : Pf)])) C.length [2 * (IntKind.i64.wrap a2).tmod C.length]))) = true
      cases hx : followsB (clausesL C P) C.length [2 * (IntKind.i64.wrap a).tmod C.length] with
      | false => rfl
      | true => rw [fin hx, beq_self_eq_true]; rfl
end Go.Proofs.Ytilhaifmfiobhaa
end

section
/-
  PersonSame and PersonMore.
-/
namespace Go.Proofs.Ytilhaifmfiobhaa
open Go.Eng

theorem ofY_eta {C : List Cm} {P : List Pf} {L : List Int} {a : Int} (h : (ofY C P L a).2 = true) : ofY C P L a = ((ofY C P L a).1, true) := Prod.ext rfl h

set_option maxRecDepth 20000 in
set_option maxHeartbeats 4000000 in
theorem personSame_fn (C : List Cm) (P : List Pf) (a b c : Int) : Ctr Try.prog 15 [.rs 2 C.length (rowsM C), .rs 3 P.length (rowsP P), .i .i64 a, .i .i64 b, .i .i64 c] [] (.b true) := by
  refine fn_of_exec tabOk Try.func15 (by kernel_rfl) rfl (N := Try.f15.ntmps) rfl (res := [.tmp 10]) rfl rfl [] ?_
  repeat refine Or.inl ?_
  refine ⟨[], _, smallP_fn, ?_⟩
  repeat refine Or.inl ?_
  refine ⟨[], _, few26_fn C P 10, ?_⟩
  repeat refine Or.inl ?_
  refine ⟨fun _ => RetIs.b rfl, fun h => ?_⟩
  obtain ⟨hC, hP⟩ := few_false h
  have S := fun x y => Same_fn C P (by omega) (by omega) x y
  have O := fun x => Of_fn C P (by omega) (by omega) x
  have M := fun x => May_fn C P (by omega) (by omega) x
  have pa := pers_is C a
  have pb := pers_is C b
  repeat refine Or.inl ?_
  refine ⟨[], _, S a b, ?_⟩
  repeat refine Or.inl ?_
  refine ⟨[], _, S b a, ?_⟩
  repeat refine Or.inl ?_
  refine ⟨[], _, fun _ => S b c, ?_⟩
  repeat refine Or.inl ?_
  refine ⟨[], _, fun _ => S a c, ?_⟩
  repeat refine Or.inl ?_
  refine ⟨fun h2 => ?_, fun _ => ?_⟩
  · have h2 : ((sameB C P (persL C a) a b != sameB C P (persL C b) b a) || ((sameB C P (persL C a) a b && sameB C P (persL C b) b c) && !sameB C P (persL C a) a c)) = true := h2
    rw [same_symm pa pb, bne_self_eq_false, Bool.false_or, Bool.and_eq_true, Bool.and_eq_true] at h2
    have h3 := same_trans pa pb (by rw [same_symm pa pb]; exact h2.1.1) h2.1.2
    rw [h3] at h2
    cases h2.2
  repeat refine Or.inl ?_
  refine ⟨[], _, O a, ?_⟩
  repeat refine Or.inl ?_
  refine ⟨[], _, O b, ?_⟩
  repeat refine Or.inl ?_
  refine ⟨fun h2 => ?_, fun _ => ?_⟩
  · have h2 : (((((ofY C P (persL C a) a).2 && (ofY C P (persL C b) b).2) && ((ofY C P (persL C a) a).1 == (ofY C P (persL C b) b).1)) && !sameB C P (persL C a) a b) || (sameB C P (persL C a) a b && (((ofY C P (persL C a) a).2 != (ofY C P (persL C b) b).2) || ((ofY C P (persL C a) a).1 != (ofY C P (persL C b) b).1)))) = true := h2
    rw [Bool.or_eq_true] at h2
    rcases h2 with h2 | h2
    · rw [Bool.and_eq_true, Bool.and_eq_true, Bool.and_eq_true, beq_iff_eq] at h2
      obtain ⟨⟨⟨h3, h4⟩, h5⟩, h6⟩ := h2
      have e1 := ofY_eta h3
      have e2 := ofY_eta h4
      rw [← h5] at e2
      rw [of_same pa pb e1 e2] at h6
      cases h6
    · rw [Bool.and_eq_true] at h2
      have := same_of pa pb h2.1
      rw [this, bne_self_eq_false, bne_self_eq_false] at h2
      cases h2.2
  have ml := mayL_len C P (persL C a) a
  have pl := persL_len C a
  repeat refine Or.inl ?_
  refine ⟨_, _, fun _ => M a, ?_⟩
  have i1 : Ctr Try.prog 57 [.rs 1 (mayL C P (persL C a) a).length (rowsI (mayL C P (persL C a) a)), .rs 1 1 (rowOf 1 [.i .i64 (ofY C P (persL C a) a).1])] [] (.b (decide (mayL C P (persL C a) a = [(ofY C P (persL C a) a).1]))) :=
    Ctr.of_eq (args := [.rs 1 (mayL C P (persL C a) a).length (rowsI (mayL C P (persL C a) a)), .rs 1 1 (rowsI [(ofY C P (persL C a) a).1])]) ⟨AVEq.refl _, ⟨rfl, rfl, one rfl⟩⟩ (ints57_fn _ [(ofY C P (persL C a) a).1] (by omega) (by simp))
  repeat refine Or.inl ?_
  refine ⟨[], _, fun _ => i1, ?_⟩
  refine RetIs.b ?_
  show (true && (!(ofY C P (persL C a) a).2 || decide (mayL C P (persL C a) a = [(ofY C P (persL C a) a).1]))) = true
  cases h3 : (ofY C P (persL C a) a).2 with
  | false => rfl
  | true =>
    rw [decide_eq_true (of_may pa (ofY_eta h3))]
    rfl

theorem any_eqX {l : List Int} {x : Int} : (l.any fun y => y == x) = true ↔ x ∈ l := by simp

set_option maxRecDepth 20000 in
set_option maxHeartbeats 8000000 in
theorem personMore_fn (C : List Cm) (P : List Pf) (q : Pf) (a b : Int) : Ctr Try.prog 14 [.rs 2 C.length (rowsM C), .rs 3 P.length (rowsP P), .ag q.av, .i .i64 a, .i .i64 b] [] (.b true) := by
  refine fn_of_exec tabOk Try.func14 (by kernel_rfl) rfl (N := Try.f14.ntmps) rfl (res := [.tmp 10]) rfl rfl [] ?_
  repeat refine Or.inl ?_
  refine ⟨[], _, smallP_fn, ?_⟩
  repeat refine Or.inl ?_
  refine ⟨[], _, few26_fn C P 10, ?_⟩
  repeat refine Or.inl ?_
  refine ⟨fun _ => RetIs.b rfl, fun h => ?_⟩
  have h : (!(decide ((C.length : Int) ≤ 10) && decide ((P.length : Int) ≤ 12)) || decide ((P.length : Int) > 11)) = false := h
  rw [Bool.or_eq_false_iff, decide_eq_false_iff_not] at h
  obtain ⟨hC, hP⟩ := few_false h.1
  have hQl : (P ++ [q]).length = P.length + 1 := by simp
  have pa := pers_is C a
  have pl := persL_len C a
  have av := fun f => snocP_av f P q
  have O := Of_fn C P (by omega) (by omega) a
  have OA : ∀ f, Ctr Try.prog 52 [.rs 2 C.length (rowsM C), .rs 3 (0 + P.length + 1) (catG (0 + P.length) (catG 0 f (rowsP P)) (rowOf 3 q.av)), .i .i64 a] [] (.tup [.i .i64 (ofY C (P ++ [q]) (persL C a) a).1, .b (ofY C (P ++ [q]) (persL C a) a).2]) := fun f =>
    Ctr.of_eq (args := [.rs 2 C.length (rowsM C), .rs 3 (P ++ [q]).length (rowsP (P ++ [q])), .i .i64 a]) ⟨AVEq.refl _, av f, AVEq.refl _⟩ (Of_fn C (P ++ [q]) (by omega) (by omega) a)
  have M := May_fn C P (by omega) (by omega) a
  have MA0 := May_fn C (P ++ [q]) (by omega) (by omega) a
  have S := Same_fn C P (by omega) (by omega) a b
  have SA : ∀ f, Ctr Try.prog 56 [.rs 2 C.length (rowsM C), .rs 3 (0 + P.length + 1) (catG (0 + P.length) (catG 0 f (rowsP P)) (rowOf 3 q.av)), .i .i64 a, .i .i64 b] [] (.b (sameB C (P ++ [q]) (persL C a) a b)) := fun f =>
    Ctr.of_eq (args := [.rs 2 C.length (rowsM C), .rs 3 (P ++ [q]).length (rowsP (P ++ [q])), .i .i64 a, .i .i64 b]) ⟨AVEq.refl _, av f, AVEq.refl _, AVEq.refl _⟩ (Same_fn C (P ++ [q]) (by omega) (by omega) a b)
  have cl := Clauses_fn C (P ++ [q]) (by omega) (by omega)
  repeat refine Or.inl ?_
  refine ⟨fits (by omega), fits (by omega), ?_⟩
  rcases Clauses_or (C := C) (P := P ++ [q]) with ⟨hok, e⟩ | ⟨hok, k, hk, e⟩
  · obtain ⟨hR, hlen⟩ := okCP_iff.1 hok
    have hRL := rightB_iff.2 (clausesL_right hR hlen)
    rw [e] at cl
    have cl : Ctr Try.prog 38 [.rs 2 C.length (rowsM C), .rs 3 (P ++ [q]).length (rowsP (P ++ [q]))] [.row 25 2 (clausesL C (P ++ [q])).length (rowsC (clausesL C (P ++ [q])))] (.tup [.so 0, .i .i64 0]) := cl
    have cl2 : ∀ f, Ctr Try.prog 38 [.rs 2 C.length (rowsM C), .rs 3 (0 + P.length + 1) (catG (0 + P.length) (catG 0 f (rowsP P)) (rowOf 3 q.av))] [.row 25 2 (clausesL C (P ++ [q])).length (rowsC (clausesL C (P ++ [q])))] (.tup [.so 0, .i .i64 0]) := fun f =>
      Ctr.of_eq (args := [.rs 2 C.length (rowsM C), .rs 3 (P ++ [q]).length (rowsP (P ++ [q]))]) ⟨AVEq.refl _, av f⟩ cl
    have sv := Solve_err (l := clausesL C (P ++ [q])) (n := C.length) (by omega) hRL
    rw [Int.toNat_natCast, ← has_first hok] at sv
    repeat refine Or.inl ?_
    refine ⟨_, _, cl2 _, ?_⟩
    cases hw : hasW C (P ++ [q]) with
    | false =>
      rw [hw] at sv
      obtain ⟨n1, n2, n3⟩ := no_world (b := b) pa hw
      rw [n1] at OA
      rw [n2] at MA0
      rw [n3] at SA
      have MA : ∀ f, Ctr Try.prog 53 [.rs 2 C.length (rowsM C), .rs 3 (0 + P.length + 1) (catG (0 + P.length) (catG 0 f (rowsP P)) (rowOf 3 q.av)), .i .i64 a] [.row 3 1 0 (rowsI [])] (.so 0) := fun f =>
        Ctr.of_eq (args := [.rs 2 C.length (rowsM C), .rs 3 (P ++ [q]).length (rowsP (P ++ [q])), .i .i64 a]) ⟨AVEq.refl _, av f, AVEq.refl _⟩ MA0
      repeat refine Or.inl ?_
      refine ⟨[], _, sv, ?_⟩
      repeat refine Or.inl ?_
      refine ⟨fun _ => ?_, fun h => (by cases h)⟩
      repeat refine Or.inl ?_
      refine ⟨[], _, OA _, ?_⟩
      repeat refine Or.inl ?_
      refine ⟨_, _, fun _ => MA _, ?_⟩
      repeat refine Or.inl ?_
      refine ⟨[], _, fun _ => SA _, ?_⟩
      exact RetIs.b rfl
    | true =>
      rw [hw] at sv
      have MA : ∀ f, Ctr Try.prog 53 [.rs 2 C.length (rowsM C), .rs 3 (0 + P.length + 1) (catG (0 + P.length) (catG 0 f (rowsP P)) (rowOf 3 q.av)), .i .i64 a] [.row 3 1 (mayL C (P ++ [q]) (persL C a) a).length (rowsI (mayL C (P ++ [q]) (persL C a) a))] (.so 0) := fun f =>
        Ctr.of_eq (args := [.rs 2 C.length (rowsM C), .rs 3 (P ++ [q]).length (rowsP (P ++ [q])), .i .i64 a]) ⟨AVEq.refl _, av f, AVEq.refl _⟩ MA0
      have ml := mayL_len C P (persL C a) a
      have mla := mayL_len C (P ++ [q]) (persL C a) a
      repeat refine Or.inl ?_
      refine ⟨[], _, sv, ?_⟩
      repeat refine Or.inl ?_
      refine ⟨fun h => (by cases h), fun _ => ?_⟩
      repeat refine Or.inl ?_
      refine ⟨[], _, O, ?_⟩
      repeat refine Or.inl ?_
      refine ⟨[], _, OA _, ?_⟩
      repeat refine Or.inl ?_
      refine ⟨[], _, fun _ => S, ?_⟩
      repeat refine Or.inl ?_
      refine ⟨[], _, fun _ => SA _, ?_⟩
      repeat refine Or.inl ?_
      refine ⟨fun h2 => ?_, fun _ => ?_⟩
      · have h2 : (((ofY C P (persL C a) a).2 && (!(ofY C (P ++ [q]) (persL C a) a).2 || ((ofY C (P ++ [q]) (persL C a) a).1 != (ofY C P (persL C a) a).1))) || (sameB C P (persL C a) a b && !sameB C (P ++ [q]) (persL C a) a b)) = true := h2
        rw [Bool.or_eq_true, Bool.and_eq_true, Bool.and_eq_true] at h2
        rcases h2 with h2 | h2
        · have := more_of pa hw (ofY_eta h2.1)
          rw [this, bne_self_eq_false] at h2
          cases h2.2
        · rw [more_same pa hw h2.1] at h2
          cases h2.2
      repeat refine Or.inl ?_
      refine ⟨_, _, M, ?_⟩
      repeat refine Or.inl ?_
      refine ⟨_, _, MA _, ?_⟩
      repeat refine Or.inl ?_
      refine ⟨[], Nat, fun i => i ≤ (mayL C (P ++ [q]) (persL C a) a).length, fun i => [⟨26, [], .i .i64 i⟩], fun _ => [], fun i => (mayL C (P ++ [q]) (persL C a) a).length - i,
        ⟨0, [], Nat.zero_le _, rfl, rfl, rfl, rfl, rfl, ⟨rfl, rfl⟩, trivial⟩, ?_⟩
      intro i hi
      have hi : i ≤ (mayL C (P ++ [q]) (persL C a) a).length := hi
      refine .inl ⟨fun hc => ?_, fun hc => ?_⟩
      · have hc := dlt hc
        have hc : (i : Int) < (mayL C (P ++ [q]) (persL C a) a).length := hc
        have hmm := more_may pa (getD_memX (l := mayL C (P ++ [q]) (persL C a) a) (k := (i : Int).toNat) (by omega))
        repeat refine Or.inl ?_
        refine ⟨[], Nat, fun j => j ≤ (mayL C P (persL C a) a).length, fun j => [⟨28, [], .i .i64 j⟩, ⟨27, [], .b (((mayL C P (persL C a) a).take j).any fun y => y == (mayL C (P ++ [q]) (persL C a) a).getD (i : Int).toNat 0)⟩], fun _ => [], fun j => (mayL C P (persL C a) a).length - j,
          ⟨0, [], Nat.zero_le _, rfl, rfl, rfl, rfl, rfl, ⟨⟨rfl, rfl⟩, rfl⟩, trivial⟩, ?_⟩
        intro j hj
        have hj : j ≤ (mayL C P (persL C a) a).length := hj
        refine .inl ⟨fun hc2 => ?_, fun hc2 => ?_⟩
        · have hc2 := dlt hc2
          have hc2 : (j : Int) < (mayL C P (persL C a) a).length := hc2
          have ej : (j : Int).toNat = j := Int.toNat_natCast j
          repeat refine Or.inl ?_
          refine ⟨fun _ => ⟨by omega, by omega⟩, fun _ => by omega, fun _ => ⟨by omega, by omega⟩, fun _ => by omega, ?_⟩
          refine ⟨j + 1, [], by dsimp only; omega, by dsimp only; omega, rfl, rfl, rfl, rfl, rfl, ⟨⟨rfl, wr (by omega) (by omega)⟩, ?_⟩, trivial⟩
          rw [any_upto_succ 0 _ _ _ (by omega), ej]
          rfl
        · have hc2 := dnlt hc2
          have hc2 : ((mayL C P (persL C a) a).length : Int) ≤ j := hc2
          have et : (mayL C P (persL C a) a).take j = mayL C P (persL C a) a := List.take_of_length_le (by omega)
          rw [et]
          repeat refine Or.inl ?_
          refine ⟨fun h3 => ?_, fun _ => ?_⟩
          · have h3 : (!((mayL C P (persL C a) a).any fun y => y == (mayL C (P ++ [q]) (persL C a) a).getD (i : Int).toNat 0)) = true := h3
            rw [any_eqX.2 hmm] at h3
            cases h3
          · exact ⟨i + 1, [], by dsimp only; omega, by dsimp only; omega, rfl, rfl, rfl, rfl, rfl, ⟨rfl, wr (by omega) (by omega)⟩, trivial⟩
      have i1 : Ctr Try.prog 57 [.rs 1 (mayL C (P ++ [q]) (persL C a) a).length (rowsI (mayL C (P ++ [q]) (persL C a) a)), .rs 1 1 (rowOf 1 [.i .i64 (ofY C (P ++ [q]) (persL C a) a).1])] [] (.b (decide (mayL C (P ++ [q]) (persL C a) a = [(ofY C (P ++ [q]) (persL C a) a).1]))) :=
        Ctr.of_eq (args := [.rs 1 (mayL C (P ++ [q]) (persL C a) a).length (rowsI (mayL C (P ++ [q]) (persL C a) a)), .rs 1 1 (rowsI [(ofY C (P ++ [q]) (persL C a) a).1])]) ⟨AVEq.refl _, ⟨rfl, rfl, one rfl⟩⟩ (ints57_fn _ [(ofY C (P ++ [q]) (persL C a) a).1] (by omega) (by simp))
      repeat refine Or.inl ?_
      refine ⟨[], _, fun _ => i1, ?_⟩
      refine RetIs.b ?_
      show (true && (!(ofY C (P ++ [q]) (persL C a) a).2 || decide (mayL C (P ++ [q]) (persL C a) a = [(ofY C (P ++ [q]) (persL C a) a).1]))) = true
      cases h3 : (ofY C (P ++ [q]) (persL C a) a).2 with
      | false => rfl
      | true =>
        rw [decide_eq_true (of_may pa (ofY_eta h3))]
        rfl
  · have hw : hasW C (P ++ [q]) = false := by unfold hasW; rw [hok]; rfl
    rw [e, (okC_no hk).1, (okC_no hk).2] at cl
    have cl2 : ∀ f, Ctr Try.prog 38 [.rs 2 C.length (rowsM C), .rs 3 (0 + P.length + 1) (catG (0 + P.length) (catG 0 f (rowsP P)) (rowOf 3 q.av))] [] (.tup [.val (.slice none 0 0), .i .i64 k]) := fun f =>
      Ctr.of_eq (args := [.rs 2 C.length (rowsM C), .rs 3 (P ++ [q]).length (rowsP (P ++ [q]))]) ⟨AVEq.refl _, av f⟩ cl
    have sv : Ctr Try.prog 24 [.val (.slice none 0 0), .i .i64 C.length] [] (.tup [.u, .u, .i .i64 (if (firstL [] (C.length : Int).toNat []).isSome then 0 else 17)]) :=
      Ctr.of_eq (args := [.rs 2 0 (rowsC []), .i .i64 C.length]) ⟨⟨rfl, rfl⟩, AVEq.refl _⟩ (Solve_err (l := []) (n := C.length) (by decide) (rightB_iff.2 ⟨by omega, by omega, by decide, fun c hc => by simp at hc⟩))
    obtain ⟨n1, n2, n3⟩ := no_world (b := b) pa hw
    rw [n1] at OA
    rw [n2] at MA0
    rw [n3] at SA
    have MA : ∀ f, Ctr Try.prog 53 [.rs 2 C.length (rowsM C), .rs 3 (0 + P.length + 1) (catG (0 + P.length) (catG 0 f (rowsP P)) (rowOf 3 q.av)), .i .i64 a] [.row 3 1 0 (rowsI [])] (.so 0) := fun f =>
      Ctr.of_eq (args := [.rs 2 C.length (rowsM C), .rs 3 (P ++ [q]).length (rowsP (P ++ [q])), .i .i64 a]) ⟨AVEq.refl _, av f, AVEq.refl _⟩ MA0
    repeat refine Or.inl ?_
    refine ⟨_, _, cl2 _, ?_⟩
    repeat refine Or.inl ?_
    refine ⟨[], _, sv, ?_⟩
    repeat refine Or.inl ?_
    refine ⟨fun _ => ?_, fun h => ?_⟩
    · repeat refine Or.inl ?_
      refine ⟨[], _, OA _, ?_⟩
      repeat refine Or.inl ?_
      refine ⟨_, _, fun _ => MA _, ?_⟩
      repeat refine Or.inl ?_
      refine ⟨[], _, fun _ => SA _, ?_⟩
      exact RetIs.b rfl
    · have h : ((k != 0) || ((if (firstL [] (C.length : Int).toNat []).isSome = true then (0 : Int) else 17) != 0)) = false := h
      rw [Bool.or_eq_false_iff, bne_eq_false_iff_eq] at h
      exact absurd h.1 hk
end Go.Proofs.Ytilhaifmfiobhaa
end
