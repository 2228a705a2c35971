/-
  Several texts in one: X6, X8.
-/
import Derived.Test.YtilhaifmfiobhaaMg11

section
/-
  Persons: to whom accounts belong; plain Lean, no program in sight.
-/
namespace Go.Proofs.Ytilhaifmfiobhaa

/-- The literals that one of the first k claims, about an account and a person, is true. -/
def litsTo (C : List Cm) (a p : Int) (k : Nat) : List Int := (List.range k).flatMap fun i => if (C.getD i dCm).acc = a ∧ (C.getD i dCm).per = p then [2 * (i : Int)] else []
def litsA (C : List Cm) (a p : Int) : List Int := litsTo C a p C.length
theorem litsTo_succ (C : List Cm) (a p : Int) (k : Nat) : litsTo C a p (k + 1) = litsTo C a p k ++ (if (C.getD k dCm).acc = a ∧ (C.getD k dCm).per = p then [2 * (k : Int)] else []) := by
  unfold litsTo
  rw [List.range_succ, List.flatMap_append]
  simp
theorem mem_litsA {C : List Cm} {a p x : Int} : x ∈ litsA C a p ↔ ∃ i, i < C.length ∧ (C.getD i dCm).acc = a ∧ (C.getD i dCm).per = p ∧ x = 2 * (i : Int) := by
  unfold litsA litsTo
  simp only [List.mem_flatMap, List.mem_range]
  constructor
  · rintro ⟨i, hi, h⟩
    split at h
    · rename_i e; exact ⟨i, hi, e.1, e.2, by simpa using h⟩
    · simp at h
  · rintro ⟨i, hi, h1, h2, rfl⟩
    exact ⟨i, hi, by rw [if_pos ⟨h1, h2⟩]; simp⟩
theorem litsTo_len (C : List Cm) (a p : Int) : ∀ k, (litsTo C a p k).length ≤ k
  | 0 => by simp [litsTo]
  | k + 1 => by
    have := litsTo_len C a p k
    rw [litsTo_succ, List.length_append]
    split <;> simp <;> omega
/-- An account belongs to a person in an assignment. -/
def Bel (C : List Cm) (vals : List Bool) (a p : Int) : Prop := ∃ i, i < C.length ∧ (C.getD i dCm).acc = a ∧ (C.getD i dCm).per = p ∧ vals.getD i false = true
theorem bel_lits {C : List Cm} {vals : List Bool} {a p : Int} : Bel C vals a p ↔ ∃ x ∈ litsA C a p, tv vals x = true := by
  constructor
  · rintro ⟨i, hi, h1, h2, h3⟩
    exact ⟨2 * (i : Int), mem_litsA.2 ⟨i, hi, h1, h2, rfl⟩, by rw [tv_even]; exact h3⟩
  · rintro ⟨x, hx, ht⟩
    obtain ⟨i, hi, h1, h2, rfl⟩ := mem_litsA.1 hx
    rw [tv_even] at ht
    exact ⟨i, hi, h1, h2, ht⟩
/-- An assignment that agrees with claims and proofs. -/
def Wd (C : List Cm) (P : List Pf) (vals : List Bool) : Prop := Good (clausesL C P) C.length [] vals
/-- At most one claim about an account is true. -/
theorem wd_one {C : List Cm} {P : List Pf} {vals : List Bool} (h : Wd C P vals) {i k : Nat} (hk : k < C.length) (hi : i < C.length) (he : (C.getD k dCm).acc = (C.getD i dCm).acc) (h1 : vals.getD i false = true) (h2 : vals.getD k false = true) : i = k := by
  have key : ∀ i k : Nat, k < C.length → i < k → (C.getD k dCm).acc = (C.getD i dCm).acc → vals.getD i false = true → vals.getD k false = true → False := by
    intro i k hk hi he h1 h2
    rcases h.sat _ (List.mem_append_left _ (mem_baseL.2 ⟨k, i, hk, hi, he, rfl⟩)) with h3 | h3
    · dsimp only at h3; rw [tv_odd, h1] at h3; cases h3
    · dsimp only at h3; rw [tv_odd, h2] at h3; cases h3
  rcases Nat.lt_trichotomy i k with hlt | heq | hlt
  · exact (key i k hk hlt he h1 h2).elim
  · exact heq
  · exact (key k i hi hlt he.symm h2 h1).elim
theorem bel_one {C : List Cm} {P : List Pf} {vals : List Bool} (h : Wd C P vals) {a p q : Int} (hp : Bel C vals a p) (hq : Bel C vals a q) : p = q := by
  obtain ⟨i, hi, h1, h2, h3⟩ := hp
  obtain ⟨k, hk, h4, h5, h6⟩ := hq
  have := wd_one h hk hi (h4.trans h1.symm) h3 h6
  subst this
  exact h2.symm.trans h5
/-- The persons of the claims about an account, ascending. -/
structure IsPers (C : List Cm) (a : Int) (L : List Int) : Prop where
  asc : L.Pairwise (· < ·)
  mem : ∀ p, p ∈ L ↔ ∃ i, i < C.length ∧ (C.getD i dCm).acc = a ∧ (C.getD i dCm).per = p
theorem bel_pers {C : List Cm} {vals : List Bool} {a p : Int} {L : List Int} (hL : IsPers C a L) (h : Bel C vals a p) : p ∈ L := by
  obtain ⟨i, hi, h1, h2, _⟩ := h
  exact (hL.mem p).2 ⟨i, hi, h1, h2⟩
def okCP (C : List Cm) (P : List Pf) : Bool := decide ((clausesY C P).2 = 0)
theorem okCP_iff {C : List Cm} {P : List Pf} : okCP C P = true ↔ RightCP C P ∧ (clausesL C P).length ≤ 4000 := by
  unfold okCP clausesY
  rw [decide_eq_true_eq]
  by_cases h : rightCP C P = true
  · rw [if_pos h]
    by_cases h2 : 4000 < (clausesL C P).length
    · rw [if_pos h2]
      exact ⟨fun h => (by cases h), fun h3 => (by omega)⟩
    · rw [if_neg h2]
      exact ⟨fun _ => ⟨rightCP_iff.1 h, by omega⟩, fun _ => rfl⟩
  · rw [if_neg h]
    exact ⟨fun h => (by cases h), fun h3 => absurd (rightCP_iff.2 h3.1) h⟩
theorem okCP_cl {C : List Cm} {P : List Pf} (h : okCP C P = true) : clausesY C P = (clausesL C P, 0) := by
  obtain ⟨h1, h2⟩ := okCP_iff.1 h
  unfold clausesY
  rw [if_pos (rightCP_iff.2 h1), if_neg (by omega)]
theorem not_okCP_cl {C : List Cm} {P : List Pf} (h : okCP C P = false) : (clausesY C P).1 = [] ∧ (clausesY C P).2 ≠ 0 := by
  unfold okCP at h
  rw [decide_eq_false_iff_not] at h
  refine ⟨?_, h⟩
  unfold clausesY at h ⊢
  split
  · rename_i h1
    rw [if_pos h1] at h
    split
    · rfl
    · rename_i h2; rw [if_neg h2] at h; exact absurd rfl h
  · rfl
/-- Whether there is a world. -/
def hasW (C : List Cm) (P : List Pf) : Bool := okCP C P && (firstL (clausesL C P) C.length []).isSome
theorem hasW_iff {C : List Cm} {P : List Pf} : hasW C P = true ↔ okCP C P = true ∧ ∃ vals, Wd C P vals := by
  unfold hasW
  rw [Bool.and_eq_true, firstL_isSome]
  rfl
theorem lits_ok {C : List Cm} {a p : Int} : ∀ x ∈ litsA C a p, 0 ≤ x ∧ x < 2 * (C.length : Int) := by
  intro x hx
  obtain ⟨i, hi, _, _, rfl⟩ := mem_litsA.1 hx
  omega
/-- In each world the account belongs to this person. -/
theorem follows_bel {C : List Cm} {P : List Pf} (h : okCP C P = true) (a p : Int) : followsB (clausesL C P) C.length (litsA C a p) = true ↔ ∀ vals, Wd C P vals → Bel C vals a p := by
  obtain ⟨h1, h2⟩ := okCP_iff.1 h
  rw [followsB_iff]
  constructor
  · rintro ⟨_, _, h3⟩ vals hv
    exact bel_lits.2 (h3 vals hv)
  · intro h3
    exact ⟨clausesL_right h1 h2, lits_ok, fun vals hv => bel_lits.1 (h3 vals hv)⟩
/-- To whom an account belongs in each world; whether there is such a person. -/
def ofY (C : List Cm) (P : List Pf) (L : List Int) (a : Int) : Int × Bool :=
  match L.find? fun p => hasW C P && followsB (clausesL C P) C.length (litsA C a p) with
  | some p => (p, true)
  | none => (0, false)
theorem of_true {C : List Cm} {P : List Pf} {L : List Int} {a : Int} (hL : IsPers C a L) {p : Int} : ofY C P L a = (p, true) ↔ hasW C P = true ∧ ∀ vals, Wd C P vals → Bel C vals a p := by
  unfold ofY
  constructor
  · intro h
    split at h
    · rename_i q hq
      obtain rfl : q = p := by simpa using congrArg Prod.fst h
      have := List.find?_some hq
      rw [Bool.and_eq_true] at this
      exact ⟨this.1, (follows_bel (hasW_iff.1 this.1).1 a q).1 this.2⟩
    · cases h
  · rintro ⟨h1, h2⟩
    obtain ⟨hok, vals, hv⟩ := hasW_iff.1 h1
    split
    · rename_i q hq
      have := List.find?_some hq
      rw [Bool.and_eq_true] at this
      have hq2 := (follows_bel hok a q).1 this.2 vals hv
      rw [bel_one hv hq2 (h2 vals hv)]
    · rename_i hn
      have := List.find?_eq_none.1 hn p (bel_pers hL (h2 vals hv))
      rw [h1, (follows_bel hok a p).2 h2] at this
      exact absurd rfl this
theorem of_false {C : List Cm} {P : List Pf} {L : List Int} {a : Int} (h : (ofY C P L a).2 = false) : ofY C P L a = (0, false) := by
  unfold ofY at h ⊢
  split at h
  · cases h
  · rfl
theorem of_snd {C : List Cm} {P : List Pf} {L : List Int} {a : Int} (hL : IsPers C a L) : (ofY C P L a).2 = true ↔ hasW C P = true ∧ ∃ p, ∀ vals, Wd C P vals → Bel C vals a p := by
  constructor
  · intro h
    have : ofY C P L a = ((ofY C P L a).1, true) := Prod.ext rfl h
    obtain ⟨h1, h2⟩ := (of_true hL).1 this
    exact ⟨h1, _, h2⟩
  · rintro ⟨h1, p, h2⟩
    rw [(of_true hL).2 ⟨h1, h2⟩]

/-- To whom an account may belong. -/
def canB (C : List Cm) (P : List Pf) (x : Int) : Bool := (firstL (clausesL C P ++ [unit x]) C.length []).isSome
def mayL (C : List Cm) (P : List Pf) (L : List Int) (a : Int) : List Int := L.filter fun p => okCP C P && (litsA C a p).any (canB C P)
theorem can_iff {C : List Cm} {P : List Pf} {x : Int} : canB C P x = true ↔ ∃ vals, Wd C P vals ∧ tv vals x = true := by
  unfold canB
  rw [firstL_isSome]
  constructor
  · rintro ⟨v, g⟩
    obtain ⟨g1, g2⟩ := good_append.1 g
    exact ⟨v, g1, satV_unit.1 g2⟩
  · rintro ⟨v, g1, g2⟩
    exact ⟨v, good_append.2 ⟨g1, satV_unit.2 g2⟩⟩
theorem mem_may {C : List Cm} {P : List Pf} {L : List Int} {a p : Int} (hL : IsPers C a L) : p ∈ mayL C P L a ↔ okCP C P = true ∧ ∃ vals, Wd C P vals ∧ Bel C vals a p := by
  unfold mayL
  rw [List.mem_filter, Bool.and_eq_true, List.any_eq_true]
  constructor
  · rintro ⟨_, h1, x, hx, hc⟩
    obtain ⟨v, g, ht⟩ := can_iff.1 hc
    exact ⟨h1, v, g, bel_lits.2 ⟨x, hx, ht⟩⟩
  · rintro ⟨h1, v, g, hb⟩
    obtain ⟨x, hx, ht⟩ := bel_lits.1 hb
    exact ⟨bel_pers hL hb, h1, x, hx, can_iff.2 ⟨v, g, ht⟩⟩
theorem may_asc {C : List Cm} {P : List Pf} {L : List Int} {a : Int} (hL : IsPers C a L) : (mayL C P L a).Pairwise (· < ·) := hL.asc.filter _

/-- The clauses that no person has both accounts. -/
def apartL (X Y : List Int) : List Cl := X.flatMap fun x => Y.map fun y => ⟨x + 1, y + 1⟩
def apartC (C : List Cm) (L : List Int) (a b : Int) : List Cl := L.flatMap fun p => apartL (litsA C a p) (litsA C b p)
theorem satV_apart {C : List Cm} {L : List Int} {a b : Int} (hL : IsPers C a L) {vals : List Bool} : SatV (apartC C L a b) vals ↔ ¬ ∃ p, Bel C vals a p ∧ Bel C vals b p := by
  have odd : ∀ {a p x : Int}, x ∈ litsA C a p → tv vals (x + 1) = !tv vals x := by
    intro a p x hx
    obtain ⟨i, _, _, _, rfl⟩ := mem_litsA.1 hx
    rw [tv_odd, tv_even]
  constructor
  · rintro h ⟨p, ha, hb⟩
    obtain ⟨x, hx, htx⟩ := bel_lits.1 ha
    obtain ⟨y, hy, hty⟩ := bel_lits.1 hb
    have := h ⟨x + 1, y + 1⟩ (List.mem_flatMap.2 ⟨p, bel_pers hL ha, List.mem_flatMap.2 ⟨x, hx, List.mem_map.2 ⟨y, hy, rfl⟩⟩⟩)
    dsimp only at this
    rw [odd hx, odd hy, htx, hty] at this
    rcases this with h | h <;> cases h
  · intro h c hc
    obtain ⟨p, _, hc⟩ := List.mem_flatMap.1 hc
    obtain ⟨x, hx, hc⟩ := List.mem_flatMap.1 hc
    obtain ⟨y, hy, rfl⟩ := List.mem_map.1 hc
    dsimp only
    rw [odd hx, odd hy]
    cases htx : tv vals x with
    | false => exact .inl rfl
    | true =>
      cases hty : tv vals y with
      | false => exact .inr rfl
      | true => exact absurd ⟨p, bel_lits.2 ⟨x, hx, htx⟩, bel_lits.2 ⟨y, hy, hty⟩⟩ h
def sameB (C : List Cm) (P : List Pf) (L : List Int) (a b : Int) : Bool := hasW C P && (firstL (clausesL C P ++ apartC C L a b) C.length []).isNone
theorem same_iff {C : List Cm} {P : List Pf} {L : List Int} {a b : Int} (hL : IsPers C a L) : sameB C P L a b = true ↔ hasW C P = true ∧ ∀ vals, Wd C P vals → ∃ p, Bel C vals a p ∧ Bel C vals b p := by
  unfold sameB
  rw [Bool.and_eq_true, Option.isNone_iff_eq_none, firstL_none]
  constructor
  · rintro ⟨h1, h2⟩
    refine ⟨h1, fun vals hv => Classical.byContradiction fun hn => h2 ⟨vals, good_append.2 ⟨hv, (satV_apart hL).2 hn⟩⟩⟩
  · rintro ⟨h1, h2⟩
    refine ⟨h1, ?_⟩
    rintro ⟨vals, g⟩
    obtain ⟨g1, g2⟩ := good_append.1 g
    exact (satV_apart hL).1 g2 (h2 vals g1)
theorem mem_apartC {C : List Cm} {L : List Int} {a b : Int} {c : Cl} (h : c ∈ apartC C L a b) : (0 ≤ c.a ∧ c.a < 2 * (C.length : Int)) ∧ (0 ≤ c.b ∧ c.b < 2 * (C.length : Int)) := by
  obtain ⟨p, _, hc⟩ := List.mem_flatMap.1 h
  obtain ⟨x, hx, hc⟩ := List.mem_flatMap.1 hc
  obtain ⟨y, hy, rfl⟩ := List.mem_map.1 hc
  obtain ⟨i, hi, _, _, rfl⟩ := mem_litsA.1 hx
  obtain ⟨k, hk, _, _, rfl⟩ := mem_litsA.1 hy
  dsimp only
  omega

/-! ### the laws -/
section
variable {C : List Cm} {P : List Pf} {La Lb Lc : List Int} {a b c : Int}
theorem same_symm (ha : IsPers C a La) (hb : IsPers C b Lb) : sameB C P La a b = sameB C P Lb b a := by
  rw [Bool.eq_iff_iff, same_iff ha, same_iff hb]
  exact ⟨fun h => ⟨h.1, fun v hv => (h.2 v hv).imp fun p hp => ⟨hp.2, hp.1⟩⟩, fun h => ⟨h.1, fun v hv => (h.2 v hv).imp fun p hp => ⟨hp.2, hp.1⟩⟩⟩
theorem same_trans (ha : IsPers C a La) (hb : IsPers C b Lb) (h1 : sameB C P La a b = true) (h2 : sameB C P Lb b c = true) : sameB C P La a c = true := by
  obtain ⟨hw, h3⟩ := (same_iff ha).1 h1
  obtain ⟨_, h4⟩ := (same_iff hb).1 h2
  refine (same_iff ha).2 ⟨hw, fun v hv => ?_⟩
  obtain ⟨p, hp1, hp2⟩ := h3 v hv
  obtain ⟨q, hq1, hq2⟩ := h4 v hv
  rw [bel_one hv hp2 hq1] at hp1
  exact ⟨q, hp1, hq2⟩
theorem of_same (ha : IsPers C a La) (hb : IsPers C b Lb) {p : Int} (h1 : ofY C P La a = (p, true)) (h2 : ofY C P Lb b = (p, true)) : sameB C P La a b = true := by
  obtain ⟨hw, h3⟩ := (of_true ha).1 h1
  obtain ⟨_, h4⟩ := (of_true hb).1 h2
  exact (same_iff ha).2 ⟨hw, fun v hv => ⟨p, h3 v hv, h4 v hv⟩⟩
theorem same_of (ha : IsPers C a La) (hb : IsPers C b Lb) (h : sameB C P La a b = true) : ofY C P La a = ofY C P Lb b := by
  obtain ⟨hw, h3⟩ := (same_iff ha).1 h
  have key : ∀ p, (∀ v, Wd C P v → Bel C v a p) ↔ ∀ v, Wd C P v → Bel C v b p := by
    intro p
    constructor
    · intro h4 v hv
      obtain ⟨q, hq1, hq2⟩ := h3 v hv
      rw [bel_one hv (h4 v hv) hq1]
      exact hq2
    · intro h4 v hv
      obtain ⟨q, hq1, hq2⟩ := h3 v hv
      rw [bel_one hv (h4 v hv) hq2]
      exact hq1
  cases h1 : (ofY C P La a).2 with
  | true =>
    have e : ofY C P La a = ((ofY C P La a).1, true) := Prod.ext rfl h1
    obtain ⟨_, h5⟩ := (of_true ha).1 e
    have := (of_true hb).2 ⟨hw, (key _).1 h5⟩
    rw [e, this]
  | false =>
    cases h2 : (ofY C P Lb b).2 with
    | false => rw [of_false h1, of_false h2]
    | true =>
      have e : ofY C P Lb b = ((ofY C P Lb b).1, true) := Prod.ext rfl h2
      obtain ⟨_, h5⟩ := (of_true hb).1 e
      have := (of_true ha).2 ⟨hw, (key _).2 h5⟩
      rw [this] at h1
      cases h1
/-- Whoever an account belongs to in each world is the only one to whom it may belong. -/
theorem of_may (ha : IsPers C a La) {p : Int} (h : ofY C P La a = (p, true)) : mayL C P La a = [p] := by
  obtain ⟨hw, h3⟩ := (of_true ha).1 h
  obtain ⟨hok, v, hv⟩ := hasW_iff.1 hw
  have hm : ∀ q, q ∈ mayL C P La a ↔ q = p := by
    intro q
    rw [mem_may ha]
    constructor
    · rintro ⟨_, u, hu, hq⟩
      exact bel_one hu hq (h3 u hu)
    · rintro rfl
      exact ⟨hok, v, hv, h3 v hv⟩
  have hasc := may_asc (P := P) ha
  generalize mayL C P La a = M at hm hasc
  match M, hm, hasc with
  | [], hm, _ => exact absurd ((hm p).2 rfl) (by simp)
  | [q], hm, _ => rw [(hm q).1 (by simp)]
  | q :: r :: t, hm, hasc =>
    have h1 := (hm q).1 (by simp)
    have h2 := (hm r).1 (by simp)
    have := (List.pairwise_cons.1 hasc).1 r (by simp)
    omega
/-- Where there is no world, nothing is known, and nothing is possible. -/
theorem no_world (ha : IsPers C a La) (h : hasW C P = false) : ofY C P La a = (0, false) ∧ mayL C P La a = [] ∧ sameB C P La a b = false := by
  refine ⟨of_false ?_, ?_, by unfold sameB; rw [h]; rfl⟩
  · cases e : (ofY C P La a).2 with
    | false => rfl
    | true => rw [((of_snd ha).1 e).1] at h; cases h
  · rw [List.eq_nil_iff_forall_not_mem]
    intro p hp
    obtain ⟨hok, v, hv, _⟩ := (mem_may ha).1 hp
    rw [hasW_iff.2 ⟨hok, v, hv⟩] at h
    cases h
end
/-- With a further proof the worlds are some of those without it. -/
theorem wd_more {C : List Cm} {P : List Pf} {q : Pf} {vals : List Bool} (h : Wd C (P ++ [q]) vals) : Wd C P vals := by
  refine ⟨h.len, fun c hc => h.sat c ?_, h.lit⟩
  unfold clausesL at hc ⊢
  rw [List.map_append]
  rcases List.mem_append.1 hc with hc | hc
  · exact List.mem_append_left _ hc
  · exact List.mem_append_right _ (List.mem_append_left _ hc)
theorem ok_less {C : List Cm} {P : List Pf} {q : Pf} (h : okCP C (P ++ [q]) = true) : okCP C P = true := by
  obtain ⟨h1, h2⟩ := okCP_iff.1 h
  refine okCP_iff.2 ⟨⟨h1.lc, ?_, h1.cm, h1.nd, fun p hp => h1.pf p (List.mem_append_left _ hp)⟩, ?_⟩
  · have := h1.lp
    rw [List.length_append] at this
    omega
  · unfold clausesL at h2 ⊢
    rw [List.length_append, List.length_map] at h2 ⊢
    rw [List.length_append] at h2
    omega
section
variable {C : List Cm} {P : List Pf} {q : Pf} {La : List Int} {a b : Int}
theorem more_of (ha : IsPers C a La) (hw : hasW C (P ++ [q]) = true) {p : Int} (h : ofY C P La a = (p, true)) : ofY C (P ++ [q]) La a = (p, true) :=
  (of_true ha).2 ⟨hw, fun v hv => ((of_true ha).1 h).2 v (wd_more hv)⟩
theorem more_same (ha : IsPers C a La) (hw : hasW C (P ++ [q]) = true) (h : sameB C P La a b = true) : sameB C (P ++ [q]) La a b = true :=
  (same_iff ha).2 ⟨hw, fun v hv => ((same_iff ha).1 h).2 v (wd_more hv)⟩
theorem more_may (ha : IsPers C a La) {p : Int} (h : p ∈ mayL C (P ++ [q]) La a) : p ∈ mayL C P La a := by
  obtain ⟨hok, v, hv, hb⟩ := (mem_may ha).1 h
  exact (mem_may ha).2 ⟨ok_less hok, v, wd_more hv, hb⟩
end
end Go.Proofs.Ytilhaifmfiobhaa
end

section
/-
  Where there is no assignment, some variable leads to its opposite and back.
-/
namespace Go.Proofs.Ytilhaifmfiobhaa

open Classical in
theorem adds_ex {l : List Cl} {n : Nat} (hr : RightC n l) (S : List Int) {r : Int} (h : 0 ≤ r ∧ r < 2 * (n : Int)) : ∃ T, Adds l S T [r] := by
  have hin : ∀ {x : Int}, 0 ≤ x ∧ x < 2 * (n : Int) → Rc l r x → x ∈ S ++ (((List.range (2 * n)).map fun i : Nat => (i : Int)).filter fun x => decide (Rc l r x)) := by
    intro x hx hrc
    refine List.mem_append_right _ (List.mem_filter.2 ⟨List.mem_map.2 ⟨x.toNat, List.mem_range.2 (by omega), by omega⟩, by simpa using hrc⟩)
  have hout : ∀ {x : Int}, x ∈ S ++ (((List.range (2 * n)).map fun i : Nat => (i : Int)).filter fun x => decide (Rc l r x)) → x ∉ S → Rc l r x := by
    intro x hx hn
    have := (List.mem_append.1 hx).resolve_left hn
    simpa using (List.mem_filter.1 this).2
  refine ⟨S ++ (((List.range (2 * n)).map fun i : Nat => (i : Int)).filter fun x => decide (Rc l r x)), fun x hx => List.mem_append_left _ hx, fun x hx => ?_, fun x hx hn y e => ?_, fun x hx hn => ⟨r, by simp, hout hx hn⟩⟩
  · rw [List.mem_singleton.1 hx]
    exact hin h (.refl _)
  · exact hin (e.ok hr).2 (.step (hout hx hn) e)
theorem unsat_both {l : List Cl} {n : Nat} (hr : RightC n l) (h : ¬ ∃ vals, Good l n [] vals) : ∃ v : Nat, v < n ∧ Rc l (2 * (v : Int)) (2 * (v : Int) + 1) ∧ Rc l (2 * (v : Int) + 1) (2 * (v : Int)) := by
  refine Classical.byContradiction fun hno => h ?_
  have key : ∀ k, k ≤ n → ∃ S vs, vs.length = k ∧ FirstInv l n [] S vs := by
    intro k
    induction k with
    | zero => exact fun _ => ⟨[], [], rfl, FirstInv.start (Adds.refl l []) (not_clash_self [])⟩
    | succ k ih =>
      intro hk
      obtain ⟨S, vs, hl, hI⟩ := ih (by omega)
      subst hl
      by_cases hkn : 2 * (vs.length : Int) ∈ S ∨ 2 * (vs.length : Int) + 1 ∈ S
      · exact ⟨S, _, by simp, hI.known hkn⟩
      · obtain ⟨T1, h1⟩ := adds_ex hr S (r := 2 * (vs.length : Int) + 1) (by omega)
        by_cases hc1 : Clash S T1
        · obtain ⟨T, h2⟩ := adds_ex hr S (r := 2 * (vs.length : Int)) (by omega)
          by_cases hc : Clash S T
          · exact absurd ⟨vs.length, by omega, hI.both h1 hc1 h2 hc hkn⟩ hno
          · exact ⟨T, _, by simp, hI.yes h1 hc1 h2 hc⟩
        · exact ⟨T1, _, by simp, hI.no h1 hc1⟩
  obtain ⟨S, vs, hl, hI⟩ := key n (Nat.le_refl _)
  exact ⟨vs, hI.good hr hl fun x hx => by simp at hx⟩
/-- Such a variable has a way there, and one back. -/
theorem PathR.some_of {l : List Cl} {a b : Int} (hne : a ≠ b) (h : Rc l a b) {y : Option (List Int)} (hy : PathR l a b y) : ∃ p, y = some p := by
  cases y with
  | some p => exact ⟨p, rfl⟩
  | none =>
    obtain ⟨x, h1, h2⟩ := h.last hne
    exact absurd h2 (hy x h1)
end Go.Proofs.Ytilhaifmfiobhaa
end
