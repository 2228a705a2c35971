/-
  Several texts in one: Tab, X5, St.
-/
import Derived.Test.YtilhaifmfiobhaaProg
import Derived.KernelRfl
import Derived.Test.YtilhaifmfiobhaaMg11

section
/-
  The types that the functions name, as the engine's table.
-/
namespace Go.Proofs.Ytilhaifmfiobhaa
open Go.Eng
def ti25 : TI := ⟨(.struct #[⟨"A", 3, 0, false, "", "", 0⟩, ⟨"B", 3, 1, false, "", "", 8⟩]), true, 2, 16, (.agg #[(.int .i64 0), (.int .i64 0)]), true⟩   -- api.Clause
theorem tiOk25 : TIOk Try.prog 25 ti25 := TIOk.of (by kernel_rfl) rfl (by kernel_rfl)
theorem cmpOk25 : ti25.cmp = true → structCmpB Try.prog 25 = true := fun _ => by kernel_rfl
def ti22 : TI := ⟨(.slice 25), false, 1, 24, (.slice none 0 0), false⟩   -- []api.Clause
theorem tiOk22 : TIOk Try.prog 22 ti22 := TIOk.of (by kernel_rfl) rfl (by kernel_rfl)
theorem cmpOk22 : ti22.cmp = true → structCmpB Try.prog 22 = true := fun h => by cases h
def ti3 : TI := ⟨(.int .i64), false, 1, 8, (.int .i64 0), false⟩   -- int
theorem tiOk3 : TIOk Try.prog 3 ti3 := TIOk.of (by kernel_rfl) rfl (by kernel_rfl)
theorem cmpOk3 : ti3.cmp = true → structCmpB Try.prog 3 = true := fun h => by cases h
def ti23 : TI := ⟨(.slice 3), false, 1, 24, (.slice none 0 0), false⟩   -- []int
theorem tiOk23 : TIOk Try.prog 23 ti23 := TIOk.of (by kernel_rfl) rfl (by kernel_rfl)
theorem cmpOk23 : ti23.cmp = true → structCmpB Try.prog 23 = true := fun h => by cases h
def ti4 : TI := ⟨.bool, false, 1, 1, (.bool false), false⟩   -- bool
theorem tiOk4 : TIOk Try.prog 4 ti4 := TIOk.of (by kernel_rfl) rfl (by kernel_rfl)
theorem cmpOk4 : ti4.cmp = true → structCmpB Try.prog 4 = true := fun h => by cases h
def ti30 : TI := ⟨(.int .i64), false, 1, 8, (.int .i64 0), false⟩   -- api.Errno
theorem tiOk30 : TIOk Try.prog 30 ti30 := TIOk.of (by kernel_rfl) rfl (by kernel_rfl)
theorem cmpOk30 : ti30.cmp = true → structCmpB Try.prog 30 = true := fun h => by cases h
def ti29 : TI := ⟨(.slice 4), false, 1, 24, (.slice none 0 0), false⟩   -- []bool
theorem tiOk29 : TIOk Try.prog 29 ti29 := TIOk.of (by kernel_rfl) rfl (by kernel_rfl)
theorem cmpOk29 : ti29.cmp = true → structCmpB Try.prog 29 = true := fun h => by cases h
def ti43 : TI := ⟨(.slice 55), false, 1, 24, (.slice none 0 0), false⟩   -- []api.Proof
theorem tiOk43 : TIOk Try.prog 43 ti43 := TIOk.of (by kernel_rfl) rfl (by kernel_rfl)
theorem cmpOk43 : ti43.cmp = true → structCmpB Try.prog 43 = true := fun h => by cases h
def ti42 : TI := ⟨(.slice 73), false, 1, 24, (.slice none 0 0), false⟩   -- []api.Claim
theorem tiOk42 : TIOk Try.prog 42 ti42 := TIOk.of (by kernel_rfl) rfl (by kernel_rfl)
theorem cmpOk42 : ti42.cmp = true → structCmpB Try.prog 42 = true := fun h => by cases h
def ti5 : TI := ⟨(.int .u8), false, 1, 1, (.int .u8 0), false⟩   -- uint8
theorem tiOk5 : TIOk Try.prog 5 ti5 := TIOk.of (by kernel_rfl) rfl (by kernel_rfl)
theorem cmpOk5 : ti5.cmp = true → structCmpB Try.prog 5 = true := fun h => by cases h
def ti55 : TI := ⟨(.struct #[⟨"Kind", 3, 0, false, "", "", 0⟩, ⟨"A", 3, 1, false, "", "", 8⟩, ⟨"B", 3, 2, false, "", "", 16⟩]), true, 3, 24, (.agg #[(.int .i64 0), (.int .i64 0), (.int .i64 0)]), true⟩   -- api.Proof
theorem tiOk55 : TIOk Try.prog 55 ti55 := TIOk.of (by kernel_rfl) rfl (by kernel_rfl)
theorem cmpOk55 : ti55.cmp = true → structCmpB Try.prog 55 = true := fun _ => by kernel_rfl
def ti57 : TI := ⟨(.slice 29), false, 1, 24, (.slice none 0 0), false⟩   -- [][]bool
theorem tiOk57 : TIOk Try.prog 57 ti57 := TIOk.of (by kernel_rfl) rfl (by kernel_rfl)
theorem cmpOk57 : ti57.cmp = true → structCmpB Try.prog 57 = true := fun h => by cases h
def ti68 : TI := ⟨(.struct #[⟨"Group", 3, 0, false, "", "", 0⟩, ⟨"Person", 3, 1, false, "", "", 8⟩, ⟨"Rights", 3, 2, false, "", "", 16⟩]), true, 3, 24, (.agg #[(.int .i64 0), (.int .i64 0), (.int .i64 0)]), true⟩   -- api.Grant
theorem tiOk68 : TIOk Try.prog 68 ti68 := TIOk.of (by kernel_rfl) rfl (by kernel_rfl)
theorem cmpOk68 : ti68.cmp = true → structCmpB Try.prog 68 = true := fun _ => by kernel_rfl
def ti66 : TI := ⟨(.slice 68), false, 1, 24, (.slice none 0 0), false⟩   -- []api.Grant
theorem tiOk66 : TIOk Try.prog 66 ti66 := TIOk.of (by kernel_rfl) rfl (by kernel_rfl)
theorem cmpOk66 : ti66.cmp = true → structCmpB Try.prog 66 = true := fun h => by cases h
def ti73 : TI := ⟨(.struct #[⟨"Account", 3, 0, false, "", "", 0⟩, ⟨"Person", 3, 1, false, "", "", 8⟩]), true, 2, 16, (.agg #[(.int .i64 0), (.int .i64 0)]), true⟩   -- api.Claim
theorem tiOk73 : TIOk Try.prog 73 ti73 := TIOk.of (by kernel_rfl) rfl (by kernel_rfl)
theorem cmpOk73 : ti73.cmp = true → structCmpB Try.prog 73 = true := fun _ => by kernel_rfl
def ti93 : TI := ⟨(.func #[3] #[4] false), false, 1, 8, .nilFunc, false⟩   -- func(int) bool
theorem tiOk93 : TIOk Try.prog 93 ti93 := TIOk.of (by kernel_rfl) rfl (by kernel_rfl)
theorem cmpOk93 : ti93.cmp = true → structCmpB Try.prog 93 = true := fun h => by cases h
def ti87 : TI := ⟨(.map 3 23), false, 1, 8, (.map none), false⟩   -- sat.implied
theorem tiOk87 : TIOk Try.prog 87 ti87 := TIOk.of (by kernel_rfl) rfl (by kernel_rfl)
theorem cmpOk87 : ti87.cmp = true → structCmpB Try.prog 87 = true := fun h => by cases h
def ti100 : TI := ⟨(.map 73 4), false, 1, 8, (.map none), false⟩   -- map[api.Claim]bool
theorem tiOk100 : TIOk Try.prog 100 ti100 := TIOk.of (by kernel_rfl) rfl (by kernel_rfl)
theorem cmpOk100 : ti100.cmp = true → structCmpB Try.prog 100 = true := fun h => by cases h
def ti117 : TI := ⟨(.map 3 4), false, 1, 8, (.map none), false⟩   -- map[int]bool
theorem tiOk117 : TIOk Try.prog 117 ti117 := TIOk.of (by kernel_rfl) rfl (by kernel_rfl)
theorem cmpOk117 : ti117.cmp = true → structCmpB Try.prog 117 = true := fun h => by cases h
def ti127 : TI := ⟨(.map 3 3), false, 1, 8, (.map none), false⟩   -- map[int]int
theorem tiOk127 : TIOk Try.prog 127 ti127 := TIOk.of (by kernel_rfl) rfl (by kernel_rfl)
theorem cmpOk127 : ti127.cmp = true → structCmpB Try.prog 127 = true := fun h => by cases h
def ti133 : TI := ⟨(.struct #[⟨"claims", 42, 0, false, "", "lingua/rights", 0⟩, ⟨"clauses", 22, 1, false, "", "lingua/rights", 24⟩, ⟨"has", 117, 2, false, "", "lingua/rights", 48⟩]), true, 3, 56, (.agg #[(.slice none 0 0), (.slice none 0 0), (.map none)]), false⟩   -- rights.problem
theorem tiOk133 : TIOk Try.prog 133 ti133 := TIOk.of (by kernel_rfl) rfl (by kernel_rfl)
theorem cmpOk133 : ti133.cmp = true → structCmpB Try.prog 133 = true := fun h => by cases h
def ti136 : TI := ⟨(.int .u64), false, 1, 8, (.int .u64 0), false⟩   -- uint
theorem tiOk136 : TIOk Try.prog 136 ti136 := TIOk.of (by kernel_rfl) rfl (by kernel_rfl)
theorem cmpOk136 : ti136.cmp = true → structCmpB Try.prog 136 = true := fun h => by cases h
def ti137 : TI := ⟨(.func #[3] #[] false), false, 1, 8, .nilFunc, false⟩   -- func(int)
theorem tiOk137 : TIOk Try.prog 137 ti137 := TIOk.of (by kernel_rfl) rfl (by kernel_rfl)
theorem cmpOk137 : ti137.cmp = true → structCmpB Try.prog 137 = true := fun h => by cases h
def ti141 : TI := ⟨(.int .i64), false, 1, 8, (.int .i64 0), false⟩   -- slices.sortedHint
theorem tiOk141 : TIOk Try.prog 141 ti141 := TIOk.of (by kernel_rfl) rfl (by kernel_rfl)
theorem cmpOk141 : ti141.cmp = true → structCmpB Try.prog 141 = true := fun h => by cases h
def ti149 : TI := ⟨(.int .u32), false, 1, 4, (.int .u32 0), false⟩   -- uint32
theorem tiOk149 : TIOk Try.prog 149 ti149 := TIOk.of (by kernel_rfl) rfl (by kernel_rfl)
theorem cmpOk149 : ti149.cmp = true → structCmpB Try.prog 149 = true := fun h => by cases h
def ti153 : TI := ⟨(.int .u64), false, 1, 8, (.int .u64 0), false⟩   -- slices.xorshift
theorem tiOk153 : TIOk Try.prog 153 ti153 := TIOk.of (by kernel_rfl) rfl (by kernel_rfl)
theorem cmpOk153 : ti153.cmp = true → structCmpB Try.prog 153 = true := fun h => by cases h
def ti9 : TI := ⟨.string, false, 1, 16, (.string ⟨#[]⟩), false⟩   -- string
theorem tiOk9 : TIOk Try.prog 9 ti9 := TIOk.of (by kernel_rfl) rfl (by kernel_rfl)
theorem cmpOk9 : ti9.cmp = true → structCmpB Try.prog 9 = true := fun h => by cases h
def ti151 : TI := ⟨(.int .u64), false, 1, 8, (.int .u64 0), false⟩   -- uint64
theorem tiOk151 : TIOk Try.prog 151 ti151 := TIOk.of (by kernel_rfl) rfl (by kernel_rfl)
theorem cmpOk151 : ti151.cmp = true → structCmpB Try.prog 151 = true := fun h => by cases h

def T : List (Nat × TI) := [(25, ti25), (22, ti22), (3, ti3), (23, ti23), (4, ti4), (30, ti30), (29, ti29), (43, ti43), (42, ti42), (5, ti5), (55, ti55), (57, ti57), (68, ti68), (66, ti66), (73, ti73), (93, ti93), (87, ti87), (100, ti100), (117, ti117), (127, ti127), (133, ti133), (136, ti136), (137, ti137), (141, ti141), (149, ti149), (153, ti153), (9, ti9), (151, ti151)]
theorem mixedOk : Try.prog.follows .mixedOrders = true := by kernel_rfl
theorem tabOk : TabOk Try.prog T := ⟨⟨tiOk25, cmpOk25⟩, ⟨tiOk22, cmpOk22⟩, ⟨tiOk3, cmpOk3⟩, ⟨tiOk23, cmpOk23⟩, ⟨tiOk4, cmpOk4⟩, ⟨tiOk30, cmpOk30⟩, ⟨tiOk29, cmpOk29⟩, ⟨tiOk43, cmpOk43⟩, ⟨tiOk42, cmpOk42⟩, ⟨tiOk5, cmpOk5⟩, ⟨tiOk55, cmpOk55⟩, ⟨tiOk57, cmpOk57⟩, ⟨tiOk68, cmpOk68⟩, ⟨tiOk66, cmpOk66⟩, ⟨tiOk73, cmpOk73⟩, ⟨tiOk93, cmpOk93⟩, ⟨tiOk87, cmpOk87⟩, ⟨tiOk100, cmpOk100⟩, ⟨tiOk117, cmpOk117⟩, ⟨tiOk127, cmpOk127⟩, ⟨tiOk133, cmpOk133⟩, ⟨tiOk136, cmpOk136⟩, ⟨tiOk137, cmpOk137⟩, ⟨tiOk141, cmpOk141⟩, ⟨tiOk149, cmpOk149⟩, ⟨tiOk153, cmpOk153⟩, ⟨tiOk9, cmpOk9⟩, ⟨tiOk151, cmpOk151⟩, mixedOk⟩
end Go.Proofs.Ytilhaifmfiobhaa
end

section
/-
  Claims and proofs: what they say as clauses, and the conflict; plain Lean, no program in sight.
-/
namespace Go.Proofs.Ytilhaifmfiobhaa

structure Cm where
  acc : Int
  per : Int
structure Pf where
  kind : Int
  a : Int
  b : Int
def dCm : Cm := ⟨0, 0⟩
def dPf : Pf := ⟨0, 0, 0⟩
theorem Cm.ext' {c d : Cm} (h1 : c.acc = d.acc) (h2 : c.per = d.per) : c = d := by
  cases c; cases d; simp at h1 h2; rw [h1, h2]
def cmB (c : Cm) : Bool := (decide (0 ≤ c.acc) && decide (c.acc < 2000)) && (decide (0 ≤ c.per) && decide (c.per < 2000))
def cmEq (c d : Cm) : Bool := decide (c.acc = d.acc) && decide (c.per = d.per)
theorem cmEq_iff {c d : Cm} : cmEq c d = true ↔ c = d := by
  unfold cmEq
  rw [Bool.and_eq_true, decide_eq_true_eq, decide_eq_true_eq]
  exact ⟨fun h => Cm.ext' h.1 h.2, fun h => by rw [h]; exact ⟨rfl, rfl⟩⟩
/-- Whether one of the first k claims is this one. -/
def seenB (C : List Cm) (c : Cm) (k : Nat) : Bool := (List.range k).any fun i => cmEq (C.getD i dCm) c
def pfB (n : Nat) (p : Pf) : Bool := ((decide (0 ≤ p.kind) && decide (p.kind < 5)) && (decide (0 ≤ p.a) && decide (p.a < n))) && ((decide (0 ≤ p.b) && decide (p.b < n)) && (!(decide (p.kind = 0) || decide (p.kind = 1)) || decide (p.b = 0)))
def rightCP (C : List Cm) (P : List Pf) : Bool := ((decide (C.length ≤ 200) && decide (P.length ≤ 400)) && (List.range C.length).all fun k => cmB (C.getD k dCm) && !seenB C (C.getD k dCm) k) && P.all (pfB C.length)
structure RightCP (C : List Cm) (P : List Pf) : Prop where
  lc : C.length ≤ 200
  lp : P.length ≤ 400
  cm : ∀ k, k < C.length → (0 ≤ (C.getD k dCm).acc ∧ (C.getD k dCm).acc < 2000) ∧ (0 ≤ (C.getD k dCm).per ∧ (C.getD k dCm).per < 2000)
  nd : ∀ k i, k < C.length → i < k → C.getD i dCm ≠ C.getD k dCm
  pf : ∀ p ∈ P, ((0 ≤ p.kind ∧ p.kind < 5) ∧ (0 ≤ p.a ∧ p.a < C.length)) ∧ ((0 ≤ p.b ∧ p.b < C.length) ∧ (p.kind = 0 ∨ p.kind = 1 → p.b = 0))
theorem pfB_iff {n : Nat} {p : Pf} : pfB n p = true ↔ ((0 ≤ p.kind ∧ p.kind < 5) ∧ (0 ≤ p.a ∧ p.a < n)) ∧ ((0 ≤ p.b ∧ p.b < n) ∧ (p.kind = 0 ∨ p.kind = 1 → p.b = 0)) := by
  unfold pfB
  simp only [Bool.and_eq_true, decide_eq_true_eq, Bool.or_eq_true, Bool.not_eq_true', Bool.or_eq_false_iff, decide_eq_false_iff_not]
  constructor
  · rintro ⟨⟨h1, h2⟩, h3, h4⟩
    exact ⟨⟨h1, h2⟩, h3, fun h => h4.resolve_left fun hn => h.elim hn.1 hn.2⟩
  · rintro ⟨⟨h1, h2⟩, h3, h4⟩
    refine ⟨⟨h1, h2⟩, h3, ?_⟩
    by_cases h5 : p.kind = 0 ∨ p.kind = 1
    · exact .inr (h4 h5)
    · exact .inl ⟨fun h => h5 (.inl h), fun h => h5 (.inr h)⟩
theorem rightCP_iff {C : List Cm} {P : List Pf} : rightCP C P = true ↔ RightCP C P := by
  unfold rightCP cmB seenB
  simp only [Bool.and_eq_true, decide_eq_true_eq, List.all_eq_true, List.mem_range, Bool.not_eq_true', List.any_eq_false, cmEq_iff, pfB_iff]
  constructor
  · rintro ⟨⟨⟨h1, h2⟩, h3⟩, h4⟩
    exact ⟨h1, h2, fun k hk => (h3 k hk).1, fun k i hk hi => (h3 k hk).2 i hi, h4⟩
  · rintro ⟨h1, h2, h3, h4, h5⟩
    exact ⟨⟨⟨h1, h2⟩, fun k hk => ⟨h3 k hk, fun i hi => h4 k i hk hi⟩⟩, h5⟩

/-- The clause of a proof. -/
def clauseOf (p : Pf) : Cl :=
  if p.kind = 0 then ⟨2 * p.a, 2 * p.a⟩ else if p.kind = 1 then ⟨2 * p.a + 1, 2 * p.a + 1⟩ else if p.kind = 2 then ⟨2 * p.a, 2 * p.b⟩ else if p.kind = 3 then ⟨2 * p.a + 1, 2 * p.b + 1⟩ else ⟨2 * p.a + 1, 2 * p.b⟩
/-- The clauses of two claims about one account: for the claim with number k those of the first m. -/
def pairsL (C : List Cm) (k m : Nat) : List Cl := (List.range m).flatMap fun i => if (C.getD k dCm).acc = (C.getD i dCm).acc then [⟨2 * (i : Int) + 1, 2 * (k : Int) + 1⟩] else []
def baseL (C : List Cm) (n : Nat) : List Cl := (List.range n).flatMap fun k => pairsL C k k
theorem pairsL_succ (C : List Cm) (k m : Nat) : pairsL C k (m + 1) = pairsL C k m ++ (if (C.getD k dCm).acc = (C.getD m dCm).acc then [⟨2 * (m : Int) + 1, 2 * (k : Int) + 1⟩] else []) := by
  unfold pairsL
  rw [List.range_succ, List.flatMap_append]
  simp
theorem baseL_succ (C : List Cm) (n : Nat) : baseL C (n + 1) = baseL C n ++ pairsL C n n := by
  unfold baseL
  rw [List.range_succ, List.flatMap_append]
  simp
theorem mem_pairsL {C : List Cm} {k m : Nat} {c : Cl} : c ∈ pairsL C k m ↔ ∃ i, i < m ∧ (C.getD k dCm).acc = (C.getD i dCm).acc ∧ c = ⟨2 * (i : Int) + 1, 2 * (k : Int) + 1⟩ := by
  unfold pairsL
  simp only [List.mem_flatMap, List.mem_range]
  constructor
  · rintro ⟨i, hi, h⟩
    split at h
    · rename_i e; exact ⟨i, hi, e, by simpa using h⟩
    · simp at h
  · rintro ⟨i, hi, e, rfl⟩
    exact ⟨i, hi, by rw [if_pos e]; simp⟩
theorem mem_baseL {C : List Cm} {n : Nat} {c : Cl} : c ∈ baseL C n ↔ ∃ k i, k < n ∧ i < k ∧ (C.getD k dCm).acc = (C.getD i dCm).acc ∧ c = ⟨2 * (i : Int) + 1, 2 * (k : Int) + 1⟩ := by
  unfold baseL
  simp only [List.mem_flatMap, List.mem_range, mem_pairsL]
  constructor
  · rintro ⟨k, hk, i, hi, h1, h2⟩; exact ⟨k, i, hk, hi, h1, h2⟩
  · rintro ⟨k, i, hk, hi, h1, h2⟩; exact ⟨k, hk, i, hi, h1, h2⟩
theorem pairsL_len (C : List Cm) (k : Nat) : ∀ m, (pairsL C k m).length ≤ m
  | 0 => by simp [pairsL]
  | m + 1 => by
    have := pairsL_len C k m
    rw [pairsL_succ, List.length_append]
    split <;> simp <;> omega
theorem baseL_len (C : List Cm) (b : Nat) : ∀ n, n ≤ b → (baseL C n).length ≤ n * b
  | 0, _ => by simp [baseL]
  | n + 1, h => by
    have := baseL_len C b n (by omega)
    have := pairsL_len C n n
    rw [baseL_succ, List.length_append, Nat.add_mul]
    omega
theorem baseL_right (C : List Cm) (n : Nat) : RightC (n : Int) (baseL C n) := by
  intro c hc
  obtain ⟨k, i, hk, hi, _, rfl⟩ := mem_baseL.1 hc
  constructor <;> constructor <;> dsimp only <;> omega
theorem clauseOf_right {n : Nat} {p : Pf} (h : ((0 ≤ p.kind ∧ p.kind < 5) ∧ (0 ≤ p.a ∧ p.a < (n : Int))) ∧ ((0 ≤ p.b ∧ p.b < (n : Int)) ∧ (p.kind = 0 ∨ p.kind = 1 → p.b = 0))) : (0 ≤ (clauseOf p).a ∧ (clauseOf p).a < 2 * (n : Int)) ∧ 0 ≤ (clauseOf p).b ∧ (clauseOf p).b < 2 * (n : Int) := by
  obtain ⟨⟨_, h1⟩, h2, _⟩ := h
  unfold clauseOf
  repeat' split
  all_goals (dsimp only; omega)
def clausesL (C : List Cm) (P : List Pf) : List Cl := baseL C C.length ++ P.map clauseOf
/-- What Clauses returns. -/
def clausesY (C : List Cm) (P : List Pf) : List Cl × Int := if rightCP C P = true then (if 4000 < (clausesL C P).length then ([], 6) else (clausesL C P, 0)) else ([], 1)
theorem clausesL_right {C : List Cm} {P : List Pf} (h : RightCP C P) (hl : (clausesL C P).length ≤ 4000) : RightP (clausesL C P) C.length := by
  have := h.lc
  refine ⟨by omega, by omega, hl, fun c hc => ?_⟩
  rcases List.mem_append.1 hc with hc | hc
  · exact baseL_right C _ c hc
  · obtain ⟨p, hp, rfl⟩ := List.mem_map.1 hc
    exact clauseOf_right (h.pf p hp)
theorem clausesL_small {C : List Cm} {P : List Pf} (h1 : C.length ≤ 60) (h2 : P.length ≤ 400) : (clausesL C P).length ≤ 4000 := by
  have := baseL_len C 60 C.length h1
  unfold clausesL
  rw [List.length_append, List.length_map]
  have : C.length * 60 ≤ 60 * 60 := Nat.mul_le_mul_right _ h1
  omega

/-! ### what an assignment has to do with it -/
/-- A claim is true. -/
def isT (vals : List Bool) (x : Int) : Bool := vals.getD x.toNat false
theorem tv_two {vals : List Bool} {x : Int} (hx : 0 ≤ x) : tv vals (2 * x) = isT vals x := by
  have := tv_even vals x.toNat
  rw [Int.toNat_of_nonneg hx] at this
  exact this
theorem tv_two1 {vals : List Bool} {x : Int} (hx : 0 ≤ x) : tv vals (2 * x + 1) = !isT vals x := by
  have := tv_odd vals x.toNat
  rw [Int.toNat_of_nonneg hx] at this
  exact this
/-- What a proof says of an assignment. -/
def holdsP (vals : List Bool) (p : Pf) : Bool :=
  if p.kind = 0 then isT vals p.a else if p.kind = 1 then !isT vals p.a else if p.kind = 2 then isT vals p.a || isT vals p.b else if p.kind = 3 then !isT vals p.a || !isT vals p.b else !isT vals p.a || isT vals p.b
theorem clause_holds {vals : List Bool} {p : Pf} (ha : 0 ≤ p.a) (hb : 0 ≤ p.b) : (tv vals (clauseOf p).a || tv vals (clauseOf p).b) = holdsP vals p := by
  unfold clauseOf holdsP
  repeat' split
  all_goals simp only [tv_two ha, tv_two hb, tv_two1 ha, tv_two1 hb, Bool.or_self]
/-- Whether an assignment agrees with claims and proofs. -/
def agreesB (C : List Cm) (P : List Pf) (vals : List Bool) : Bool := ((List.range C.length).all fun k => (List.range k).all fun i => !(decide ((C.getD i dCm).acc = (C.getD k dCm).acc) && (vals.getD i false && vals.getD k false))) && P.all (holdsP vals)
theorem agrees_check {C : List Cm} {P : List Pf} (h : RightCP C P) (hl : (clausesL C P).length ≤ 4000) {vals : List Bool} (hv : vals.length = C.length) : checkB (clausesL C P) C.length vals = agreesB C P vals := by
  unfold checkB
  rw [rightB_iff.2 (clausesL_right h hl), decide_eq_true (by omega), Bool.true_and, Bool.true_and]
  unfold clausesL agreesB
  rw [List.all_append, List.all_map]
  congr 1
  · rw [Bool.eq_iff_iff]
    simp only [List.all_eq_true, List.mem_range, Bool.or_eq_true, Bool.not_eq_true', Bool.and_eq_false_iff, decide_eq_false_iff_not]
    constructor
    · intro hc k hk i hi
      by_cases e : (C.getD i dCm).acc = (C.getD k dCm).acc
      · right
        have := hc _ (mem_baseL.2 ⟨k, i, hk, hi, e.symm, rfl⟩)
        dsimp only at this
        rw [tv_odd, tv_odd] at this
        simpa using this
      · exact .inl e
    · intro hc c hm
      obtain ⟨k, i, hk, hi, e, rfl⟩ := mem_baseL.1 hm
      dsimp only
      rw [tv_odd, tv_odd]
      rcases hc k hk i hi with h | h
      · exact absurd e.symm h
      · simpa using h
  · rw [Bool.eq_iff_iff, List.all_eq_true, List.all_eq_true]
    have key : ∀ p ∈ P, (tv vals (clauseOf p).a || tv vals (clauseOf p).b) = holdsP vals p := fun p hp => by
      obtain ⟨⟨_, h1⟩, h2, _⟩ := h.pf p hp
      exact clause_holds h1.1 h2.1
    exact ⟨fun hh p hp => by rw [← key p hp]; exact hh p hp, fun hh p hp => by
      have := hh p hp
      rw [← key p hp] at this
      exact this⟩

/-! ### the conflict -/
def cutOne (U : List Int → Bool) (left : List Int) (i : Int) : List Int := if U (left.filter fun k => decide (k ≠ i)) then left.filter fun k => decide (k ≠ i) else left
/-- From the last of the first k on, whatever can be left out is. -/
def cutDown (U : List Int → Bool) : Nat → List Int → List Int
  | 0, left => left
  | k + 1, left => cutDown U k (cutOne U left k)
def allI (n : Nat) : List Int := (List.range n).map fun k : Nat => (k : Int)
theorem mem_allI {n : Nat} {x : Int} : x ∈ allI n ↔ 0 ≤ x ∧ x < n := by
  unfold allI
  simp only [List.mem_map, List.mem_range]
  constructor
  · rintro ⟨k, hk, rfl⟩; exact ⟨by omega, by omega⟩
  · rintro ⟨h1, h2⟩; exact ⟨x.toNat, by omega, by omega⟩
def conflictL (U : List Int → Bool) (n : Nat) : List Int := if U (allI n) then cutDown U n (allI n) else []
def MonoU (U : List Int → Bool) : Prop := ∀ S T : List Int, (∀ x ∈ S, x ∈ T) → U S = true → U T = true
section
variable {U : List Int → Bool}
theorem cutOne_or (U : List Int → Bool) (left : List Int) (i : Int) : (U (left.filter fun k => decide (k ≠ i)) ∧ cutOne U left i = left.filter fun k => decide (k ≠ i)) ∨ (¬ U (left.filter fun k => decide (k ≠ i)) ∧ cutOne U left i = left) := by
  unfold cutOne
  by_cases h : U (left.filter fun k => decide (k ≠ i))
  · exact .inl ⟨h, if_pos h⟩
  · exact .inr ⟨h, if_neg h⟩
theorem cutOne_sub {left : List Int} {i x : Int} (h : x ∈ cutOne U left i) : x ∈ left := by
  rcases cutOne_or U left i with ⟨_, e⟩ | ⟨_, e⟩
  · rw [e] at h; exact (List.mem_filter.1 h).1
  · rwa [e] at h
theorem cutDown_sub : ∀ {k : Nat} {left : List Int} {x : Int}, x ∈ cutDown U k left → x ∈ left
  | 0, _, _, h => h
  | _ + 1, _, _, h => cutOne_sub (cutDown_sub h)
theorem cutDown_u : ∀ {k : Nat} {left : List Int}, U left → U (cutDown U k left)
  | 0, _, h => h
  | k + 1, left, h => by
    unfold cutDown
    refine cutDown_u ?_
    rcases cutOne_or U left k with ⟨h1, e⟩ | ⟨_, e⟩
    · rw [e]; exact h1
    · rw [e]; exact h
theorem cutDown_asc : ∀ {k : Nat} {left : List Int}, left.Pairwise (· < ·) → (cutDown U k left).Pairwise (· < ·)
  | 0, _, h => h
  | k + 1, left, h => by
    unfold cutDown
    refine cutDown_asc ?_
    rcases cutOne_or U left k with ⟨_, e⟩ | ⟨_, e⟩
    · rw [e]; exact h.filter _
    · rw [e]; exact h
theorem cutDown_min (hU : MonoU U) : ∀ {k : Nat} {left : List Int} {x : Int}, x ∈ cutDown U k left → 0 ≤ x → x < k → ¬ U ((cutDown U k left).filter fun q => decide (q ≠ x))
  | 0, _, _, _, h0, h1 => by omega
  | k + 1, left, x, hx, h0, h1 => by
    unfold cutDown at hx ⊢
    by_cases hk : x < k
    · exact cutDown_min hU hx h0 hk
    · obtain rfl : x = k := by omega
      have hm := cutDown_sub hx
      intro hu
      rcases cutOne_or U left k with ⟨_, e⟩ | ⟨h2, e⟩
      · rw [e] at hm
        have := (List.mem_filter.1 hm).2
        simp at this
      · refine h2 (hU _ _ (fun y hy => ?_) hu)
        obtain ⟨h3, h4⟩ := List.mem_filter.1 hy
        exact List.mem_filter.2 ⟨cutOne_sub (cutDown_sub h3), h4⟩
theorem allI_asc (n : Nat) : (allI n).Pairwise (· < ·) := by
  unfold allI
  rw [List.pairwise_map]
  exact List.pairwise_lt_range.imp fun h => by omega
/-- The conflict: what contradicts, and of which nothing can be left out. -/
structure ConfS (U : List Int → Bool) (n : Nat) (c : List Int) : Prop where
  rng : ∀ x ∈ c, 0 ≤ x ∧ x < n
  asc : c.Pairwise (· < ·)
  u : U c
  min : ∀ x ∈ c, ¬ U (c.filter fun q => decide (q ≠ x))
theorem conflict_spec (hU : MonoU U) {n : Nat} (h : U (allI n)) : ConfS U n (conflictL U n) := by
  unfold conflictL
  rw [if_pos h]
  have hr : ∀ x ∈ cutDown U n (allI n), 0 ≤ x ∧ x < n := fun x hx => mem_allI.1 (cutDown_sub hx)
  exact ⟨hr, cutDown_asc (allI_asc n), cutDown_u h, fun x hx => cutDown_min hU hx (hr x hx).1 (hr x hx).2⟩
theorem conflict_none {n : Nat} (h : ¬ U (allI n)) : conflictL U n = [] := by
  unfold conflictL
  rw [if_neg h]
theorem conflict_empty (hU : MonoU U) (h0 : ¬ U []) {n : Nat} : conflictL U n = [] ↔ ¬ U (allI n) := by
  constructor
  · intro e h
    have := (conflict_spec hU h).u
    rw [e] at this
    exact h0 this
  · exact conflict_none
theorem cutDown_congr {U V : List Int → Bool} : ∀ {k : Nat} {left : List Int}, (∀ S : List Int, (∀ x ∈ S, x ∈ left) → (U S ↔ V S)) → cutDown U k left = cutDown V k left
  | 0, _, _ => rfl
  | k + 1, left, h => by
    have hf := h (left.filter fun q => decide (q ≠ (k : Int))) fun x hx => (List.mem_filter.1 hx).1
    have e : cutOne U left k = cutOne V left k := by
      rcases cutOne_or U left k with ⟨h1, e1⟩ | ⟨h1, e1⟩ <;> rcases cutOne_or V left k with ⟨h2, e2⟩ | ⟨h2, e2⟩
      · rw [e1, e2]
      · exact absurd (hf.1 h1) h2
      · exact absurd (hf.2 h2) h1
      · rw [e1, e2]
    unfold cutDown
    rw [e]
    exact cutDown_congr fun S hS => h S fun x hx => cutOne_sub (hS x hx)
theorem conflict_congr {U V : List Int → Bool} {n : Nat} (h : ∀ S : List Int, (∀ x ∈ S, 0 ≤ x ∧ x < n) → (U S ↔ V S)) : conflictL U n = conflictL V n := by
  have ha := h (allI n) fun x hx => mem_allI.1 hx
  by_cases hu : U (allI n)
  · unfold conflictL
    rw [if_pos hu, if_pos (ha.1 hu)]
    exact cutDown_congr fun S hS => h S fun x hx => mem_allI.1 (hS x hx)
  · rw [conflict_none hu, conflict_none fun hv => hu (ha.2 hv)]
/-- Where nothing can be left out, nothing is. -/
theorem cutDown_all {left : List Int} (h : ∀ x ∈ left, ¬ U (left.filter fun q => decide (q ≠ x))) (hn : left.Nodup) : ∀ k : Nat, (∀ x : Int, 0 ≤ x → x < k → x ∈ left) → cutDown U k left = left
  | 0, _ => rfl
  | k + 1, hm => by
    have hk := hm k (by omega) (by omega)
    have e : cutOne U left k = left := by
      rcases cutOne_or U left k with ⟨h1, _⟩ | ⟨_, e⟩
      · exact absurd h1 (h _ hk)
      · exact e
    unfold cutDown
    rw [e]
    exact cutDown_all h hn k fun x h1 h2 => hm x h1 (by omega)
theorem conflict_all {n : Nat} (h0 : U (allI n)) (h : ∀ x ∈ allI n, ¬ U ((allI n).filter fun q => decide (q ≠ x))) : conflictL U n = allI n := by
  unfold conflictL
  rw [if_pos h0]
  exact cutDown_all h ((allI_asc n).imp fun h => by omega) n fun x h1 h2 => mem_allI.2 ⟨h1, h2⟩
theorem filter_allI (n : Nat) : (allI (n + 1)).filter (fun k => decide (k ≠ (n : Int))) = allI n := by
  unfold allI
  rw [List.range_succ, List.map_append, List.filter_append]
  have e1 : ((List.range n).map fun k : Nat => (k : Int)).filter (fun k => decide (k ≠ (n : Int))) = (List.range n).map fun k : Nat => (k : Int) := by
    rw [List.filter_eq_self]
    intro x hx
    obtain ⟨k, hk, rfl⟩ := List.mem_map.1 hx
    have := List.mem_range.1 hk
    simp
    omega
  rw [e1]
  simp
/-- Where the first ones contradict, the conflict is among them. -/
theorem conflict_first (hU : MonoU U) {m : Nat} (h : U (allI m)) : ∀ d, conflictL U (m + d) = conflictL U m
  | 0 => rfl
  | d + 1 => by
    have hall : ∀ k, m ≤ k → U (allI k) := fun k hk => hU _ _ (fun x hx => mem_allI.2 (by have := mem_allI.1 hx; omega)) h
    rw [← conflict_first hU h d]
    unfold conflictL
    rw [if_pos (hall _ (by omega)), if_pos (hall _ (by omega))]
    have e : cutOne U (allI (m + d + 1)) ((m + d : Nat) : Int) = allI (m + d) := by
      rcases cutOne_or U (allI (m + d + 1)) ((m + d : Nat) : Int) with ⟨_, e⟩ | ⟨h1, _⟩
      · rw [e, filter_allI]
      · rw [filter_allI] at h1
        exact absurd (hall _ (by omega)) h1
    show cutDown U (m + d) (cutOne U (allI (m + d + 1)) ((m + d : Nat) : Int)) = _
    rw [e]
end
end Go.Proofs.Ytilhaifmfiobhaa
end

section
/-
  Sets of numbers as maps to true.
-/
namespace Go.Proofs.Ytilhaifmfiobhaa
open Go.Eng

/-- A set of one's own, in the order in which its numbers came. -/
def setO (S : List Int) : AO := .mp S.length (fun i => .i .i64 (S.getD i 0)) (fun _ => .b true) (fun i => i) S.length
def ins (S : List Int) (k : Int) : List Int := if k ∈ S then S else S ++ [k]
theorem mem_ins {S : List Int} {k x : Int} : x ∈ ins S k ↔ x ∈ S ∨ x = k := by
  unfold ins
  split
  · rename_i h
    exact ⟨.inl, fun h2 => h2.elim id fun e => e ▸ h⟩
  · rw [List.mem_append, List.mem_singleton]
theorem ins_new {S : List Int} {k : Int} (h : k ∉ S) : ins S k = S ++ [k] := if_neg h
theorem ins_old {S : List Int} {k : Int} (h : k ∈ S) : ins S k = S := if_pos h
theorem ins_nodup {S : List Int} {k : Int} (h : S.Nodup) : (ins S k).Nodup := by
  unfold ins
  split
  · exact h
  · rename_i hn
    rw [List.nodup_append]
    refine ⟨h, by simp, ?_⟩
    intro a ha b hb
    simp at hb
    subst hb
    rintro rfl
    exact hn ha
theorem getD_snocI (L : List Int) (x : Int) (j : Nat) : (L ++ [x]).getD j 0 = if j < L.length then L.getD j 0 else if j = L.length then x else 0 := by
  simp only [List.getD]
  by_cases h : j < L.length
  · rw [if_pos h, List.getElem?_append_left h]
  · rw [if_neg h, List.getElem?_append_right (by omega)]
    by_cases h2 : j = L.length
    · rw [if_pos h2, h2]; simp
    · rw [if_neg h2, List.getElem?_eq_none (by simp; omega)]; rfl
theorem lookOk_set (S : List Int) (k : Int) : LookOk S.length (fun i => .i .i64 (S.getD i 0)) (fun _ => .b true) (.i .i64 k) (.b (decide (k ∈ S))) (.b false) (decide (k ∈ S)) := by
  by_cases h : k ∈ S
  · rw [decide_eq_true h]
    obtain ⟨i, hi, e⟩ := mem_getDX h
    exact ⟨fun _ => ⟨i, hi, by dsimp only; rw [e], AVEq.refl _⟩, fun h => (by cases h)⟩
  · rw [decide_eq_false h]
    refine ⟨fun h => (by cases h), fun _ => ⟨fun i hi e => h ?_, AVEq.refl _⟩⟩
    have e := i64_inj _ _ e
    rw [← e]
    exact getD_memX hi
theorem updOk_set (S : List Int) (k : Int) : UpdOk S.length (fun i => .i .i64 (S.getD i 0)) (fun _ => .b true) (fun i => i) S.length (.i .i64 k) (.b true) (ins S k).length (fun i => .i .i64 ((ins S k).getD i 0)) (fun _ => .b true) (fun i => i) (ins S k).length := by
  by_cases h : k ∈ S
  · rw [ins_old h]
    obtain ⟨i, hi, e⟩ := mem_getDX h
    refine .inl ⟨i, hi, by dsimp only; rw [e], rfl, rfl, fun j hj => ⟨rfl, rfl, ?_⟩⟩
    split <;> rfl
  · rw [ins_new h]
    refine .inr ⟨fun i hi e => h ?_, by simp, by simp, fun j hj => ⟨?_, rfl, rfl⟩, ?_, rfl, rfl⟩
    · have e := i64_inj _ _ e
      rw [← e]
      exact getD_memX hi
    · dsimp only; rw [getD_snocI, if_pos hj]
    · dsimp only; rw [getD_snocI, if_neg (by omega), if_pos rfl]
end Go.Proofs.Ytilhaifmfiobhaa
end
