/-
  Several texts in one: K7, Rc6, Rc7, Rc8, K8, Rc9, K9, K11, K12, K13, K14, K10, K15, K16, K17, K18, K19, K20.
-/
import Derived.Test.YtnookbebiacaeaaMg14

section
/-
  Formulas: the worlds, one after the other.
-/
namespace Go.Proofs.Ytnookbebiacaeaa
open Go.Eng

theorem CtrA.of_eq {P : Program} {f : FuncId} {args args' : List AV} {r : AV} (h : AVsEq args args') (c : CtrA P f args r) : CtrA P f args' r :=
  ⟨c.1, fun F w vs hF hl hr => c.2 F w vs hF (h.get.1.trans hl) fun j h1 h2 => (h.get.2 j h1 (by rw [← h.get.1]; exact h1)).rep0 (hr j (by rw [← h.get.1]; exact h1) h2)⟩
/-- The first of some numbers at which g finds a world. -/
def tryL (g : Int → List Note × Bool) : Nat → Int → List Note × Bool
  | 0, _ => ([], false)
  | c + 1, n => if (g n).2 = true then g n else tryL g c (n + 1)
theorem tryL_skip {g : Int → List Note × Bool} : ∀ {j c : Nat} {n : Int}, (∀ i : Nat, i < j → (g (n + i)).2 = false) → tryL g (j + c) n = tryL g c (n + j)
  | 0, c, n, _ => by simp
  | j + 1, c, n, h => by
    have h0 := h 0 (Nat.succ_pos j)
    rw [show n + ((0 : Nat) : Int) = n by omega] at h0
    rw [show j + 1 + c = (j + c) + 1 by omega, tryL, if_neg (by rw [h0]; decide), tryL_skip (fun i hi => by
      have := h (i + 1) (by omega)
      rwa [show n + ((i + 1 : Nat) : Int) = n + 1 + i by omega] at this)]
    congr 1
    omega
/-- A message and an account at a level. -/
def ntP (p : Pr) (n : Int) : Note := ⟨p.1, p.2, n, 0, false⟩
/-- The first world, of all that go on with so many pairs, in which a formula does not hold. -/
def wrldF (f : Fm) (L : List Pr) (lo hi : List Int) : Nat → List Note → List Note × Bool
  | 0, W => (W, !holdsF 6 f W)
  | r + 1, W => tryL (fun n => wrldF f L lo hi r (W ++ [ntP (L.getD W.length dPr) n])) (hi.getD W.length 0 - lo.getD W.length 0 + 1).toNat (lo.getD W.length 0)
set_option maxRecDepth 20000 in
set_option maxHeartbeats 16000000 in
theorem worlds_fn (e : Nat) (f : Fm) (hf : okF 6 f) (L : List Pr) (lo hi : List Int) (hL : L.length ≤ 100) (hlo : lo.length = L.length) (hhi : hi.length = L.length) (rlo : ∀ k, k < L.length → -10 ≤ lo.getD k 0 ∧ hi.getD k 0 ≤ 10) :
    ∀ (r : Nat) (W : List Note), W.length + r = L.length →
    CtrA Try.prog 164 [.ag (avD (e + 6) f), .rs 2 L.length (rowsPr L), .rs 5 W.length (rowsN W), .rs 1 lo.length (rowsI lo), .rs 1 hi.length (rowsI hi)]
      (.tup [.rs 5 (wrldF f L lo hi r W).1.length (rowsN (wrldF f L lo hi r W).1), .b (wrldF f L lo hi r W).2])
  | r, W, hW => by
    refine fn_of_execA tabOk Try.func164 (by kernel_rfl) rfl (N := Try.f164.ntmps) rfl (res := [.tmp 10, .tmp 11]) rfl rfl [(1000007, [.frz 14 [3]]), (1000011, [.nl 10 24 5, .eq 1 (.row 24 5 0 (rowsN [])), .frz 10 [1]])] ?_
    repeat refine Or.inl ?_
    refine ⟨fun h => ?_, fun h => ?_⟩
    · have h : ((W.length : Int) == L.length) = true := h
      rw [beq_iff_eq] at h
      obtain rfl : r = 0 := by omega
      repeat refine Or.inl ?_
      refine ⟨[], _, holds_fn W (by omega) 6 e f hf, ?_⟩
      exact ⟨rfl, AVEq.refl (.tup [.rs 5 W.length (rowsN W), .b (!holdsF 6 f W)])⟩
    · have h : ((W.length : Int) == L.length) = false := h
      rw [beq_eq_false_iff_ne] at h
      obtain ⟨r, rfl⟩ : ∃ r', r = r' + 1 := ⟨r - 1, by omega⟩
      have rg := rlo W.length (by omega)
      repeat refine Or.inl ?_
      refine ⟨⟨by omega, by omega⟩, ?_⟩
      repeat refine Or.inl ?_
      refine ⟨[], Nat, fun j => j ≤ (hi.getD W.length 0 - lo.getD W.length 0 + 1).toNat ∧ ∀ i : Nat, i < j → (wrldF f L lo hi r (W ++ [ntP (L.getD W.length dPr) (lo.getD W.length 0 + i)])).2 = false, fun j => [⟨13, [], .i .i64 (lo.getD W.length 0 + j)⟩], fun _ => [], fun j => (hi.getD W.length 0 - lo.getD W.length 0 + 1).toNat - j,
        ⟨0, [], ⟨Nat.zero_le _, fun i hi => absurd hi (Nat.not_lt_zero i)⟩, rfl, rfl, rfl, rfl, rfl, ⟨rfl, ?_⟩, trivial⟩, ?_⟩
      · rw [Int.toNat_natCast]; show _ = _ + ((0 : Nat) : Int); omega
      rintro j ⟨hj, hno⟩
      have hj : j ≤ (hi.getD W.length 0 - lo.getD W.length 0 + 1).toNat := hj
      refine Or.inl ?_
      refine ⟨⟨by omega, by omega⟩, ?_⟩
      refine ⟨fun hc => ?_, fun hc => ?_⟩
      · have hc : decide (lo.getD W.length 0 + (j : Int) ≤ hi.getD (W.length : Int).toNat 0) = true := hc
        rw [decide_eq_true_eq, Int.toNat_natCast] at hc
        repeat refine Or.inl ?_
        refine ⟨_, _, cloneN_fn W (by omega), ?_⟩
        refine ⟨⟨by omega, by omega⟩, ?_⟩
        refine ⟨⟨by omega, by omega⟩, ?_⟩
        refine ⟨fits (by omega), ?_⟩
        have hr := worlds_fn e f hf L lo hi hL hlo hhi rlo r (W ++ [ntP (L.getD W.length dPr) (lo.getD W.length 0 + j)]) (by simp; omega)
        have ao : AOEq (.row 24 5 (W ++ [ntP (L.getD W.length dPr) (lo.getD W.length 0 + j)]).length (rowsN (W ++ [ntP (L.getD W.length dPr) (lo.getD W.length 0 + j)]))) (.row 24 5 (W.length + 1) (catG W.length (rowsN W) (rowOf 5 (ntP (L.getD (W.length : Int).toNat dPr) (lo.getD W.length 0 + j)).av))) := snocN_row _ _ (by rw [Int.toNat_natCast])
        have av : AVEq (.rs 5 (W ++ [ntP (L.getD W.length dPr) (lo.getD W.length 0 + j)]).length (rowsN (W ++ [ntP (L.getD W.length dPr) (lo.getD W.length 0 + j)]))) (.rs 5 (W.length + 1) (catG W.length (rowsN W) (rowOf 5 (ntP (L.getD (W.length : Int).toNat dPr) (lo.getD W.length 0 + j)).av))) := ⟨rfl, ao.2.2.1, ao.2.2.2⟩
        have hr2 := CtrA.of_eq (args := [.ag (avD (e + 6) f), .rs 2 L.length (rowsPr L), .rs 5 (W ++ [ntP (L.getD W.length dPr) (lo.getD W.length 0 + j)]).length (rowsN (W ++ [ntP (L.getD W.length dPr) (lo.getD W.length 0 + j)])), .rs 1 lo.length (rowsI lo), .rs 1 hi.length (rowsI hi)]) (args' := [.ag (avD (e + 6) f), .rs 2 L.length (rowsPr L), .rs 5 (W.length + 1) (catG W.length (rowsN W) (rowOf 5 (ntP (L.getD (W.length : Int).toNat dPr) (lo.getD W.length 0 + j)).av)), .rs 1 lo.length (rowsI lo), .rs 1 hi.length (rowsI hi)]) ⟨AVEq.refl _, AVEq.refl _, av, AVEq.refl _, AVEq.refl _⟩ hr
        refine Or.inr (Or.inl ?_)
        refine ⟨_, hr2, ?_⟩
        refine ⟨fun h1 => ?_, fun h1 => ?_⟩
        · have h1 : (wrldF f L lo hi r (W ++ [ntP (L.getD W.length dPr) (lo.getD W.length 0 + j)])).2 = true := h1
          have hend : wrldF f L lo hi (r + 1) W = wrldF f L lo hi r (W ++ [ntP (L.getD W.length dPr) (lo.getD W.length 0 + j)]) := by
            rw [wrldF, show (hi.getD W.length 0 - lo.getD W.length 0 + 1).toNat = j + ((hi.getD W.length 0 - lo.getD W.length 0 - j).toNat + 1) by omega, tryL_skip hno, tryL, if_pos h1]
          refine ⟨rfl, ?_⟩
          rw [hend, h1]
          exact AVEq.refl _
        · have h1 : (wrldF f L lo hi r (W ++ [ntP (L.getD W.length dPr) (lo.getD W.length 0 + j)])).2 = false := h1
          refine ⟨j + 1, [], ⟨by omega, fun i hi => ?_⟩, by dsimp only; omega, rfl, rfl, rfl, rfl, rfl, ⟨rfl, ?_⟩, trivial⟩
          · by_cases hij : i = j
            · rw [hij]; exact h1
            · exact hno i (by omega)
          · rw [wr (by omega) (by omega)]
            omega
      · have hc : decide (lo.getD W.length 0 + (j : Int) ≤ hi.getD (W.length : Int).toNat 0) = false := hc
        rw [decide_eq_false_iff_not, Int.toNat_natCast] at hc
        have ej : j = (hi.getD W.length 0 - lo.getD W.length 0 + 1).toNat := by omega
        have hend : wrldF f L lo hi (r + 1) W = ([], false) := by
          rw [wrldF, ← ej]
          exact tryL_skip (c := 0) hno
        refine ⟨⟨rfl, rfl, rfl, fun k hk => absurd hk (Nat.not_lt_zero k)⟩, ?_⟩
        refine ⟨rfl, ?_⟩
        rw [hend]
        exact AVEq.refl (.tup [.rs 5 0 (rowsN []), .b false])
end Go.Proofs.Ytnookbebiacaeaa
end

section
/-
  Receipts: the examples of the documentation; reasons, forwarding.
-/
namespace Go.Proofs.Ytnookbebiacaeaa
open Go.Eng

theorem one {p : Nat → Prop} (h0 : p 0) : ∀ k, k < 1 → p k := by
  intro k hk
  match k with
  | 0 => exact h0
  | k + 1 => omega
end Go.Proofs.Ytnookbebiacaeaa
end

section
/-
  Receipts: ReceiptReason, ReceiptForward.
-/
namespace Go.Proofs.Ytnookbebiacaeaa
open Go.Eng

theorem getD_memN {l : List Note} {k : Nat} (h : k < l.length) : l.getD k dN ∈ l := by simp [List.getD, h]
end Go.Proofs.Ytnookbebiacaeaa
end

section
/-
  Receipts: ReceiptTells, ReceiptWeaker, ReceiptAdds.
-/
namespace Go.Proofs.Ytnookbebiacaeaa
open Go.Eng

theorem Low_nonneg (l : List Note) (b : Bool) (m w : Int) : 0 ≤ Low l b m w := by
  unfold Low
  split
  · exact ((low_le b m w _ l).1 (Int.le_refl _)).1
  · exact Int.le_refl _
theorem subN_of {a l : List Note} (h : ∀ n ∈ a, n ∈ l) : subN a l := fun n hn => ⟨n, h n hn, rfl⟩
theorem valid_of {a l : List Note} (hv : valid l = true) (h : ∀ n ∈ a, n ∈ l) (hl : a.length ≤ l.length) : valid a = true := by
  have := valid_all hv
  have hlen : l.length ≤ 1000 := by
    unfold valid at hv
    simp at hv
    exact hv.1
  unfold valid
  rw [Bool.and_eq_true, decide_eq_true_eq, Bool.not_eq_true', List.any_eq_false]
  refine ⟨by omega, fun n hn => ?_⟩
  rw [this n (h n hn)]
  decide
theorem right_valid {l : List Note} {b : Bool} (h : Right l b = true) : valid l = true := by
  unfold Right at h
  rw [Bool.and_eq_true] at h
  exact h.1
end Go.Proofs.Ytnookbebiacaeaa
end

section
/-
  Formulas: the search, Known, World.
-/
namespace Go.Proofs.Ytnookbebiacaeaa
open Go.Eng

theorem snocI_row (o : List Int) (n : Int) {l : List Int} (hl : l = o ++ [n]) : AOEq (.row 3 1 l.length (rowsI l)) (.row 3 1 (o.length + 1) (catG o.length (rowsI o) (rowOf 1 [.i .i64 n]))) := by
  subst hl
  refine ⟨rfl, rfl, by simp, fun k hk => ?_⟩
  unfold catG rowsI
  by_cases h : k < o.length
  · rw [if_pos h]
    simp [List.getD, List.getElem?_append_left h]
  · rw [if_neg h]
    have : k = o.length := by simp at hk; omega
    subst this
    simp [List.getD]
    rfl
def lows (l : List Note) (b : Bool) (L : List Pr) : List Int := L.map fun p => Low l b p.1 p.2
def highs (l : List Note) (L : List Pr) : List Int := L.map fun p => High l p.1 p.2
theorem lows_take {l : List Note} {b : Bool} {L : List Pr} {k : Nat} (h : k < L.length) : lows l b (L.take (k + 1)) = lows l b (L.take k) ++ [Low l b (L.getD k dPr).1 (L.getD k dPr).2] := by
  unfold lows
  rw [List.take_succ_eq_append_getElem h, List.map_append]
  simp [List.getD, h]
theorem highs_take {l : List Note} {L : List Pr} {k : Nat} (h : k < L.length) : highs l (L.take (k + 1)) = highs l (L.take k) ++ [High l (L.getD k dPr).1 (L.getD k dPr).2] := by
  unfold highs
  rw [List.take_succ_eq_append_getElem h, List.map_append]
  simp [List.getD, h]
theorem lows_at {l : List Note} {b : Bool} {L : List Pr} {k : Nat} (h : k < L.length) : (lows l b L).getD k 0 = Low l b (L.getD k dPr).1 (L.getD k dPr).2 := by
  unfold lows
  simp [List.getD, h]
theorem highs_at {l : List Note} {L : List Pr} {k : Nat} (h : k < L.length) : (highs l L).getD k 0 = High l (L.getD k dPr).1 (L.getD k dPr).2 := by
  unfold highs
  simp [List.getD, h]
theorem high_le (m w : Int) : ∀ (l : List Note) (a : Int), l.foldl (fun a n => if den n m w then min a (IntKind.i64.wrap (n.l - 1)) else a) a ≤ a
  | [], a => Int.le_refl a
  | n :: r, a => by
    rw [List.foldl_cons]
    refine Int.le_trans (high_le m w r _) ?_
    split <;> omega
theorem High_le (l : List Note) (m w : Int) : High l m w ≤ 4 := by
  unfold High
  split
  · exact high_le m w l 4
  · exact Int.le_refl 4
/-- What the search finds, and its error. -/
def srchF (f : Fm) (l : List Note) (b : Bool) : (List Note × Bool) × Int :=
  if (sizF f).2 = false then (([], false), 1) else if Right l b = false then (([], false), 17)
  else (wrldF f (prsF f) (lows l b (prsF f)) (highs l (prsF f)) (prsF f).length [], 0)
theorem prsF_len (f : Fm) : (prsF f).length ≤ 40 := by
  unfold prsF
  split
  · rename_i h
    have h1 : (srtPr (sizF f).1.2).length = (sizF f).1.2.length := (List.mergeSort_perm _ _).length_eq
    have h2 := addF_sz 6 f (0, []) (by decide)
    have h3 := h2.2.2.2.2 h
    have h0 : (((0, []) : Sz).2.length : Int) = 0 := rfl
    have h4 : ((0, []) : Sz).1 = 0 := rfl
    rw [h1]
    unfold sizF
    omega
  · exact Nat.zero_le _
set_option maxRecDepth 20000 in
set_option maxHeartbeats 16000000 in
theorem search_fn (e : Nat) (f : Fm) (l : List Note) (hl : l.length < 2 ^ 62) (b : Bool) :
    CtrA Try.prog 115 [.ag (avD (e + 6) f), .rs 5 l.length (rowsN l), .b b] (.tup [.rs 5 (srchF f l b).1.1.length (rowsN (srchF f l b).1.1), .b (srchF f l b).1.2, .i .i64 (srchF f l b).2]) := by
  refine fn_of_execA tabOk Try.func115 (by kernel_rfl) rfl (N := Try.f115.ntmps) rfl (res := [.tmp 6, .tmp 7, .tmp 8]) rfl rfl [(1000003, [.nl 6 24 5, .eq 2 (.row 24 5 0 (rowsN [])), .frz 6 [2]]), (1000005, [.nl 6 24 5, .eq 2 (.row 24 5 0 (rowsN [])), .frz 6 [2]]), (13, [.frz 9 [1], .frz 11 [2], .frz 12 [3]])] ?_
  have hlen := prsF_len f
  repeat refine Or.inl ?_
  refine ⟨_, _, pairs_fn e f, ?_⟩
  repeat refine Or.inl ?_
  refine ⟨fun h => ?_, fun h => ?_⟩
  · have h : (!(sizF f).2) = true := h
    rw [Bool.not_eq_true'] at h
    have hs : srchF f l b = (([], false), 1) := by unfold srchF; rw [if_pos h]
    refine ⟨⟨rfl, rfl, rfl, fun k hk => absurd hk (Nat.not_lt_zero k)⟩, ?_⟩
    refine ⟨rfl, ?_⟩
    rw [hs]
    exact AVEq.refl (.tup [.rs 5 0 (rowsN []), .b false, .i .i64 1])
  have h : (!(sizF f).2) = false := h
  rw [Bool.not_eq_false'] at h
  repeat refine Or.inl ?_
  refine ⟨_, _, Right_fn l hl b, ?_⟩
  refine ⟨fun h1 => ?_, fun h1 => ?_⟩
  · have h1 : (!Right l b) = true := h1
    rw [Bool.not_eq_true'] at h1
    have hs : srchF f l b = (([], false), 17) := by unfold srchF; rw [if_neg (by rw [h]; decide), if_pos h1]
    refine ⟨⟨rfl, rfl, rfl, fun k hk => absurd hk (Nat.not_lt_zero k)⟩, ?_⟩
    refine ⟨rfl, ?_⟩
    rw [hs]
    exact AVEq.refl (.tup [.rs 5 0 (rowsN []), .b false, .i .i64 17])
  have h1 : (!Right l b) = false := h1
  rw [Bool.not_eq_false'] at h1
  have hs : srchF f l b = (wrldF f (prsF f) (lows l b (prsF f)) (highs l (prsF f)) (prsF f).length [], 0) := by
    unfold srchF; rw [if_neg (by rw [h]; decide), if_neg (by rw [h1]; decide)]
  repeat refine Or.inl ?_
  refine ⟨[(11, 3, 1), (12, 3, 1)], Nat, fun k => k ≤ (prsF f).length, fun k => [⟨32, [], .i .i64 k⟩, ⟨11, [], .so 2⟩, ⟨12, [], .so 3⟩],
    fun k => [⟨2, [], .row 3 1 (lows l b ((prsF f).take k)).length (rowsI (lows l b ((prsF f).take k)))⟩, ⟨3, [], .row 3 1 (highs l ((prsF f).take k)).length (rowsI (highs l ((prsF f).take k)))⟩], fun k => (prsF f).length - k,
    ⟨0, [], Nat.zero_le _, rfl, rfl, rfl, rfl, rfl, ⟨⟨rfl, rfl⟩, rfl, rfl⟩, ⟨⟨rfl, rfl, rfl, fun j hj => absurd hj (Nat.not_lt_zero j)⟩, ⟨rfl, rfl, rfl, fun j hj => absurd hj (Nat.not_lt_zero j)⟩⟩⟩, ?_⟩
  intro k hk
  have hk : k ≤ (prsF f).length := hk
  refine .inl ⟨fun hc => ?_, fun hc => ?_⟩
  · have hc := dlt hc
    have hc : (k : Int) < (prsF f).length := hc
    have ek : (k : Int).toNat = k := Int.toNat_natCast k
    have kl : k < (prsF f).length := by omega
    have l1 : (lows l b ((prsF f).take k)).length = k := by simp [lows]; omega
    have l2 : (highs l ((prsF f).take k)).length = k := by simp [highs]; omega
    repeat refine Or.inl ?_
    refine ⟨⟨by omega, by omega⟩, ?_⟩
    refine ⟨by omega, ?_⟩
    repeat refine Or.inl ?_
    refine ⟨[], _, Low_fn l hl b ((prsF f).getD (k : Int).toNat dPr).1 ((prsF f).getD (k : Int).toNat dPr).2, ?_⟩
    refine ⟨by show _ * 8 ≤ _; omega, ?_⟩
    repeat refine Or.inl ?_
    refine ⟨[], _, High_fn l hl b ((prsF f).getD (k : Int).toNat dPr).1 ((prsF f).getD (k : Int).toNat dPr).2, ?_⟩
    refine ⟨by show _ * 8 ≤ _; omega, ?_⟩
    refine ⟨k + 1, [(2, 6), (3, 8)], by dsimp only; omega, by dsimp only; omega, rfl, rfl, rfl, rfl, rfl, ⟨⟨rfl, wr (by omega) (by omega)⟩, rfl, rfl⟩, ?_⟩
    have a1 : AOEq (.row 3 1 (lows l b ((prsF f).take (k + 1))).length (rowsI (lows l b ((prsF f).take (k + 1))))) (.row 3 1 ((lows l b ((prsF f).take k)).length + 1) (catG (lows l b ((prsF f).take k)).length (rowsI (lows l b ((prsF f).take k))) (rowOf 1 [.i .i64 (Low l b ((prsF f).getD (k : Int).toNat dPr).1 ((prsF f).getD (k : Int).toNat dPr).2)]))) := snocI_row _ _ (by rw [ek]; exact lows_take kl)
    have a2 : AOEq (.row 3 1 (highs l ((prsF f).take (k + 1))).length (rowsI (highs l ((prsF f).take (k + 1))))) (.row 3 1 ((highs l ((prsF f).take k)).length + 1) (catG (highs l ((prsF f).take k)).length (rowsI (highs l ((prsF f).take k))) (rowOf 1 [.i .i64 (High l ((prsF f).getD (k : Int).toNat dPr).1 ((prsF f).getD (k : Int).toNat dPr).2)]))) := snocI_row _ _ (by rw [ek]; exact highs_take kl)
    exact ⟨a1, a2⟩
  · have hc := dnlt hc
    have hc : ((prsF f).length : Int) ≤ k := hc
    obtain rfl : k = (prsF f).length := by omega
    have hr := worlds_fn e f (sizF_ok h) (prsF f) (lows l b (prsF f)) (highs l (prsF f)) (by omega) (by simp [lows]) (by simp [highs]) (fun k hk => by
      rw [lows_at hk, highs_at hk]
      have := Low_nonneg l b ((prsF f).getD k dPr).1 ((prsF f).getD k dPr).2
      have := High_le l ((prsF f).getD k dPr).1 ((prsF f).getD k dPr).2
      omega) (prsF f).length [] (by simp)
    have hr2 := CtrA.of_eq (args := [.ag (avD (e + 6) f), .rs 2 (prsF f).length (rowsPr (prsF f)), .rs 5 0 (rowsN []), .rs 1 (lows l b (prsF f)).length (rowsI (lows l b (prsF f))), .rs 1 (highs l (prsF f)).length (rowsI (highs l (prsF f)))])
      (args' := [.ag (avD (e + 6) f), .rs 2 (prsF f).length (rowsPr (prsF f)), .val (.slice none 0 0), .rs 1 (lows l b (prsF f)).length (rowsI (lows l b (prsF f))), .rs 1 (highs l (prsF f)).length (rowsI (highs l (prsF f)))]) ⟨AVEq.refl _, AVEq.refl _, ⟨rfl, rfl⟩, AVEq.refl _, AVEq.refl _⟩ hr
    have tk : (prsF f).take (prsF f).length = prsF f := List.take_length
    rw [hs]
    rw [tk]
    refine Or.inr (Or.inl ?_)
    refine ⟨_, hr2, ?_⟩
    exact ⟨rfl, AVEq.refl _⟩
end Go.Proofs.Ytnookbebiacaeaa
end

section
/-
  Receipts: ReceiptAdds.
-/
namespace Go.Proofs.Ytnookbebiacaeaa
open Go.Eng

end Go.Proofs.Ytnookbebiacaeaa
end

section
/-
  Formulas: what is known of an atom, and of a denied atom.
-/
namespace Go.Proofs.Ytnookbebiacaeaa
open Go.Eng

def knownF (f : Fm) (l : List Note) (b : Bool) : Bool × Int := (((srchF f l b).2 == 0) && !(srchF f l b).1.2, (srchF f l b).2)
theorem RetIs.bi {d c : Bool} {x y : Int} {O : List OE} {nid : Nat} (h : c = d) (h2 : y = x) : RetIs [] (.tup [.b d, .i .i64 x]) (.tup [.b c, .i .i64 y]) O nid := by
  subst h
  subst h2
  exact ⟨[], ⟨⟨⟨rfl, rfl, AVEq.refl _⟩, trivial⟩, trivial, rfl⟩, rfl, trivial⟩
set_option maxRecDepth 20000 in
theorem Known_fn (e : Nat) (f : Fm) (l : List Note) (hl : l.length < 2 ^ 62) (b : Bool) :
    Ctr Try.prog 39 [.ag (avD (e + 6) f), .rs 5 l.length (rowsN l), .b b] [] (.tup [.b (knownF f l b).1, .i .i64 (knownF f l b).2]) := by
  refine fn_of_exec tabOk Try.func39 (by kernel_rfl) rfl (N := Try.f39.ntmps) rfl (res := [.tmp 6, .tmp 7]) rfl rfl [] ?_
  refine Or.inr (Or.inl ?_)
  refine ⟨_, search_fn e f l hl b, ?_⟩
  exact RetIs.bi rfl rfl
set_option maxRecDepth 20000 in
theorem World_fn (e : Nat) (f : Fm) (l : List Note) (hl : l.length < 2 ^ 62) (b : Bool) :
    CtrA Try.prog 45 [.ag (avD (e + 6) f), .rs 5 l.length (rowsN l), .b b] (.tup [.rs 5 (srchF f l b).1.1.length (rowsN (srchF f l b).1.1), .b (srchF f l b).1.2]) := by
  refine fn_of_execA tabOk Try.func45 (by kernel_rfl) rfl (N := Try.f45.ntmps) rfl (res := [.tmp 6, .tmp 7]) rfl rfl [] ?_
  refine Or.inr (Or.inl ?_)
  refine ⟨_, search_fn e f l hl b, ?_⟩
  exact ⟨rfl, AVEq.refl _⟩
def BestF (l : List Note) (b : Bool) (m w : Int) : Int := if Right l b = true then Low l b m w else 0
set_option maxRecDepth 20000 in
theorem Best_fn (l : List Note) (hl : l.length < 2 ^ 62) (b : Bool) (m w : Int) : Ctr Try.prog 38 [.rs 5 l.length (rowsN l), .b b, .i .i64 m, .i .i64 w] [] (.i .i64 (BestF l b m w)) := by
  refine fn_of_exec tabOk Try.func38 (by kernel_rfl) rfl (N := Try.f38.ntmps) rfl (res := [.tmp 8]) rfl rfl [] ?_
  repeat refine Or.inl ?_
  refine ⟨[], _, Right_fn l hl b, ?_⟩
  refine ⟨fun h => ?_, fun h => ?_⟩
  · have h : (!Right l b) = true := h
    rw [Bool.not_eq_true'] at h
    exact RetIs.i (by unfold BestF; rw [if_neg (by rw [h]; decide)])
  · have h : (!Right l b) = false := h
    rw [Bool.not_eq_false'] at h
    repeat refine Or.inl ?_
    refine ⟨[], _, Low_fn l hl b m w, ?_⟩
    exact RetIs.i (by unfold BestF; rw [if_pos h])
/-! ### atoms -/
def atF (m w l : Int) : Fm := .mk 0 m w l []
def notF (f : Fm) : Fm := .mk 3 0 0 0 [f]
def atA (m w l : Int) : List AV := [.i .i64 0, .i .i64 m, .i .i64 w, .i .i64 l, .val (.slice none 0 0)]
def notA (m w l : Int) : List AV := [.i .i64 3, .i .i64 0, .i .i64 0, .i .i64 0, .rs 5 1 (rowOf 5 (atA m w l))]
theorem at_w (d : Nat) (m w l : Int) : AVWs (avD d (atF m w l)) (atA m w l) := ⟨AVW.refl _, AVW.refl _, AVW.refl _, AVW.refl _, AVW.nil 5 _, trivial⟩
theorem not_w (d : Nat) (m w l : Int) : AVWs (avD (d + 1) (notF (atF m w l))) (notA m w l) := by
  refine ⟨AVW.refl _, AVW.refl _, AVW.refl _, AVW.refl _, AVW.rs' rfl fun k hk => ?_, trivial⟩
  have : k = 0 := by
    have : k < 1 := hk
    omega
  subst this
  exact at_w d m w l
theorem KnownAt_fn (m w v : Int) (l : List Note) (hl : l.length < 2 ^ 62) (b : Bool) : Ctr Try.prog 39 [.ag (atA m w v), .rs 5 l.length (rowsN l), .b b] [] (.tup [.b (knownF (atF m w v) l b).1, .i .i64 (knownF (atF m w v) l b).2]) :=
  Ctr.of_w (args := [.ag (avD (0 + 6) (atF m w v)), .rs 5 l.length (rowsN l), .b b]) ⟨AVW.ag (at_w 6 m w v), AVW.refl _, AVW.refl _, trivial⟩ (Known_fn 0 (atF m w v) l hl b)
theorem KnownNot_fn (m w v : Int) (l : List Note) (hl : l.length < 2 ^ 62) (b : Bool) : Ctr Try.prog 39 [.ag (notA m w v), .rs 5 l.length (rowsN l), .b b] [] (.tup [.b (knownF (notF (atF m w v)) l b).1, .i .i64 (knownF (notF (atF m w v)) l b).2]) :=
  Ctr.of_w (args := [.ag (avD (0 + 6) (notF (atF m w v))), .rs 5 l.length (rowsN l), .b b]) ⟨AVW.ag (not_w 5 m w v), AVW.refl _, AVW.refl _, trivial⟩ (Known_fn 0 (notF (atF m w v)) l hl b)
/-! ### what is known of them -/
def atOk (m w v : Int) : Prop := 0 ≤ m ∧ m < 100000 ∧ 0 ≤ w ∧ w < 2000 ∧ 0 ≤ v ∧ v < 5
theorem node_at {m w v : Int} (h : atOk m w v) : nodeF (atF m w v) = true := by
  obtain ⟨h1, h2, h3, h4, h5, h6⟩ := h
  show (((((decide (0 ≤ m) && decide (m < 100000)) && decide (0 ≤ w)) && decide (w < 2000)) && decide (0 ≤ v)) && decide (v < 5)) && ((0 : Int) == 0) = true
  rw [decide_eq_true h1, decide_eq_true h2, decide_eq_true h3, decide_eq_true h4, decide_eq_true h5, decide_eq_true h6]
  rfl
theorem add_at {m w v : Int} (h : atOk m w v) (d : Nat) {c : Int} (hc : c + 1 ≤ 40) : addF (d + 1) (atF m w v) (c, []) = ((c + 1, [(m, w)]), true) := by
  have h1 : (decide (((c, []) : Sz).1 + 1 > 40) || !nodeF (atF m w v)) = false := by
    rw [node_at h]
    have : decide (((c, []) : Sz).1 + 1 > 40) = false := decide_eq_false (by dsimp only; omega)
    rw [this]; rfl
  have hp : putF (atF m w v) ((c, []) : Sz).2 = [(m, w)] := if_pos ⟨rfl, List.not_mem_nil⟩
  rw [addF_yes h1, hp]
  show ((addTo d [] (c + 1, [(m, w)]) 0).1, (addTo d [] (c + 1, [(m, w)]) 0).2 && decide (((addTo d [] (c + 1, [(m, w)]) 0).1.2.length : Int) ≤ 6)) = _
  rw [addTo_zero]
  rfl
theorem siz_at {m w v : Int} (h : atOk m w v) : sizF (atF m w v) = ((1, [(m, w)]), true) := add_at h 5 (by decide)
theorem siz_not {m w v : Int} (h : atOk m w v) : sizF (notF (atF m w v)) = ((2, [(m, w)]), true) := by
  have h1 : (decide (((0, []) : Sz).1 + 1 > 40) || !nodeF (notF (atF m w v))) = false := rfl
  have hp : putF (notF (atF m w v)) ((0, []) : Sz).2 = [] := rfl
  unfold sizF
  rw [addF_yes h1, hp]
  have e : addTo 5 [atF m w v] (((0, []) : Sz).1 + 1, []) 1 = ((2, [(m, w)]), true) := by
    rw [addTo_yes (by rw [addTo_zero]), addTo_zero]
    exact add_at h 4 (c := 1) (by decide)
  show ((addTo 5 [atF m w v] (((0, []) : Sz).1 + 1, []) 1).1, (addTo 5 [atF m w v] (((0, []) : Sz).1 + 1, []) 1).2 && decide (((addTo 5 [atF m w v] (((0, []) : Sz).1 + 1, []) 1).1.2.length : Int) ≤ 6)) = _
  rw [e]
  rfl
theorem srt_one (p : Pr) : srtPr [p] = [p] := by unfold srtPr; simp
theorem lv_one (m w n : Int) : lvW [ntP (m, w) n] m w = n := by
  have : idxF (isP m w) [ntP (m, w) n] = 0 := idxF_some (isP m w) [ntP (m, w) n] 0 (by simp) (fun j hj => absurd hj (Nat.not_lt_zero j)) (by
    show ((m == m) && (w == w)) = true
    simp)
  unfold lvW
  rw [this, if_neg (by decide)]
  rfl
theorem tryL_iff {g : Int → List Note × Bool} : ∀ {c : Nat} {n : Int}, (tryL g c n).2 = true ↔ ∃ i : Nat, i < c ∧ (g (n + i)).2 = true
  | 0, n => ⟨fun h => (by cases h), fun ⟨i, h, _⟩ => absurd h (Nat.not_lt_zero i)⟩
  | c + 1, n => by
    rw [tryL]
    split
    · rename_i h
      exact ⟨fun _ => ⟨0, Nat.succ_pos c, by rw [show n + ((0 : Nat) : Int) = n by omega]; exact h⟩, fun _ => h⟩
    · rename_i h
      rw [tryL_iff]
      constructor
      · rintro ⟨i, hi, hg⟩
        exact ⟨i + 1, by omega, by rw [show n + ((i + 1 : Nat) : Int) = n + 1 + i by omega]; exact hg⟩
      · rintro ⟨i, hi, hg⟩
        cases i with
        | zero => exact absurd (by rwa [show n + ((0 : Nat) : Int) = n by omega] at hg) h
        | succ i => exact ⟨i, by omega, by rwa [show n + ((i + 1 : Nat) : Int) = n + 1 + i by omega] at hg⟩
theorem right_low {l : List Note} {b : Bool} (h : Right l b = true) (m w : Int) : Low l b m w ≤ High l m w := by
  have hv : valid l = true := by
    unfold Right at h
    rw [Bool.and_eq_true] at h
    exact h.1
  by_cases hd : ∃ x ∈ l, den x m w = true
  · obtain ⟨x, hx, hxd⟩ := hd
    rw [right_eq] at h
    unfold rRight at h
    rw [Bool.and_eq_true, List.all_eq_true] at h
    have := of_decide_eq_true (h.2 x hx)
    unfold den at hxd
    simp at hxd
    obtain ⟨⟨_, h4⟩, h5⟩ := hxd
    rwa [h4, h5] at this
  · have hno : ∀ x ∈ l, den x m w = false := fun x hx => by
      cases hh : den x m w with
      | false => rfl
      | true => exact (hd ⟨x, hx, hh⟩).elim
    have h1 : high l m w = 4 := foldl_none m w l 4 hno
    have h2 : low l b m w ≤ 4 := foldl_le b m w l 0 (by omega) fun x hx => by
      have := valid_all hv x hx
      unfold vnote at this
      simp at this
      omega
    unfold Low High
    rw [if_pos hv, if_pos hv]
    omega
theorem known_at {l : List Note} {b : Bool} {m w v : Int} (hr : Right l b = true) (h : atOk m w v) : knownF (atF m w v) l b = (decide (v ≤ Low l b m w), 0) := by
  have hs := siz_at h
  have hp : prsF (atF m w v) = [(m, w)] := by
    unfold prsF
    rw [hs, if_pos rfl]
    exact srt_one _
  have hlh := right_low hr m w
  have he : srchF (atF m w v) l b = (wrldF (atF m w v) [(m, w)] [Low l b m w] [High l m w] 1 [], 0) := by
    unfold srchF
    rw [hs, if_neg (fun h => Bool.noConfusion h), if_neg (by rw [hr]; decide), hp]
    rfl
  have hw : (wrldF (atF m w v) [(m, w)] [Low l b m w] [High l m w] 1 []).2 = decide (Low l b m w < v) := by
    have hg : ∀ n, (wrldF (atF m w v) [(m, w)] [Low l b m w] [High l m w] 0 ([] ++ [ntP (m, w) n])).2 = decide (n < v) := by
      intro n
      show (!decide (lvW [ntP (m, w) n] m w ≥ v)) = _
      rw [lv_one, ← decide_not, decide_eq_decide]
      omega
    rw [Bool.eq_iff_iff, decide_eq_true_eq]
    show (tryL (fun n => wrldF (atF m w v) [(m, w)] [Low l b m w] [High l m w] 0 ([] ++ [ntP (m, w) n])) (High l m w - Low l b m w + 1).toNat (Low l b m w)).2 = true ↔ _
    rw [tryL_iff]
    constructor
    · rintro ⟨i, hi, hgi⟩
      have hgi := (hg _).symm.trans hgi
      rw [decide_eq_true_eq] at hgi
      omega
    · intro h
      exact ⟨0, by omega, (hg _).trans (decide_eq_true (by omega))⟩
  unfold knownF
  rw [he]
  show (((0 : Int) == 0) && !(wrldF (atF m w v) [(m, w)] [Low l b m w] [High l m w] 1 []).2, (0 : Int)) = _
  rw [hw, ← decide_not, show ((0 : Int) == 0) = true from rfl, Bool.true_and, Prod.mk.injEq, decide_eq_decide]
  exact ⟨by omega, rfl⟩
theorem known_not {l : List Note} {b : Bool} {m w v : Int} (hr : Right l b = true) (h : atOk m w v) : knownF (notF (atF m w v)) l b = (decide (High l m w < v), 0) := by
  have hs := siz_not h
  have hp : prsF (notF (atF m w v)) = [(m, w)] := by
    unfold prsF
    rw [hs, if_pos rfl]
    exact srt_one _
  have hlh := right_low hr m w
  have he : srchF (notF (atF m w v)) l b = (wrldF (notF (atF m w v)) [(m, w)] [Low l b m w] [High l m w] 1 [], 0) := by
    unfold srchF
    rw [hs, if_neg (fun h => Bool.noConfusion h), if_neg (by rw [hr]; decide), hp]
    rfl
  have hw : (wrldF (notF (atF m w v)) [(m, w)] [Low l b m w] [High l m w] 1 []).2 = decide (v ≤ High l m w) := by
    have hg : ∀ n, (wrldF (notF (atF m w v)) [(m, w)] [Low l b m w] [High l m w] 0 ([] ++ [ntP (m, w) n])).2 = decide (v ≤ n) := by
      intro n
      show (!!decide (lvW [ntP (m, w) n] m w ≥ v)) = _
      rw [lv_one, Bool.not_not]
    rw [Bool.eq_iff_iff, decide_eq_true_eq]
    show (tryL (fun n => wrldF (notF (atF m w v)) [(m, w)] [Low l b m w] [High l m w] 0 ([] ++ [ntP (m, w) n])) (High l m w - Low l b m w + 1).toNat (Low l b m w)).2 = true ↔ _
    rw [tryL_iff]
    constructor
    · rintro ⟨i, hi, hgi⟩
      have hgi := (hg _).symm.trans hgi
      rw [decide_eq_true_eq] at hgi
      omega
    · intro h
      exact ⟨(High l m w - Low l b m w).toNat, by omega, (hg _).trans (decide_eq_true (by omega))⟩
  unfold knownF
  rw [he]
  show (((0 : Int) == 0) && !(wrldF (notF (atF m w v)) [(m, w)] [Low l b m w] [High l m w] 1 []).2, (0 : Int)) = _
  rw [hw, ← decide_not, show ((0 : Int) == 0) = true from rfl, Bool.true_and, Prod.mk.injEq, decide_eq_decide]
  exact ⟨by omega, rfl⟩
end Go.Proofs.Ytnookbebiacaeaa
end

section
/-
  Know's laws: their own functions.
-/
namespace Go.Proofs.Ytnookbebiacaeaa
open Go.Eng

set_option maxRecDepth 20000 in
theorem few12_fn (l : List Note) : Ctr Try.prog 43 [.rs 5 l.length (rowsN l)] [] (.b (decide ((l.length : Int) ≤ 12))) := by
  refine fn_of_exec tabOk Try.func43 (by kernel_rfl) rfl (N := Try.f43.ntmps) rfl (res := [.tmp 2]) rfl rfl [] ?_
  exact RetIs.b rfl
set_option maxRecDepth 20000 in
theorem same34_fn (a b : List Note) (ha : a.length < 2^62) (hb : b.length < 2^62) : Ctr Try.prog 117 [.rs 5 a.length (rowsN a), .rs 5 b.length (rowsN b)] [] (.b (decide (a = b))) := by
  refine fn_of_exec tabOk Try.func117 (by kernel_rfl) rfl (N := Try.f117.ntmps) rfl (res := [.tmp 4]) rfl rfl [] ?_
  refine .inl ⟨fun h => ?_, fun h => ?_⟩
  · refine RetIs.b ?_
    have h : ((a.length : Int) != b.length) = true := h
    simp at h
    simp
    intro he
    exact h (by rw [he])
  have h : ((a.length : Int) != b.length) = false := h
  simp at h
  have hl : a.length = b.length := by omega
  refine .inl ⟨[], Nat, fun k => k ≤ a.length ∧ eqUpto dN a b k, fun k => [⟨5, [], .i .i64 k⟩], fun _ => [], fun k => a.length - k,
    ⟨0, [], ⟨Nat.zero_le _, fun j hj => by omega⟩, rfl, rfl, rfl, rfl, rfl, ⟨rfl, rfl⟩, trivial⟩, ?_⟩
  rintro k ⟨hk, he⟩
  refine .inl ⟨fun hc => ?_, fun hc => ?_⟩
  · have hc := dlt hc
    refine .inl ⟨⟨by omega, by omega⟩, ⟨by omega, by omega⟩, ⟨fun h2 => ?_, fun h2 => ?_⟩⟩
    · refine RetIs.b ?_
      have h2 : (!eqAVs (a.getD (k : Int).toNat dN).av (b.getD (k : Int).toNat dN).av) = true := h2
      rw [Int.toNat_natCast, note_ne] at h2
      symm
      rw [decide_eq_false_iff_not]
      rintro rfl
      simp at h2
    · have h2 : (!eqAVs (a.getD (k : Int).toNat dN).av (b.getD (k : Int).toNat dN).av) = false := h2
      rw [Int.toNat_natCast, note_ne] at h2
      have h3 : a.getD k dN = b.getD k dN := by simpa using h2
      refine ⟨k + 1, [], ⟨by omega, fun j hj => ?_⟩, by dsimp only; omega, rfl, rfl, rfl, rfl, rfl, ⟨rfl, wr (by omega) (by omega)⟩, trivial⟩
      by_cases hjk : j = k
      · rw [hjk]; exact h3
      · exact he j (by omega)
  · have hc := dnlt hc
    refine RetIs.b ?_
    have hk2 : k = a.length := by omega
    subst hk2
    simp [eqUpto_all hl he]
set_option maxRecDepth 20000 in
theorem atom34_fn (m w v : Int) : Ctr Try.prog 51 [.i .i64 m, .i .i64 w, .i .i64 v] [] (.ag (atA m w v)) := by
  refine fn_of_exec tabOk Try.func51 (by kernel_rfl) rfl (N := Try.f51.ntmps) rfl (res := [.cell 6 50]) rfl rfl [] ?_
  exact ⟨[], ⟨⟨⟨rfl, rfl, AVEq.refl _⟩, trivial⟩, trivial, rfl⟩, rfl, trivial⟩
def ntsX : List Note := [⟨4, 1, 3, 5, false⟩, ⟨6, 2, 2, 9, true⟩]
set_option maxRecDepth 20000 in
theorem notes_fn : Ctr Try.prog 116 [] [.row 24 5 2 (rowsN ntsX)] (.so 0) := by
  refine fn_of_exec tabOk Try.func116 (by kernel_rfl) rfl (N := Try.f116.ntmps) rfl (res := [.tmp 0]) rfl rfl [] ?_
  exact RetIs.so rfl rfl (two rfl rfl) (two rfl rfl)
set_option maxRecDepth 20000 in
theorem notA_fn (m w v : Int) : CtrA Try.prog 50 [.ag (atA m w v)] (.ag (notA m w v)) := by
  refine fn_of_execA tabOk Try.func50 (by kernel_rfl) rfl (N := Try.f50.ntmps) rfl (res := [.cell 2 50]) rfl rfl [(999999, [.frc 1 4 [2]])] ?_
  exact ⟨rfl, AVEq.refl _⟩
end Go.Proofs.Ytnookbebiacaeaa
end

section
/-
  Know's laws: the pairs of a formula, by the reference.
-/
namespace Go.Proofs.Ytnookbebiacaeaa
open Go.Eng

/-- The note's pair comes ahead of (m, w). -/
def befP (m w : Int) (n : Note) : Bool := decide (n.m < m) || ((n.m == m) && decide (n.w < w))
/-- The first place of a note that does not come ahead. -/
def posP (m w : Int) (l : List Note) : Nat := l.findIdx fun n => !befP m w n
theorem posP_at {m w : Int} {l : List Note} {k : Nat} (hk : k ≤ l.length) (h1 : ∀ j, j < k → befP m w (l.getD j dN) = true) (h2 : k < l.length → befP m w (l.getD k dN) = false) : posP m w l = k := by
  unfold posP
  by_cases h : k < l.length
  · rw [List.findIdx_eq h]
    refine ⟨?_, fun j hj => ?_⟩
    · have := h2 h
      rw [gd h] at this
      rw [this]; rfl
    · have := h1 j hj
      rw [gd (by omega)] at this
      rw [this]; rfl
  · have : k = l.length := by omega
    subst this
    rw [List.findIdx_eq_length]
    intro x hx
    obtain ⟨j, hj, rfl⟩ := List.getElem_of_mem hx
    have := h1 j hj
    rw [gd hj] at this
    rw [this]; rfl
theorem posP_le (m w : Int) (l : List Note) : posP m w l ≤ l.length := List.findIdx_le_length
/-- The atom's pair put where it belongs. -/
def insA (m w : Int) (l : List Note) : List Note :=
  if posP m w l < l.length ∧ isP m w (l.getD (posP m w l) dN) = true then l else l.take (posP m w l) ++ [ntP (m, w) 0] ++ l.drop (posP m w l)
theorem insA_len (m w : Int) (l : List Note) : (insA m w l).length ≤ l.length + 1 := by
  have := posP_le m w l
  unfold insA
  split
  · omega
  · simp; omega
mutual
def atomsF : Nat → Fm → List Note → List Note
  | 0, _, l => l
  | d + 1, f, l => if f.op = 0 then insA f.m f.w l else atomsTo d f.args l f.args.length
def atomsTo : Nat → List Fm → List Note → Nat → List Note
  | _, _, l, 0 => l
  | d, qs, l, k + 1 => atomsF d (qs.getD k dF) (atomsTo d qs l k)
end
mutual
/-- How many notes it can bring. -/
def manyF : Nat → Fm → Nat
  | 0, _ => 0
  | d + 1, f => if f.op = 0 then 1 else manyTo d f.args f.args.length
def manyTo : Nat → List Fm → Nat → Nat
  | _, _, 0 => 0
  | d, qs, k + 1 => manyTo d qs k + manyF d (qs.getD k dF)
end
theorem atomsF_len : ∀ (d : Nat) (f : Fm) (l : List Note), (atomsF d f l).length ≤ l.length + manyF d f
  | 0, f, l => by rw [atomsF, manyF]; omega
  | d + 1, f, l => by
    rw [atomsF, manyF]
    split
    · exact insA_len _ _ _
    · have : ∀ k, (atomsTo d f.args l k).length ≤ l.length + manyTo d f.args k := by
        intro k
        induction k with
        | zero => rw [atomsTo, manyTo]; omega
        | succ k ih =>
          rw [atomsTo, manyTo]
          have := atomsF_len d (f.args.getD k dF) (atomsTo d f.args l k)
          omega
      exact this _
theorem atomsTo_len (d : Nat) (qs : List Fm) (l : List Note) (k : Nat) : (atomsTo d qs l k).length ≤ l.length + manyTo d qs k := by
  induction k with
  | zero => rw [atomsTo, manyTo]; omega
  | succ k ih =>
    rw [atomsTo, manyTo]
    have := atomsF_len d (qs.getD k dF) (atomsTo d qs l k)
    omega
theorem manyTo_mono (d : Nat) (qs : List Fm) : ∀ {j k : Nat}, j ≤ k → manyTo d qs j ≤ manyTo d qs k := by
  intro j k h
  induction k with
  | zero => rw [show j = 0 by omega]; exact Nat.le_refl _
  | succ k ih =>
    by_cases hj : j = k + 1
    · rw [hj]; exact Nat.le_refl _
    · have := ih (by omega)
      rw [manyTo]
      omega
theorem atomsTo_zero (d : Nat) (qs : List Fm) (l : List Note) : atomsTo d qs l 0 = l := by rw [atomsTo]
theorem atomsTo_succ (d : Nat) (qs : List Fm) (l : List Note) (k : Nat) : atomsTo d qs l (k + 1) = atomsF d (qs.getD k dF) (atomsTo d qs l k) := by rw [atomsTo]
theorem ins_rows (l : List Note) (n : Note) {k a k' : Nat} (ha : a = k) (hk : k ≤ l.length) (hk' : k' = k) {r0 : Nat → List AV} : ∀ q, q < (l.take k ++ [n] ++ l.drop k).length →
    catG (a + 1) (catG a (catG 0 r0 fun q => rowsN l (0 + q)) (rowOf 5 n.av)) (fun q => rowsN l (k' + q)) q = rowsN (l.take k ++ [n] ++ l.drop k) q := by
  intro q hq
  rw [ha, hk']
  unfold catG rowsN
  by_cases h1 : q < k
  · rw [if_pos (by omega), if_pos h1, if_neg (Nat.not_lt_zero q)]
    have : (l.take k ++ [n] ++ l.drop k).getD q dN = l.getD q dN := by
      simp only [List.getD_eq_getElem?_getD, List.append_assoc]
      rw [List.getElem?_append_left (by simp; omega), List.getElem?_take, if_pos h1]
    rw [this]
    simp
  · by_cases h2 : q = k
    · rw [if_pos (by omega), if_neg (by omega)]
      have : (l.take k ++ [n] ++ l.drop k).getD q dN = n := by
        simp only [List.getD_eq_getElem?_getD, List.append_assoc]
        rw [List.getElem?_append_right (by simp; omega)]
        simp [Nat.min_eq_left hk, h2]
      rw [this, h2]
      simp
      rfl
    · rw [if_neg (by omega)]
      have : (l.take k ++ [n] ++ l.drop k).getD q dN = l.getD (k + (q - (k + 1))) dN := by
        simp only [List.getD_eq_getElem?_getD]
        rw [List.getElem?_append_right (by simp; omega)]
        simp [Nat.min_eq_left hk]
      rw [this]
set_option maxRecDepth 20000 in
set_option maxHeartbeats 16000000 in
theorem Atoms_fn : ∀ (d e : Nat) (f : Fm) (l : List Note), okF d f → l.length + manyF d f ≤ 1000 →
    CtrA Try.prog 48 [.rs 5 l.length (rowsN l), .ag (avD (e + d) f)] (.rs 5 (atomsF d f l).length (rowsN (atomsF d f l)))
  | 0, e, f, l, h, _ => h.elim
  | d + 1, e, f, l, ⟨hnode, hlen, hk⟩, hm => by
    refine fn_of_execA tabOk Try.func48 (by kernel_rfl) rfl (N := Try.f48.ntmps) rfl (res := [.tmp 4]) rfl rfl [(1000008, [.frz 4 [5]])] ?_
    repeat refine Or.inl ?_
    refine ⟨fun h0 => ?_, fun h0 => ?_⟩
    · have h0 : (f.op == 0) = true := h0
      rw [beq_iff_eq] at h0
      have hA : atomsF (d + 1) f l = insA f.m f.w l := by rw [atomsF, if_pos h0]
      rw [hA]
      repeat refine Or.inl ?_
      refine ⟨[], Nat, fun k => k ≤ l.length ∧ ∀ j, j < k → befP f.m f.w (l.getD j dN) = true, fun k => [⟨5, [], .i .i64 k⟩], fun _ => [], fun k => l.length - k,
        ⟨0, [], ⟨Nat.zero_le _, fun j hj => absurd hj (Nat.not_lt_zero j)⟩, rfl, rfl, rfl, rfl, rfl, ⟨rfl, rfl⟩, trivial⟩, ?_⟩
      rintro k ⟨hkl, hbef⟩
      have hkl : k ≤ l.length := hkl
      have ek : (k : Int).toNat = k := Int.toNat_natCast k
      repeat refine Or.inl ?_
      have lt : decide ((k : Int) < l.length) = true → 0 ≤ (k : Int) ∧ (k : Int) < l.length := fun h => ⟨by omega, of_decide_eq_true h⟩
      refine ⟨fun hg => lt hg.1, ?_⟩
      refine ⟨fun hg => lt hg.2.1, ?_⟩
      refine ⟨fun hg => lt hg.2.2.1, ?_⟩
      refine ⟨fun hc => ?_, fun hc => ?_⟩
      · have hc : (decide ((k : Int) < l.length) && befP f.m f.w (l.getD (k : Int).toNat dN)) = true := hc
        rw [Bool.and_eq_true, decide_eq_true_eq, ek] at hc
        repeat refine Or.inl ?_
        refine ⟨k + 1, [], ⟨by omega, fun j hj => ?_⟩, by dsimp only; omega, rfl, rfl, rfl, rfl, rfl, ⟨rfl, wr (by omega) (by omega)⟩, trivial⟩
        by_cases hjk : j = k
        · rw [hjk]; exact hc.2
        · exact hbef j (by omega)
      have hc : (decide ((k : Int) < l.length) && befP f.m f.w (l.getD (k : Int).toNat dN)) = false := hc
      rw [ek] at hc
      have hpos : posP f.m f.w l = k := posP_at hkl hbef fun h => by
        rw [decide_eq_true (show (k : Int) < l.length by omega), Bool.true_and] at hc
        exact hc
      refine Or.inr ⟨[], Unit, fun _ => ¬ (k < l.length ∧ isP f.m f.w (l.getD k dN) = true), fun _ => [], fun _ => [], ?_, fun _ hins => ?_⟩
      · repeat refine Or.inl ?_
        refine ⟨fun hkl2 => ?_, fun hkl2 => ?_⟩
        · have hkl2 := lt hkl2
          repeat refine Or.inl ?_
          refine ⟨⟨by omega, by omega⟩, ?_⟩
          refine ⟨fun _ => ⟨by omega, by omega⟩, ?_⟩
          refine ⟨fun h => ?_, fun h => ?_⟩
          · have h : isP f.m f.w (l.getD (k : Int).toNat dN) = true := h
            rw [ek] at h
            have : insA f.m f.w l = l := by
              unfold insA
              rw [hpos, if_pos ⟨by omega, h⟩]
            rw [this]
            exact RetA.rs rfl fun _ _ => rfl
          · have h : isP f.m f.w (l.getD (k : Int).toNat dN) = false := h
            rw [ek] at h
            exact ⟨(), [], fun hh => (by rw [h] at hh; cases hh.2), rfl, rfl, rfl, rfl, rfl, trivial, trivial⟩
        · have hkl2 : decide ((k : Int) < l.length) = false := hkl2
          rw [decide_eq_false_iff_not] at hkl2
          exact ⟨(), [], fun hh => (by omega), rfl, rfl, rfl, rfl, rfl, trivial, trivial⟩
      have hI : insA f.m f.w l = l.take k ++ [ntP (f.m, f.w) 0] ++ l.drop k := by
        unfold insA
        rw [hpos, if_neg hins]
      rw [hI]
      repeat refine Or.inl ?_
      refine ⟨⟨by omega, by omega⟩, ?_⟩
      refine ⟨fits (by omega), ?_⟩
      refine ⟨fits (by omega), ?_⟩
      refine ⟨⟨by omega, by omega⟩, ?_⟩
      refine ⟨fits (by omega), ?_⟩
      refine RetA.rs ?_ fun q hq => ?_
      · simp only [List.length_append, List.length_take, List.length_drop, List.length_singleton]
        omega
      · exact ins_rows l (ntP (f.m, f.w) 0) (by omega) (by omega) ek q (by simpa using hq)
    · have h0 : (f.op == 0) = false := h0
      rw [beq_eq_false_iff_ne] at h0
      have hA : atomsF (d + 1) f l = atomsTo d f.args l f.args.length := by rw [atomsF, if_neg h0]
      have hM : manyF (d + 1) f = manyTo d f.args f.args.length := by rw [manyF, if_neg h0]
      rw [hA]
      rw [hM] at hm
      repeat refine Or.inl ?_
      refine ⟨[], Nat, fun k => k ≤ f.args.length, fun k => [⟨6, [], .i .i64 k⟩, ⟨0, [], .rs 5 (atomsTo d f.args l k).length (rowsN (atomsTo d f.args l k))⟩], fun _ => [], fun k => f.args.length - k,
        ⟨0, [], Nat.zero_le _, rfl, rfl, rfl, rfl, rfl, ⟨⟨rfl, rfl⟩, ?_⟩, trivial⟩, ?_⟩
      · simp only [atomsTo_zero]
        exact ⟨rfl, rfl, fun _ _ => rfl⟩
      intro k hkl
      have hkl : k ≤ f.args.length := hkl
      refine .inl ⟨fun hc => ?_, fun hc => ?_⟩
      · have hc := dlt hc
        have hc : (k : Int) < f.args.length := hc
        have ek : (k : Int).toNat = k := Int.toNat_natCast k
        have hb := atomsTo_len d f.args l k
        have hmo := manyTo_mono d f.args (j := k + 1) (k := f.args.length) (by omega)
        rw [manyTo] at hmo
        have hr := Atoms_fn d e (f.args.getD (k : Int).toNat dF) (atomsTo d f.args l k) (by rw [ek]; exact hk k (by omega)) (by rw [ek]; omega)
        repeat refine Or.inl ?_
        refine ⟨⟨by omega, by omega⟩, ?_⟩
        refine Or.inr (Or.inl ?_)
        refine ⟨_, hr, ?_⟩
        refine ⟨k + 1, [], by dsimp only; omega, by dsimp only; omega, rfl, rfl, rfl, rfl, rfl, ⟨⟨rfl, wr (by omega) (by omega)⟩, ?_⟩, trivial⟩
        rw [atomsTo_succ, ek]
        exact ⟨rfl, rfl, fun _ _ => rfl⟩
      · have hc := dnlt hc
        have hc : (f.args.length : Int) ≤ k := hc
        obtain rfl : k = f.args.length := by omega
        exact ⟨rfl, AVEq.refl _⟩
end Go.Proofs.Ytnookbebiacaeaa
end

section
/-
  Know's laws: formulas without negation; the examples.
-/
namespace Go.Proofs.Ytnookbebiacaeaa
open Go.Eng

/-- Whether a formula has no negation. -/
def plainF : Nat → Fm → Bool
  | 0, _ => false
  | d + 1, f => if f.op = 3 then false else f.args.all (plainF d)
set_option maxRecDepth 20000 in
set_option maxHeartbeats 4000000 in
theorem plain_fn : ∀ (d e : Nat) (f : Fm), okF d f → Ctr Try.prog 52 [.ag (avD (e + d) f)] [] (.b (plainF d f))
  | 0, e, f, h => h.elim
  | d + 1, e, f, ⟨hnode, hlen, hk⟩ => by
    refine fn_of_exec tabOk Try.func52 (by kernel_rfl) rfl (N := Try.f52.ntmps) rfl (res := [.tmp 2]) rfl rfl [] ?_
    repeat refine Or.inl ?_
    refine ⟨fun h => ?_, fun h => ?_⟩
    · have h : (f.op == 3) = true := h
      rw [beq_iff_eq] at h
      exact RetIs.b (by rw [plainF, if_pos h])
    have h : (f.op == 3) = false := h
    rw [beq_eq_false_iff_ne] at h
    have hP : plainF (d + 1) f = f.args.all (plainF d) := by rw [plainF, if_neg h]
    rw [hP]
    repeat refine Or.inl ?_
    refine ⟨[], Nat, fun k => k ≤ f.args.length ∧ ∀ j, j < k → plainF d (f.args.getD j dF) = true, fun k => [⟨3, [], .i .i64 k⟩], fun _ => [], fun k => f.args.length - k,
      ⟨0, [], ⟨Nat.zero_le _, fun j hj => absurd hj (Nat.not_lt_zero j)⟩, rfl, rfl, rfl, rfl, rfl, ⟨rfl, rfl⟩, trivial⟩, ?_⟩
    rintro k ⟨hkl, hall⟩
    have hkl : k ≤ f.args.length := hkl
    refine .inl ⟨fun hc => ?_, fun hc => ?_⟩
    · have hc := dlt hc
      have hc : (k : Int) < f.args.length := hc
      have ek : (k : Int).toNat = k := Int.toNat_natCast k
      have hr := plain_fn d e (f.args.getD (k : Int).toNat dF) (by rw [ek]; exact hk k (by omega))
      repeat refine Or.inl ?_
      refine ⟨⟨by omega, by omega⟩, ?_⟩
      repeat refine Or.inl ?_
      refine ⟨[], _, hr, ?_⟩
      repeat refine Or.inl ?_
      refine ⟨fun h2 => ?_, fun h2 => ?_⟩
      · have h2 : (!plainF d (f.args.getD (k : Int).toNat dF)) = true := h2
        rw [ek, Bool.not_eq_true'] at h2
        refine RetIs.b ?_
        symm
        rw [List.all_eq_false]
        exact ⟨f.args.getD k dF, by
          have : k < f.args.length := by omega
          simp [List.getD, this], by rw [h2]; decide⟩
      · have h2 : (!plainF d (f.args.getD (k : Int).toNat dF)) = false := h2
        rw [ek, Bool.not_eq_false'] at h2
        refine ⟨k + 1, [], ⟨by omega, fun j hj => ?_⟩, by dsimp only; omega, rfl, rfl, rfl, rfl, rfl, ⟨rfl, wr (by omega) (by omega)⟩, trivial⟩
        by_cases hjk : j = k
        · rw [hjk]; exact h2
        · exact hall j (by omega)
    · have hc := dnlt hc
      have hc : (f.args.length : Int) ≤ k := hc
      obtain rfl : k = f.args.length := by omega
      refine RetIs.b ?_
      symm
      rw [List.all_eq_true]
      intro x hx
      obtain ⟨j, hj, rfl⟩ := List.getElem_of_mem hx
      have := hall j hj
      simpa [List.getD, hj] using this
end Go.Proofs.Ytnookbebiacaeaa
end

section
/-
  Know's laws: the examples.
-/
namespace Go.Proofs.Ytnookbebiacaeaa
open Go.Eng

def eiF : Fm := .mk 2 0 0 0 [atF 4 1 4, notF (atF 4 1 4)]
theorem right_nts (b : Bool) : Right ntsX b = true := by cases b <;> rfl
theorem ok414 : atOk 4 1 4 := by unfold atOk; decide
theorem add_again : addF 4 (atF 4 1 4) (3, [(4, 1)]) = ((4, [(4, 1)]), true) := by
  have h1 : (decide (((3, [(4, 1)]) : Sz).1 + 1 > 40) || !nodeF (atF 4 1 4)) = false := by rw [node_at ok414]; rfl
  have hp : putF (atF 4 1 4) ((3, [(4, 1)]) : Sz).2 = [(4, 1)] := if_neg fun h => h.2 (List.mem_singleton.2 rfl)
  rw [addF_yes h1, hp]
  show ((addTo 3 [] (3 + 1, [(4, 1)]) 0).1, (addTo 3 [] (3 + 1, [(4, 1)]) 0).2 && decide (((addTo 3 [] (3 + 1, [(4, 1)]) 0).1.2.length : Int) ≤ 6)) = _
  rw [addTo_zero]
  rfl
theorem add_not : addF 5 (notF (atF 4 1 4)) (2, [(4, 1)]) = ((4, [(4, 1)]), true) := by
  have h1 : (decide (((2, [(4, 1)]) : Sz).1 + 1 > 40) || !nodeF (notF (atF 4 1 4))) = false := rfl
  have hp : putF (notF (atF 4 1 4)) ((2, [(4, 1)]) : Sz).2 = [(4, 1)] := if_neg fun h => absurd h.1 (by decide)
  rw [addF_yes h1, hp]
  have e : addTo 4 [atF 4 1 4] (2 + 1, [(4, 1)]) 1 = ((4, [(4, 1)]), true) := by
    rw [addTo_yes (by rw [addTo_zero]), addTo_zero]
    exact add_again
  show ((addTo 4 [atF 4 1 4] (2 + 1, [(4, 1)]) 1).1, (addTo 4 [atF 4 1 4] (2 + 1, [(4, 1)]) 1).2 && decide (((addTo 4 [atF 4 1 4] (2 + 1, [(4, 1)]) 1).1.2.length : Int) ≤ 6)) = _
  rw [e]
  rfl
theorem siz_ei : sizF eiF = ((4, [(4, 1)]), true) := by
  have h1 : (decide (((0, []) : Sz).1 + 1 > 40) || !nodeF eiF) = false := rfl
  have hp : putF eiF ((0, []) : Sz).2 = [] := if_neg fun h => absurd h.1 (by decide)
  unfold sizF
  rw [addF_yes h1, hp]
  have e1 : addTo 5 [atF 4 1 4, notF (atF 4 1 4)] (0 + 1, []) 1 = ((2, [(4, 1)]), true) := by
    rw [addTo_yes (by rw [addTo_zero]), addTo_zero]
    exact add_at ok414 4 (c := 1) (by decide)
  have e : addTo 5 [atF 4 1 4, notF (atF 4 1 4)] (0 + 1, []) 2 = ((4, [(4, 1)]), true) := by
    rw [addTo_yes (by rw [e1]), e1]
    exact add_not
  show ((addTo 5 [atF 4 1 4, notF (atF 4 1 4)] (0 + 1, []) 2).1, (addTo 5 [atF 4 1 4, notF (atF 4 1 4)] (0 + 1, []) 2).2 && decide (((addTo 5 [atF 4 1 4, notF (atF 4 1 4)] (0 + 1, []) 2).1.2.length : Int) ≤ 6)) = _
  rw [e]
  rfl
theorem prs_ei : prsF eiF = [(4, 1)] := by
  unfold prsF
  rw [siz_ei, if_pos rfl]
  exact srt_one _
theorem known_ei : knownF eiF ntsX false = (true, 0) := by
  have he : srchF eiF ntsX false = (wrldF eiF [(4, 1)] [Low ntsX false 4 1] [High ntsX 4 1] 1 [], 0) := by
    unfold srchF
    rw [siz_ei, if_neg (fun h => Bool.noConfusion h), if_neg (by rw [right_nts]; decide), prs_ei]
    rfl
  unfold knownF
  rw [he]
  rfl
theorem world_ex : srchF (atF 3 1 3) ntsX false = (([⟨3, 1, 0, 0, false⟩], true), 0) := by
  have hs := siz_at (m := 3) (w := 1) (v := 3) (by unfold atOk; decide)
  have hp : prsF (atF 3 1 3) = [(3, 1)] := by
    unfold prsF
    rw [hs, if_pos rfl]
    exact srt_one _
  unfold srchF
  rw [hs, if_neg (fun h => Bool.noConfusion h), if_neg (by rw [right_nts]; decide), hp]
  rfl
end Go.Proofs.Ytnookbebiacaeaa
end

section
/-
  Receipts: ReceiptHolds.
-/
namespace Go.Proofs.Ytnookbebiacaeaa
open Go.Eng

theorem known_at_yes {l : List Note} {b : Bool} {m w v : Int} (hl : l.length < 2 ^ 62) (hr : Right l b = true) (h : atOk m w v) (hv : v ≤ Low l b m w) :
    Ctr Try.prog 39 [.ag (atA m w v), .rs 5 l.length (rowsN l), .b b] [] (.tup [.b true, .i .i64 0]) := by
  have := KnownAt_fn m w v l hl b
  rwa [known_at hr h, decide_eq_true hv] at this
theorem known_at_no {l : List Note} {b : Bool} {m w v : Int} (hl : l.length < 2 ^ 62) (hr : Right l b = true) (h : atOk m w v) (hv : ¬ v ≤ Low l b m w) :
    Ctr Try.prog 39 [.ag (atA m w v), .rs 5 l.length (rowsN l), .b b] [] (.tup [.b false, .i .i64 0]) := by
  have := KnownAt_fn m w v l hl b
  rwa [known_at hr h, decide_eq_false hv] at this
theorem known_not_yes {l : List Note} {b : Bool} {m w v : Int} (hl : l.length < 2 ^ 62) (hr : Right l b = true) (h : atOk m w v) (hv : High l m w < v) :
    Ctr Try.prog 39 [.ag (notA m w v), .rs 5 l.length (rowsN l), .b b] [] (.tup [.b true, .i .i64 0]) := by
  have := KnownNot_fn m w v l hl b
  rwa [known_not hr h, decide_eq_true hv] at this
end Go.Proofs.Ytnookbebiacaeaa
end

section
/-
  Know's laws: the examples hold.
-/
namespace Go.Proofs.Ytnookbebiacaeaa
open Go.Eng

def eiA : List AV := [.i .i64 2, .i .i64 0, .i .i64 0, .i .i64 0, .rs 5 2 (rowOf 5 [.i .i64 0, .i .i64 4, .i .i64 1, .i .i64 4, .val (.slice none 0 0), .i .i64 3, .i .i64 0, .i .i64 0, .i .i64 0, .rs 5 1 (rowOf 5 (atA 4 1 4))])]
theorem ei_w : AVWs (avD 6 eiF) eiA := by
  refine ⟨AVW.refl _, AVW.refl _, AVW.refl _, AVW.refl _, AVW.rs' rfl (two (p := fun k => AVWs (kidsD 6 eiF k) (rowOf 5 [.i .i64 0, .i .i64 4, .i .i64 1, .i .i64 4, .val (.slice none 0 0), .i .i64 3, .i .i64 0, .i .i64 0, .i .i64 0, .rs 5 1 (rowOf 5 (atA 4 1 4))] k)) ?_ ?_), trivial⟩
  · exact at_w 5 4 1 4
  · exact not_w 4 4 1 4
theorem k1 : Ctr Try.prog 39 [.ag (atA 4 1 2), .rs 5 2 (rowsN ntsX), .b false] [] (.tup [.b true, .i .i64 0]) := known_at_yes (l := ntsX) (by decide) (right_nts _) (by unfold atOk; decide) (by decide)
theorem k2 : Ctr Try.prog 39 [.ag (atA 3 1 3), .rs 5 2 (rowsN ntsX), .b false] [] (.tup [.b false, .i .i64 0]) := known_at_no (l := ntsX) (by decide) (right_nts _) (by unfold atOk; decide) (by decide)
theorem k3 : Ctr Try.prog 39 [.ag (atA 3 1 3), .rs 5 2 (rowsN ntsX), .b true] [] (.tup [.b true, .i .i64 0]) := known_at_yes (l := ntsX) (by decide) (right_nts _) (by unfold atOk; decide) (by decide)
theorem k4 : Ctr Try.prog 39 [.ag (notA 6 2 3), .rs 5 2 (rowsN ntsX), .b false] [] (.tup [.b true, .i .i64 0]) := known_not_yes (l := ntsX) (by decide) (right_nts _) (by unfold atOk; decide) (by decide)
theorem k5 : Ctr Try.prog 39 [.ag eiA, .rs 5 2 (rowsN ntsX), .b false] [] (.tup [.b true, .i .i64 0]) := by
  have := Known_fn 0 eiF ntsX (by decide) false
  rw [known_ei] at this
  exact Ctr.of_w (args := [.ag (avD (0 + 6) eiF), .rs 5 2 (rowsN ntsX), .b false]) ⟨AVW.ag ei_w, AVW.refl _, AVW.refl _, trivial⟩ this
end Go.Proofs.Ytnookbebiacaeaa
end

section
/-
  Know's laws: small.
-/
namespace Go.Proofs.Ytnookbebiacaeaa
open Go.Eng

theorem w1 : CtrA Try.prog 45 [.ag (atA 3 1 3), .rs 5 2 (rowsN ntsX), .b false] (.tup [.rs 5 1 (rowsN [⟨3, 1, 0, 0, false⟩]), .b true]) := by
  have := World_fn 0 (atF 3 1 3) ntsX (by decide) false
  rw [world_ex] at this
  exact CtrA.of_w (args := [.ag (avD (0 + 6) (atF 3 1 3)), .rs 5 2 (rowsN ntsX), .b false]) ⟨AVW.ag (at_w 6 3 1 3), AVW.refl _, AVW.refl _, trivial⟩ this
set_option maxRecDepth 20000 in
theorem notesA_fn : CtrA Try.prog 116 [] (.rs 5 2 (rowsN ntsX)) := by
  refine fn_of_execA tabOk Try.func116 (by kernel_rfl) rfl (N := Try.f116.ntmps) rfl (res := [.tmp 0]) rfl rfl [(999999, [.frz 0 [0]])] ?_
  exact RetA.rs rfl (two rfl rfl)
theorem s1 : Ctr Try.prog 117 [.rs 5 1 (rowsN [⟨3, 1, 0, 0, false⟩]), .rs 5 1 (rowOf 5 [.i .i64 3, .i .i64 1, .i .i64 0, .i .i64 0, .b false])] [] (.b true) := by
  have := same34_fn [⟨3, 1, 0, 0, false⟩] [⟨3, 1, 0, 0, false⟩] (by decide) (by decide)
  rw [decide_eq_true rfl] at this
  refine Ctr.of_eq (args := [.rs 5 1 (rowsN [⟨3, 1, 0, 0, false⟩]), .rs 5 1 (rowsN [⟨3, 1, 0, 0, false⟩])]) ⟨AVEq.refl _, ⟨rfl, rfl, fun k hk => ?_⟩⟩ this
  have : k = 0 := by
    have : k < 1 := hk
    omega
  subst this
  rfl
theorem b1 : Ctr Try.prog 38 [.rs 5 2 (rowsN ntsX), .b false, .i .i64 4, .i .i64 1] [] (.i .i64 3) := Best_fn ntsX (by decide) false 4 1
theorem r1 : Ctr Try.prog 44 [.ag eiA] [] (.b true) := by
  have := RightF_fn 0 eiF
  rw [siz_ei] at this
  exact Ctr.of_w (args := [.ag (avD (0 + 6) eiF)]) ⟨AVW.ag ei_w, trivial⟩ this
theorem h1 : Ctr Try.prog 46 [.ag (atA 4 1 2), .rs 5 2 (rowsN ntsX)] [] (.b true) := by
  have := Holds_fn 0 (atF 4 1 2) ntsX (by decide)
  have e : HoldsF (atF 4 1 2) ntsX = true := by
    unfold HoldsF
    rw [siz_at (by unfold atOk; decide)]
    rfl
  rw [e] at this
  exact Ctr.of_w (args := [.ag (avD (0 + 6) (atF 4 1 2)), .rs 5 2 (rowsN ntsX)]) ⟨AVW.ag (at_w 6 4 1 2), AVW.refl _, trivial⟩ this
set_option maxRecDepth 20000 in
set_option maxHeartbeats 8000000 in
theorem small34_fn : Ctr Try.prog 41 [] [] (.b true) := by
  refine fn_of_exec tabOk Try.func41 (by kernel_rfl) rfl (N := Try.f41.ntmps) rfl (res := [.tmp 0]) rfl rfl [] ?_
  repeat refine Or.inl ?_
  refine ⟨[], _, atom34_fn 4 1 2, ?_⟩
  repeat refine Or.inl ?_
  refine ⟨[], _, atom34_fn 3 1 3, ?_⟩
  repeat refine Or.inl ?_
  refine ⟨[], _, atom34_fn 6 2 3, ?_⟩
  refine Or.inr (Or.inl ?_)
  refine ⟨_, notA_fn 6 2 3, ?_⟩
  repeat refine Or.inl ?_
  refine ⟨[], _, atom34_fn 4 1 4, ?_⟩
  refine Or.inr ?_
  refine ⟨_, notA_fn 4 1 4, ?_⟩
  repeat refine Or.inl ?_
  refine ⟨_, _, notes_fn, ?_⟩
  refine Or.inl ?_
  refine ⟨[], _, k1, ?_⟩
  repeat refine Or.inl ?_
  refine ⟨_, _, notes_fn, ?_⟩
  refine Or.inl ?_
  refine ⟨[], _, k2, ?_⟩
  repeat refine Or.inl ?_
  refine ⟨_, _, notes_fn, ?_⟩
  refine Or.inl ?_
  refine ⟨[], _, k3, ?_⟩
  repeat refine Or.inl ?_
  refine ⟨_, _, notes_fn, ?_⟩
  refine Or.inl ?_
  refine ⟨[], _, k4, ?_⟩
  repeat refine Or.inl ?_
  refine ⟨_, _, notes_fn, ?_⟩
  refine Or.inl ?_
  refine ⟨[], _, k5, ?_⟩
  refine Or.inr ?_
  refine ⟨_, notesA_fn, ?_⟩
  refine Or.inr ?_
  refine ⟨_, w1, ?_⟩
  repeat refine Or.inl ?_
  refine ⟨[], _, fun _ => s1, ?_⟩
  refine Or.inl ?_
  refine ⟨_, _, fun _ => notes_fn, ?_⟩
  refine Or.inl ?_
  refine ⟨[], _, fun _ => b1, ?_⟩
  refine Or.inl ?_
  refine ⟨[], _, fun _ => r1, ?_⟩
  refine Or.inl ?_
  refine ⟨_, _, fun _ => notes_fn, ?_⟩
  refine Or.inl ?_
  refine ⟨[], _, fun _ => h1, ?_⟩
  exact RetIs.b rfl
end Go.Proofs.Ytnookbebiacaeaa
end

section
/-
  Know's laws: what is known, in plain terms.
-/
namespace Go.Proofs.Ytnookbebiacaeaa
open Go.Eng

/-- Whether a formula holds where the pairs have the levels v. -/
def ev : Nat → Fm → (Int → Int → Int) → Bool
  | 0, _, _ => false
  | d + 1, f, v => if f.op = 1 then !(f.args.any fun x => !ev d x v) else if f.op = 2 then f.args.any fun x => ev d x v
    else if f.op = 3 then !ev d (f.args.getD 0 dF) v else decide (v f.m f.w ≥ f.l)
theorem holds_ev : ∀ (d : Nat) (f : Fm) (W : List Note), holdsF d f W = ev d f (lvW W)
  | 0, f, W => by rw [holdsF, ev]
  | d + 1, f, W => by
    have h : (fun x => holdsF d x W) = fun x => ev d x (lvW W) := funext fun x => holds_ev d x W
    rw [holdsF, ev, h, holds_ev d (f.args.getD 0 dF) W]
    simp only [holds_ev d]
/-- The pairs of the atoms, as they stand. -/
def prl : Nat → Fm → List Pr
  | 0, _ => []
  | d + 1, f => if f.op = 0 then [(f.m, f.w)] else f.args.flatMap (prl d)
theorem getD_memF {l : List Fm} {k : Nat} (h : k < l.length) : l.getD k dF ∈ l := by simp [List.getD, h]
theorem memF_getD {l : List Fm} {x : Fm} (h : x ∈ l) : ∃ k, k < l.length ∧ l.getD k dF = x := by
  obtain ⟨k, hk, rfl⟩ := List.getElem_of_mem h
  exact ⟨k, hk, by simp [List.getD, hk]⟩
theorem okF_mem {d : Nat} {f x : Fm} (h : okF (d + 1) f) (hx : x ∈ f.args) : okF d x := by
  obtain ⟨k, hk, rfl⟩ := memF_getD hx
  exact h.2.2 k hk
theorem node_ops {f : Fm} (h : nodeF f = true) : f.op = 0 ∨ f.op = 1 ∨ f.op = 2 ∨ f.op = 3 := by
  unfold nodeF at h
  by_cases h0 : f.op = 0
  · exact .inl h0
  rw [if_neg h0] at h
  by_cases h1 : f.op = 1 ∨ f.op = 2
  · omega
  rw [if_neg h1] at h
  by_cases h3 : f.op = 3
  · omega
  rw [if_neg h3] at h
  cases h
theorem node_atom {f : Fm} (h : nodeF f = true) (h0 : f.op = 0) : f.args = [] ∧ atOk f.m f.w f.l := by
  unfold nodeF at h
  rw [if_pos h0] at h
  simp only [Bool.and_eq_true, decide_eq_true_eq, beq_iff_eq] at h
  refine ⟨List.eq_nil_of_length_eq_zero (by omega), ?_⟩
  unfold atOk
  omega
theorem node_not {f : Fm} (h : nodeF f = true) (h3 : f.op = 3) : f.args.length = 1 := by
  unfold nodeF at h
  rw [if_neg (by omega), if_neg (by omega), if_pos h3, Bool.and_eq_true, beq_iff_eq] at h
  omega
theorem any_ext {α : Type} {l : List α} {p q : α → Bool} (h : ∀ x ∈ l, p x = q x) : l.any p = l.any q := by
  induction l with
  | nil => rfl
  | cons a l ih =>
    rw [List.any_cons, List.any_cons, h a (by simp), ih fun x hx => h x (by simp [hx])]
theorem mem_prl {d : Nat} {f x : Fm} {p : Pr} (h0 : f.op ≠ 0) (hx : x ∈ f.args) (hp : p ∈ prl d x) : p ∈ prl (d + 1) f := by
  rw [prl, if_neg h0, List.mem_flatMap]
  exact ⟨x, hx, hp⟩
theorem prl_atom {d : Nat} {f : Fm} (h0 : f.op = 0) : prl (d + 1) f = [(f.m, f.w)] := by rw [prl, if_pos h0]
theorem ev_congr : ∀ (d : Nat) (f : Fm) (v v' : Int → Int → Int), okF d f → (∀ p ∈ prl d f, v p.1 p.2 = v' p.1 p.2) → ev d f v = ev d f v'
  | 0, f, v, v', h, _ => h.elim
  | d + 1, f, v, v', h, hp => by
    by_cases h0 : f.op = 0
    · have := hp (f.m, f.w) (by rw [prl_atom h0]; simp)
      rw [ev, ev, if_neg (by omega), if_neg (by omega), if_neg (by omega), if_neg (by omega), if_neg (by omega), if_neg (by omega)]
      dsimp only at this
      rw [this]
    have ih : ∀ x ∈ f.args, ev d x v = ev d x v' := fun x hx => ev_congr d x v v' (okF_mem h hx) fun p hpx => hp p (mem_prl h0 hx hpx)
    rw [ev, ev]
    rw [any_ext (p := fun x => !ev d x v) (q := fun x => !ev d x v') fun x hx => by rw [ih x hx], any_ext (p := fun x => ev d x v) (q := fun x => ev d x v') ih]
    by_cases h3 : f.op = 3
    · have := node_not h.1 h3
      rw [ih _ (getD_memF (k := 0) (by omega)), if_neg (by omega), if_neg (by omega), if_pos h3, if_neg (by omega), if_neg (by omega), if_pos h3]
    · rcases node_ops h.1 with h' | h' | h' | h'
      · exact absurd h' h0
      · rw [if_pos h', if_pos h']
      · rw [if_neg (by omega), if_pos h', if_neg (by omega), if_pos h']
      · exact absurd h' h3
theorem ev_mono : ∀ (d : Nat) (f : Fm) (v v' : Int → Int → Int), okF d f → plainF d f = true → (∀ p ∈ prl d f, v p.1 p.2 ≤ v' p.1 p.2) → ev d f v = true → ev d f v' = true
  | 0, f, v, v', h, _, _, _ => h.elim
  | d + 1, f, v, v', h, hpl, hp, he => by
    by_cases h0 : f.op = 0
    · have := hp (f.m, f.w) (by rw [prl_atom h0]; simp)
      rw [ev, if_neg (by omega), if_neg (by omega), if_neg (by omega), decide_eq_true_eq] at he ⊢
      dsimp only at this
      omega
    rw [plainF] at hpl
    by_cases h3 : f.op = 3
    · rw [if_pos h3] at hpl; cases hpl
    rw [if_neg h3, List.all_eq_true] at hpl
    have ih : ∀ x ∈ f.args, ev d x v = true → ev d x v' = true := fun x hx => ev_mono d x v v' (okF_mem h hx) (hpl x hx) fun p hpx => hp p (mem_prl h0 hx hpx)
    rw [ev] at he ⊢
    rcases node_ops h.1 with h' | h' | h' | h'
    · exact absurd h' h0
    · rw [if_pos h'] at he ⊢
      rw [Bool.not_eq_true', List.any_eq_false] at he ⊢
      intro x hx
      have := he x hx
      cases hv : ev d x v
      · rw [hv] at this; exact absurd rfl this
      · rw [ih x hx hv]; decide
    · rw [if_neg (by omega), if_pos h', List.any_eq_true] at he ⊢
      obtain ⟨x, hx, hv⟩ := he
      exact ⟨x, hx, ih x hx hv⟩
    · exact absurd h' h3
/-! ### the pairs gathered are those of the atoms -/
theorem putF_mem {f : Fm} {L : List Pr} {p : Pr} : p ∈ putF f L ↔ p ∈ L ∨ (f.op = 0 ∧ p = (f.m, f.w)) := by
  unfold putF
  split
  · rename_i h
    simp [h.1]
  · rename_i h
    constructor
    · exact .inl
    · rintro (hp | ⟨h0, rfl⟩)
      · exact hp
      · by_cases hm : (f.m, f.w) ∈ L
        · exact hm
        · exact absurd ⟨h0, hm⟩ h
theorem addF_split {d : Nat} {f : Fm} {s : Sz} (h : (addF (d + 1) f s).2 = true) : (decide (s.1 + 1 > 40) || !nodeF f) = false ∧ s.1 + 1 ≤ 40 ∧ nodeF f = true ∧ (addTo d f.args (s.1 + 1, putF f s.2) f.args.length).2 = true ∧ (((addTo d f.args (s.1 + 1, putF f s.2) f.args.length).1.2.length : Int) ≤ 6) := by
  have hnb : (decide (s.1 + 1 > 40) || !nodeF f) = false := by
    cases hh : (decide (s.1 + 1 > 40) || !nodeF f)
    · rfl
    · rw [addF_no hh] at h; cases h
  rw [addF_yes hnb, Bool.and_eq_true, decide_eq_true_eq] at h
  have hn := hnb
  rw [Bool.or_eq_false_iff, decide_eq_false_iff_not, Bool.not_eq_false'] at hn
  exact ⟨hnb, by omega, hn.2, h.1, h.2⟩
theorem addTo_all {d : Nat} {l : List Fm} {s : Sz} {n : Nat} (h : (addTo d l s n).2 = true) : ∀ k, k ≤ n → (addTo d l s k).2 = true := by
  intro k hk
  cases hh : (addTo d l s k).2
  · have := addTo_stop hh (n - k)
    rw [show k + (n - k) = n by omega] at this
    rw [this, hh] at h
    cases h
  · rfl
theorem addF_mem : ∀ (d : Nat) (f : Fm) (s : Sz), (addF d f s).2 = true → ∀ p, p ∈ (addF d f s).1.2 ↔ p ∈ s.2 ∨ p ∈ prl d f
  | 0, f, s, h => by rw [addF] at h; cases h
  | d + 1, f, s, h => by
    obtain ⟨hnb, h40, hnode, hto, _⟩ := addF_split h
    intro p
    rw [addF_yes hnb]
    dsimp only
    have key : ∀ k, k ≤ f.args.length → (p ∈ (addTo d f.args (s.1 + 1, putF f s.2) k).1.2 ↔ p ∈ putF f s.2 ∨ ∃ j, j < k ∧ p ∈ prl d (f.args.getD j dF)) := by
      intro k
      induction k with
      | zero => intro _; rw [addTo_zero]; simp
      | succ k ih =>
        intro hk
        have h1 := addTo_all hto k (by omega)
        have h2 := addTo_all hto (k + 1) hk
        rw [addTo_yes h1] at h2 ⊢
        rw [addF_mem d _ _ h2 p, ih (by omega)]
        constructor
        · rintro ((h | ⟨j, hj, h⟩) | h)
          · exact .inl h
          · exact .inr ⟨j, by omega, h⟩
          · exact .inr ⟨k, by omega, h⟩
        · rintro (h | ⟨j, hj, h⟩)
          · exact .inl (.inl h)
          · by_cases hjk : j = k
            · subst hjk; exact .inr h
            · exact .inl (.inr ⟨j, by omega, h⟩)
    rw [key _ (Nat.le_refl _), putF_mem]
    by_cases h0 : f.op = 0
    · rw [prl_atom h0, (node_atom hnode h0).1]
      simp [h0]
    · rw [prl, if_neg h0, List.mem_flatMap]
      constructor
      · rintro ((h | ⟨h, _⟩) | ⟨j, hj, h⟩)
        · exact .inl h
        · exact absurd h h0
        · exact .inr ⟨_, getD_memF hj, h⟩
      · rintro (h | ⟨x, hx, h⟩)
        · exact .inl (.inl h)
        · obtain ⟨k, hk, rfl⟩ := memF_getD hx
          exact .inr ⟨k, hk, h⟩
theorem mem_prsF {f : Fm} (h : (sizF f).2 = true) (p : Pr) : p ∈ prsF f ↔ p ∈ prl 6 f := by
  unfold prsF
  rw [if_pos h]
  unfold srtPr
  rw [List.mem_mergeSort, sizF, addF_mem 6 f _ h]
  simp
/-- The reference's list has the pairs of the atoms. -/
theorem insA_mem (m w : Int) (l : List Note) (p : Pr) : (∃ n ∈ insA m w l, (n.m, n.w) = p) ↔ (∃ n ∈ l, (n.m, n.w) = p) ∨ p = (m, w) := by
  unfold insA
  split
  · rename_i h
    constructor
    · exact .inl
    · rintro (h2 | rfl)
      · exact h2
      · refine ⟨l.getD (posP m w l) dN, getD_memN h.1, ?_⟩
        have := h.2
        unfold isP at this
        rw [Bool.and_eq_true, beq_iff_eq, beq_iff_eq] at this
        rw [this.1, this.2]
  · constructor
    · rintro ⟨n, hn, rfl⟩
      rw [List.mem_append, List.mem_append, List.mem_singleton] at hn
      rcases hn with (hn | rfl) | hn
      · exact .inl ⟨n, List.mem_of_mem_take hn, rfl⟩
      · exact .inr rfl
      · exact .inl ⟨n, List.mem_of_mem_drop hn, rfl⟩
    · rintro (⟨n, hn, rfl⟩ | rfl)
      · refine ⟨n, ?_, rfl⟩
        rw [← List.take_append_drop (posP m w l) l, List.mem_append] at hn
        rw [List.mem_append, List.mem_append]
        rcases hn with hn | hn
        · exact .inl (.inl hn)
        · exact .inr hn
      · exact ⟨ntP (m, w) 0, by simp, rfl⟩
theorem atomsF_mem : ∀ (d : Nat) (f : Fm) (l : List Note), okF d f → ∀ p, (∃ n ∈ atomsF d f l, (n.m, n.w) = p) ↔ (∃ n ∈ l, (n.m, n.w) = p) ∨ p ∈ prl d f
  | 0, f, l, h => h.elim
  | d + 1, f, l, h => by
    intro p
    rw [atomsF, prl]
    split
    · rw [insA_mem, List.mem_singleton]
    · have key : ∀ k, k ≤ f.args.length → ((∃ n ∈ atomsTo d f.args l k, (n.m, n.w) = p) ↔ (∃ n ∈ l, (n.m, n.w) = p) ∨ ∃ j, j < k ∧ p ∈ prl d (f.args.getD j dF)) := by
        intro k
        induction k with
        | zero => intro _; rw [atomsTo_zero]; simp
        | succ k ih =>
          intro hk
          rw [atomsTo_succ, atomsF_mem d _ _ (h.2.2 k (by omega)) p, ih (by omega)]
          constructor
          · rintro ((h | ⟨j, hj, h⟩) | h)
            · exact .inl h
            · exact .inr ⟨j, by omega, h⟩
            · exact .inr ⟨k, by omega, h⟩
          · rintro (h | ⟨j, hj, h⟩)
            · exact .inl (.inl h)
            · by_cases hjk : j = k
              · subst hjk; exact .inr h
              · exact .inl (.inr ⟨j, by omega, h⟩)
      rw [key _ (Nat.le_refl _), List.mem_flatMap]
      constructor
      · rintro (h | ⟨j, hj, h⟩)
        · exact .inl h
        · exact .inr ⟨_, getD_memF hj, h⟩
      · rintro (h | ⟨x, hx, h⟩)
        · exact .inl h
        · obtain ⟨k, hk, rfl⟩ := memF_getD hx
          exact .inr ⟨k, hk, h⟩
theorem addF_many : ∀ (d : Nat) (f : Fm) (s : Sz), (addF d f s).2 = true → s.1 + manyF d f ≤ (addF d f s).1.1
  | 0, f, s, h => by rw [addF] at h; cases h
  | d + 1, f, s, h => by
    obtain ⟨hnb, h40, hnode, hto, _⟩ := addF_split h
    rw [addF_yes hnb, manyF]
    dsimp only
    have key : ∀ k, k ≤ f.args.length → s.1 + 1 + manyTo d f.args k ≤ (addTo d f.args (s.1 + 1, putF f s.2) k).1.1 := by
      intro k
      induction k with
      | zero => intro _; rw [addTo_zero, manyTo]; dsimp only; omega
      | succ k ih =>
        intro hk
        have h1 := addTo_all hto k (by omega)
        have h2 := addTo_all hto (k + 1) hk
        rw [addTo_yes h1] at h2 ⊢
        have := addF_many d _ _ h2
        have := ih (by omega)
        rw [manyTo]
        omega
    have := key _ (Nat.le_refl _)
    split
    · omega
    · omega
theorem many_le {f : Fm} (h : (sizF f).2 = true) : manyF 6 f ≤ 40 := by
  have h1 := addF_many 6 f (0, []) h
  have h2 := (addF_sz 6 f (0, []) (by decide)).2.2.2.2 h
  dsimp only at h1
  omega
theorem prl_ok : ∀ (d : Nat) (f : Fm), okF d f → ∀ p ∈ prl d f, 0 ≤ p.1 ∧ p.1 < 100000 ∧ 0 ≤ p.2 ∧ p.2 < 2000
  | 0, f, h => h.elim
  | d + 1, f, h => by
    intro p hp
    by_cases h0 : f.op = 0
    · rw [prl_atom h0, List.mem_singleton] at hp
      subst hp
      have := (node_atom h.1 h0).2
      unfold atOk at this
      dsimp only
      omega
    · rw [prl, if_neg h0, List.mem_flatMap] at hp
      obtain ⟨x, hx, hp⟩ := hp
      exact prl_ok d x (okF_mem h hx) p hp

/-! ### the worlds -/
theorem lv_spec {W : List Note} {m w : Int} (h : ∃ n ∈ W, isP m w n = true) : ∃ k, k < W.length ∧ lvW W m w = (W.getD k dN).l ∧ isP m w (W.getD k dN) = true := by
  have hi : ¬ idxF (isP m w) W < 0 := by
    intro hlt
    unfold idxF at hlt
    cases h1 : W.findIdx? (isP m w) with
    | none =>
      rw [List.findIdx?_eq_none_iff] at h1
      obtain ⟨n, hn, hp⟩ := h
      rw [h1 n hn] at hp
      cases hp
    | some k => rw [h1] at hlt; dsimp only at hlt; omega
  unfold lvW
  rw [if_neg hi]
  unfold idxF at hi ⊢
  cases h1 : W.findIdx? (isP m w) with
  | none => rw [h1] at hi; exact absurd (by decide) hi
  | some k =>
    rw [List.findIdx?_eq_some_iff_getElem] at h1
    obtain ⟨hk, hp, _⟩ := h1
    refine ⟨k, hk, by simp, ?_⟩
    rwa [gd hk]
/-- Each note of a world is that of the pair in its place, at a level within the bounds. -/
def GoodW (L : List Pr) (lo hi : List Int) (W : List Note) : Prop := ∀ j, j < W.length → ∃ n, lo.getD j 0 ≤ n ∧ n ≤ hi.getD j 0 ∧ W.getD j dN = ntP (L.getD j dPr) n
theorem tryL_val {g : Int → List Note × Bool} : ∀ {c : Nat} {n : Int}, (tryL g c n).2 = true → ∃ i : Nat, i < c ∧ tryL g c n = g (n + i) ∧ (g (n + i)).2 = true
  | 0, n, h => (by cases h)
  | c + 1, n, h => by
    rw [tryL] at h ⊢
    split at h
    · rename_i h1
      rw [if_pos h1]
      exact ⟨0, Nat.succ_pos c, by rw [show n + ((0 : Nat) : Int) = n by omega], by rw [show n + ((0 : Nat) : Int) = n by omega]; exact h1⟩
    · rename_i h1
      rw [if_neg h1]
      obtain ⟨i, hi, h2, h3⟩ := tryL_val h
      have e : n + ((i + 1 : Nat) : Int) = n + 1 + i := by omega
      exact ⟨i + 1, by omega, by rw [e]; exact h2, by rw [e]; exact h3⟩
theorem good_snoc {L : List Pr} {lo hi : List Int} {W : List Note} {n : Int} (h : GoodW L lo hi W) (h1 : lo.getD W.length 0 ≤ n) (h2 : n ≤ hi.getD W.length 0) : GoodW L lo hi (W ++ [ntP (L.getD W.length dPr) n]) := by
  intro j hj
  rw [List.length_append, List.length_singleton] at hj
  by_cases hjl : j < W.length
  · obtain ⟨k, k1, k2, k3⟩ := h j hjl
    refine ⟨k, k1, k2, ?_⟩
    rw [← k3]
    simp [List.getD, List.getElem?_append_left hjl]
  · obtain rfl : j = W.length := by omega
    exact ⟨n, h1, h2, by simp [List.getD]⟩
theorem wrld_yes (f : Fm) (L : List Pr) (lo hi : List Int) : ∀ (r : Nat) (W : List Note), W.length + r = L.length → GoodW L lo hi W → (wrldF f L lo hi r W).2 = true →
    GoodW L lo hi (wrldF f L lo hi r W).1 ∧ (wrldF f L lo hi r W).1.length = L.length ∧ holdsF 6 f (wrldF f L lo hi r W).1 = false
  | 0, W, hl, hg, h => by
    rw [wrldF] at h ⊢
    dsimp only at h ⊢
    rw [Bool.not_eq_true'] at h
    exact ⟨hg, by omega, h⟩
  | r + 1, W, hl, hg, h => by
    rw [wrldF] at h ⊢
    obtain ⟨i, hi, h2, h3⟩ := tryL_val h
    rw [h2]
    exact wrld_yes f L lo _ r _ (by rw [List.length_append, List.length_singleton]; omega) (good_snoc hg (by omega) (by omega)) h3
/-- The world in which the pairs have the levels v. -/
def mkW (L : List Pr) (v : Int → Int → Int) : List Note := L.map fun p => ntP p (v p.1 p.2)
theorem wrld_no (f : Fm) (L : List Pr) (lo hi : List Int) (v : Int → Int → Int) (hv : ∀ k, k < L.length → lo.getD k 0 ≤ v (L.getD k dPr).1 (L.getD k dPr).2 ∧ v (L.getD k dPr).1 (L.getD k dPr).2 ≤ hi.getD k 0) :
    ∀ (r : Nat) (W : List Note), W.length + r = L.length → W = mkW (L.take W.length) v → (wrldF f L lo hi r W).2 = false → holdsF 6 f (mkW L v) = true
  | 0, W, hl, hW, h => by
    rw [wrldF] at h
    dsimp only at h
    rw [Bool.not_eq_false'] at h
    rw [show W.length = L.length by omega, List.take_length] at hW
    rwa [← hW]
  | r + 1, W, hl, hW, h => by
    rw [wrldF] at h
    have hk := hv W.length (by omega)
    have hno : ¬ ∃ i : Nat, i < (hi.getD W.length 0 - lo.getD W.length 0 + 1).toNat ∧ (wrldF f L lo hi r (W ++ [ntP (L.getD W.length dPr) (lo.getD W.length 0 + i)])).2 = true := by
      intro hex
      have := (tryL_iff (g := fun n => wrldF f L lo hi r (W ++ [ntP (L.getD W.length dPr) n]))).2 hex
      rw [this] at h; cases h
    have h2 : (wrldF f L lo hi r (W ++ [ntP (L.getD W.length dPr) (v (L.getD W.length dPr).1 (L.getD W.length dPr).2)])).2 = false := by
      cases hh : (wrldF f L lo hi r (W ++ [ntP (L.getD W.length dPr) (v (L.getD W.length dPr).1 (L.getD W.length dPr).2)])).2
      · rfl
      · refine (hno ⟨(v (L.getD W.length dPr).1 (L.getD W.length dPr).2 - lo.getD W.length 0).toNat, by omega, ?_⟩).elim
        rw [show lo.getD W.length 0 + (((v (L.getD W.length dPr).1 (L.getD W.length dPr).2 - lo.getD W.length 0).toNat : Nat) : Int) = v (L.getD W.length dPr).1 (L.getD W.length dPr).2 by omega]
        exact hh
    refine wrld_no f L lo hi v hv r _ (by rw [List.length_append, List.length_singleton]; omega) ?_ h2
    have hlt : W.length < L.length := by omega
    have e : mkW (L.take (W.length + 1)) v = mkW (L.take W.length) v ++ [ntP (L.getD W.length dPr) (v (L.getD W.length dPr).1 (L.getD W.length dPr).2)] := by
      unfold mkW
      rw [List.take_succ_eq_append_getElem hlt, List.map_append]
      simp [List.getD, hlt]
    rw [List.length_append, List.length_singleton, e, ← hW]
theorem lv_mk {L : List Pr} {v : Int → Int → Int} {p : Pr} (h : p ∈ L) : lvW (mkW L v) p.1 p.2 = v p.1 p.2 := by
  obtain ⟨k, hk, h1, h2⟩ := lv_spec (W := mkW L v) (m := p.1) (w := p.2) ⟨ntP p (v p.1 p.2), List.mem_map.2 ⟨p, h, rfl⟩, by simp [isP, ntP]⟩
  have hk' : k < L.length := by simpa [mkW] using hk
  have e : (mkW L v).getD k dN = ntP (L.getD k dPr) (v (L.getD k dPr).1 (L.getD k dPr).2) := by simp [mkW, List.getD, hk']
  rw [h1]
  rw [e] at h2 ⊢
  unfold isP at h2
  rw [Bool.and_eq_true, beq_iff_eq, beq_iff_eq] at h2
  show v (L.getD k dPr).1 (L.getD k dPr).2 = _
  rw [show (L.getD k dPr).1 = p.1 from h2.1, show (L.getD k dPr).2 = p.2 from h2.2]

/-! ### what is known -/
def InB (l : List Note) (b : Bool) (v : Int → Int → Int) : Prop := ∀ m w, Low l b m w ≤ v m w ∧ v m w ≤ High l m w
theorem srch_ok {f : Fm} {l : List Note} {b : Bool} (hf : (sizF f).2 = true) (hr : Right l b = true) : srchF f l b = (wrldF f (prsF f) (lows l b (prsF f)) (highs l (prsF f)) (prsF f).length [], 0) := by
  unfold srchF
  rw [if_neg (by rw [hf]; decide), if_neg (by rw [hr]; decide)]
theorem found_yes {f : Fm} {l : List Note} {b : Bool} (hf : (sizF f).2 = true) (hr : Right l b = true) (h : (srchF f l b).1.2 = true) :
    (∀ j, j < (srchF f l b).1.1.length → ∃ n, Low l b ((prsF f).getD j dPr).1 ((prsF f).getD j dPr).2 ≤ n ∧ n ≤ High l ((prsF f).getD j dPr).1 ((prsF f).getD j dPr).2 ∧ (srchF f l b).1.1.getD j dN = ntP ((prsF f).getD j dPr) n) ∧
    (srchF f l b).1.1.length = (prsF f).length ∧ holdsF 6 f (srchF f l b).1.1 = false := by
  rw [srch_ok hf hr] at h ⊢
  obtain ⟨h1, h2, h3⟩ := wrld_yes f _ _ _ _ [] (by simp) (fun j hj => absurd hj (Nat.not_lt_zero j)) h
  refine ⟨fun j hj => ?_, h2, h3⟩
  obtain ⟨n, n1, n2, n3⟩ := h1 j hj
  dsimp only at hj
  rw [lows_at (by omega)] at n1
  rw [highs_at (by omega)] at n2
  exact ⟨n, n1, n2, n3⟩
theorem known_iff {f : Fm} {l : List Note} {b : Bool} (hf : (sizF f).2 = true) (hr : Right l b = true) : (srchF f l b).1.2 = false ↔ ∀ v, InB l b v → ev 6 f v = true := by
  have hok := sizF_ok hf
  constructor
  · intro h v hv
    rw [srch_ok hf hr] at h
    have := wrld_no f (prsF f) (lows l b (prsF f)) (highs l (prsF f)) v (fun k hk => by
      rw [lows_at hk, highs_at hk]
      exact hv _ _) (prsF f).length [] (by simp) rfl h
    rw [holds_ev] at this
    rw [← this]
    refine ev_congr 6 f _ _ hok fun p hp => ?_
    exact (lv_mk ((mem_prsF hf p).2 hp)).symm
  · intro h
    cases hs : (srchF f l b).1.2
    · rfl
    · obtain ⟨h1, h2, h3⟩ := found_yes hf hr hs
      rw [holds_ev] at h3
      have hb : InB l b fun m w => if (m, w) ∈ prsF f then lvW (srchF f l b).1.1 m w else Low l b m w := by
        intro m w
        dsimp only
        split
        · rename_i hm
          obtain ⟨j, hj, e⟩ := List.getElem_of_mem hm
          have ej : (prsF f).getD j dPr = (m, w) := by simp [List.getD, hj, e]
          obtain ⟨n, _, _, n3⟩ := h1 j (by omega)
          obtain ⟨k, hk, k1, k2⟩ := lv_spec (W := (srchF f l b).1.1) (m := m) (w := w) ⟨_, getD_memN (k := j) (by omega), by rw [n3, ej]; simp [isP, ntP]⟩
          obtain ⟨n', m1, m2, m3⟩ := h1 k hk
          rw [k1, m3]
          rw [m3] at k2
          unfold isP at k2
          rw [Bool.and_eq_true, beq_iff_eq, beq_iff_eq] at k2
          have e1 : ((prsF f).getD k dPr).1 = m := k2.1
          have e2 : ((prsF f).getD k dPr).2 = w := k2.2
          rw [e1, e2] at m1 m2
          exact ⟨m1, m2⟩
        · exact ⟨Int.le_refl _, right_low hr m w⟩
      have := h _ hb
      rw [ev_congr 6 f _ (lvW (srchF f l b).1.1) hok fun p hp => if_pos ((mem_prsF hf p).2 hp), h3] at this
      cases this
theorem known_eq {f : Fm} {l : List Note} {b : Bool} (hf : (sizF f).2 = true) (hr : Right l b = true) : knownF f l b = (!(srchF f l b).1.2, 0) := by
  unfold knownF
  rw [srch_ok hf hr]
  rfl
theorem known_true {f : Fm} {l : List Note} {b : Bool} (hf : (sizF f).2 = true) (hr : Right l b = true) : (knownF f l b).1 = true ↔ ∀ v, InB l b v → ev 6 f v = true := by
  rw [known_eq hf hr, ← known_iff hf hr]
  dsimp only
  rw [Bool.not_eq_true']
theorem InB_low {l : List Note} {b : Bool} (hr : Right l b = true) : InB l b (Low l b) := fun m w => ⟨Int.le_refl _, right_low hr m w⟩
end Go.Proofs.Ytnookbebiacaeaa
end

section
/-
  Know's laws: KnowWorlds.
-/
namespace Go.Proofs.Ytnookbebiacaeaa
open Go.Eng

theorem Atoms_nil (e : Nat) (f : Fm) (h : (sizF f).2 = true) : CtrA Try.prog 48 [.val (.slice none 0 0), .ag (avD (e + 6) f)] (.rs 5 (atomsF 6 f []).length (rowsN (atomsF 6 f []))) :=
  CtrA.of_eq (args := [.rs 5 0 (rowsN []), .ag (avD (e + 6) f)]) ⟨⟨rfl, rfl⟩, AVEq.refl _⟩ (Atoms_fn 6 e f [] (sizF_ok h) (by have := many_le h; simp; omega))
theorem atoms_len {f : Fm} (h : (sizF f).2 = true) : (atomsF 6 f []).length ≤ 40 := by
  have := atomsF_len 6 f []
  have := many_le h
  simp at *
  omega
def fitN (v : Int → Int → Int) (p : Note) : Note := ⟨p.m, p.w, v p.m p.w, 0, false⟩
def fits' (v : Int → Int → Int) (A : List Note) (k : Nat) : List Note := (A.take k).map (fitN v)
theorem fits_succ {v : Int → Int → Int} {A : List Note} {k : Nat} (h : k < A.length) : fits' v A (k + 1) = fits' v A k ++ [fitN v (A.getD k dN)] := by
  unfold fits'
  rw [List.take_succ_eq_append_getElem h, List.map_append]
  simp [List.getD, h]
theorem fits_len {v : Int → Int → Int} {A : List Note} {k : Nat} (h : k ≤ A.length) : (fits' v A k).length = k := by simp [fits']; omega
theorem lv_fits {f : Fm} (hf : (sizF f).2 = true) (v : Int → Int → Int) {p : Pr} (hp : p ∈ prl 6 f) : lvW (fits' v (atomsF 6 f []) (atomsF 6 f []).length) p.1 p.2 = v p.1 p.2 := by
  obtain ⟨n, hn, e⟩ := (atomsF_mem 6 f [] (sizF_ok hf) p).2 (.inr hp)
  obtain ⟨k, hk, h1, h2⟩ := lv_spec (W := fits' v (atomsF 6 f []) (atomsF 6 f []).length) (m := p.1) (w := p.2) ⟨fitN v n, by
    unfold fits'
    rw [List.take_length]
    exact List.mem_map.2 ⟨n, hn, rfl⟩, by subst e; simp [isP, fitN]⟩
  have hk' : k < (atomsF 6 f []).length := by rwa [fits_len (Nat.le_refl _)] at hk
  have e2 : (fits' v (atomsF 6 f []) (atomsF 6 f []).length).getD k dN = fitN v ((atomsF 6 f []).getD k dN) := by
    unfold fits'
    rw [List.take_length]
    simp [List.getD, hk']
  rw [h1]
  rw [e2] at h2 ⊢
  unfold isP at h2
  rw [Bool.and_eq_true, beq_iff_eq, beq_iff_eq] at h2
  show v ((atomsF 6 f []).getD k dN).m ((atomsF 6 f []).getD k dN).w = _
  rw [show ((atomsF 6 f []).getD k dN).m = p.1 from h2.1, show ((atomsF 6 f []).getD k dN).w = p.2 from h2.2]
theorem holds_fits {f : Fm} (hf : (sizF f).2 = true) (v : Int → Int → Int) : HoldsF f (fits' v (atomsF 6 f []) (atomsF 6 f []).length) = ev 6 f v := by
  unfold HoldsF
  rw [hf, Bool.true_and, holds_ev]
  exact ev_congr 6 f _ _ (sizF_ok hf) fun p hp => lv_fits hf v hp
end Go.Proofs.Ytnookbebiacaeaa
end

section
/-
  Know's laws: KnowMore.
-/
namespace Go.Proofs.Ytnookbebiacaeaa
open Go.Eng

end Go.Proofs.Ytnookbebiacaeaa
end

section
/-
  Know's laws: KnowBest.
-/
namespace Go.Proofs.Ytnookbebiacaeaa
open Go.Eng

theorem rev_sub (l : List Note) : subN l.reverse l ∧ subN l l.reverse := ⟨subN_of fun _ h => List.mem_reverse.1 h, subN_of fun _ h => List.mem_reverse.2 h⟩
theorem valid_rev {l : List Note} (hv : valid l = true) : valid l.reverse = true := valid_of hv (fun _ h => List.mem_reverse.1 h) (by simp)
theorem Low_rev {l : List Note} (hv : valid l = true) (b : Bool) (m w : Int) : Low l.reverse b m w = Low l b m w := by
  simp only [Low, hv, valid_rev hv, if_true]
  exact Int.le_antisymm (low_sub (rev_sub l).1 b m w) (low_sub (rev_sub l).2 b m w)
theorem High_rev {l : List Note} (hv : valid l = true) (m w : Int) : High l.reverse m w = High l m w := by
  have hv' := valid_rev hv
  simp only [High, hv, hv', if_true]
  exact Int.le_antisymm (high_sub (valid_all hv) (valid_all hv') (rev_sub l).2 m w) (high_sub (valid_all hv') (valid_all hv) (rev_sub l).1 m w)
theorem Right_rev {l : List Note} {b : Bool} (hr : Right l b = true) : Right l.reverse b = true := right_sub (valid_rev (right_valid hr)) (right_valid hr) (rev_sub l).1 b hr
theorem known_rev {f : Fm} {l : List Note} {b : Bool} (hf : (sizF f).2 = true) (hr : Right l b = true) : knownF f l.reverse b = knownF f l b := by
  have hv := right_valid hr
  have hr' := Right_rev hr
  have h1 : (knownF f l.reverse b).1 = (knownF f l b).1 := by
    rw [Bool.eq_iff_iff, known_true hf hr', known_true hf hr]
    unfold InB
    simp only [Low_rev hv, High_rev hv]
  rw [known_eq hf hr', known_eq hf hr] at h1 ⊢
  rw [Prod.mk.injEq]
  exact ⟨h1, rfl⟩
theorem known_plain {f : Fm} {l : List Note} {b : Bool} (hf : (sizF f).2 = true) (hr : Right l b = true) (hp : plainF 6 f = true) : (knownF f l b).1 = ev 6 f (Low l b) := by
  rw [Bool.eq_iff_iff, known_true hf hr]
  constructor
  · exact fun h => h _ (InB_low hr)
  · exact fun h v hv => ev_mono 6 f _ v (sizF_ok hf) hp (fun p _ => (hv p.1 p.2).1) h
theorem atoms_rg {f : Fm} (hf : (sizF f).2 = true) {k : Nat} (hk : k < (atomsF 6 f []).length) : 0 ≤ ((atomsF 6 f []).getD k dN).m ∧ ((atomsF 6 f []).getD k dN).m < 100000 ∧ 0 ≤ ((atomsF 6 f []).getD k dN).w ∧ ((atomsF 6 f []).getD k dN).w < 2000 := by
  have := (atomsF_mem 6 f [] (sizF_ok hf) (((atomsF 6 f []).getD k dN).m, ((atomsF 6 f []).getD k dN).w)).1 ⟨_, getD_memN hk, rfl⟩
  rcases this with ⟨n, hn, _⟩ | h
  · cases hn
  · exact prl_ok 6 f (sizF_ok hf) _ h
theorem rev_take {l : List Note} {k : Nat} (h : k < l.length) : l.reverse.take (k + 1) = l.reverse.take k ++ [l.getD (l.length - 1 - k) dN] := by
  rw [List.take_succ_eq_append_getElem (by simpa using h), List.getElem_reverse]
  simp [List.getD, show l.length - 1 - k < l.length by omega]
set_option maxRecDepth 20000 in
set_option maxHeartbeats 16000000 in
theorem knowBest_fn (f : Fm) (l : List Note) (b : Bool) : Ctr Try.prog 11 [.ag (avD 7 f), .rs 5 l.length (rowsN l), .b b] [] (.b true) := by
  refine fn_of_exec tabOk Try.func11 (by kernel_rfl) rfl (N := Try.f11.ntmps) rfl (res := [.tmp 6]) rfl rfl [] ?_
  repeat refine Or.inl ?_
  refine ⟨[], _, small34_fn, ?_⟩
  repeat refine Or.inl ?_
  refine ⟨[], _, Few_fn f, ?_⟩
  repeat refine Or.inl ?_
  refine ⟨[], _, fun _ => few12_fn l, ?_⟩
  repeat refine Or.inl ?_
  refine ⟨[], _, fun _ => RightF_fn 1 f, ?_⟩
  repeat refine Or.inl ?_
  refine ⟨[], _, fun hg => Right_fn l (by
    have h := hg.1
    simp only [Bool.or_eq_false_iff, Bool.not_eq_false', decide_eq_true_eq] at h
    omega) b, ?_⟩
  refine ⟨fun _ => RetIs.b rfl, fun h => ?_⟩
  have h : (((!fewF f || !decide ((l.length : Int) ≤ 12)) || !(sizF f).2) || !Right l b) = false := h
  simp only [Bool.or_eq_false_iff, Bool.not_eq_false', decide_eq_true_eq] at h
  obtain ⟨⟨⟨_, h12⟩, hf⟩, hR⟩ := h
  have nl : l.length < 2 ^ 62 := by omega
  have hA := atoms_len hf
  have hok := sizF_ok hf
  refine Or.inr (Or.inl ?_)
  refine ⟨_, Atoms_nil 1 f hf, ?_⟩
  repeat refine Or.inl ?_
  refine ⟨[(8, 24, 5)], Nat, fun k => k ≤ (atomsF 6 f []).length, fun k => [⟨10, [], .i .i64 k⟩, ⟨8, [], .so 1⟩], fun k => [⟨1, [], .row 24 5 (fits' (Low l b) (atomsF 6 f []) k).length (rowsN (fits' (Low l b) (atomsF 6 f []) k))⟩], fun k => (atomsF 6 f []).length - k,
    ⟨0, [], Nat.zero_le _, rfl, rfl, rfl, rfl, rfl, ⟨⟨rfl, rfl⟩, rfl⟩, ⟨rfl, rfl, rfl, fun j hj => absurd hj (Nat.not_lt_zero j)⟩⟩, ?_⟩
  intro k hk
  have hk : k ≤ (atomsF 6 f []).length := hk
  refine .inl ⟨fun hc => ?_, fun hc => ?_⟩
  · have hc := dlt hc
    have hc : (k : Int) < (atomsF 6 f []).length := hc
    have ek : (k : Int).toNat = k := Int.toNat_natCast k
    have kl : k < (atomsF 6 f []).length := by omega
    have fl := fits_len (v := Low l b) hk
    have rg := atoms_rg hf kl
    rw [← ek] at rg
    have r1 := Low_nonneg l b ((atomsF 6 f []).getD (k : Int).toNat dN).m ((atomsF 6 f []).getD (k : Int).toNat dN).w
    have r2 := right_low hR ((atomsF 6 f []).getD (k : Int).toNat dN).m ((atomsF 6 f []).getD (k : Int).toNat dN).w
    have r3 := High_le l ((atomsF 6 f []).getD (k : Int).toNat dN).m ((atomsF 6 f []).getD (k : Int).toNat dN).w
    have cB := Best_fn l nl b ((atomsF 6 f []).getD (k : Int).toNat dN).m ((atomsF 6 f []).getD (k : Int).toNat dN).w
    rw [show BestF l b ((atomsF 6 f []).getD (k : Int).toNat dN).m ((atomsF 6 f []).getD (k : Int).toNat dN).w = Low l b ((atomsF 6 f []).getD (k : Int).toNat dN).m ((atomsF 6 f []).getD (k : Int).toNat dN).w from if_pos hR] at cB
    have ao : AOEq (.row 24 5 (fits' (Low l b) (atomsF 6 f []) (k + 1)).length (rowsN (fits' (Low l b) (atomsF 6 f []) (k + 1)))) (.row 24 5 ((fits' (Low l b) (atomsF 6 f []) k).length + 1) (catG (fits' (Low l b) (atomsF 6 f []) k).length (rowsN (fits' (Low l b) (atomsF 6 f []) k)) (rowOf 5 (fitN (Low l b) ((atomsF 6 f []).getD (k : Int).toNat dN)).av))) := snocN_row _ _ (by rw [ek]; exact fits_succ kl)
    have cK : ∀ v : Int, 0 ≤ v → v < 5 → Ctr Try.prog 39 [.ag (atA ((atomsF 6 f []).getD (k : Int).toNat dN).m ((atomsF 6 f []).getD (k : Int).toNat dN).w v), .rs 5 l.length (rowsN l), .b b] [] (.tup [.b (decide (v ≤ Low l b ((atomsF 6 f []).getD (k : Int).toNat dN).m ((atomsF 6 f []).getD (k : Int).toNat dN).w)), .i .i64 0]) := fun v h1 h2 => by
      have := KnownAt_fn ((atomsF 6 f []).getD (k : Int).toNat dN).m ((atomsF 6 f []).getD (k : Int).toNat dN).w v l nl b
      rwa [known_at hR ⟨rg.1, rg.2.1, rg.2.2.1, rg.2.2.2, h1, h2⟩] at this
    repeat refine Or.inl ?_
    refine ⟨⟨by omega, by omega⟩, ?_⟩
    repeat refine Or.inl ?_
    refine ⟨[], _, cB, ?_⟩
    refine ⟨fits (by omega), ?_⟩
    repeat refine Or.inl ?_
    refine ⟨[], Nat, fun j => j ≤ 5, fun j => [⟨13, [], .i .i64 j⟩], fun _ => [], fun j => 5 - j,
      ⟨0, [], Nat.zero_le _, rfl, rfl, rfl, rfl, rfl, ⟨rfl, rfl⟩, trivial⟩, ?_⟩
    intro j hj
    have hj : j ≤ 5 := hj
    refine .inl ⟨fun hc => ?_, fun hc => ?_⟩
    · have hc : decide ((j : Int) < 5) = true := hc
      rw [decide_eq_true_eq] at hc
      repeat refine Or.inl ?_
      refine ⟨[], _, atom34_fn _ _ _, ?_⟩
      repeat refine Or.inl ?_
      refine ⟨[], _, cK j (by omega) hc, ?_⟩
      refine ⟨fun h => ?_, fun _ => ?_⟩
      · exfalso
        cases hd : decide ((j : Int) ≤ Low l b ((atomsF 6 f []).getD (k : Int).toNat dN).m ((atomsF 6 f []).getD (k : Int).toNat dN).w) with
        | true => rw [hd] at h; cases h
        | false => rw [hd] at h; cases h
      · refine ⟨j + 1, [], by dsimp only; omega, by dsimp only; omega, rfl, rfl, rfl, rfl, rfl, ⟨rfl, wr (by omega) (by omega)⟩, trivial⟩
    · refine ⟨k + 1, [(1, 4)], by dsimp only; omega, by dsimp only; omega, rfl, rfl, rfl, rfl, rfl, ⟨⟨rfl, wr (by omega) (by omega)⟩, rfl⟩, ?_⟩
      exact ao
  · have hc := dnlt hc
    have hc : ((atomsF 6 f []).length : Int) ≤ k := hc
    obtain rfl : k = (atomsF 6 f []).length := by omega
    have fl := fits_len (v := Low l b) (A := atomsF 6 f []) (Nat.le_refl _)
    repeat refine Or.inl ?_
    refine ⟨[(16, 24, 5)], Nat, fun k => k ≤ l.length, fun k => [⟨17, [], .i .i64 ((l.length : Int) - 1 - k)⟩, ⟨16, [], .so 2⟩], fun k => [⟨2, [], .row 24 5 (l.reverse.take k).length (rowsN (l.reverse.take k))⟩], fun k => l.length - k,
      ⟨0, [], Nat.zero_le _, rfl, rfl, rfl, rfl, rfl, ⟨⟨rfl, ?_⟩, rfl⟩, ⟨rfl, rfl, rfl, fun j hj => absurd hj (Nat.not_lt_zero j)⟩⟩, ?_⟩
    · rw [wr (by omega) (by omega)]
      show _ = _ - ((0 : Nat) : Int)
      omega
    intro k hk
    have hk : k ≤ l.length := hk
    have lt : (l.reverse.take k).length = k := by simp; omega
    refine .inl ⟨fun hc => ?_, fun hc => ?_⟩
    · have hc : decide ((l.length : Int) - 1 - k ≥ 0) = true := hc
      rw [decide_eq_true_eq] at hc
      have ek : ((l.length : Int) - 1 - k).toNat = l.length - 1 - k := by omega
      have kl : k < l.length := by omega
      repeat refine Or.inl ?_
      refine ⟨⟨by omega, by omega⟩, ?_⟩
      refine ⟨fits (by omega), ?_⟩
      have ao : AOEq (.row 24 5 (l.reverse.take (k + 1)).length (rowsN (l.reverse.take (k + 1)))) (.row 24 5 ((l.reverse.take k).length + 1) (catG (l.reverse.take k).length (rowsN (l.reverse.take k)) (rowOf 5 (l.getD ((l.length : Int) - 1 - k).toNat dN).av))) := snocN_row _ _ (by rw [ek]; exact rev_take kl)
      refine ⟨k + 1, [(2, 4)], by dsimp only; omega, by dsimp only; omega, rfl, rfl, rfl, rfl, rfl, ⟨⟨rfl, ?_⟩, rfl⟩, ?_⟩
      · rw [wr (by omega) (by omega)]
        omega
      · exact ao
    · have hc : decide ((l.length : Int) - 1 - k ≥ 0) = false := hc
      rw [decide_eq_false_iff_not] at hc
      obtain rfl : k = l.length := by omega
      have rt : l.reverse.take l.length = l.reverse := by rw [List.take_of_length_le (by simp)]
      have nr : l.reverse.length < 2 ^ 62 := by simpa using nl
      have cK := Known_fn 1 f l nl b
      have cV := Known_fn 1 f l.reverse nr b
      rw [known_rev hf hR] at cV
      have hfit := holds_fits hf (Low l b)
      rw [rt]
      repeat refine Or.inl ?_
      refine ⟨[], _, cK, ?_⟩
      repeat refine Or.inl ?_
      refine ⟨[], _, cV, ?_⟩
      repeat refine Or.inl ?_
      refine ⟨[], _, fun _ => plain_fn 6 1 f hok, ?_⟩
      repeat refine Or.inl ?_
      refine ⟨[], _, fun _ => Holds_fn 1 f (fits' (Low l b) (atomsF 6 f []) (atomsF 6 f []).length) (by omega), ?_⟩
      refine RetIs.b ?_
      rw [hfit]
      cases hp : plainF 6 f with
      | true =>
        rw [← known_plain hf hR hp]
        cases (knownF f l b).1 <;> rfl
      | false => cases (knownF f l b).1 <;> rfl
end Go.Proofs.Ytnookbebiacaeaa
end
