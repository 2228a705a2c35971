/-
  Several texts in one: K3, K4, K5, K6, K7, Rc6, Rc7, Rc8, K8, Rc9, K9, K10.
-/
import Derived.Test.YtnookbebiacaeaaMg14

section
/-
  Formulas: the pairs of a formula, gathered.
-/
namespace Go.Proofs.Ytnookbebiacaeaa
open Go.Eng

abbrev Pr := Int × Int
def dPr : Pr := (0, 0)
def prA (p : Pr) : List AV := [.i .i64 p.1, .i .i64 p.2]
def rowsPr (L : List Pr) (k : Nat) : List AV := [.i .i64 (L.getD k dPr).1, .i .i64 (L.getD k dPr).2]
/-- The first place where p holds, or -1. -/
def idxG {α : Type} (p : α → Bool) (l : List α) : Int := match l.findIdx? p with | some k => k | none => -1
theorem idxG_some {α : Type} (d : α) (p : α → Bool) (l : List α) (k : Nat) (hk : k < l.length) (h1 : ∀ j, j < k → p (l.getD j d) = false) (h2 : p (l.getD k d) = true) : idxG p l = k := by
  have gd : ∀ {k : Nat} (h : k < l.length), l.getD k d = l[k] := fun h => by simp [List.getD_eq_getElem?_getD, h]
  have : l.findIdx? p = some k := by
    rw [List.findIdx?_eq_some_iff_getElem]
    refine ⟨hk, ?_, fun j hj => ?_⟩
    · rw [gd hk] at h2; exact h2
    · have := h1 j hj
      rw [gd (by omega)] at this
      simp [this]
  simp [idxG, this]
theorem idxG_none {α : Type} (d : α) (p : α → Bool) (l : List α) (h1 : ∀ j, j < l.length → p (l.getD j d) = false) : idxG p l = -1 := by
  have : l.findIdx? p = none := by
    rw [List.findIdx?_eq_none_iff]
    intro x hx
    obtain ⟨j, hj, rfl⟩ := List.getElem_of_mem hx
    have := h1 j hj
    simpa [List.getD_eq_getElem?_getD, hj] using this
  simp [idxG, this]
theorem idxG_any {α : Type} (p : α → Bool) (l : List α) : decide (idxG p l ≥ 0) = l.any p := by
  unfold idxG
  cases h : l.findIdx? p with
  | none =>
    rw [List.findIdx?_eq_none_iff] at h
    have : l.any p = false := by simpa using h
    rw [this]; rfl
  | some k =>
    rw [List.findIdx?_eq_some_iff_getElem] at h
    obtain ⟨hk, hp, _⟩ := h
    have : l.any p = true := by rw [List.any_eq_true]; exact ⟨_, List.getElem_mem hk, hp⟩
    rw [this]
    simp
theorem eq_pr (p q : Pr) : eqAVs (prA p) (prA q) = decide (p = q) := by
  obtain ⟨a, b⟩ := p
  obtain ⟨c, d⟩ := q
  simp only [prA, eqAVs, eqAV]
  rw [Bool.eq_iff_iff]
  simp [Prod.mk.injEq]
def hasPr (L : List Pr) (p : Pr) : Bool := L.any fun x => decide (p = x)
theorem hasPr_iff {L : List Pr} {p : Pr} : hasPr L p = true ↔ p ∈ L := by
  unfold hasPr
  rw [List.any_eq_true]
  constructor
  · rintro ⟨x, hx, h⟩
    rw [of_decide_eq_true h]
    exact hx
  · exact fun h => ⟨p, h, decide_eq_true rfl⟩
set_option maxRecDepth 20000 in
set_option maxHeartbeats 4000000 in
theorem indexPr_fn (L : List Pr) (hL : L.length < 2 ^ 62) (p : Pr) : Ctr Try.prog 223 [.rs 2 L.length (rowsPr L), .ag (prA p)] [] (.i .i64 (idxG (fun x => decide (p = x)) L)) := by
  refine fn_of_exec tabOk Try.func223 (by kernel_rfl) rfl (N := Try.f223.ntmps) rfl (res := [.tmp 4]) rfl rfl [] ?_
  repeat refine Or.inl ?_
  refine ⟨[], Nat, fun k => k ≤ L.length ∧ ∀ j, j < k → decide (p = L.getD j dPr) = false, fun k => [⟨8, [], .i .i64 k⟩], fun _ => [], fun k => L.length - k,
    ⟨0, [], ⟨Nat.zero_le _, fun j hj => absurd hj (Nat.not_lt_zero j)⟩, rfl, rfl, rfl, rfl, rfl, ⟨rfl, rfl⟩, trivial⟩, ?_⟩
  rintro k ⟨hk, hno⟩
  have hk : k ≤ L.length := hk
  refine .inl ⟨fun hc => ?_, fun hc => ?_⟩
  · have hc := dlt hc
    have hc : (k : Int) < L.length := hc
    have ek : (k : Int).toNat = k := Int.toNat_natCast k
    repeat refine Or.inl ?_
    refine ⟨⟨by omega, by omega⟩, ?_⟩
    repeat refine Or.inl ?_
    refine ⟨fun h => ?_, fun h => ?_⟩
    · have h : eqAVs (prA p) (prA (L.getD (k : Int).toNat dPr)) = true := h
      rw [ek, eq_pr] at h
      exact RetIs.i (idxG_some dPr _ L k (by omega) hno h).symm
    · have h : eqAVs (prA p) (prA (L.getD (k : Int).toNat dPr)) = false := h
      rw [ek, eq_pr] at h
      refine ⟨k + 1, [], ⟨by omega, fun j hj => ?_⟩, by dsimp only; omega, rfl, rfl, rfl, rfl, rfl, ⟨rfl, wr (by omega) (by omega)⟩, trivial⟩
      by_cases hjk : j = k
      · rw [hjk]; exact h
      · exact hno j (by omega)
  · have hc := dnlt hc
    have hc : (L.length : Int) ≤ k := hc
    obtain rfl : k = L.length := by omega
    exact RetIs.i (idxG_none dPr _ L hno).symm
set_option maxRecDepth 20000 in
theorem containsPr_fn (L : List Pr) (hL : L.length < 2 ^ 62) (p : Pr) : Ctr Try.prog 201 [.rs 2 L.length (rowsPr L), .ag (prA p)] [] (.b (hasPr L p)) := by
  refine fn_of_exec tabOk Try.func201 (by kernel_rfl) rfl (N := Try.f201.ntmps) rfl (res := [.tmp 4]) rfl rfl [] ?_
  repeat refine Or.inl ?_
  refine ⟨[], _, indexPr_fn L hL p, ?_⟩
  exact RetIs.b (idxG_any _ L)

/-! ### the size of a formula -/
/-- What is gathered so far: how many nodes, and the pairs as they came. -/
abbrev Sz := Int × List Pr
def putF (f : Fm) (L : List Pr) : List Pr := if f.op = 0 ∧ (f.m, f.w) ∉ L then L ++ [(f.m, f.w)] else L
mutual
def addF : Nat → Fm → Sz → Sz × Bool
  | 0, _, s => ((s.1 + 1, s.2), false)
  | d + 1, f, s => if (decide (s.1 + 1 > 40) || !nodeF f) = true then ((s.1 + 1, s.2), false)
    else ((addTo d f.args (s.1 + 1, putF f s.2) f.args.length).1, (addTo d f.args (s.1 + 1, putF f s.2) f.args.length).2 && decide (((addTo d f.args (s.1 + 1, putF f s.2) f.args.length).1.2.length : Int) ≤ 6))
def addTo : Nat → List Fm → Sz → Nat → Sz × Bool
  | _, _, s, 0 => (s, true)
  | d, l, s, k + 1 => if (addTo d l s k).2 = true then addF d (l.getD k dF) (addTo d l s k).1 else addTo d l s k
end
theorem putF_len (f : Fm) (L : List Pr) : L.length ≤ (putF f L).length ∧ (putF f L).length ≤ L.length + 1 := by
  unfold putF
  split
  · rw [List.length_append, List.length_singleton]; omega
  · omega
/-- Each node is counted; each node brings a pair at most. -/
theorem addF_sz : ∀ (d : Nat) (f : Fm) (s : Sz), s.1 ≤ 40 → s.1 + 1 ≤ (addF d f s).1.1 ∧ (addF d f s).1.1 ≤ 41 ∧ s.2.length ≤ (addF d f s).1.2.length ∧ ((addF d f s).1.2.length : Int) - s.2.length ≤ (addF d f s).1.1 - s.1 ∧ ((addF d f s).2 = true → (addF d f s).1.1 ≤ 40)
  | 0, f, s, hs => by
    rw [addF]
    refine ⟨by dsimp only; omega, by dsimp only; omega, by dsimp only; omega, by dsimp only; omega, fun h => (by cases h)⟩
  | d + 1, f, s, hs => by
    rw [addF]
    split
    · refine ⟨by dsimp only; omega, by dsimp only; omega, by dsimp only; omega, by dsimp only; omega, fun h => (by cases h)⟩
    · rename_i h
      rw [Bool.or_eq_true, decide_eq_true_eq, not_or] at h
      have h40 : s.1 + 1 ≤ 40 := by omega
      have hput := putF_len f s.2
      have key : ∀ k, (s.1 + 1 ≤ (addTo d f.args (s.1 + 1, putF f s.2) k).1.1 ∧ (addTo d f.args (s.1 + 1, putF f s.2) k).1.1 ≤ 41 ∧ (putF f s.2).length ≤ (addTo d f.args (s.1 + 1, putF f s.2) k).1.2.length ∧ ((addTo d f.args (s.1 + 1, putF f s.2) k).1.2.length : Int) - (putF f s.2).length ≤ (addTo d f.args (s.1 + 1, putF f s.2) k).1.1 - (s.1 + 1)) ∧ ((addTo d f.args (s.1 + 1, putF f s.2) k).2 = true → (addTo d f.args (s.1 + 1, putF f s.2) k).1.1 ≤ 40) := by
        intro k
        induction k with
        | zero =>
          rw [addTo]
          exact ⟨⟨by dsimp only; omega, by dsimp only; omega, by dsimp only; omega, by dsimp only; omega⟩, fun _ => h40⟩
        | succ k ih =>
          rw [addTo]
          split
          · rename_i h2
            have hi := addF_sz d (f.args.getD k dF) (addTo d f.args (s.1 + 1, putF f s.2) k).1 (ih.2 h2)
            exact ⟨⟨by omega, by omega, by omega, by omega⟩, hi.2.2.2.2⟩
          · exact ih
      have := key f.args.length
      refine ⟨by dsimp only; omega, by dsimp only; omega, by dsimp only; omega, by dsimp only; omega, fun h => ?_⟩
      dsimp only at h
      rw [Bool.and_eq_true] at h
      exact this.2 h.1
theorem addTo_ok {d : Nat} {l : List Fm} {s : Sz} : ∀ {k : Nat}, (addTo d l s (k + 1)).2 = true → (addTo d l s k).2 = true := by
  intro k h
  rw [addTo] at h
  split at h
  · assumption
  · assumption
theorem addTo_yes {d : Nat} {l : List Fm} {s : Sz} {k : Nat} (h : (addTo d l s k).2 = true) : addTo d l s (k + 1) = addF d (l.getD k dF) (addTo d l s k).1 := by rw [addTo, if_pos h]
theorem addTo_stop {d : Nat} {l : List Fm} {s : Sz} {k : Nat} (h : (addTo d l s k).2 = false) : ∀ j, addTo d l s (k + j) = addTo d l s k
  | 0 => rfl
  | j + 1 => by
    rw [show k + (j + 1) = (k + j) + 1 by omega, addTo, addTo_stop h j, if_neg (by rw [h]; decide)]
theorem addTo_sz {d : Nat} {l : List Fm} {s : Sz} (hs : s.1 ≤ 40) : ∀ {k : Nat}, (addTo d l s k).2 = true → s.1 + k ≤ (addTo d l s k).1.1 ∧ (addTo d l s k).1.1 ≤ 40 ∧ s.2.length ≤ (addTo d l s k).1.2.length ∧ ((addTo d l s k).1.2.length : Int) - s.2.length ≤ (addTo d l s k).1.1 - s.1
  | 0, _ => by rw [addTo]; exact ⟨by dsimp only; omega, hs, Nat.le_refl _, by dsimp only; omega⟩
  | k + 1, h => by
    have h1 := addTo_ok h
    have ih := addTo_sz hs h1
    rw [addTo_yes h1] at h ⊢
    have hi := addF_sz d (l.getD k dF) (addTo d l s k).1 ih.2.1
    have := hi.2.2.2.2 h
    omega
end Go.Proofs.Ytnookbebiacaeaa
end

section
/-
  Formulas: the pairs of a formula, gathered: the walk.
-/
namespace Go.Proofs.Ytnookbebiacaeaa
open Go.Eng

theorem snocPr (o : List Pr) (p : Pr) : ∀ k, k < (o ++ [p]).length → catG o.length (rowsPr o) (rowOf 2 (prA p)) k = rowsPr (o ++ [p]) k := by
  intro k hk
  unfold catG rowsPr
  by_cases h : k < o.length
  · rw [if_pos h]
    simp [List.getD, List.getElem?_append_left h]
  · rw [if_neg h]
    have : k = o.length := by simp at hk; omega
    subst this
    simp [List.getD]
    rfl
theorem snocPr_row (o : List Pr) (p : Pr) {l : List Pr} (hl : l = o ++ [p]) : AOEq (.row 196 2 l.length (rowsPr l)) (.row 196 2 (o.length + 1) (catG o.length (rowsPr o) (rowOf 2 (prA p)))) := by
  subst hl
  exact ⟨rfl, rfl, by simp, snocPr o p⟩
theorem addF_no {d : Nat} {f : Fm} {s : Sz} (h : (decide (s.1 + 1 > 40) || !nodeF f) = true) : addF (d + 1) f s = ((s.1 + 1, s.2), false) := by rw [addF, if_pos h]
theorem addF_yes {d : Nat} {f : Fm} {s : Sz} (h : (decide (s.1 + 1 > 40) || !nodeF f) = false) : addF (d + 1) f s = ((addTo d f.args (s.1 + 1, putF f s.2) f.args.length).1, (addTo d f.args (s.1 + 1, putF f s.2) f.args.length).2 && decide (((addTo d f.args (s.1 + 1, putF f s.2) f.args.length).1.2.length : Int) ≤ 6)) := by
  rw [addF, if_neg (by rw [h]; decide)]
theorem addTo_zero (d : Nat) (l : List Fm) (s : Sz) : addTo d l s 0 = (s, true) := by rw [addTo]
theorem putF_yes {f : Fm} {L : List Pr} (h : (f.op == 0 && !hasPr L (f.m, f.w)) = true) : putF f L = L ++ [(f.m, f.w)] := by
  rw [Bool.and_eq_true, beq_iff_eq, Bool.not_eq_true'] at h
  exact if_pos ⟨h.1, fun hm => by rw [hasPr_iff.2 hm] at h; cases h.2⟩
theorem putF_no {f : Fm} {L : List Pr} (h : (f.op == 0 && !hasPr L (f.m, f.w)) = false) : putF f L = L := by
  refine if_neg fun ⟨h1, h2⟩ => ?_
  have : hasPr L (f.m, f.w) = false := by
    cases hh : hasPr L (f.m, f.w)
    · rfl
    · exact absurd (hasPr_iff.1 hh) h2
  rw [this, h1] at h
  cases h
set_option maxRecDepth 20000 in
set_option maxHeartbeats 16000000 in
theorem add_fn : ∀ (d e : Nat) (f : Fm) (s : Sz), d ≤ 100 → 0 ≤ s.1 → s.1 ≤ 40 → (s.2.length : Int) ≤ s.1 →
    CtrM Try.prog 165 false [.cells 199 [.i .i64 s.1, .so 1], .row 196 2 s.2.length (rowsPr s.2)] [.p 0 0, .ag (avD (e + d) f), .i .i64 (d : Int)] (fun _ : Unit => True) (fun _ => [.cells 199 [.i .i64 (addF d f s).1.1, .so 2], .dead]) (fun _ => [.row 196 2 (addF d f s).1.2.length (rowsPr (addF d f s).1.2)]) (fun _ => .b (addF d f s).2)
  | 0, e, f, s, _, h0, h40, hl => by
    have w1 : IntKind.i64.wrap (s.1 + 1) = s.1 + 1 := wr (by omega) (by omega)
    refine fn_of_execM tabOk Try.func165 (by kernel_rfl) rfl (N := Try.f165.ntmps) rfl (res := [.tmp 6]) rfl false false [.cells 199 [.i .i64 s.1, .so 1], .row 196 2 s.2.length (rowsPr s.2)] _ _ _ _ rfl (fun h => by cases h) [(999999, [.mvc 0 1])] ?_
    repeat refine Or.inl ?_
    refine ⟨[], _, fun _ => node_fn (e + 0) f, ?_⟩
    repeat refine Or.inl ?_
    refine ⟨fun _ => ?_, fun h => ?_⟩
    · refine ⟨⟨(), [(2, 3)], trivial, ⟨⟨⟨rfl, rfl, ?_⟩, trivial⟩, ⟨⟨rfl, rfl, rfl, ⟨rfl, ?_⟩⟩, ⟨rfl, rfl, trivial, trivial⟩, ⟨rfl, rfl, trivial, ⟨rfl, rfl, ?_, fun q hq => ?_⟩⟩, trivial⟩, rfl⟩, rfl, fun _ => ⟨rfl, rfl, trivial, fun _ _ => rfl⟩⟩⟩
      · rw [addF]; exact AVEq.refl _
      · exact ⟨by rw [addF, w1]; exact AVEq.refl _, rfl⟩
      · rw [addF]
      · rw [addF]
    · exact absurd h (by simp)
  | d + 1, e, f, s, hd, h0, h40, hl => by
    have w1 : IntKind.i64.wrap (s.1 + 1) = s.1 + 1 := wr (by omega) (by omega)
    have hput := putF_len f s.2
    refine fn_of_execM tabOk Try.func165 (by kernel_rfl) rfl (N := Try.f165.ntmps) rfl (res := [.tmp 6]) rfl false false [.cells 199 [.i .i64 s.1, .so 1], .row 196 2 s.2.length (rowsPr s.2)] _ _ _ _ rfl (fun h => by cases h) [(1000001, [.mvc 0 1])] ?_
    repeat refine Or.inl ?_
    refine ⟨[], _, fun _ => node_fn (e + (d + 1)) f, ?_⟩
    repeat refine Or.inl ?_
    have e1 : (decide (((d + 1 : Nat) : Int) < 1) || decide (IntKind.i64.wrap (s.1 + 1) > 40) || !nodeF f) = (decide (s.1 + 1 > 40) || !nodeF f) := by
      rw [w1, decide_eq_false (by omega), Bool.false_or]
    refine ⟨fun h => ?_, fun h => ?_⟩
    · have hn := addF_no (d := d) (e1 ▸ h)
      refine ⟨⟨(), [(2, 3)], trivial, ⟨⟨⟨rfl, rfl, ?_⟩, trivial⟩, ⟨⟨rfl, rfl, rfl, ⟨rfl, ?_⟩⟩, ⟨rfl, rfl, trivial, trivial⟩, ⟨rfl, rfl, trivial, ⟨rfl, rfl, ?_, fun q hq => ?_⟩⟩, trivial⟩, rfl⟩, rfl, fun _ => ⟨rfl, rfl, trivial, fun _ _ => rfl⟩⟩⟩
      · rw [hn]; exact AVEq.refl _
      · exact ⟨by rw [hn, w1]; exact AVEq.refl _, rfl⟩
      · rw [hn]
      · rw [hn]
    · have hy := addF_yes (d := d) (e1 ▸ h)
      refine Or.inr ⟨[], Unit, fun _ => True, fun _ => [], fun _ => [⟨0, [], .cells 199 [.i .i64 (s.1 + 1), .so 3]⟩, ⟨3, [], .row 196 2 (putF f s.2).length (rowsPr (putF f s.2))⟩], ?_, fun _ _ => ?_⟩
      · repeat refine Or.inl ?_
        refine ⟨[], _, fun hg => containsPr_fn s.2 (by omega) (f.m, f.w), ?_⟩
        refine ⟨fun hp => ?_, fun hp => ?_⟩
        · repeat refine Or.inl ?_
          refine ⟨by show _ * 16 ≤ _; omega, ?_⟩
          refine ⟨(), [(3, 6)], trivial, rfl, rfl, rfl, rfl, rfl, trivial, ⟨⟨rfl, ⟨?_, rfl⟩⟩, ?_⟩⟩
          · rw [w1]; exact AVEq.refl _
          · have hp : (f.op == 0 && !hasPr s.2 (f.m, f.w)) = true := hp
            have ao := snocPr_row s.2 (f.m, f.w) (putF_yes hp)
            exact ao
        · refine ⟨(), [], trivial, rfl, rfl, rfl, rfl, rfl, trivial, ⟨⟨rfl, ⟨?_, rfl⟩⟩, ?_⟩⟩
          · rw [w1]; exact AVEq.refl _
          · have hp : (f.op == 0 && !hasPr s.2 (f.m, f.w)) = false := hp
            rw [putF_no hp]
            exact ⟨rfl, rfl, rfl, fun _ _ => rfl⟩
      · have hs1 : ((s.1 + 1, putF f s.2) : Sz).1 ≤ 40 := by
          have := e1 ▸ h
          rw [Bool.or_eq_false_iff, decide_eq_false_iff_not] at this
          dsimp only
          omega
        repeat refine Or.inl ?_
        refine ⟨[], Nat, fun k => k ≤ f.args.length ∧ (addTo d f.args (s.1 + 1, putF f s.2) k).2 = true, fun k => [⟨61, [], .i .i64 k⟩],
          fun k => [⟨0, [], .cells 199 [.i .i64 (addTo d f.args (s.1 + 1, putF f s.2) k).1.1, .so 3]⟩, ⟨3, [], .row 196 2 (addTo d f.args (s.1 + 1, putF f s.2) k).1.2.length (rowsPr (addTo d f.args (s.1 + 1, putF f s.2) k).1.2)⟩], fun k => f.args.length - k,
          ⟨0, [], ⟨Nat.zero_le _, by rw [addTo_zero]⟩, rfl, rfl, rfl, rfl, rfl, ⟨rfl, rfl⟩, ?_⟩, ?_⟩
        · simp only [addTo_zero]
          exact ⟨⟨rfl, ⟨AVEq.refl _, rfl⟩⟩, ⟨rfl, rfl, rfl, fun _ _ => rfl⟩⟩
        rintro k ⟨hk, hok⟩
        have hk : k ≤ f.args.length := hk
        have ek : (k : Int).toNat = k := Int.toNat_natCast k
        refine .inl ⟨fun hc => ?_, fun hc => ?_⟩
        · have hc := dlt hc
          have hc : (k : Int) < f.args.length := hc
          have wd : IntKind.i64.wrap (((d + 1 : Nat) : Int) - 1) = (d : Int) := by rw [wr (by omega) (by omega)]; omega
          have rg := addTo_sz (d := d) (l := f.args) hs1 hok
          dsimp only at rg
          have hr := add_fn d e (f.args.getD (k : Int).toNat dF) (addTo d f.args (s.1 + 1, putF f s.2) k).1 (by omega) (by omega) rg.2.1 (by omega)
          rw [← wd] at hr
          repeat refine Or.inl ?_
          refine ⟨⟨by omega, by omega⟩, ?_⟩
          refine Or.inr (Or.inr ?_)
          refine ⟨false, [0, 3], rfl, Unit, _, _, _, _, hr, fun _ _ => ?_⟩
          have hst := addTo_yes (d := d) (l := f.args) hok
          have rg2 := addF_sz d (f.args.getD k dF) (addTo d f.args (s.1 + 1, putF f s.2) k).1 rg.2.1
          refine ⟨fun hn => ?_, fun hn => ?_⟩
          · have hn : (!(addF d (f.args.getD (k : Int).toNat dF) (addTo d f.args (s.1 + 1, putF f s.2) k).1).2) = true := hn
            rw [ek, Bool.not_eq_true'] at hn
            rw [← hst] at hn
            have hend := addTo_stop hn (f.args.length - (k + 1))
            rw [show k + 1 + (f.args.length - (k + 1)) = f.args.length by omega] at hend
            have hE : addF (d + 1) f s = ((addF d (f.args.getD (k : Int).toNat dF) (addTo d f.args (s.1 + 1, putF f s.2) k).1).1, false) := by
              rw [hy, hend, hn, hst, ek]; rfl
            refine ⟨⟨(), [(2, 5)], trivial, ⟨⟨⟨rfl, rfl, ?_⟩, trivial⟩, ⟨⟨rfl, rfl, rfl, ⟨rfl, ?_⟩⟩, ⟨rfl, rfl, trivial, trivial⟩, ⟨rfl, rfl, trivial, ⟨rfl, rfl, ?_, fun q hq => ?_⟩⟩, trivial⟩, rfl⟩, rfl, fun _ => ⟨rfl, rfl, trivial, fun _ _ => rfl⟩⟩⟩
            · rw [hE]; exact AVEq.refl _
            · exact ⟨by rw [hE]; exact AVEq.refl _, rfl⟩
            · rw [hE]
            · rw [hE]
          · have hn : (!(addF d (f.args.getD (k : Int).toNat dF) (addTo d f.args (s.1 + 1, putF f s.2) k).1).2) = false := hn
            rw [ek, Bool.not_eq_false'] at hn
            have hn2 : (addTo d f.args (s.1 + 1, putF f s.2) (k + 1)).2 = true := by rw [hst]; exact hn
            refine ⟨k + 1, [(3, 5)], ⟨by omega, hn2⟩, by dsimp only; omega, rfl, rfl, rfl, rfl, rfl, ⟨rfl, wr (by omega) (by omega)⟩, ⟨⟨rfl, ⟨?_, rfl⟩⟩, ?_⟩⟩
            · rw [hst, ek]; exact AVEq.refl _
            · rw [hst, ek]
              exact ⟨rfl, rfl, rfl, fun _ _ => rfl⟩
        · have hc := dnlt hc
          have hc : (f.args.length : Int) ≤ k := hc
          obtain rfl : k = f.args.length := by omega
          have hE : addF (d + 1) f s = ((addTo d f.args (s.1 + 1, putF f s.2) f.args.length).1, decide (((addTo d f.args (s.1 + 1, putF f s.2) f.args.length).1.2.length : Int) ≤ 6)) := by
            rw [hy, hok, Bool.true_and]
          repeat refine Or.inl ?_
          refine ⟨⟨(), [(2, 3)], trivial, ⟨⟨⟨rfl, rfl, ?_⟩, trivial⟩, ⟨⟨rfl, rfl, rfl, ⟨rfl, ?_⟩⟩, ⟨rfl, rfl, trivial, trivial⟩, ⟨rfl, rfl, trivial, ⟨rfl, rfl, ?_, fun q hq => ?_⟩⟩, trivial⟩, rfl⟩, rfl, fun _ => ⟨rfl, rfl, trivial, fun _ _ => rfl⟩⟩⟩
          · rw [hE]; exact AVEq.refl _
          · exact ⟨by rw [hE]; exact AVEq.refl _, rfl⟩
          · rw [hE]
          · rw [hE]
end Go.Proofs.Ytnookbebiacaeaa
end

section
/-
  Formulas: the pairs of a formula, sorted.
-/
namespace Go.Proofs.Ytnookbebiacaeaa
open Go.Eng Go.RowKit Go.Sort Go.Shelf

def sortP_ren : Go.Shelf.Ren := ⟨fun | 6 => 166 | 15 => 158 | 14 => 202 | 28 => 198 | 29 => 199 | 20 => 224 | 21 => 225 | 22 => 226 | 23 => 227 | 24 => 228 | 25 => 229 | 26 => 230 | 27 => 231 | 46 => 238 | 47 => 219 | 48 => 220 | 49 => 239 | 50 => 240 | 57 => 242 | n => n, fun | 22 => 142 | 24 => 196 | 25 => 202 | 3 => 3 | 39 => 192 | 0 => 0 | 53 => 227 | 55 => 229 | 4 => 4 | 46 => 220 | 45 => 219 | 50 => 224 | 5 => 5 | 9 => 9 | 66 => 243 | 70 => 247 | 76 => 259 | 77 => 140 | n => n, fun | n => n⟩
theorem sortP : Go.Proofs.SlLaysF0.n6 Try.prog sortP_ren := {
  mixed := by kernel_rfl,
  f6 := ⟨Try.f166.name, by decide, Try.func166.trans (congrArg some (by kernel_rfl))⟩,
  f14 := ⟨Try.f202.name, by decide, Try.func202.trans (congrArg some (by kernel_rfl))⟩,
  f15 := Try.func158.trans (congrArg some (by kernel_rfl)),
  f20 := ⟨Try.f224.name, by decide, Try.func224.trans (congrArg some (by kernel_rfl))⟩,
  f21 := ⟨Try.f225.name, by decide, Try.func225.trans (congrArg some (by kernel_rfl))⟩,
  f22 := ⟨Try.f226.name, by decide, Try.func226.trans (congrArg some (by kernel_rfl))⟩,
  f23 := ⟨Try.f227.name, by decide, Try.func227.trans (congrArg some (by kernel_rfl))⟩,
  f24 := ⟨Try.f228.name, by decide, Try.func228.trans (congrArg some (by kernel_rfl))⟩,
  f25 := ⟨Try.f229.name, by decide, Try.func229.trans (congrArg some (by kernel_rfl))⟩,
  f26 := ⟨Try.f230.name, by decide, Try.func230.trans (congrArg some (by kernel_rfl))⟩,
  f27 := ⟨Try.f231.name, by decide, Try.func231.trans (congrArg some (by kernel_rfl))⟩,
  f28 := Try.func198.trans (congrArg some (by kernel_rfl)),
  f29 := Try.func199.trans (congrArg some (by kernel_rfl)),
  f46 := ⟨Try.f238.name, by decide, Try.func238.trans (congrArg some (by kernel_rfl))⟩,
  f47 := Try.func219.trans (congrArg some (by kernel_rfl)),
  f48 := Try.func220.trans (congrArg some (by kernel_rfl)),
  f49 := ⟨Try.f239.name, by decide, Try.func239.trans (congrArg some (by kernel_rfl))⟩,
  f50 := ⟨Try.f240.name, by decide, Try.func240.trans (congrArg some (by kernel_rfl))⟩,
  f57 := ⟨Try.f242.name, by decide, Try.func242.trans (congrArg some (by kernel_rfl))⟩,
  t0 := Try.underlying0,
  a0 := Try.isAgg0,
  z0 := Try.sizeOf0,
  v0 := Try.zeroValue0,
  t3 := Try.underlying3,
  a3 := Try.isAgg3,
  z3 := Try.sizeOf3,
  v3 := Try.zeroValue3,
  t4 := Try.underlying4,
  a4 := Try.isAgg4,
  z4 := Try.sizeOf4,
  v4 := Try.zeroValue4,
  t5 := Try.underlying5,
  a5 := Try.isAgg5,
  z5 := Try.sizeOf5,
  v5 := Try.zeroValue5,
  t9 := Try.underlying9,
  a9 := Try.isAgg9,
  z9 := Try.sizeOf9,
  v9 := Try.zeroValue9,
  t22 := Try.underlying142,
  a22 := Try.isAgg142,
  z22 := Try.sizeOf142,
  v22 := Try.zeroValue142,
  t25 := Try.underlying202,
  a25 := Try.isAgg202,
  z25 := Try.sizeOf202,
  v25 := Try.zeroValue202,
  t39 := Try.underlying192,
  a39 := Try.isAgg192,
  z39 := Try.sizeOf192,
  v39 := Try.zeroValue192,
  t45 := Try.underlying219,
  a45 := Try.isAgg219,
  z45 := Try.sizeOf219,
  v45 := Try.zeroValue219,
  t46 := Try.underlying220,
  a46 := Try.isAgg220,
  z46 := Try.sizeOf220,
  v46 := Try.zeroValue220,
  t50 := Try.underlying224,
  a50 := Try.isAgg224,
  z50 := Try.sizeOf224,
  v50 := Try.zeroValue224,
  t53 := Try.underlying227,
  a53 := Try.isAgg227,
  z53 := Try.sizeOf227,
  v53 := Try.zeroValue227,
  t55 := Try.underlying229,
  a55 := Try.isAgg229,
  z55 := Try.sizeOf229,
  v55 := Try.zeroValue229,
  t66 := Try.underlying243,
  a66 := Try.isAgg243,
  z66 := Try.sizeOf243,
  v66 := Try.zeroValue243,
  t70 := Try.underlying247,
  a70 := Try.isAgg247,
  z70 := Try.sizeOf247,
  v70 := Try.zeroValue247,
  t76 := Try.underlying259,
  a76 := Try.isAgg259,
  z76 := Try.sizeOf259,
  v76 := Try.zeroValue259,
  t77 := Try.underlying140,
  a77 := Try.isAgg140,
  z77 := Try.sizeOf140,
  v77 := Try.zeroValue140 }
theorem RetIs.sob {c d : Bool} {e sz n n' : Nat} {get get' : Nat → List AV} {id nid : Nat} {O : List OE} (hg : getO id O = some ([], .row e sz n' get')) (hn : n' = n) (hget : ∀ k, k < n → get' k = get k) (hf : ∀ k, k < n → AV.freshs (get k) = true) (hd : d = c) :
    RetIs [.row e sz n get] (.tup [.so 0, .b c]) (.tup [.so id, .b d]) O nid := by
  subst hn
  subst hd
  refine ⟨[(0, id)], ⟨⟨⟨rfl, rfl, rfl⟩, trivial⟩, ⟨⟨rfl, rfl, trivial, ?_⟩, trivial⟩, rfl⟩, rfl, hf⟩
  show (match AO.row e sz n' get, getO id O with
    | .dead, _ => True
    | o, some ([], o') => AOEq (o.ren (rn [(0, id)])) o'
    | _, _ => False)
  rw [hg]
  exact ⟨rfl, rfl, rfl, hget⟩
/-- A contract that returns a nil list, told as one that returns a row without elements. -/
theorem Ctr.nilrow {P : Program} {f : FuncId} {args : List AV} (e sz : Nat) (get : Nat → List AV) {rest : List AV} (h : Ctr P f args [] (.tup (.val (.slice none 0 0) :: rest))) : Ctr P f args [.row e sz 0 get] (.tup (.so 0 :: rest)) := by
  refine ⟨h.1, fun w vs hl hr => (h.2 w vs hl hr).mono ?_⟩
  rintro ex w' ⟨v, β, rfl, hb, _, hrep⟩
  obtain ⟨us, rfl, hlen, hc⟩ := hrep.tup_inv
  match us, hlen with
  | u0 :: us, hlen =>
    have h0 : u0 = .slice none 0 0 := (hc 0 (by simp) (by simp)).val_inv
    subst h0
    have hF : ∀ g, FX (fun g => g < w.heap.size) (β.valAt 0 (.slice none 0 0)) 0 [.row e sz 0 get] g → g < w.heap.size := by
      rintro g (hg | ⟨j, o, hj, hg⟩)
      · exact hg
      · cases j with
        | zero => simp at hj; subst hj; simp [ownB, Bd.valAt, blkOf] at hg
        | succ j => simp at hj
    refine ⟨_, β.valAt 0 (.slice none 0 0), rfl, hb, ⟨?_, ?_, ?_⟩, ?_⟩
    · intro j o hj
      cases j with
      | succ j => simp at hj
      | zero =>
        simp at hj
        subst hj
        refine ⟨[], ⟨by simp, .inl ⟨by simp [Bd.valAt], rfl⟩⟩, fun k hk => absurd hk (Nat.not_lt_zero k), fun k j hk => absurd hk (Nat.not_lt_zero k)⟩
    · intro j o g hj hg
      cases j with
      | succ j => simp at hj
      | zero => simp at hj; subst hj; simp [ownB, Bd.valAt, blkOf] at hg
    · intro j j' o o' g h1 h2 _ _
      cases j <;> cases j' <;> simp at h1 h2 ⊢
    · refine .tup (.so 0 :: rest) (.slice none 0 0 :: us) (by simpa using hlen) fun j h1 h2 => ?_
      cases j with
      | zero =>
        have := Rep.so (β := β.valAt 0 (.slice none 0 0)) (n := 1) (F := FX (fun g => g < w.heap.size) (β.valAt 0 (.slice none 0 0)) 0 [.row e sz 0 get]) (w := w') 0 (by omega) (by simp [Bd.valAt]; rfl)
        simpa [Bd.valAt] using this
      | succ j =>
        have := (hc (j + 1) (by simpa using h1) (by simpa using h2)).zero
        refine .pure _ _ ?_
        refine Rep0.stable this (fun g _ hn hf => hn (.inl (hF g hf))) (fun _ _ _ => rfl) (Nat.le_refl _)


def cmpPr (a b : Pr) : Int := firstNZ [cmpI a.1 b.1, cmpI a.2 b.2]
set_option maxRecDepth 20000 in
theorem cmpPr_fn (a b : Pr) : Ctr Try.prog 167 [.ag (prA a), .ag (prA b)] [] (.i .i64 (cmpPr a b)) := by
  refine fn_of_exec tabOk Try.func167 (by kernel_rfl) rfl (N := Try.f167.ntmps) rfl (res := [.tmp 4]) rfl rfl [] ?_
  repeat refine Or.inl ?_
  refine ⟨[], _, compare_fn a.1 b.1, ?_⟩
  repeat refine Or.inl ?_
  refine ⟨[], _, compare_fn a.2 b.2, ?_⟩
  repeat refine Or.inl ?_
  refine ⟨[], _, or2_fn _ _, ?_⟩
  exact RetIs.i rfl
def encPr (p : Pr) : List Value := [.int .i64 p.1, .int .i64 p.2]
theorem liesPr : Lies 2 encPr prA where
  pos := by decide
  len _ := rfl
  alen _ := rfl
  one x v hv := by
    simp [encPr] at hv
    rcases hv with rfl | rfl <;> rfl
  to F w x j h1 h2 := by
    have hj : j < 2 := h2
    revert h1 h2
    refine two (p := fun j => ∀ (h1 : j < (prA x).length) (h2 : j < (encPr x).length), Rep0 F w (prA x)[j] (encPr x)[j]) ?_ ?_ j hj
    · exact fun _ _ => .i _ _
    · exact fun _ _ => .i _ _
  of F w x j v h1 h2 := by
    have hj : j < 2 := h2
    revert h1 h2
    refine two (p := fun j => ∀ (h1 : j < (prA x).length) (h2 : j < (encPr x).length), Rep0 F w (prA x)[j] v → v = (encPr x)[j]) ?_ ?_ j hj
    · exact fun _ _ h => (by cases h; rfl)
    · exact fun _ _ h => (by cases h; rfl)
def ltPr (x y : Pr) : Bool := ltP x.1 x.2 y.1 y.2
theorem ltPr_eq (x y : Pr) : ltOf cmpPr x y = ltPr x y := cmp2_lt x.1 x.2 y.1 y.2
theorem ltPr_iff {x y : Pr} : ltPr x y = true ↔ x.1 < y.1 ∨ (x.1 = y.1 ∧ x.2 < y.2) := by
  unfold ltPr ltP
  rw [decide_eq_true_eq]
instance : Inhabited Pr := ⟨dPr⟩
theorem sortsPr : SortsBy Try.prog 166 167 2 encPr (ltOf cmpPr) :=
  ⟨⟨_, Try.func166, by kernel_rfl, rfl⟩, fun blk off cap ss W hH hblk hsz => by
    have := AnyQ.slices_SortFunc sortP 2 Try.isAgg196 Try.sizeOf196 encPr (fun _ => rfl) liesPr.one cmpPr (swo_ltP Prod.fst Prod.snd ltPr_eq) 167 #[] blk off cap ss.toArray W (fun args w => callFunc_run ⟨_, Try.func167, by kernel_rfl, rfl⟩ args) (cmpLays_of liesPr cmpPr_fn blk off _ W) hH hblk (by simpa using hsz)
    have e : ss.toArray.size = ss.length := by simp
    rw [e] at this
    exact this.mono fun _ _ ⟨h1, d', n, os, h2, h3, h4⟩ => ⟨h1, d', n, os, h2, h3, h4⟩, fun p cap W => AnyF.slices_SortFunc_none sortP p cap _ W⟩
/-- The pairs, ascending. -/
def srtPr (L : List Pr) : List Pr := L.mergeSort fun x y => !ltPr y x
theorem srt_uniq {L ys : List Pr} (hp : ys.Perm L) (hs : ys.Pairwise fun x y => ltPr y x = false) : ys = srtPr L := by
  have h1 := List.mergeSort_perm L fun x y => !ltPr y x
  have h2 : (srtPr L).Pairwise fun x y => (!ltPr y x) = true := by
    refine List.pairwise_mergeSort ?_ ?_ L
    · intro a b c hab hbc
      rw [Bool.not_eq_true', ← Bool.not_eq_true, ltPr_iff] at *
      omega
    · intro a b
      rw [Bool.or_eq_true, Bool.not_eq_true', Bool.not_eq_true', ← Bool.not_eq_true, ← Bool.not_eq_true, ltPr_iff, ltPr_iff]
      omega
  refine List.Perm.eq_of_pairwise (le := fun x y => ltPr y x = false) ?_ hs (h2.imp fun {x y} h => by simpa using h) (hp.trans h1.symm)
  rintro ⟨a, b⟩ ⟨c, d⟩ _ _ h3 h4
  rw [← Bool.not_eq_true, ltPr_iff] at h3 h4
  simp only at h3 h4
  rw [Prod.mk.injEq]
  omega
/-- What the size of a formula is, and whether it is right. -/
def sizF (f : Fm) : Sz × Bool := addF 6 f (0, [])
def prsF (f : Fm) : List Pr := if (sizF f).2 = true then srtPr (sizF f).1.2 else []
theorem freshPr (L : List Pr) : ∀ k, k < L.length → AV.freshs (rowsPr L k) = true := fun _ _ => rfl
set_option maxRecDepth 20000 in
set_option maxHeartbeats 4000000 in
theorem pairs_yes (e : Nat) (f : Fm) (h : (sizF f).2 = true) : Ctr Try.prog 119 [.ag (avD (e + 6) f)] [.row 196 2 (srtPr (sizF f).1.2).length (rowsPr (srtPr (sizF f).1.2))] (.tup [.so 0, .b true]) := by
  refine fn_of_exec tabOk Try.func119 (by kernel_rfl) rfl (N := Try.f119.ntmps) rfl (res := [.tmp 2, .tmp 3]) rfl rfl [(1000001, [.nlc 1 1 196 2, .eq 2 (.row 196 2 0 (rowsPr [])), .eq 1 (.cells 199 [.i .i64 0, .so 2])])] ?_
  have hr := add_fn 6 e f (0, []) (by decide) (by decide) (by decide) (by decide)
  refine ⟨⟨rfl, rfl, rfl, fun k hk => absurd hk (Nat.not_lt_zero k)⟩, ⟨rfl, ⟨AVEq.refl _, rfl⟩⟩, ?_⟩
  refine Or.inl ?_
  refine Or.inr (Or.inr ?_)
  refine ⟨false, [1, 2], rfl, Unit, _, _, _, _, hr, fun _ _ => ?_⟩
  refine ⟨fun hn => ?_, fun _ => ?_⟩
  · have hn : (!(sizF f).2) = true := hn
    rw [h] at hn
    cases hn
  have hz := addF_sz 6 f (0, []) (by decide)
  refine Or.inr (Or.inr ?_)
  refine ⟨false, [3], rfl, List Pr, _, _, _, _, sortBy_ctr liesPr sortsPr (kt := 196) (sizF f).1.2 (rowsPr (sizF f).1.2) (fun _ _ => rfl) (by have h0 : (((0, []) : Sz).2.length : Int) = 0 := rfl; have h1 : ((0, []) : Sz).1 = 0 := rfl; unfold sizF; omega), fun ys hy => ?_⟩
  have e : ys = srtPr (sizF f).1.2 := srt_uniq hy.1 (hy.2.imp fun {x y} h => by rw [← ltPr_eq]; exact h)
  rw [e]
  exact RetIs.sob rfl rfl (fun _ _ => rfl) (freshPr _) rfl
set_option maxRecDepth 20000 in
set_option maxHeartbeats 4000000 in
theorem pairs_no (e : Nat) (f : Fm) (h : (sizF f).2 = false) : Ctr Try.prog 119 [.ag (avD (e + 6) f)] [] (.tup [.val (.slice none 0 0), .b false]) := by
  refine fn_of_exec tabOk Try.func119 (by kernel_rfl) rfl (N := Try.f119.ntmps) rfl (res := [.tmp 2, .tmp 3]) rfl rfl [(1000001, [.nlc 1 1 196 2, .eq 2 (.row 196 2 0 (rowsPr [])), .eq 1 (.cells 199 [.i .i64 0, .so 2])])] ?_
  have hr := add_fn 6 e f (0, []) (by decide) (by decide) (by decide) (by decide)
  refine ⟨⟨rfl, rfl, rfl, fun k hk => absurd hk (Nat.not_lt_zero k)⟩, ⟨rfl, ⟨AVEq.refl _, rfl⟩⟩, ?_⟩
  refine Or.inl ?_
  refine Or.inr (Or.inr ?_)
  refine ⟨false, [1, 2], rfl, Unit, _, _, _, _, hr, fun _ _ => ?_⟩
  refine ⟨fun _ => ?_, fun hn => ?_⟩
  rotate_left
  · have hn : (!(sizF f).2) = false := hn
    rw [h] at hn
    cases hn
  exact ⟨[], ⟨⟨⟨rfl, rfl, AVEq.refl _⟩, trivial⟩, trivial, rfl⟩, rfl, trivial⟩
theorem pairs_fn (e : Nat) (f : Fm) : Ctr Try.prog 119 [.ag (avD (e + 6) f)] [.row 196 2 (prsF f).length (rowsPr (prsF f))] (.tup [.so 0, .b (sizF f).2]) := by
  cases h : (sizF f).2
  · have : prsF f = [] := by unfold prsF; rw [h]; rfl
    rw [this]
    exact Ctr.nilrow 196 2 _ (pairs_no e f h)
  · have : prsF f = srtPr (sizF f).1.2 := by unfold prsF; rw [if_pos h]
    rw [this]
    exact pairs_yes e f h
end Go.Proofs.Ytnookbebiacaeaa
end

section
/-
  Formulas: the level of a pair in a world, and whether a formula holds there.
-/
namespace Go.Proofs.Ytnookbebiacaeaa
open Go.Eng

def isP (m w : Int) (n : Note) : Bool := n.m == m && n.w == w
theorem idxF_rg (p : Note → Bool) (l : List Note) (h : ¬ idxF p l < 0) : 0 ≤ idxF p l ∧ idxF p l < l.length := by
  unfold idxF at *
  cases h1 : l.findIdx? p with
  | none => rw [h1] at h; exact absurd (by decide) h
  | some k =>
    rw [List.findIdx?_eq_some_iff_getElem] at h1
    obtain ⟨hk, _⟩ := h1
    dsimp only
    omega
/-- The level of a message and an account in a world. -/
def lvW (l : List Note) (m w : Int) : Int := if idxF (isP m w) l < 0 then 0 else (l.getD (idxF (isP m w) l).toNat dN).l
set_option maxRecDepth 20000 in
theorem level1_fn (m w : Int) (n : Note) : Ctr Try.prog 204 [.ag n.av, .rp [.i .i64 m], .rp [.i .i64 w]] [] (.b (isP m w n)) := by
  refine fn_of_exec tabOk Try.func204 (by kernel_rfl) rfl (N := Try.f204.ntmps) rfl (res := [.tmp 4]) rfl rfl [] ?_
  exact RetIs.b rfl
set_option maxRecDepth 20000 in
theorem level_fn (l : List Note) (hl : l.length < 2 ^ 62) (m w : Int) : Ctr Try.prog 171 [.rs 5 l.length (rowsN l), .i .i64 m, .i .i64 w] [] (.i .i64 (lvW l m w)) := by
  refine fn_of_exec tabOk Try.func171 (by kernel_rfl) rfl (N := Try.f171.ntmps) rfl (res := [.tmp 6]) rfl rfl [] ?_
  repeat refine Or.inl ?_
  refine ⟨[], _, index2_fn l hl 204 _ _ (isP m w) (level1_fn m w), ?_⟩
  repeat refine Or.inl ?_
  refine ⟨fun h => ?_, fun h => ?_⟩
  · have h : decide (idxF (isP m w) l < 0) = true := h
    rw [decide_eq_true_eq] at h
    exact RetIs.i (by unfold lvW; rw [if_pos h])
  · have h : decide (idxF (isP m w) l < 0) = false := h
    rw [decide_eq_false_iff_not] at h
    have := idxF_rg _ _ h
    repeat refine Or.inl ?_
    refine ⟨⟨by omega, by omega⟩, ?_⟩
    exact RetIs.i (by unfold lvW; rw [if_neg h])
set_option maxRecDepth 20000 in
set_option maxHeartbeats 4000000 in
theorem indexFm_fn (d : Nat) (f : Fm) (hl : f.args.length < 2 ^ 62) (fid : FuncId) (c : List AV) (p : Fm → Bool) (hp : ∀ k, k < f.args.length → Ctr Try.prog fid [.ag (avD d (f.args.getD k dF)), .rp c] [] (.b (p (f.args.getD k dF)))) :
    Ctr Try.prog 203 [.rs 5 f.args.length (kidsD (d + 1) f), .fn fid [.rp c]] [] (.i .i64 (idxG p f.args)) := by
  refine fn_of_exec tabOk Try.func203 (by kernel_rfl) rfl (N := Try.f203.ntmps) rfl (res := [.tmp 4]) rfl rfl [] ?_
  repeat refine Or.inl ?_
  refine ⟨[], Nat, fun k => k ≤ f.args.length ∧ ∀ j, j < k → p (f.args.getD j dF) = false, fun k => [⟨8, [], .i .i64 k⟩], fun _ => [], fun k => f.args.length - k,
    ⟨0, [], ⟨Nat.zero_le _, fun j hj => absurd hj (Nat.not_lt_zero j)⟩, rfl, rfl, rfl, rfl, rfl, ⟨rfl, rfl⟩, trivial⟩, ?_⟩
  rintro k ⟨hk, hno⟩
  have hk : k ≤ f.args.length := hk
  refine .inl ⟨fun hc => ?_, fun hc => ?_⟩
  · have hc := dlt hc
    have hc : (k : Int) < f.args.length := hc
    have ek : (k : Int).toNat = k := Int.toNat_natCast k
    have hr := hp (k : Int).toNat (by omega)
    repeat refine Or.inl ?_
    refine ⟨⟨by omega, by omega⟩, ?_⟩
    repeat refine Or.inl ?_
    refine ⟨[], _, hr, ?_⟩
    refine ⟨fun h => ?_, fun h => ?_⟩
    · have h : p (f.args.getD (k : Int).toNat dF) = true := h
      rw [ek] at h
      exact RetIs.i (idxG_some dF _ _ k (by omega) hno h).symm
    · have h : p (f.args.getD (k : Int).toNat dF) = false := h
      rw [ek] at h
      refine ⟨k + 1, [], ⟨by omega, fun j hj => ?_⟩, by dsimp only; omega, rfl, rfl, rfl, rfl, rfl, ⟨rfl, wr (by omega) (by omega)⟩, trivial⟩
      by_cases hjk : j = k
      · rw [hjk]; exact h
      · exact hno j (by omega)
  · have hc := dnlt hc
    have hc : (f.args.length : Int) ≤ k := hc
    obtain rfl : k = f.args.length := by omega
    exact RetIs.i (idxG_none dF _ _ hno).symm
set_option maxRecDepth 20000 in
theorem containsFm_fn (d : Nat) (f : Fm) (hl : f.args.length < 2 ^ 62) (fid : FuncId) (c : List AV) (p : Fm → Bool) (hp : ∀ k, k < f.args.length → Ctr Try.prog fid [.ag (avD d (f.args.getD k dF)), .rp c] [] (.b (p (f.args.getD k dF)))) :
    Ctr Try.prog 169 [.rs 5 f.args.length (kidsD (d + 1) f), .fn fid [.rp c]] [] (.b (f.args.any p)) := by
  refine fn_of_exec tabOk Try.func169 (by kernel_rfl) rfl (N := Try.f169.ntmps) rfl (res := [.tmp 4]) rfl rfl [] ?_
  repeat refine Or.inl ?_
  refine ⟨[], _, indexFm_fn d f hl fid c p hp, ?_⟩
  exact RetIs.b (idxG_any _ _)
/-- Every node is right, and there are at most so many levels. -/
def okF : Nat → Fm → Prop
  | 0, _ => False
  | d + 1, f => nodeF f = true ∧ f.args.length ≤ 40 ∧ ∀ k, k < f.args.length → okF d (f.args.getD k dF)
/-- Whether a formula holds in a world. -/
def holdsF : Nat → Fm → List Note → Bool
  | 0, _, _ => false
  | d + 1, f, l => if f.op = 1 then !(f.args.any fun x => !holdsF d x l) else if f.op = 2 then f.args.any fun x => holdsF d x l
    else if f.op = 3 then !holdsF d (f.args.getD 0 dF) l else decide (lvW l f.m f.w ≥ f.l)
set_option maxRecDepth 20000 in
set_option maxHeartbeats 4000000 in
theorem in_fnF (e : Nat) (x : Fm) (l : List Note) (b : Bool) (h : Ctr Try.prog 120 [.ag (avD e x), .rs 5 l.length (rowsN l)] [] (.b b)) :
    Ctr Try.prog 168 [.ag (avD e x), .rp [.rs 5 l.length (rowsN l)]] [] (.b b) := by
  refine fn_of_exec tabOk Try.func168 (by kernel_rfl) rfl (N := Try.f168.ntmps) rfl (res := [.tmp 3]) rfl rfl [] ?_
  repeat refine Or.inl ?_
  refine ⟨[], _, h, ?_⟩
  exact RetIs.b rfl
set_option maxRecDepth 20000 in
set_option maxHeartbeats 4000000 in
theorem notIn_fnF (e : Nat) (x : Fm) (l : List Note) (b : Bool) (h : Ctr Try.prog 120 [.ag (avD e x), .rs 5 l.length (rowsN l)] [] (.b b)) :
    Ctr Try.prog 170 [.ag (avD e x), .rp [.fn 168 [.rp [.rs 5 l.length (rowsN l)]]]] [] (.b (!b)) := by
  refine fn_of_exec tabOk Try.func170 (by kernel_rfl) rfl (N := Try.f170.ntmps) rfl (res := [.tmp 3]) rfl rfl [] ?_
  repeat refine Or.inl ?_
  refine ⟨[], _, in_fnF e x l b h, ?_⟩
  exact RetIs.b rfl
set_option maxRecDepth 20000 in
set_option maxHeartbeats 16000000 in
theorem holds_fn (l : List Note) (hl : l.length < 2 ^ 62) : ∀ (d e : Nat) (f : Fm), okF d f →
    Ctr Try.prog 120 [.ag (avD (e + d) f), .rs 5 l.length (rowsN l)] [] (.b (holdsF d f l))
  | 0, e, f, h => h.elim
  | d + 1, e, f, ⟨hnode, hlen, hk⟩ => by
    have ih : ∀ k, k < f.args.length → Ctr Try.prog 120 [.ag (avD (e + d) (f.args.getD k dF)), .rs 5 l.length (rowsN l)] [] (.b (holdsF d (f.args.getD k dF) l)) := fun k h => holds_fn l hl d e _ (hk k h)
    refine fn_of_exec tabOk Try.func120 (by kernel_rfl) rfl (N := Try.f120.ntmps) rfl (res := [.tmp 4]) rfl rfl [] ?_
    repeat refine Or.inl ?_
    refine ⟨fun h1 => ?_, fun h1 => ?_⟩
    · have h1 : (f.op == 1) = true := h1
      rw [beq_iff_eq] at h1
      repeat refine Or.inl ?_
      refine ⟨[], _, containsFm_fn (e + d) f (by omega) 170 _ (fun x => !holdsF d x l) (fun k h => notIn_fnF (e + d) _ l _ (ih k h)), ?_⟩
      refine RetIs.b ?_
      rw [holdsF, if_pos h1]
    have h1 : (f.op == 1) = false := h1
    rw [beq_eq_false_iff_ne] at h1
    repeat refine Or.inl ?_
    refine ⟨fun h2 => ?_, fun h2 => ?_⟩
    · have h2 : (f.op == 2) = true := h2
      rw [beq_iff_eq] at h2
      repeat refine Or.inl ?_
      refine ⟨[], _, containsFm_fn (e + d) f (by omega) 168 _ (fun x => holdsF d x l) (fun k h => in_fnF (e + d) _ l _ (ih k h)), ?_⟩
      refine RetIs.b ?_
      rw [holdsF, if_neg h1, if_pos h2]
    have h2 : (f.op == 2) = false := h2
    rw [beq_eq_false_iff_ne] at h2
    repeat refine Or.inl ?_
    refine ⟨fun h3 => ?_, fun h3 => ?_⟩
    · have h3 : (f.op == 3) = true := h3
      rw [beq_iff_eq] at h3
      have h0 : 0 < f.args.length := by
        unfold nodeF at hnode
        rw [if_neg (by omega), if_neg (by omega), if_pos h3, Bool.and_eq_true, beq_iff_eq] at hnode
        omega
      repeat refine Or.inl ?_
      refine ⟨⟨by omega, by omega⟩, ?_⟩
      repeat refine Or.inl ?_
      refine ⟨[], _, in_fnF (e + d) _ l _ (ih 0 h0), ?_⟩
      refine RetIs.b ?_
      rw [holdsF, if_neg h1, if_neg h2, if_pos h3]
    have h3 : (f.op == 3) = false := h3
    rw [beq_eq_false_iff_ne] at h3
    repeat refine Or.inl ?_
    refine ⟨[], _, level_fn l hl f.m f.w, ?_⟩
    refine RetIs.b ?_
    rw [holdsF, if_neg h1, if_neg h2, if_neg h3]
/-- A formula of the right size is right at every node. -/
theorem addF_ok : ∀ (d : Nat) (f : Fm) (s : Sz), s.1 ≤ 40 → 0 ≤ s.1 → (addF d f s).2 = true → okF d f
  | 0, f, s, _, _, h => by rw [addF] at h; cases h
  | d + 1, f, s, hs, h0, h => by
    have hnb : (decide (s.1 + 1 > 40) || !nodeF f) = false := by
      cases hh : (decide (s.1 + 1 > 40) || !nodeF f)
      · rfl
      · rw [addF_no hh] at h; cases h
    rw [addF_yes hnb, Bool.and_eq_true] at h
    rw [Bool.or_eq_false_iff, decide_eq_false_iff_not, Bool.not_eq_false'] at hnb
    have hs1 : ((s.1 + 1, putF f s.2) : Sz).1 ≤ 40 := by dsimp only; omega
    have hsz := addTo_sz (d := d) (l := f.args) hs1 h.1
    have hall : ∀ k j, k + j = f.args.length → (addTo d f.args (s.1 + 1, putF f s.2) k).2 = true := by
      intro k j hkj
      cases hh : (addTo d f.args (s.1 + 1, putF f s.2) k).2
      · have := addTo_stop hh j
        rw [hkj] at this
        rw [this, hh] at h
        cases h.1
      · rfl
    refine ⟨hnb.2, by dsimp only at hsz; omega, fun k hk => ?_⟩
    have h1 := hall k (f.args.length - k) (by omega)
    have h2 := hall (k + 1) (f.args.length - (k + 1)) (by omega)
    rw [addTo_yes h1] at h2
    have hsz1 := addTo_sz (d := d) (l := f.args) hs1 h1
    exact addF_ok d _ _ hsz1.2.1 (by dsimp only at hsz1; omega) h2
theorem sizF_ok {f : Fm} (h : (sizF f).2 = true) : okF 6 f := addF_ok 6 f (0, []) (by decide) (by decide) h
end Go.Proofs.Ytnookbebiacaeaa
end

section
/-
  Formulas: the worlds, one after the other.
-/
namespace Go.Proofs.Ytnookbebiacaeaa
open Go.Eng

theorem CtrA.of_eq {P : Program} {f : FuncId} {args args' : List AV} {r : AV} (h : AVsEq args args') (c : CtrA P f args r) : CtrA P f args' r :=
  ⟨c.1, fun F w vs hF hl hr => c.2 F w vs hF (h.get.1.trans hl) fun j h1 h2 => (h.get.2 j h1 (by rw [← h.get.1]; exact h1)).rep0 (hr j (by rw [← h.get.1]; exact h1) h2)⟩
/-- The first of some numbers at which g finds a world. -/
def tryL (g : Int → List Note × Bool) : Nat → Int → List Note × Bool
  | 0, _ => ([], false)
  | c + 1, n => if (g n).2 = true then g n else tryL g c (n + 1)
theorem tryL_skip {g : Int → List Note × Bool} : ∀ {j c : Nat} {n : Int}, (∀ i : Nat, i < j → (g (n + i)).2 = false) → tryL g (j + c) n = tryL g c (n + j)
  | 0, c, n, _ => by simp
  | j + 1, c, n, h => by
    have h0 := h 0 (Nat.succ_pos j)
    rw [show n + ((0 : Nat) : Int) = n by omega] at h0
    rw [show j + 1 + c = (j + c) + 1 by omega, tryL, if_neg (by rw [h0]; decide), tryL_skip (fun i hi => by
      have := h (i + 1) (by omega)
      rwa [show n + ((i + 1 : Nat) : Int) = n + 1 + i by omega] at this)]
    congr 1
    omega
/-- A message and an account at a level. -/
def ntP (p : Pr) (n : Int) : Note := ⟨p.1, p.2, n, 0, false⟩
/-- The first world, of all that go on with so many pairs, in which a formula does not hold. -/
def wrldF (f : Fm) (L : List Pr) (lo hi : List Int) : Nat → List Note → List Note × Bool
  | 0, W => (W, !holdsF 6 f W)
  | r + 1, W => tryL (fun n => wrldF f L lo hi r (W ++ [ntP (L.getD W.length dPr) n])) (hi.getD W.length 0 - lo.getD W.length 0 + 1).toNat (lo.getD W.length 0)
set_option maxRecDepth 20000 in
set_option maxHeartbeats 16000000 in
theorem worlds_fn (e : Nat) (f : Fm) (hf : okF 6 f) (L : List Pr) (lo hi : List Int) (hL : L.length ≤ 100) (hlo : lo.length = L.length) (hhi : hi.length = L.length) (rlo : ∀ k, k < L.length → -10 ≤ lo.getD k 0 ∧ hi.getD k 0 ≤ 10) :
    ∀ (r : Nat) (W : List Note), W.length + r = L.length →
    CtrA Try.prog 164 [.ag (avD (e + 6) f), .rs 2 L.length (rowsPr L), .rs 5 W.length (rowsN W), .rs 1 lo.length (rowsI lo), .rs 1 hi.length (rowsI hi)]
      (.tup [.rs 5 (wrldF f L lo hi r W).1.length (rowsN (wrldF f L lo hi r W).1), .b (wrldF f L lo hi r W).2])
  | r, W, hW => by
    refine fn_of_execA tabOk Try.func164 (by kernel_rfl) rfl (N := Try.f164.ntmps) rfl (res := [.tmp 10, .tmp 11]) rfl rfl [(1000007, [.frz 14 [3]]), (1000011, [.nl 10 24 5, .eq 1 (.row 24 5 0 (rowsN [])), .frz 10 [1]])] ?_
    repeat refine Or.inl ?_
    refine ⟨fun h => ?_, fun h => ?_⟩
    · have h : ((W.length : Int) == L.length) = true := h
      rw [beq_iff_eq] at h
      obtain rfl : r = 0 := by omega
      repeat refine Or.inl ?_
      refine ⟨[], _, holds_fn W (by omega) 6 e f hf, ?_⟩
      exact ⟨rfl, AVEq.refl (.tup [.rs 5 W.length (rowsN W), .b (!holdsF 6 f W)])⟩
    · have h : ((W.length : Int) == L.length) = false := h
      rw [beq_eq_false_iff_ne] at h
      obtain ⟨r, rfl⟩ : ∃ r', r = r' + 1 := ⟨r - 1, by omega⟩
      have rg := rlo W.length (by omega)
      repeat refine Or.inl ?_
      refine ⟨⟨by omega, by omega⟩, ?_⟩
      repeat refine Or.inl ?_
      refine ⟨[], Nat, fun j => j ≤ (hi.getD W.length 0 - lo.getD W.length 0 + 1).toNat ∧ ∀ i : Nat, i < j → (wrldF f L lo hi r (W ++ [ntP (L.getD W.length dPr) (lo.getD W.length 0 + i)])).2 = false, fun j => [⟨13, [], .i .i64 (lo.getD W.length 0 + j)⟩], fun _ => [], fun j => (hi.getD W.length 0 - lo.getD W.length 0 + 1).toNat - j,
        ⟨0, [], ⟨Nat.zero_le _, fun i hi => absurd hi (Nat.not_lt_zero i)⟩, rfl, rfl, rfl, rfl, rfl, ⟨rfl, ?_⟩, trivial⟩, ?_⟩
      · rw [Int.toNat_natCast]; show _ = _ + ((0 : Nat) : Int); omega
      rintro j ⟨hj, hno⟩
      have hj : j ≤ (hi.getD W.length 0 - lo.getD W.length 0 + 1).toNat := hj
      refine Or.inl ?_
      refine ⟨⟨by omega, by omega⟩, ?_⟩
      refine ⟨fun hc => ?_, fun hc => ?_⟩
      · have hc : decide (lo.getD W.length 0 + (j : Int) ≤ hi.getD (W.length : Int).toNat 0) = true := hc
        rw [decide_eq_true_eq, Int.toNat_natCast] at hc
        repeat refine Or.inl ?_
        refine ⟨_, _, cloneN_fn W (by omega), ?_⟩
        refine ⟨⟨by omega, by omega⟩, ?_⟩
        refine ⟨⟨by omega, by omega⟩, ?_⟩
        refine ⟨fits (by omega), ?_⟩
        have hr := worlds_fn e f hf L lo hi hL hlo hhi rlo r (W ++ [ntP (L.getD W.length dPr) (lo.getD W.length 0 + j)]) (by simp; omega)
        have ao : AOEq (.row 24 5 (W ++ [ntP (L.getD W.length dPr) (lo.getD W.length 0 + j)]).length (rowsN (W ++ [ntP (L.getD W.length dPr) (lo.getD W.length 0 + j)]))) (.row 24 5 (W.length + 1) (catG W.length (rowsN W) (rowOf 5 (ntP (L.getD (W.length : Int).toNat dPr) (lo.getD W.length 0 + j)).av))) := snocN_row _ _ (by rw [Int.toNat_natCast])
        have av : AVEq (.rs 5 (W ++ [ntP (L.getD W.length dPr) (lo.getD W.length 0 + j)]).length (rowsN (W ++ [ntP (L.getD W.length dPr) (lo.getD W.length 0 + j)]))) (.rs 5 (W.length + 1) (catG W.length (rowsN W) (rowOf 5 (ntP (L.getD (W.length : Int).toNat dPr) (lo.getD W.length 0 + j)).av))) := ⟨rfl, ao.2.2.1, ao.2.2.2⟩
        have hr2 := CtrA.of_eq (args := [.ag (avD (e + 6) f), .rs 2 L.length (rowsPr L), .rs 5 (W ++ [ntP (L.getD W.length dPr) (lo.getD W.length 0 + j)]).length (rowsN (W ++ [ntP (L.getD W.length dPr) (lo.getD W.length 0 + j)])), .rs 1 lo.length (rowsI lo), .rs 1 hi.length (rowsI hi)]) (args' := [.ag (avD (e + 6) f), .rs 2 L.length (rowsPr L), .rs 5 (W.length + 1) (catG W.length (rowsN W) (rowOf 5 (ntP (L.getD (W.length : Int).toNat dPr) (lo.getD W.length 0 + j)).av)), .rs 1 lo.length (rowsI lo), .rs 1 hi.length (rowsI hi)]) ⟨AVEq.refl _, AVEq.refl _, av, AVEq.refl _, AVEq.refl _⟩ hr
        refine Or.inr (Or.inl ?_)
        refine ⟨_, hr2, ?_⟩
        refine ⟨fun h1 => ?_, fun h1 => ?_⟩
        · have h1 : (wrldF f L lo hi r (W ++ [ntP (L.getD W.length dPr) (lo.getD W.length 0 + j)])).2 = true := h1
          have hend : wrldF f L lo hi (r + 1) W = wrldF f L lo hi r (W ++ [ntP (L.getD W.length dPr) (lo.getD W.length 0 + j)]) := by
            rw [wrldF, show (hi.getD W.length 0 - lo.getD W.length 0 + 1).toNat = j + ((hi.getD W.length 0 - lo.getD W.length 0 - j).toNat + 1) by omega, tryL_skip hno, tryL, if_pos h1]
          refine ⟨rfl, ?_⟩
          rw [hend, h1]
          exact AVEq.refl _
        · have h1 : (wrldF f L lo hi r (W ++ [ntP (L.getD W.length dPr) (lo.getD W.length 0 + j)])).2 = false := h1
          refine ⟨j + 1, [], ⟨by omega, fun i hi => ?_⟩, by dsimp only; omega, rfl, rfl, rfl, rfl, rfl, ⟨rfl, ?_⟩, trivial⟩
          · by_cases hij : i = j
            · rw [hij]; exact h1
            · exact hno i (by omega)
          · rw [wr (by omega) (by omega)]
            omega
      · have hc : decide (lo.getD W.length 0 + (j : Int) ≤ hi.getD (W.length : Int).toNat 0) = false := hc
        rw [decide_eq_false_iff_not, Int.toNat_natCast] at hc
        have ej : j = (hi.getD W.length 0 - lo.getD W.length 0 + 1).toNat := by omega
        have hend : wrldF f L lo hi (r + 1) W = ([], false) := by
          rw [wrldF, ← ej]
          exact tryL_skip (c := 0) hno
        refine ⟨⟨rfl, rfl, rfl, fun k hk => absurd hk (Nat.not_lt_zero k)⟩, ?_⟩
        refine ⟨rfl, ?_⟩
        rw [hend]
        exact AVEq.refl (.tup [.rs 5 0 (rowsN []), .b false])
end Go.Proofs.Ytnookbebiacaeaa
end

section
/-
  Receipts: the examples of the documentation; reasons, forwarding.
-/
namespace Go.Proofs.Ytnookbebiacaeaa
open Go.Eng

def exS : List Note := [⟨4, 7, 2, 9, false⟩, ⟨5, 7, 3, 9, false⟩, ⟨4, 7, 4, 9, true⟩]
theorem three {p : Nat → Prop} (h0 : p 0) (h1 : p 1) (h2 : p 2) : ∀ k, k < 3 → p k := by
  intro k hk
  match k with
  | 0 => exact h0
  | 1 => exact h1
  | 2 => exact h2
  | k + 3 => omega
theorem one {p : Nat → Prop} (h0 : p 0) : ∀ k, k < 1 → p k := by
  intro k hk
  match k with
  | 0 => exact h0
  | k + 1 => omega
set_option maxRecDepth 20000 in
theorem someN_fn : Ctr Try.prog 99 [] [.row 24 5 exS.length (rowsN exS)] (.so 0) := by
  refine fn_of_exec tabOk Try.func99 (by kernel_rfl) rfl (N := Try.f99.ntmps) rfl (res := [.tmp 0]) rfl rfl [] ?_
  exact RetIs.so rfl rfl (three rfl rfl rfl) (fun _ _ => rfl)
def exW : List Note := [⟨4, 7, 3, 0, false⟩, ⟨5, 7, 3, 0, false⟩]
theorem exS1 : addY exS ⟨4, 7, 4, 0, false⟩ false = ([], 17) := by decide +kernel
theorem exS2 : withY exS 1 = ([⟨4, 7, 2, 9, false⟩, ⟨4, 7, 4, 9, true⟩], 0) := by decide +kernel
theorem exS3 : weakL exS [⟨4, 7, 2, 9, false⟩, ⟨4, 7, 4, 9, true⟩] true = exW := by decide +kernel
theorem exS4 : reasonL exS false 4 7 = [0] := by decide +kernel
theorem exS5 : reasonL exS true 4 7 = [1] := by decide +kernel
def prof1 : Prof := ⟨⟨#[]⟩, 0, 0, 0, false, 0, false, false, 0, 0, 0, 0, 0, fun _ => [], 0, 0, 0, 1, false, 0, 0, 0, 0⟩
abbrev prof1A : AV := .ag [.s ⟨#[]⟩, .i .i64 0, .i .i64 0, .i .i64 0, .b false, .i .i64 0, .b false, .b false, .i .i64 0, .i .i64 0, .i .i64 0, .i .i64 0, .val (.slice none 0 0), .i .i64 0, .i .i64 0, .i .i64 0, .i .i64 1, .b false, .i .i64 0, .i .i64 0, .i .i64 0, .i .i64 0]
theorem prof1_w : AVW (.ag prof1.av) prof1A :=
  AVW.ag ⟨AVW.refl _, AVW.refl _, AVW.refl _, AVW.refl _, AVW.refl _, AVW.refl _, AVW.refl _, AVW.refl _, AVW.refl _, AVW.refl _, AVW.refl _, AVW.refl _, AVW.nil _ _, AVW.refl _, AVW.refl _, AVW.refl _, AVW.refl _, AVW.refl _, AVW.refl _, AVW.refl _, AVW.refl _, AVW.refl _, trivial⟩
theorem Forward1_fn (n : Note) : Ctr Try.prog 28 [prof1A, .ag n.av] [] (.ag (forward 1 n).av) := Ctr.of_w (args := [.ag prof1.av, .ag n.av]) ⟨prof1_w, AVW.refl _, trivial⟩ (Forward_fn prof1 n)
theorem ints1_fn (a : List Int) (ha : a.length < 2 ^ 62) (x : Int) : Ctr Try.prog 30 [.rs 1 a.length (rowsI a), .rs 1 1 (rowOf 1 [.i .i64 x])] [] (.b (decide (a = [x]))) :=
  Ctr.of_eq (args := [.rs 1 a.length (rowsI a), .rs 1 [x].length (rowsI [x])]) ⟨AVEq.refl _, rfl, rfl, one rfl⟩ (ints_fn a [x] ha (show 1 < 2 ^ 62 by decide))
theorem sameW_fn : Ctr Try.prog 27 [.rs 5 exW.length (rowsN exW), .rs 5 2 (rowOf 5 [.i .i64 4, .i .i64 7, .i .i64 3, .i .i64 0, .b false, .i .i64 5, .i .i64 7, .i .i64 3, .i .i64 0, .b false])] [] (.b true) :=
  Ctr.of_eq (args := [.rs 5 exW.length (rowsN exW), .rs 5 exW.length (rowsN exW)]) ⟨AVEq.refl _, rfl, rfl, two rfl rfl⟩ (by
    have := sameN_fn exW exW (by decide) (by decide)
    rwa [decide_eq_true rfl] at this)
set_option maxRecDepth 20000 in
set_option maxHeartbeats 8000000 in
theorem smallN_fn : Ctr Try.prog 22 [] [] (.b true) := by
  have h1 := Add_fn exS (by decide) ⟨4, 7, 4, 0, false⟩ false
  rw [exS1] at h1
  have h2 := Withdraw_fn exS (by decide) 1
  rw [exS2] at h2
  have h3 := Weaker_fn exS [⟨4, 7, 2, 9, false⟩, ⟨4, 7, 4, 9, true⟩] (by decide) (by decide) true
  rw [exS3] at h3
  have h4 := Reason_fn exS (by decide) false 4 7
  rw [exS4] at h4
  have h5 := Reason_fn exS (by decide) true 4 7
  rw [exS5] at h5
  refine fn_of_exec tabOk Try.func22 (by kernel_rfl) rfl (N := Try.f22.ntmps) rfl (res := [.tmp 0]) rfl rfl [] ?_
  repeat refine Or.inl ?_
  refine ⟨_, _, someN_fn, ?_⟩
  repeat refine Or.inl ?_
  refine ⟨_, _, h1, ?_⟩
  repeat refine Or.inl ?_
  refine ⟨_, _, h2, ?_⟩
  repeat refine Or.inl ?_
  refine ⟨_, _, h3, ?_⟩
  repeat refine Or.inl ?_
  refine ⟨_, _, h4, ?_⟩
  repeat refine Or.inl ?_
  refine ⟨[], _, ints1_fn [0] (by decide) 0, ?_⟩
  repeat refine Or.inl ?_
  refine ⟨_, _, fun _ => h5, ?_⟩
  repeat refine Or.inl ?_
  refine ⟨[], _, fun _ => ints1_fn [1] (by decide) 1, ?_⟩
  repeat refine Or.inl ?_
  refine ⟨[], _, sameW_fn, ?_⟩
  repeat refine Or.inl ?_
  refine ⟨fun _ => ⟨by decide, by decide⟩, fun _ => by decide, ?_⟩
  repeat refine Or.inl ?_
  refine ⟨[], _, fun _ => Forward1_fn ⟨5, 7, 3, 9, false⟩, ?_⟩
  repeat refine Or.inl ?_
  refine ⟨fun _ => ⟨by decide, by decide⟩, fun _ => by decide, ?_⟩
  repeat refine Or.inl ?_
  refine ⟨[], _, fun _ => Forward1_fn ⟨4, 7, 4, 9, true⟩, ?_⟩
  refine RetIs.b ?_
  decide +kernel
end Go.Proofs.Ytnookbebiacaeaa
end

section
/-
  Receipts: ReceiptReason, ReceiptForward.
-/
namespace Go.Proofs.Ytnookbebiacaeaa
open Go.Eng

theorem getD_memN {l : List Note} {k : Nat} (h : k < l.length) : l.getD k dN ∈ l := by simp [List.getD, h]
theorem forward_not {lv : Int} {n : Note} (h : n.n = false) : forward lv n = ⟨n.m, n.w, min n.l lv, n.s, false⟩ := if_pos h
theorem forward_big {lv : Int} {n : Note} (h : n.n = true) (h2 : n.l > lv) : forward lv n = ⟨n.m, n.w, 0, n.s, false⟩ := by
  unfold forward
  rw [if_neg (by rw [h]; decide), if_pos h2]
theorem forward_same {lv : Int} {n : Note} (h : n.n = true) (h2 : ¬ n.l > lv) : forward lv n = n := by
  unfold forward
  rw [if_neg (by rw [h]; decide), if_neg h2]
end Go.Proofs.Ytnookbebiacaeaa
end

section
/-
  Receipts: ReceiptTells, ReceiptWeaker, ReceiptAdds.
-/
namespace Go.Proofs.Ytnookbebiacaeaa
open Go.Eng

theorem Low_nonneg (l : List Note) (b : Bool) (m w : Int) : 0 ≤ Low l b m w := by
  unfold Low
  split
  · exact ((low_le b m w _ l).1 (Int.le_refl _)).1
  · exact Int.le_refl _
theorem right_valid {l : List Note} {b : Bool} (h : Right l b = true) : valid l = true := by
  unfold Right at h
  rw [Bool.and_eq_true] at h
  exact h.1
end Go.Proofs.Ytnookbebiacaeaa
end

section
/-
  Formulas: the search, Known, World.
-/
namespace Go.Proofs.Ytnookbebiacaeaa
open Go.Eng

theorem snocI_row (o : List Int) (n : Int) {l : List Int} (hl : l = o ++ [n]) : AOEq (.row 3 1 l.length (rowsI l)) (.row 3 1 (o.length + 1) (catG o.length (rowsI o) (rowOf 1 [.i .i64 n]))) := by
  subst hl
  refine ⟨rfl, rfl, by simp, fun k hk => ?_⟩
  unfold catG rowsI
  by_cases h : k < o.length
  · rw [if_pos h]
    simp [List.getD, List.getElem?_append_left h]
  · rw [if_neg h]
    have : k = o.length := by simp at hk; omega
    subst this
    simp [List.getD]
    rfl
def lows (l : List Note) (b : Bool) (L : List Pr) : List Int := L.map fun p => Low l b p.1 p.2
def highs (l : List Note) (L : List Pr) : List Int := L.map fun p => High l p.1 p.2
theorem lows_take {l : List Note} {b : Bool} {L : List Pr} {k : Nat} (h : k < L.length) : lows l b (L.take (k + 1)) = lows l b (L.take k) ++ [Low l b (L.getD k dPr).1 (L.getD k dPr).2] := by
  unfold lows
  rw [List.take_succ_eq_append_getElem h, List.map_append]
  simp [List.getD, h]
theorem highs_take {l : List Note} {L : List Pr} {k : Nat} (h : k < L.length) : highs l (L.take (k + 1)) = highs l (L.take k) ++ [High l (L.getD k dPr).1 (L.getD k dPr).2] := by
  unfold highs
  rw [List.take_succ_eq_append_getElem h, List.map_append]
  simp [List.getD, h]
theorem lows_at {l : List Note} {b : Bool} {L : List Pr} {k : Nat} (h : k < L.length) : (lows l b L).getD k 0 = Low l b (L.getD k dPr).1 (L.getD k dPr).2 := by
  unfold lows
  simp [List.getD, h]
theorem highs_at {l : List Note} {L : List Pr} {k : Nat} (h : k < L.length) : (highs l L).getD k 0 = High l (L.getD k dPr).1 (L.getD k dPr).2 := by
  unfold highs
  simp [List.getD, h]
theorem high_le (m w : Int) : ∀ (l : List Note) (a : Int), l.foldl (fun a n => if den n m w then min a (IntKind.i64.wrap (n.l - 1)) else a) a ≤ a
  | [], a => Int.le_refl a
  | n :: r, a => by
    rw [List.foldl_cons]
    refine Int.le_trans (high_le m w r _) ?_
    split <;> omega
theorem High_le (l : List Note) (m w : Int) : High l m w ≤ 4 := by
  unfold High
  split
  · exact high_le m w l 4
  · exact Int.le_refl 4
/-- What the search finds, and its error. -/
def srchF (f : Fm) (l : List Note) (b : Bool) : (List Note × Bool) × Int :=
  if (sizF f).2 = false then (([], false), 1) else if Right l b = false then (([], false), 17)
  else (wrldF f (prsF f) (lows l b (prsF f)) (highs l (prsF f)) (prsF f).length [], 0)
theorem prsF_len (f : Fm) : (prsF f).length ≤ 40 := by
  unfold prsF
  split
  · rename_i h
    have h1 : (srtPr (sizF f).1.2).length = (sizF f).1.2.length := (List.mergeSort_perm _ _).length_eq
    have h2 := addF_sz 6 f (0, []) (by decide)
    have h3 := h2.2.2.2.2 h
    have h0 : (((0, []) : Sz).2.length : Int) = 0 := rfl
    have h4 : ((0, []) : Sz).1 = 0 := rfl
    rw [h1]
    unfold sizF
    omega
  · exact Nat.zero_le _
set_option maxRecDepth 20000 in
set_option maxHeartbeats 16000000 in
theorem search_fn (e : Nat) (f : Fm) (l : List Note) (hl : l.length < 2 ^ 62) (b : Bool) :
    CtrA Try.prog 115 [.ag (avD (e + 6) f), .rs 5 l.length (rowsN l), .b b] (.tup [.rs 5 (srchF f l b).1.1.length (rowsN (srchF f l b).1.1), .b (srchF f l b).1.2, .i .i64 (srchF f l b).2]) := by
  refine fn_of_execA tabOk Try.func115 (by kernel_rfl) rfl (N := Try.f115.ntmps) rfl (res := [.tmp 6, .tmp 7, .tmp 8]) rfl rfl [(1000003, [.nl 6 24 5, .eq 2 (.row 24 5 0 (rowsN [])), .frz 6 [2]]), (1000005, [.nl 6 24 5, .eq 2 (.row 24 5 0 (rowsN [])), .frz 6 [2]]), (13, [.frz 9 [1], .frz 11 [2], .frz 12 [3]])] ?_
  have hlen := prsF_len f
  repeat refine Or.inl ?_
  refine ⟨_, _, pairs_fn e f, ?_⟩
  repeat refine Or.inl ?_
  refine ⟨fun h => ?_, fun h => ?_⟩
  · have h : (!(sizF f).2) = true := h
    rw [Bool.not_eq_true'] at h
    have hs : srchF f l b = (([], false), 1) := by unfold srchF; rw [if_pos h]
    refine ⟨⟨rfl, rfl, rfl, fun k hk => absurd hk (Nat.not_lt_zero k)⟩, ?_⟩
    refine ⟨rfl, ?_⟩
    rw [hs]
    exact AVEq.refl (.tup [.rs 5 0 (rowsN []), .b false, .i .i64 1])
  have h : (!(sizF f).2) = false := h
  rw [Bool.not_eq_false'] at h
  repeat refine Or.inl ?_
  refine ⟨_, _, Right_fn l hl b, ?_⟩
  refine ⟨fun h1 => ?_, fun h1 => ?_⟩
  · have h1 : (!Right l b) = true := h1
    rw [Bool.not_eq_true'] at h1
    have hs : srchF f l b = (([], false), 17) := by unfold srchF; rw [if_neg (by rw [h]; decide), if_pos h1]
    refine ⟨⟨rfl, rfl, rfl, fun k hk => absurd hk (Nat.not_lt_zero k)⟩, ?_⟩
    refine ⟨rfl, ?_⟩
    rw [hs]
    exact AVEq.refl (.tup [.rs 5 0 (rowsN []), .b false, .i .i64 17])
  have h1 : (!Right l b) = false := h1
  rw [Bool.not_eq_false'] at h1
  have hs : srchF f l b = (wrldF f (prsF f) (lows l b (prsF f)) (highs l (prsF f)) (prsF f).length [], 0) := by
    unfold srchF; rw [if_neg (by rw [h]; decide), if_neg (by rw [h1]; decide)]
  repeat refine Or.inl ?_
  refine ⟨[(11, 3, 1), (12, 3, 1)], Nat, fun k => k ≤ (prsF f).length, fun k => [⟨32, [], .i .i64 k⟩, ⟨11, [], .so 2⟩, ⟨12, [], .so 3⟩],
    fun k => [⟨2, [], .row 3 1 (lows l b ((prsF f).take k)).length (rowsI (lows l b ((prsF f).take k)))⟩, ⟨3, [], .row 3 1 (highs l ((prsF f).take k)).length (rowsI (highs l ((prsF f).take k)))⟩], fun k => (prsF f).length - k,
    ⟨0, [], Nat.zero_le _, rfl, rfl, rfl, rfl, rfl, ⟨⟨rfl, rfl⟩, rfl, rfl⟩, ⟨⟨rfl, rfl, rfl, fun j hj => absurd hj (Nat.not_lt_zero j)⟩, ⟨rfl, rfl, rfl, fun j hj => absurd hj (Nat.not_lt_zero j)⟩⟩⟩, ?_⟩
  intro k hk
  have hk : k ≤ (prsF f).length := hk
  refine .inl ⟨fun hc => ?_, fun hc => ?_⟩
  · have hc := dlt hc
    have hc : (k : Int) < (prsF f).length := hc
    have ek : (k : Int).toNat = k := Int.toNat_natCast k
    have kl : k < (prsF f).length := by omega
    have l1 : (lows l b ((prsF f).take k)).length = k := by simp [lows]; omega
    have l2 : (highs l ((prsF f).take k)).length = k := by simp [highs]; omega
    repeat refine Or.inl ?_
    refine ⟨⟨by omega, by omega⟩, ?_⟩
    refine ⟨by omega, ?_⟩
    repeat refine Or.inl ?_
    refine ⟨[], _, Low_fn l hl b ((prsF f).getD (k : Int).toNat dPr).1 ((prsF f).getD (k : Int).toNat dPr).2, ?_⟩
    refine ⟨by show _ * 8 ≤ _; omega, ?_⟩
    repeat refine Or.inl ?_
    refine ⟨[], _, High_fn l hl b ((prsF f).getD (k : Int).toNat dPr).1 ((prsF f).getD (k : Int).toNat dPr).2, ?_⟩
    refine ⟨by show _ * 8 ≤ _; omega, ?_⟩
    refine ⟨k + 1, [(2, 6), (3, 8)], by dsimp only; omega, by dsimp only; omega, rfl, rfl, rfl, rfl, rfl, ⟨⟨rfl, wr (by omega) (by omega)⟩, rfl, rfl⟩, ?_⟩
    have a1 : AOEq (.row 3 1 (lows l b ((prsF f).take (k + 1))).length (rowsI (lows l b ((prsF f).take (k + 1))))) (.row 3 1 ((lows l b ((prsF f).take k)).length + 1) (catG (lows l b ((prsF f).take k)).length (rowsI (lows l b ((prsF f).take k))) (rowOf 1 [.i .i64 (Low l b ((prsF f).getD (k : Int).toNat dPr).1 ((prsF f).getD (k : Int).toNat dPr).2)]))) := snocI_row _ _ (by rw [ek]; exact lows_take kl)
    have a2 : AOEq (.row 3 1 (highs l ((prsF f).take (k + 1))).length (rowsI (highs l ((prsF f).take (k + 1))))) (.row 3 1 ((highs l ((prsF f).take k)).length + 1) (catG (highs l ((prsF f).take k)).length (rowsI (highs l ((prsF f).take k))) (rowOf 1 [.i .i64 (High l ((prsF f).getD (k : Int).toNat dPr).1 ((prsF f).getD (k : Int).toNat dPr).2)]))) := snocI_row _ _ (by rw [ek]; exact highs_take kl)
    exact ⟨a1, a2⟩
  · have hc := dnlt hc
    have hc : ((prsF f).length : Int) ≤ k := hc
    obtain rfl : k = (prsF f).length := by omega
    have hr := worlds_fn e f (sizF_ok h) (prsF f) (lows l b (prsF f)) (highs l (prsF f)) (by omega) (by simp [lows]) (by simp [highs]) (fun k hk => by
      rw [lows_at hk, highs_at hk]
      have := Low_nonneg l b ((prsF f).getD k dPr).1 ((prsF f).getD k dPr).2
      have := High_le l ((prsF f).getD k dPr).1 ((prsF f).getD k dPr).2
      omega) (prsF f).length [] (by simp)
    have hr2 := CtrA.of_eq (args := [.ag (avD (e + 6) f), .rs 2 (prsF f).length (rowsPr (prsF f)), .rs 5 0 (rowsN []), .rs 1 (lows l b (prsF f)).length (rowsI (lows l b (prsF f))), .rs 1 (highs l (prsF f)).length (rowsI (highs l (prsF f)))])
      (args' := [.ag (avD (e + 6) f), .rs 2 (prsF f).length (rowsPr (prsF f)), .val (.slice none 0 0), .rs 1 (lows l b (prsF f)).length (rowsI (lows l b (prsF f))), .rs 1 (highs l (prsF f)).length (rowsI (highs l (prsF f)))]) ⟨AVEq.refl _, AVEq.refl _, ⟨rfl, rfl⟩, AVEq.refl _, AVEq.refl _⟩ hr
    have tk : (prsF f).take (prsF f).length = prsF f := List.take_length
    rw [hs]
    rw [tk]
    refine Or.inr (Or.inl ?_)
    refine ⟨_, hr2, ?_⟩
    exact ⟨rfl, AVEq.refl _⟩
end Go.Proofs.Ytnookbebiacaeaa
end

section
/-
  Receipts: ReceiptAdds.
-/
namespace Go.Proofs.Ytnookbebiacaeaa
open Go.Eng

end Go.Proofs.Ytnookbebiacaeaa
end

section
/-
  Formulas: what is known of an atom, and of a denied atom.
-/
namespace Go.Proofs.Ytnookbebiacaeaa
open Go.Eng

def knownF (f : Fm) (l : List Note) (b : Bool) : Bool × Int := (((srchF f l b).2 == 0) && !(srchF f l b).1.2, (srchF f l b).2)
theorem RetIs.bi {d c : Bool} {x y : Int} {O : List OE} {nid : Nat} (h : c = d) (h2 : y = x) : RetIs [] (.tup [.b d, .i .i64 x]) (.tup [.b c, .i .i64 y]) O nid := by
  subst h
  subst h2
  exact ⟨[], ⟨⟨⟨rfl, rfl, AVEq.refl _⟩, trivial⟩, trivial, rfl⟩, rfl, trivial⟩
set_option maxRecDepth 20000 in
theorem Known_fn (e : Nat) (f : Fm) (l : List Note) (hl : l.length < 2 ^ 62) (b : Bool) :
    Ctr Try.prog 39 [.ag (avD (e + 6) f), .rs 5 l.length (rowsN l), .b b] [] (.tup [.b (knownF f l b).1, .i .i64 (knownF f l b).2]) := by
  refine fn_of_exec tabOk Try.func39 (by kernel_rfl) rfl (N := Try.f39.ntmps) rfl (res := [.tmp 6, .tmp 7]) rfl rfl [] ?_
  refine Or.inr (Or.inl ?_)
  refine ⟨_, search_fn e f l hl b, ?_⟩
  exact RetIs.bi rfl rfl
def BestF (l : List Note) (b : Bool) (m w : Int) : Int := if Right l b = true then Low l b m w else 0
set_option maxRecDepth 20000 in
theorem Best_fn (l : List Note) (hl : l.length < 2 ^ 62) (b : Bool) (m w : Int) : Ctr Try.prog 38 [.rs 5 l.length (rowsN l), .b b, .i .i64 m, .i .i64 w] [] (.i .i64 (BestF l b m w)) := by
  refine fn_of_exec tabOk Try.func38 (by kernel_rfl) rfl (N := Try.f38.ntmps) rfl (res := [.tmp 8]) rfl rfl [] ?_
  repeat refine Or.inl ?_
  refine ⟨[], _, Right_fn l hl b, ?_⟩
  refine ⟨fun h => ?_, fun h => ?_⟩
  · have h : (!Right l b) = true := h
    rw [Bool.not_eq_true'] at h
    exact RetIs.i (by unfold BestF; rw [if_neg (by rw [h]; decide)])
  · have h : (!Right l b) = false := h
    rw [Bool.not_eq_false'] at h
    repeat refine Or.inl ?_
    refine ⟨[], _, Low_fn l hl b m w, ?_⟩
    exact RetIs.i (by unfold BestF; rw [if_pos h])
/-! ### atoms -/
def atF (m w l : Int) : Fm := .mk 0 m w l []
def notF (f : Fm) : Fm := .mk 3 0 0 0 [f]
def atA (m w l : Int) : List AV := [.i .i64 0, .i .i64 m, .i .i64 w, .i .i64 l, .val (.slice none 0 0)]
def notA (m w l : Int) : List AV := [.i .i64 3, .i .i64 0, .i .i64 0, .i .i64 0, .rs 5 1 (rowOf 5 (atA m w l))]
theorem at_w (d : Nat) (m w l : Int) : AVWs (avD d (atF m w l)) (atA m w l) := ⟨AVW.refl _, AVW.refl _, AVW.refl _, AVW.refl _, AVW.nil 5 _, trivial⟩
theorem not_w (d : Nat) (m w l : Int) : AVWs (avD (d + 1) (notF (atF m w l))) (notA m w l) := by
  refine ⟨AVW.refl _, AVW.refl _, AVW.refl _, AVW.refl _, AVW.rs' rfl fun k hk => ?_, trivial⟩
  have : k = 0 := by
    have : k < 1 := hk
    omega
  subst this
  exact at_w d m w l
theorem KnownAt_fn (m w v : Int) (l : List Note) (hl : l.length < 2 ^ 62) (b : Bool) : Ctr Try.prog 39 [.ag (atA m w v), .rs 5 l.length (rowsN l), .b b] [] (.tup [.b (knownF (atF m w v) l b).1, .i .i64 (knownF (atF m w v) l b).2]) :=
  Ctr.of_w (args := [.ag (avD (0 + 6) (atF m w v)), .rs 5 l.length (rowsN l), .b b]) ⟨AVW.ag (at_w 6 m w v), AVW.refl _, AVW.refl _, trivial⟩ (Known_fn 0 (atF m w v) l hl b)
theorem KnownNot_fn (m w v : Int) (l : List Note) (hl : l.length < 2 ^ 62) (b : Bool) : Ctr Try.prog 39 [.ag (notA m w v), .rs 5 l.length (rowsN l), .b b] [] (.tup [.b (knownF (notF (atF m w v)) l b).1, .i .i64 (knownF (notF (atF m w v)) l b).2]) :=
  Ctr.of_w (args := [.ag (avD (0 + 6) (notF (atF m w v))), .rs 5 l.length (rowsN l), .b b]) ⟨AVW.ag (not_w 5 m w v), AVW.refl _, AVW.refl _, trivial⟩ (Known_fn 0 (notF (atF m w v)) l hl b)
set_option maxRecDepth 20000 in
theorem atom35_fn (n : Note) : Ctr Try.prog 40 [.ag n.av] [] (.ag (atA n.m n.w n.l)) := by
  refine fn_of_exec tabOk Try.func40 (by kernel_rfl) rfl (N := Try.f40.ntmps) rfl (res := [.cell 2 50]) rfl rfl [] ?_
  exact ⟨[], ⟨⟨⟨rfl, rfl, AVEq.refl _⟩, trivial⟩, trivial, rfl⟩, rfl, trivial⟩
/-! ### what is known of them -/
def atOk (m w v : Int) : Prop := 0 ≤ m ∧ m < 100000 ∧ 0 ≤ w ∧ w < 2000 ∧ 0 ≤ v ∧ v < 5
theorem node_at {m w v : Int} (h : atOk m w v) : nodeF (atF m w v) = true := by
  obtain ⟨h1, h2, h3, h4, h5, h6⟩ := h
  show (((((decide (0 ≤ m) && decide (m < 100000)) && decide (0 ≤ w)) && decide (w < 2000)) && decide (0 ≤ v)) && decide (v < 5)) && ((0 : Int) == 0) = true
  rw [decide_eq_true h1, decide_eq_true h2, decide_eq_true h3, decide_eq_true h4, decide_eq_true h5, decide_eq_true h6]
  rfl
theorem add_at {m w v : Int} (h : atOk m w v) (d : Nat) {c : Int} (hc : c + 1 ≤ 40) : addF (d + 1) (atF m w v) (c, []) = ((c + 1, [(m, w)]), true) := by
  have h1 : (decide (((c, []) : Sz).1 + 1 > 40) || !nodeF (atF m w v)) = false := by
    rw [node_at h]
    have : decide (((c, []) : Sz).1 + 1 > 40) = false := decide_eq_false (by dsimp only; omega)
    rw [this]; rfl
  have hp : putF (atF m w v) ((c, []) : Sz).2 = [(m, w)] := if_pos ⟨rfl, List.not_mem_nil⟩
  rw [addF_yes h1, hp]
  show ((addTo d [] (c + 1, [(m, w)]) 0).1, (addTo d [] (c + 1, [(m, w)]) 0).2 && decide (((addTo d [] (c + 1, [(m, w)]) 0).1.2.length : Int) ≤ 6)) = _
  rw [addTo_zero]
  rfl
theorem siz_at {m w v : Int} (h : atOk m w v) : sizF (atF m w v) = ((1, [(m, w)]), true) := add_at h 5 (by decide)
theorem siz_not {m w v : Int} (h : atOk m w v) : sizF (notF (atF m w v)) = ((2, [(m, w)]), true) := by
  have h1 : (decide (((0, []) : Sz).1 + 1 > 40) || !nodeF (notF (atF m w v))) = false := rfl
  have hp : putF (notF (atF m w v)) ((0, []) : Sz).2 = [] := rfl
  unfold sizF
  rw [addF_yes h1, hp]
  have e : addTo 5 [atF m w v] (((0, []) : Sz).1 + 1, []) 1 = ((2, [(m, w)]), true) := by
    rw [addTo_yes (by rw [addTo_zero]), addTo_zero]
    exact add_at h 4 (c := 1) (by decide)
  show ((addTo 5 [atF m w v] (((0, []) : Sz).1 + 1, []) 1).1, (addTo 5 [atF m w v] (((0, []) : Sz).1 + 1, []) 1).2 && decide (((addTo 5 [atF m w v] (((0, []) : Sz).1 + 1, []) 1).1.2.length : Int) ≤ 6)) = _
  rw [e]
  rfl
theorem srt_one (p : Pr) : srtPr [p] = [p] := by unfold srtPr; simp
theorem lv_one (m w n : Int) : lvW [ntP (m, w) n] m w = n := by
  have : idxF (isP m w) [ntP (m, w) n] = 0 := idxF_some (isP m w) [ntP (m, w) n] 0 (by simp) (fun j hj => absurd hj (Nat.not_lt_zero j)) (by
    show ((m == m) && (w == w)) = true
    simp)
  unfold lvW
  rw [this, if_neg (by decide)]
  rfl
theorem tryL_iff {g : Int → List Note × Bool} : ∀ {c : Nat} {n : Int}, (tryL g c n).2 = true ↔ ∃ i : Nat, i < c ∧ (g (n + i)).2 = true
  | 0, n => ⟨fun h => (by cases h), fun ⟨i, h, _⟩ => absurd h (Nat.not_lt_zero i)⟩
  | c + 1, n => by
    rw [tryL]
    split
    · rename_i h
      exact ⟨fun _ => ⟨0, Nat.succ_pos c, by rw [show n + ((0 : Nat) : Int) = n by omega]; exact h⟩, fun _ => h⟩
    · rename_i h
      rw [tryL_iff]
      constructor
      · rintro ⟨i, hi, hg⟩
        exact ⟨i + 1, by omega, by rw [show n + ((i + 1 : Nat) : Int) = n + 1 + i by omega]; exact hg⟩
      · rintro ⟨i, hi, hg⟩
        cases i with
        | zero => exact absurd (by rwa [show n + ((0 : Nat) : Int) = n by omega] at hg) h
        | succ i => exact ⟨i, by omega, by rwa [show n + ((i + 1 : Nat) : Int) = n + 1 + i by omega] at hg⟩
theorem right_low {l : List Note} {b : Bool} (h : Right l b = true) (m w : Int) : Low l b m w ≤ High l m w := by
  have hv : valid l = true := by
    unfold Right at h
    rw [Bool.and_eq_true] at h
    exact h.1
  by_cases hd : ∃ x ∈ l, den x m w = true
  · obtain ⟨x, hx, hxd⟩ := hd
    rw [right_eq] at h
    unfold rRight at h
    rw [Bool.and_eq_true, List.all_eq_true] at h
    have := of_decide_eq_true (h.2 x hx)
    unfold den at hxd
    simp at hxd
    obtain ⟨⟨_, h4⟩, h5⟩ := hxd
    rwa [h4, h5] at this
  · have hno : ∀ x ∈ l, den x m w = false := fun x hx => by
      cases hh : den x m w with
      | false => rfl
      | true => exact (hd ⟨x, hx, hh⟩).elim
    have h1 : high l m w = 4 := foldl_none m w l 4 hno
    have h2 : low l b m w ≤ 4 := foldl_le b m w l 0 (by omega) fun x hx => by
      have := valid_all hv x hx
      unfold vnote at this
      simp at this
      omega
    unfold Low High
    rw [if_pos hv, if_pos hv]
    omega
theorem known_at {l : List Note} {b : Bool} {m w v : Int} (hr : Right l b = true) (h : atOk m w v) : knownF (atF m w v) l b = (decide (v ≤ Low l b m w), 0) := by
  have hs := siz_at h
  have hp : prsF (atF m w v) = [(m, w)] := by
    unfold prsF
    rw [hs, if_pos rfl]
    exact srt_one _
  have hlh := right_low hr m w
  have he : srchF (atF m w v) l b = (wrldF (atF m w v) [(m, w)] [Low l b m w] [High l m w] 1 [], 0) := by
    unfold srchF
    rw [hs, if_neg (fun h => Bool.noConfusion h), if_neg (by rw [hr]; decide), hp]
    rfl
  have hw : (wrldF (atF m w v) [(m, w)] [Low l b m w] [High l m w] 1 []).2 = decide (Low l b m w < v) := by
    have hg : ∀ n, (wrldF (atF m w v) [(m, w)] [Low l b m w] [High l m w] 0 ([] ++ [ntP (m, w) n])).2 = decide (n < v) := by
      intro n
      show (!decide (lvW [ntP (m, w) n] m w ≥ v)) = _
      rw [lv_one, ← decide_not, decide_eq_decide]
      omega
    rw [Bool.eq_iff_iff, decide_eq_true_eq]
    show (tryL (fun n => wrldF (atF m w v) [(m, w)] [Low l b m w] [High l m w] 0 ([] ++ [ntP (m, w) n])) (High l m w - Low l b m w + 1).toNat (Low l b m w)).2 = true ↔ _
    rw [tryL_iff]
    constructor
    · rintro ⟨i, hi, hgi⟩
      have hgi := (hg _).symm.trans hgi
      rw [decide_eq_true_eq] at hgi
      omega
    · intro h
      exact ⟨0, by omega, (hg _).trans (decide_eq_true (by omega))⟩
  unfold knownF
  rw [he]
  show (((0 : Int) == 0) && !(wrldF (atF m w v) [(m, w)] [Low l b m w] [High l m w] 1 []).2, (0 : Int)) = _
  rw [hw, ← decide_not, show ((0 : Int) == 0) = true from rfl, Bool.true_and, Prod.mk.injEq, decide_eq_decide]
  exact ⟨by omega, rfl⟩
theorem known_not {l : List Note} {b : Bool} {m w v : Int} (hr : Right l b = true) (h : atOk m w v) : knownF (notF (atF m w v)) l b = (decide (High l m w < v), 0) := by
  have hs := siz_not h
  have hp : prsF (notF (atF m w v)) = [(m, w)] := by
    unfold prsF
    rw [hs, if_pos rfl]
    exact srt_one _
  have hlh := right_low hr m w
  have he : srchF (notF (atF m w v)) l b = (wrldF (notF (atF m w v)) [(m, w)] [Low l b m w] [High l m w] 1 [], 0) := by
    unfold srchF
    rw [hs, if_neg (fun h => Bool.noConfusion h), if_neg (by rw [hr]; decide), hp]
    rfl
  have hw : (wrldF (notF (atF m w v)) [(m, w)] [Low l b m w] [High l m w] 1 []).2 = decide (v ≤ High l m w) := by
    have hg : ∀ n, (wrldF (notF (atF m w v)) [(m, w)] [Low l b m w] [High l m w] 0 ([] ++ [ntP (m, w) n])).2 = decide (v ≤ n) := by
      intro n
      show (!!decide (lvW [ntP (m, w) n] m w ≥ v)) = _
      rw [lv_one, Bool.not_not]
    rw [Bool.eq_iff_iff, decide_eq_true_eq]
    show (tryL (fun n => wrldF (notF (atF m w v)) [(m, w)] [Low l b m w] [High l m w] 0 ([] ++ [ntP (m, w) n])) (High l m w - Low l b m w + 1).toNat (Low l b m w)).2 = true ↔ _
    rw [tryL_iff]
    constructor
    · rintro ⟨i, hi, hgi⟩
      have hgi := (hg _).symm.trans hgi
      rw [decide_eq_true_eq] at hgi
      omega
    · intro h
      exact ⟨(High l m w - Low l b m w).toNat, by omega, (hg _).trans (decide_eq_true (by omega))⟩
  unfold knownF
  rw [he]
  show (((0 : Int) == 0) && !(wrldF (notF (atF m w v)) [(m, w)] [Low l b m w] [High l m w] 1 []).2, (0 : Int)) = _
  rw [hw, ← decide_not, show ((0 : Int) == 0) = true from rfl, Bool.true_and, Prod.mk.injEq, decide_eq_decide]
  exact ⟨by omega, rfl⟩
end Go.Proofs.Ytnookbebiacaeaa
end

section
/-
  Receipts: ReceiptHolds.
-/
namespace Go.Proofs.Ytnookbebiacaeaa
open Go.Eng

theorem low_at_note {l : List Note} {b : Bool} {n : Note} (hv : valid l = true) (hn : n ∈ l) (hno : n.n = false) : n.l ≤ Low l b n.m n.w := by
  unfold Low
  rw [if_pos hv]
  exact ((low_le b n.m n.w _ l).1 (Int.le_refl _)).2 n hn (by unfold says; rw [hno]; simp)
theorem high_at_note {l : List Note} {n : Note} (hv : valid l = true) (hn : n ∈ l) (hno : n.n = true) : High l n.m n.w < n.l := by
  unfold High
  rw [if_pos hv]
  have := ((high_ge n.m n.w _ l (valid_all hv)).1 (Int.le_refl _)).2 n hn (by unfold den; rw [hno]; simp)
  omega
theorem note_ok {l : List Note} {n : Note} (hv : valid l = true) (hn : n ∈ l) : 0 ≤ n.m ∧ n.m < 100000 ∧ 0 ≤ n.w ∧ n.w < 2000 ∧ 1 ≤ n.l ∧ n.l ≤ 4 := by
  have := valid_all hv n hn
  unfold vnote at this
  simp at this
  omega
theorem known_at_yes {l : List Note} {b : Bool} {m w v : Int} (hl : l.length < 2 ^ 62) (hr : Right l b = true) (h : atOk m w v) (hv : v ≤ Low l b m w) :
    Ctr Try.prog 39 [.ag (atA m w v), .rs 5 l.length (rowsN l), .b b] [] (.tup [.b true, .i .i64 0]) := by
  have := KnownAt_fn m w v l hl b
  rwa [known_at hr h, decide_eq_true hv] at this
theorem known_at_no {l : List Note} {b : Bool} {m w v : Int} (hl : l.length < 2 ^ 62) (hr : Right l b = true) (h : atOk m w v) (hv : ¬ v ≤ Low l b m w) :
    Ctr Try.prog 39 [.ag (atA m w v), .rs 5 l.length (rowsN l), .b b] [] (.tup [.b false, .i .i64 0]) := by
  have := KnownAt_fn m w v l hl b
  rwa [known_at hr h, decide_eq_false hv] at this
theorem known_not_yes {l : List Note} {b : Bool} {m w v : Int} (hl : l.length < 2 ^ 62) (hr : Right l b = true) (h : atOk m w v) (hv : High l m w < v) :
    Ctr Try.prog 39 [.ag (notA m w v), .rs 5 l.length (rowsN l), .b b] [] (.tup [.b true, .i .i64 0]) := by
  have := KnownNot_fn m w v l hl b
  rwa [known_not hr h, decide_eq_true hv] at this
set_option maxRecDepth 20000 in
set_option maxHeartbeats 16000000 in
theorem receiptHolds_fn (l : List Note) (b : Bool) (m w : Int) (p : Prof) : Ctr Try.prog 8 [.rs 5 l.length (rowsN l), .b b, .i .i64 m, .i .i64 w, .ag p.av] [] (.b true) := by
  refine fn_of_exec tabOk Try.func8 (by kernel_rfl) rfl (N := Try.f8.ntmps) rfl (res := [.tmp 10]) rfl rfl [] ?_
  repeat refine Or.inl ?_
  refine ⟨[], _, smallN_fn, ?_⟩
  repeat refine Or.inl ?_
  refine ⟨[], _, fun hg => Right_fn l (by
    have h := hg.1
    simp only [Bool.or_eq_false_iff, decide_eq_false_iff_not] at h
    omega) b, ?_⟩
  refine ⟨fun _ => RetIs.b rfl, fun h => ?_⟩
  have h : (((((((decide ((l.length : Int) > 14) || decide (m < 0)) || decide (m ≥ 100000)) || decide (w < 0)) || decide (w ≥ 2000)) || decide (p.lv < 0)) || decide (p.lv > 4)) || !Right l b) = false := h
  simp only [Bool.or_eq_false_iff, decide_eq_false_iff_not, Bool.not_eq_false'] at h
  obtain ⟨⟨⟨⟨⟨⟨⟨h1, h2⟩, h3⟩, h4⟩, h5⟩, h6⟩, h7⟩, hR⟩ := h
  have hl : l.length < 2 ^ 62 := by omega
  have hv := right_valid hR
  have r1 := Low_nonneg l b m w
  have r2 := right_low hR m w
  have r3 := High_le l m w
  have cB := Best_fn l hl b m w
  have eB : BestF l b m w = Low l b m w := if_pos hR
  rw [eB] at cB
  have eF : forward p.lv ⟨m, w, Low l b m w, 0, false⟩ = ⟨m, w, min (Low l b m w) p.lv, 0, false⟩ := forward_not rfl
  have cF := Forward_fn p ⟨m, w, Low l b m w, 0, false⟩
  rw [eF] at cF
  have k1 := known_at_yes (l := l) (b := b) (m := m) (w := w) (v := Low l b m w) hl hR ⟨by omega, by omega, by omega, by omega, by omega, by omega⟩ (Int.le_refl _)
  have k2 := known_at_yes (l := l) (b := b) (m := m) (w := w) (v := min (Low l b m w) p.lv) hl hR ⟨by omega, by omega, by omega, by omega, by omega, by omega⟩ (by omega)
  repeat refine Or.inl ?_
  refine ⟨[], _, cB, ?_⟩
  repeat refine Or.inl ?_
  refine ⟨fun h => ?_, fun _ => ?_⟩
  · have h : (decide (Low l b m w < 0) || decide (Low l b m w > 4)) = true := h
    rw [Bool.or_eq_true, decide_eq_true_eq, decide_eq_true_eq] at h
    omega
  repeat refine Or.inl ?_
  refine ⟨[], _, atom35_fn ⟨m, w, Low l b m w, 0, false⟩, ?_⟩
  repeat refine Or.inl ?_
  refine ⟨[], _, k1, ?_⟩
  repeat refine Or.inl ?_
  refine ⟨[], _, cF, ?_⟩
  repeat refine Or.inl ?_
  refine ⟨[], _, atom35_fn ⟨m, w, min (Low l b m w) p.lv, 0, false⟩, ?_⟩
  repeat refine Or.inl ?_
  refine ⟨[], _, k2, ?_⟩
  repeat refine Or.inl ?_
  refine ⟨[], _, fun _ => cF, ?_⟩
  refine ⟨fun h => ?_, fun _ => ?_⟩
  · have h : decide (min (Low l b m w) p.lv > p.lv) = true := h
    rw [decide_eq_true_eq] at h
    omega
  repeat refine Or.inl ?_
  refine ⟨[], Nat, fun k => k ≤ l.length, fun k => [⟨17, [], .i .i64 k⟩], fun _ => [], fun k => l.length - k,
    ⟨0, [], Nat.zero_le _, rfl, rfl, rfl, rfl, rfl, ⟨rfl, rfl⟩, trivial⟩, ?_⟩
  intro k hk
  have hk : k ≤ l.length := hk
  refine .inl ⟨fun hc => ?_, fun hc => ?_⟩
  · have hc := dlt hc
    have hc : (k : Int) < l.length := hc
    have ek : (k : Int).toNat = k := Int.toNat_natCast k
    have hm : l.getD (k : Int).toNat dN ∈ l := getD_memN (by omega)
    obtain ⟨o1, o2, o3, o4, o5, o6⟩ := note_ok hv hm
    have q1 := Low_nonneg l b (l.getD (k : Int).toNat dN).m (l.getD (k : Int).toNat dN).w
    have c := Forward_fn p (l.getD (k : Int).toNat dN)
    cases hn : (l.getD (k : Int).toNat dN).n
    · have q2 := low_at_note (b := b) hv hm hn
      have k3 := known_at_yes (l := l) (b := b) (m := (l.getD (k : Int).toNat dN).m) (w := (l.getD (k : Int).toNat dN).w) (v := min (l.getD (k : Int).toNat dN).l p.lv) hl hR ⟨o1, o2, o3, o4, by omega, by omega⟩ (by omega)
      rw [forward_not hn] at c
      repeat refine Or.inl ?_
      refine ⟨⟨by omega, by omega⟩, ?_⟩
      refine Or.inl ?_
      refine ⟨[], _, c, ?_⟩
      repeat refine Or.inl ?_
      refine ⟨[], _, atom35_fn _, ?_⟩
      repeat refine Or.inl ?_
      refine ⟨fun h => (by cases h), fun _ => ?_⟩
      repeat refine Or.inl ?_
      refine ⟨[], _, k3, ?_⟩
      repeat refine Or.inl ?_
      refine ⟨fun h => (by cases h), fun _ => ?_⟩
      exact ⟨k + 1, [], by dsimp only; omega, by dsimp only; omega, rfl, rfl, rfl, rfl, rfl, ⟨rfl, wr (by omega) (by omega)⟩, trivial⟩
    by_cases hbig : (l.getD (k : Int).toNat dN).l > p.lv
    · have k3 := known_at_yes (l := l) (b := b) (m := (l.getD (k : Int).toNat dN).m) (w := (l.getD (k : Int).toNat dN).w) (v := 0) hl hR ⟨o1, o2, o3, o4, by omega, by omega⟩ (by omega)
      rw [forward_big hn hbig] at c
      repeat refine Or.inl ?_
      refine ⟨⟨by omega, by omega⟩, ?_⟩
      refine Or.inl ?_
      refine ⟨[], _, c, ?_⟩
      repeat refine Or.inl ?_
      refine ⟨[], _, atom35_fn _, ?_⟩
      repeat refine Or.inl ?_
      refine ⟨fun h => (by cases h), fun _ => ?_⟩
      repeat refine Or.inl ?_
      refine ⟨[], _, k3, ?_⟩
      repeat refine Or.inl ?_
      refine ⟨fun h => (by cases h), fun _ => ?_⟩
      exact ⟨k + 1, [], by dsimp only; omega, by dsimp only; omega, rfl, rfl, rfl, rfl, rfl, ⟨rfl, wr (by omega) (by omega)⟩, trivial⟩
    · have q2 := high_at_note hv hm hn
      have k3 := known_not_yes (l := l) (b := b) (m := (l.getD (k : Int).toNat dN).m) (w := (l.getD (k : Int).toNat dN).w) (v := (l.getD (k : Int).toNat dN).l) hl hR ⟨o1, o2, o3, o4, by omega, by omega⟩ q2
      rw [forward_same hn hbig] at c
      repeat refine Or.inl ?_
      refine ⟨⟨by omega, by omega⟩, ?_⟩
      refine Or.inl ?_
      refine ⟨[], _, c, ?_⟩
      repeat refine Or.inl ?_
      refine ⟨[], _, atom35_fn _, ?_⟩
      repeat refine Or.inl ?_
      refine ⟨fun _ => ?_, fun h => ?_⟩
      rotate_left
      · have h : (l.getD (k : Int).toNat dN).n = false := h
        rw [hn] at h
        cases h
      repeat refine Or.inl ?_
      refine ⟨[], _, k3, ?_⟩
      repeat refine Or.inl ?_
      refine ⟨fun h => (by cases h), fun _ => ?_⟩
      exact ⟨k + 1, [], by dsimp only; omega, by dsimp only; omega, rfl, rfl, rfl, rfl, rfl, ⟨rfl, wr (by omega) (by omega)⟩, trivial⟩
  · repeat refine Or.inl ?_
    refine ⟨fun _ => RetIs.b rfl, fun h => ?_⟩
    have h : (Low l b m w == 4) = false := h
    rw [beq_eq_false_iff_ne] at h
    have e1 : IntKind.i64.wrap (Low l b m w + 1) = Low l b m w + 1 := wr (by omega) (by omega)
    have k4 := known_at_no (l := l) (b := b) (m := m) (w := w) (v := Low l b m w + 1) hl hR ⟨by omega, by omega, by omega, by omega, by omega, by omega⟩ (by omega)
    rw [← e1] at k4
    repeat refine Or.inl ?_
    refine ⟨[], _, atom35_fn ⟨m, w, IntKind.i64.wrap (Low l b m w + 1), 0, false⟩, ?_⟩
    repeat refine Or.inl ?_
    refine ⟨[], _, k4, ?_⟩
    exact RetIs.b rfl
end Go.Proofs.Ytnookbebiacaeaa
end
