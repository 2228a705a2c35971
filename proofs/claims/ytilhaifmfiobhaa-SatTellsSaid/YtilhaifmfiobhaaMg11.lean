/-
  Several texts in one: W12, W13, W14, W15, Eng14, EngO, O1.
-/
import Derived.ProofKit
import Derived.Deep.Slices
import Derived.Deep.Fields
import Derived.ChangeSame
import Derived.Test.YtilhaifmfiobhaaChecked
import Derived.Test.YtilhaifmfiobhaaMg10

section
/-
  First, Follows and Forced of the reference; Forced.
-/
namespace Go.Proofs.Ytilhaifmfiobhaa
open Go.Eng

theorem shl_one {n : Nat} (hn : n ≤ 20) : IntKind.i64.wrap (1 * 2 ^ (min (n : Int).toNat IntKind.i64.bits)) = ((2 ^ n : Nat) : Int) := by
  have h1 : min (n : Int).toNat IntKind.i64.bits = n := by
    rw [Int.toNat_natCast]
    exact Nat.min_eq_left (by show n ≤ 64; omega)
  have h2 : (2 : Nat) ^ n ≤ 2 ^ 20 := Nat.pow_le_pow_right (by decide) hn
  rw [h1, Int.one_mul]
  have h3 : (2 : Int) ^ n = ((2 ^ n : Nat) : Int) := by simp
  rw [h3]
  generalize 2 ^ n = q at h2 ⊢
  exact wr (by omega) (by omega)
theorem check_good {l : List Cl} {n : Nat} (h : RightP l n) {k : Nat} : checkB l n (after n k) = true ↔ Good l n [] (after n k) := by
  rw [checkB_iff, Int.toNat_natCast]
  exact ⟨fun h => h.2, fun g => ⟨h, g⟩⟩

set_option maxRecDepth 20000 in
set_option maxHeartbeats 1000000 in
theorem rFirst_fn (l : List Cl) (hl : l.length < 2^62) (n : Nat) (h : RightP l n) (hn : n ≤ 20) : Ctr Try.prog 33 [.rs 2 l.length (rowsC l), .i .i64 n] (firstO (firstL l n [])) (firstR (firstL l n [])) := by
  refine fn_of_exec tabOk Try.func33 (by kernel_rfl) rfl (N := Try.f33.ntmps) rfl (res := [.tmp 4, .tmp 5]) rfl rfl [] ?_
  have hs := shl_one hn
  have h2 : (2 : Nat) ^ n ≤ 2 ^ 20 := Nat.pow_le_pow_right (by decide) hn
  repeat refine Or.inl ?_
  refine ⟨[], Nat, fun k => k ≤ 2 ^ n ∧ ∀ j, j < k → ¬ Good l n [] (after n j), fun k => [⟨6, [], .i .i64 k⟩], fun _ => [], fun k => 2 ^ n - k,
    ⟨0, [], ⟨Nat.zero_le _, fun j hj => by omega⟩, rfl, rfl, rfl, rfl, rfl, ⟨rfl, rfl⟩, trivial⟩, ?_⟩
  rintro k ⟨hk, hno⟩
  refine .inl ⟨by omega, ⟨fun hc => ?_, fun hc => ?_⟩⟩
  · have hc := dlt hc
    rw [hs] at hc
    have hc : (k : Int) < ((2 ^ n : Nat) : Int) := hc
    repeat refine Or.inl ?_
    refine ⟨_, _, after_fn n k (by omega) (by omega), ?_⟩
    repeat refine Or.inl ?_
    refine ⟨[], _, rCheck_fn l hl n (after n k) (by rw [after_len]; omega), ?_⟩
    refine ⟨fun h3 => ?_, fun h3 => ?_⟩
    · have h3 : checkB l n (after n k) = true := h3
      have e : firstL l n [] = some (after n k) := first_of_least (by omega) ((check_good h).1 h3) hno
      rw [e]
      exact RetIs.sob rfl rfl (fun _ _ => rfl) (fun _ _ => rfl) rfl
    · have h3 : checkB l n (after n k) = false := h3
      refine ⟨k + 1, [], ⟨by omega, fun j hj => ?_⟩, by dsimp only; omega, rfl, rfl, rfl, rfl, rfl, ⟨rfl, wr (by omega) (by omega)⟩, trivial⟩
      by_cases hjk : j = k
      · subst hjk
        intro g
        rw [(check_good h).2 g] at h3
        cases h3
      · exact hno j (by omega)
  · have hc := dnlt hc
    rw [hs] at hc
    have hc : ((2 ^ n : Nat) : Int) ≤ (k : Int) := hc
    have e : firstL l n [] = none := none_of_all fun j hj => hno j (by omega)
    rw [e]
    exact ⟨⟨[], ⟨⟨⟨rfl, rfl, AVEq.refl _⟩, trivial⟩, trivial, rfl⟩, rfl, trivial⟩⟩

theorem any_upto_succ {α : Type} (d : α) (p : α → Bool) (l : List α) (k : Nat) (h : k < l.length) : (l.take (k + 1)).any p = ((l.take k).any p || p (l.getD k d)) := by
  rw [List.take_succ_eq_append_getElem h, List.any_append]
  simp [List.getD, h]
set_option maxRecDepth 20000 in
set_option maxHeartbeats 1000000 in
theorem rFollows_fn (l : List Cl) (hl : l.length < 2^62) (n : Int) (hn : rightB l n = true → n ≤ 20) (lits : List Int) (hll : lits.length < 2^62) :
    Ctr Try.prog 32 [.rs 2 l.length (rowsC l), .i .i64 n, .rs 1 lits.length (rowsI lits)] [] (.b (followsB l n lits)) := by
  refine fn_of_exec tabOk Try.func32 (by kernel_rfl) rfl (N := Try.f32.ntmps) rfl (res := [.tmp 6]) rfl rfl [] ?_
  repeat refine Or.inl ?_
  refine ⟨[], _, rRight_fn l hl n, ?_⟩
  repeat refine Or.inl ?_
  refine ⟨fun h => ?_, fun h => ?_⟩
  · have h : (!rightB l n) = true := h
    refine RetIs.b ?_
    unfold followsB
    rw [show rightB l n = false by simpa using h]
    rfl
  have h : (!rightB l n) = false := h
  have hrt : rightB l n = true := by simpa using h
  have hR := rightB_iff.1 hrt
  have hn := hn hrt
  obtain ⟨m, rfl⟩ := Int.eq_ofNat_of_zero_le hR.lo
  have hs := shl_one (n := m) (by omega)
  have hm20 : (2 : Nat) ^ m ≤ 2 ^ 20 := Nat.pow_le_pow_right (by decide) (by omega)
  have w2 : IntKind.i64.wrap (2 * (m : Int)) = 2 * m := wr (by omega) (by omega)
  repeat refine Or.inl ?_
  refine ⟨[], Nat, fun k => k ≤ lits.length ∧ ∀ j, j < k → 0 ≤ lits.getD j 0 ∧ lits.getD j 0 < 2 * (m : Int), fun k => [⟨7, [], .i .i64 k⟩], fun _ => [], fun k => lits.length - k,
    ⟨0, [], ⟨Nat.zero_le _, fun j hj => by omega⟩, rfl, rfl, rfl, rfl, rfl, ⟨rfl, rfl⟩, trivial⟩, ?_⟩
  rintro k ⟨hk, hok⟩
  refine .inl ⟨fun hc => ?_, fun hc => ?_⟩
  · have hc := dlt hc
    have ek : (k : Int).toNat = k := Int.toNat_natCast k
    repeat refine Or.inl ?_
    refine ⟨⟨by omega, by omega⟩, fun _ => ⟨by omega, by omega⟩, ⟨fun h2 => RetIs.b ?_, fun h2 => ?_⟩⟩
    · have h2 : (decide (lits.getD (k : Int).toNat 0 < 0) || decide (lits.getD (k : Int).toNat 0 ≥ IntKind.i64.wrap (2 * (m : Int)))) = true := h2
      rw [ek, w2, Bool.or_eq_true, decide_eq_true_eq, decide_eq_true_eq] at h2
      have e : okLits m lits = false := not_all 0 (j := k) (by omega) (by rw [Bool.and_eq_false_iff, decide_eq_false_iff_not, decide_eq_false_iff_not]; omega)
      unfold followsB
      rw [e, Bool.false_and, Bool.and_false]
    have h2 : (decide (lits.getD (k : Int).toNat 0 < 0) || decide (lits.getD (k : Int).toNat 0 ≥ IntKind.i64.wrap (2 * (m : Int)))) = false := h2
    rw [ek, w2, Bool.or_eq_false_iff, decide_eq_false_iff_not, decide_eq_false_iff_not] at h2
    refine ⟨k + 1, [], ⟨by omega, fun j hj => ?_⟩, by dsimp only; omega, rfl, rfl, rfl, rfl, rfl, ⟨rfl, wr (by omega) (by omega)⟩, trivial⟩
    by_cases h : j = k
    · subst h
      omega
    · exact hok j (by omega)
  have hc := dnlt hc
  have hin : ∀ x ∈ lits, 0 ≤ x ∧ x < 2 * (m : Int) := fun x hx => by
    obtain ⟨j, hj, rfl⟩ := mem_getDX hx
    exact hok j (by omega)
  repeat refine Or.inl ?_
  refine ⟨[], Nat, fun k => k ≤ 2 ^ m ∧ ∀ j, j < k → Good l m [] (after m j) → ∃ x ∈ lits, tv (after m j) x = true, fun k => [⟨8, [], .i .i64 k⟩], fun _ => [], fun k => 2 ^ m - k,
    ⟨0, [], ⟨Nat.zero_le _, fun j hj => by omega⟩, rfl, rfl, rfl, rfl, rfl, ⟨rfl, rfl⟩, trivial⟩, ?_⟩
  rintro k ⟨hk, hno⟩
  refine .inl ⟨by omega, ⟨fun hc => ?_, fun hc => ?_⟩⟩
  · have hc := dlt hc
    rw [hs] at hc
    have hc : (k : Int) < ((2 ^ m : Nat) : Int) := hc
    have hal := after_len m k
    repeat refine Or.inl ?_
    refine ⟨_, _, after_fn m k (by omega) (by omega), ?_⟩
    repeat refine Or.inl ?_
    refine ⟨[], _, rCheck_fn l hl m (after m k) (by rw [after_len]; omega), ?_⟩
    repeat refine Or.inl ?_
    refine ⟨[], Nat, fun i => i ≤ lits.length, fun i => [⟨11, [], .i .i64 i⟩, ⟨10, [], .b (!checkB l m (after m k) || (lits.take i).any (tv (after m k)))⟩], fun _ => [], fun i => lits.length - i,
      ⟨0, [], Nat.zero_le _, rfl, rfl, rfl, rfl, rfl, ⟨⟨rfl, rfl⟩, show (!checkB l m (after m k)) = (!checkB l m (after m k) || (lits.take 0).any (tv (after m k))) from by simp⟩, trivial⟩, ?_⟩
    intro i hi
    have hi : i ≤ lits.length := hi
    refine .inl ⟨fun hc2 => ?_, fun hc2 => ?_⟩
    · have hc2 := dlt hc2
      have hx := hin _ (getD_memX (l := lits) (k := (i : Int).toNat) (by omega))
      repeat refine Or.inl ?_
      refine ⟨fun _ => ⟨by omega, by omega⟩, ?_⟩
      repeat refine Or.inl ?_
      refine ⟨[], _, fun _ => rTrue_fn (after m k) (by omega) _ hx.1 (by omega), ?_⟩
      refine ⟨i + 1, [], by omega, by dsimp only; omega, rfl, rfl, rfl, rfl, rfl, ⟨⟨rfl, wr (by omega) (by omega)⟩, ?_⟩, trivial⟩
      rw [any_upto_succ 0 _ _ _ (by omega), ← Bool.or_assoc]
      rfl
    · have hc2 := dnlt hc2
      have e : lits.take i = lits := List.take_of_length_le (by omega)
      rw [e]
      repeat refine Or.inl ?_
      refine ⟨fun h3 => RetIs.b ?_, fun h3 => ?_⟩
      · have h3 : (!(!checkB l m (after m k) || lits.any (tv (after m k)))) = true := h3
        rw [Bool.not_eq_true', Bool.or_eq_false_iff, Bool.not_eq_false', List.any_eq_false] at h3
        symm
        rw [Bool.eq_false_iff]
        intro hf
        obtain ⟨x, hx, ht⟩ := (followsB_iff.1 hf).2.2 (after m k) ((check_good hR).1 h3.1)
        exact h3.2 x hx ht
      · have h3 : (!(!checkB l m (after m k) || lits.any (tv (after m k)))) = false := h3
        rw [Bool.not_eq_false', Bool.or_eq_true, Bool.not_eq_true'] at h3
        refine ⟨k + 1, [], ⟨by omega, fun j hj g => ?_⟩, by dsimp only; omega, rfl, rfl, rfl, rfl, rfl, ⟨rfl, wr (by omega) (by omega)⟩, trivial⟩
        by_cases hjk : j = k
        · subst hjk
          rcases h3 with h3 | h3
          · rw [(check_good hR).2 g] at h3
            cases h3
          · exact List.any_eq_true.1 h3
        · exact hno j (by omega) g
  · have hc := dnlt hc
    rw [hs] at hc
    have hc : ((2 ^ m : Nat) : Int) ≤ (k : Int) := hc
    refine RetIs.b ?_
    symm
    rw [followsB_iff]
    refine ⟨hR, hin, fun vals g => ?_⟩
    rw [Int.toNat_natCast] at g
    obtain ⟨e1, e2⟩ := after_num m vals g.len
    rw [← e1] at g ⊢
    exact hno _ (by omega) g
theorem rFollows_one (l : List Cl) (hl : l.length < 2^62) (n : Int) (hn : rightB l n = true → n ≤ 20) (x x' : Int) (e : x' = x) :
    Ctr Try.prog 32 [.rs 2 l.length (rowsC l), .i .i64 n, .rs 1 1 (rowOf 1 [.i .i64 x'])] [] (.b (followsB l n [x])) := by
  subst e
  refine Ctr.of_eq (args := [.rs 2 l.length (rowsC l), .i .i64 n, .rs 1 1 (rowsI [x'])]) ⟨AVEq.refl _, AVEq.refl _, ⟨rfl, rfl, fun k hk => ?_⟩⟩ (rFollows_fn l hl n hn [x'] (by simp))
  obtain rfl : k = 0 := by
    have : k < 1 := hk
    omega
  rfl
theorem Follows_one (l : List Cl) (hl : l.length < 2^62) (n : Int) (x x' : Int) (e : x' = x) :
    Ctr Try.prog 23 [.rs 2 l.length (rowsC l), .i .i64 n, .rs 1 1 (rowOf 1 [.i .i64 x'])] [] (.b (followsB l n [x])) := by
  subst e
  refine Ctr.of_eq (args := [.rs 2 l.length (rowsC l), .i .i64 n, .rs 1 1 (rowsI [x'])]) ⟨AVEq.refl _, AVEq.refl _, ⟨rfl, rfl, fun k hk => ?_⟩⟩ (Follows_fn l hl n [x'] (by simp))
  obtain rfl : k = 0 := by
    have : k < 1 := hk
    omega
  rfl
theorem first_one (l : List Cl) (n : Nat) (hr : RightC n l) (hn : n ≤ 400) (hl : l.length ≤ 4000) (x x' : Int) (e : x' = x) (hx : 0 ≤ x ∧ x < 2 * (n : Int)) :
    Ctr Try.prog 72 [gM l, .i .i64 n, .rs 1 1 (rowOf 1 [.i .i64 x'])] (firstO (firstL l n [x])) (firstR (firstL l n [x])) := by
  subst e
  refine Ctr.of_eq (args := [gM l, .i .i64 n, .rs 1 1 (rowsI [x'])]) ⟨AVEq.refl _, AVEq.refl _, ⟨rfl, rfl, fun k hk => ?_⟩⟩ (first_fn l n hr hn hl [x'] (fun y hy => by rw [List.mem_singleton.1 hy]; exact hx) (by simp))
  obtain rfl : k = 0 := by
    have : k < 1 := hk
    omega
  rfl

def okO (y : List Int × Int) : List AO := if y.2 = 0 then [.row 3 1 y.1.length (rowsI y.1)] else []
def okR (y : List Int × Int) : AV := .tup [if y.2 = 0 then .so 0 else .val (.slice none 0 0), .i .i64 y.2]
theorem forcedY_bad {l : List Cl} {n : Int} (h : rightB l n = false) : forcedY l n = ([], 1) := by
  unfold forcedY
  rw [h]
  rfl
theorem forcedY_uns {l : List Cl} {n : Int} (h : rightB l n = true) (e : firstL l n.toNat [] = none) : forcedY l n = ([], 17) := by
  unfold forcedY
  rw [h, e]
  rfl
theorem forcedY_sat {l : List Cl} {n : Int} {vs : List Bool} (h : rightB l n = true) (e : firstL l n.toNat [] = some vs) : forcedY l n = (forcedL l n.toNat vs, 0) := by
  unfold forcedY
  rw [h, e]
  rfl
theorem RetIs.so_i {k : IntKind} {c : Int} {e sz n n' : Nat} {get get' : Nat → List AV} {id nid : Nat} {O : List OE} (hg : getO id O = some ([], .row e sz n' get')) (hn : n' = n) (hget : ∀ k, k < n → get' k = get k) (hf : ∀ k, k < n → AV.freshs (get k) = true) :
    RetIs [.row e sz n get] (.tup [.so 0, .i k c]) (.tup [.so id, .i k c]) O nid := by
  subst hn
  refine ⟨[(0, id)], ⟨⟨⟨rfl, rfl, ?_⟩, trivial⟩, ⟨⟨rfl, rfl, trivial, ?_⟩, trivial⟩, rfl⟩, rfl, hf⟩
  · exact rfl
  · show (match AO.row e sz n' get, getO id O with
      | .dead, _ => True
      | o, some ([], o') => AOEq (o.ren (rn [(0, id)])) o'
      | _, _ => False)
    rw [hg]
    exact ⟨rfl, rfl, rfl, hget⟩
/-- The values forced of the first variables. -/
def forcedT (l : List Cl) (n : Nat) (vs : List Bool) (k : Nat) : List Int := (List.range k).map (forcedAt l n vs)
theorem forcedT_succ (l : List Cl) (n : Nat) (vs : List Bool) (k : Nat) : forcedT l n vs (k + 1) = forcedT l n vs k ++ [forcedAt l n vs k] := by
  unfold forcedT
  rw [List.range_succ, List.map_append]
  rfl
theorem forcedT_len (l : List Cl) (n : Nat) (vs : List Bool) (k : Nat) : (forcedT l n vs k).length = k := by simp [forcedT]

set_option maxRecDepth 20000 in
set_option maxHeartbeats 4000000 in
theorem rForced_fn (l : List Cl) (hl : l.length < 2^62) (n : Int) (hn : rightB l n = true → n ≤ 20) : Ctr Try.prog 34 [.rs 2 l.length (rowsC l), .i .i64 n] (okO (forcedY l n)) (okR (forcedY l n)) := by
  refine fn_of_exec tabOk Try.func34 (by kernel_rfl) rfl (N := Try.f34.ntmps) rfl (res := [.tmp 4, .tmp 5]) rfl rfl [] ?_
  repeat refine Or.inl ?_
  refine ⟨[], _, rRight_fn l hl n, ?_⟩
  repeat refine Or.inl ?_
  refine ⟨fun h => ?_, fun h => ?_⟩
  · have h : (!rightB l n) = true := h
    rw [forcedY_bad (show rightB l n = false by simpa using h)]
    exact ⟨⟨[], ⟨⟨⟨rfl, rfl, AVEq.refl _⟩, trivial⟩, trivial, rfl⟩, rfl, trivial⟩⟩
  have h : (!rightB l n) = false := h
  have hrt : rightB l n = true := by simpa using h
  have hR := rightB_iff.1 hrt
  have hn2 := hn hrt
  obtain ⟨m, rfl⟩ := Int.eq_ofNat_of_zero_le hR.lo
  have cf := rFirst_fn l hl m hR (by omega)
  cases e : firstL l m [] with
  | none =>
    rw [e] at cf
    repeat refine Or.inl ?_
    refine ⟨_, _, cf, ?_⟩
    repeat refine Or.inl ?_
    repeat refine Or.inl ?_
    refine ⟨fun _ => ?_, fun h => (by cases h)⟩
    rw [forcedY_uns hrt e]
    exact ⟨⟨[], ⟨⟨⟨rfl, rfl, AVEq.refl _⟩, trivial⟩, trivial, rfl⟩, rfl, trivial⟩⟩
  | some vs =>
    rw [e] at cf
    repeat refine Or.inl ?_
    refine ⟨_, _, cf, ?_⟩
    repeat refine Or.inl ?_
    refine ⟨fun h => (by cases h), fun _ => ?_⟩
    rw [forcedY_sat hrt e]
    have hvl : vs.length = m := (firstL_some.1 e).good.len
    repeat refine Or.inl ?_
    refine ⟨[(8, 3, 1)], Nat, fun k => k ≤ m, fun k => [⟨9, [], .i .i64 k⟩, ⟨8, [], .so 1⟩], fun k => [⟨1, [], .row 3 1 (forcedT l m vs k).length (rowsI (forcedT l m vs k))⟩], fun k => m - k,
      ⟨0, [], Nat.zero_le _, rfl, rfl, rfl, rfl, rfl, ⟨⟨rfl, rfl⟩, rfl⟩, ⟨rfl, rfl, rfl, fun j hj => by cases hj⟩⟩, ?_⟩
    intro k hk
    have hk : k ≤ m := hk
    refine .inl ⟨fun hc => ?_, fun hc => ?_⟩
    · have hc := dlt hc
      have hc : (k : Int) < m := hc
      have w2 : IntKind.i64.wrap (2 * (k : Int)) = 2 * k := wr (by omega) (by omega)
      have w3 : IntKind.i64.wrap (IntKind.i64.wrap (2 * (k : Int)) + 1) = 2 * k + 1 := by rw [w2]; exact wr (by omega) (by omega)
      have fy := forced_yes (v := k) hR hc e
      have fo := forced_no (v := k) hR hc e
      rw [Int.toNat_natCast] at fy fo
      have fr := forced_rng (l := l) (n := m) (v := k) e
      rw [Int.toNat_natCast] at fr
      have hln := forcedT_len l m vs k
      repeat refine Or.inl ?_
      refine ⟨[], _, rFollows_one l hl m hn (2 * (k : Int)) _ w2, ?_⟩
      repeat refine Or.inl ?_
      refine ⟨fun h2 => ?_, fun h2 => ?_⟩
      · have h2 : followsB l m [2 * (k : Int)] = true := h2
        rw [fy, decide_eq_true_eq] at h2
        refine ⟨fits (by omega), ?_⟩
        refine ⟨k + 1, [(1, 4)], by dsimp only; omega, by dsimp only; omega, rfl, rfl, rfl, rfl, rfl, ⟨⟨rfl, wr (by omega) (by omega)⟩, rfl⟩, snocZ_row _ _ ?_⟩
        rw [forcedT_succ, h2]
      have h2 : followsB l m [2 * (k : Int)] = false := h2
      rw [fy, decide_eq_false_iff_not] at h2
      repeat refine Or.inl ?_
      refine ⟨[], _, rFollows_one l hl m hn (2 * (k : Int) + 1) _ w3, ?_⟩
      repeat refine Or.inl ?_
      refine ⟨fun h3 => ?_, fun h3 => ?_⟩
      · have h3 : followsB l m [2 * (k : Int) + 1] = true := h3
        rw [fo, decide_eq_true_eq] at h3
        refine ⟨fits (by omega), ?_⟩
        refine ⟨k + 1, [(1, 5)], by dsimp only; omega, by dsimp only; omega, rfl, rfl, rfl, rfl, rfl, ⟨⟨rfl, wr (by omega) (by omega)⟩, rfl⟩, snocZ_row _ _ ?_⟩
        rw [forcedT_succ, h3]
      · have h3 : followsB l m [2 * (k : Int) + 1] = false := h3
        rw [fo, decide_eq_false_iff_not] at h3
        refine ⟨fits (by omega), ?_⟩
        refine ⟨k + 1, [(1, 5)], by dsimp only; omega, by dsimp only; omega, rfl, rfl, rfl, rfl, rfl, ⟨⟨rfl, wr (by omega) (by omega)⟩, rfl⟩, snocZ_row _ _ ?_⟩
        rw [forcedT_succ, show forcedAt l m vs k = -1 by omega]
    · have hc := dnlt hc
      have hc : (m : Int) ≤ k := hc
      obtain rfl : k = m := by omega
      have e2 : forcedL l (k : Int).toNat vs = forcedT l k vs k := by unfold forcedL forcedT; rw [Int.toNat_natCast, hvl]
      rw [e2]
      exact RetIs.so_i rfl rfl (fun _ _ => rfl) (fun _ _ => rfl)

set_option maxRecDepth 20000 in
set_option maxHeartbeats 4000000 in
theorem Forced_fn (l : List Cl) (hl : l.length < 2^62) (n : Int) : Ctr Try.prog 25 [.rs 2 l.length (rowsC l), .i .i64 n] (okO (forcedY l n)) (okR (forcedY l n)) := by
  refine fn_of_exec tabOk Try.func25 (by kernel_rfl) rfl (N := Try.f25.ntmps) rfl (res := [.tmp 4, .tmp 5]) rfl rfl [] ?_
  refine (.inr (.inr ⟨false, [], rfl, _, _, _, _, _, Solve_fn l hl n, fun y hy => ?_⟩))
  cases y with
  | bad =>
    have hy : rightB l n = false := hy
    repeat refine Or.inl ?_
    refine ⟨fun _ => ?_, fun h => (by cases h)⟩
    rw [forcedY_bad hy]
    exact ⟨⟨[], ⟨⟨⟨rfl, rfl, AVEq.refl _⟩, trivial⟩, trivial, rfl⟩, rfl, trivial⟩⟩
  | uns c =>
    obtain ⟨hrt, e, _⟩ := hy
    repeat refine Or.inl ?_
    refine ⟨fun _ => ?_, fun h => (by cases h)⟩
    rw [forcedY_uns hrt e]
    exact ⟨⟨[], ⟨⟨⟨rfl, rfl, AVEq.refl _⟩, trivial⟩, trivial, rfl⟩, rfl, trivial⟩⟩
  | sat vs =>
    obtain ⟨hrt, e⟩ := hy
    repeat refine Or.inl ?_
    refine ⟨fun h => (by cases h), fun _ => ?_⟩
    rw [forcedY_sat hrt e]
    have hR := rightB_iff.1 hrt
    obtain ⟨m, rfl⟩ := Int.eq_ofNat_of_zero_le hR.lo
    rw [Int.toNat_natCast] at e ⊢
    have hr : RightC (m : Nat) l := hR.cl
    have hm : m ≤ 400 := by have := hR.hi; omega
    have hr4 : RightC 400 l := fun c hc => by
      have := hr c hc
      omega
    have hvl : vs.length = m := (firstL_some.1 e).good.len
    repeat refine Or.inl ?_
    refine ⟨_, _, graph_fn l hr4 hR.len, ?_⟩
    repeat refine Or.inl ?_
    refine ⟨[(10, 3, 1)], Nat, fun k => k ≤ m, fun k => [⟨31, [], .i .i64 k⟩, ⟨10, [], .so 1⟩], fun k => [⟨1, [], .row 3 1 (forcedT l m vs k).length (rowsI (forcedT l m vs k))⟩], fun k => m - k,
      ⟨0, [], Nat.zero_le _, rfl, rfl, rfl, rfl, rfl, ⟨⟨rfl, rfl⟩, rfl⟩, ⟨rfl, rfl, rfl, fun j hj => by cases hj⟩⟩, ?_⟩
    intro k hk
    have hk : k ≤ m := hk
    refine .inl ⟨fun hc => ?_, fun hc => ?_⟩
    · have hc := dlt hc
      have hc : (k : Int) < vs.length := hc
      rw [hvl] at hc
      have ek : (k : Int).toNat = k := Int.toNat_natCast k
      have w2 : IntKind.i64.wrap (2 * (k : Int)) = 2 * k := wr (by omega) (by omega)
      have w3 : IntKind.i64.wrap (IntKind.i64.wrap (2 * (k : Int)) + 1) = 2 * k + 1 := by rw [w2]; exact wr (by omega) (by omega)
      have o2 : bitsI .xor .i64 (IntKind.i64.wrap (2 * (k : Int))) 1 = 2 * k + 1 := by rw [w2, bits_opp (by omega) (by omega), opp_even]
      have o3 : bitsI .xor .i64 (IntKind.i64.wrap (IntKind.i64.wrap (2 * (k : Int)) + 1)) 1 = 2 * k := by rw [w3, bits_opp (by omega) (by omega), opp_odd]
      have hln := forcedT_len l m vs k
      repeat refine Or.inl ?_
      refine ⟨⟨by omega, by omega⟩, by omega, ?_⟩
      repeat refine Or.inl ?_
      refine ⟨fun h2 => ?_, fun h2 => ?_⟩
      · have h2 : vs.getD (k : Int).toNat false = true := h2
        rw [ek] at h2
        have ef := forcedAt_t (l := l) (n := m) (v := k) h2
        have cf := first_one l m hr hm hR.len (2 * (k : Int) + 1) _ o2 (by omega)
        cases e3 : firstL l m [2 * (k : Int) + 1] with
        | some us =>
          rw [e3] at cf ef
          repeat refine Or.inl ?_
          refine ⟨_, _, cf, ?_⟩
          repeat refine Or.inl ?_
          refine ⟨fun _ => ?_, fun h => (by cases h)⟩
          refine ⟨fits (by omega), ?_⟩
          refine ⟨k + 1, [(1, 5)], by dsimp only; omega, by dsimp only; omega, rfl, rfl, rfl, rfl, rfl, ⟨⟨rfl, wr (by omega) (by omega)⟩, rfl⟩, snocZ_row _ _ ?_⟩
          rw [forcedT_succ, ef]
          rfl
        | none =>
          rw [e3] at cf ef
          repeat refine Or.inl ?_
          refine ⟨_, _, cf, ?_⟩
          repeat refine Or.inl ?_
          refine ⟨fun h => (by cases h), fun _ => ?_⟩
          refine ⟨fits (by omega), ?_⟩
          refine ⟨k + 1, [(1, 4)], by dsimp only; omega, by dsimp only; omega, rfl, rfl, rfl, rfl, rfl, ⟨⟨rfl, wr (by omega) (by omega)⟩, rfl⟩, snocZ_row _ _ ?_⟩
          rw [forcedT_succ, ef]
          rfl
      · have h2 : vs.getD (k : Int).toNat false = false := h2
        rw [ek] at h2
        have ef := forcedAt_f (l := l) (n := m) (v := k) h2
        have cf := first_one l m hr hm hR.len (2 * (k : Int)) _ o3 (by omega)
        cases e3 : firstL l m [2 * (k : Int)] with
        | some us =>
          rw [e3] at cf ef
          repeat refine Or.inl ?_
          refine ⟨_, _, cf, ?_⟩
          repeat refine Or.inl ?_
          refine ⟨fun _ => ?_, fun h => (by cases h)⟩
          refine ⟨fits (by omega), ?_⟩
          refine ⟨k + 1, [(1, 5)], by dsimp only; omega, by dsimp only; omega, rfl, rfl, rfl, rfl, rfl, ⟨⟨rfl, wr (by omega) (by omega)⟩, rfl⟩, snocZ_row _ _ ?_⟩
          rw [forcedT_succ, ef]
          rfl
        | none =>
          rw [e3] at cf ef
          repeat refine Or.inl ?_
          refine ⟨_, _, cf, ?_⟩
          repeat refine Or.inl ?_
          refine ⟨fun h => (by cases h), fun _ => ?_⟩
          refine ⟨fits (by omega), ?_⟩
          refine ⟨k + 1, [(1, 4)], by dsimp only; omega, by dsimp only; omega, rfl, rfl, rfl, rfl, rfl, ⟨⟨rfl, wr (by omega) (by omega)⟩, rfl⟩, snocZ_row _ _ ?_⟩
          rw [forcedT_succ, ef]
          rfl
    · have hc := dnlt hc
      have hc : (vs.length : Int) ≤ k := hc
      obtain rfl : k = m := by omega
      have e2 : forcedL l k vs = forcedT l k vs k := by unfold forcedL forcedT; rw [hvl]
      rw [e2]
      exact RetIs.so_i rfl rfl (fun _ _ => rfl) (fun _ _ => rfl)
end Go.Proofs.Ytilhaifmfiobhaa
end

section
/-
  Refute, and that of the reference.
-/
namespace Go.Proofs.Ytilhaifmfiobhaa
open Go.Eng

theorem stepB_false {l : List Cl} {n : Int} {c : List Int} {j : Nat} (hj : j < c.length) (h : stepB l n c j = false) : refB l n c = false := by
  rw [Bool.eq_false_iff]
  intro hf
  have := refB_iff.1 hf
  unfold stepB at h
  have h1 := this.rng j hj
  have h2 := this.ed j hj
  unfold Ed at h2
  rw [decide_eq_true h1.1, decide_eq_true h1.2, decide_eq_true h2] at h
  cases h
theorem refB_none {l : List Cl} {n : Int} {c : List Int} (h : ¬ ((1 ≤ c.length) ∧ (c.length : Int) ≤ 4 * n)) : refB l n c = false := by
  rw [Bool.eq_false_iff]
  intro hf
  have := refB_iff.1 hf
  exact h ⟨this.one, this.len⟩
theorem refB_both {l : List Cl} {n : Int} {c : List Int} (h1 : 1 ≤ c.length) (h2 : (c.length : Int) ≤ 4 * n) (h3 : ∀ j, j < c.length → stepB l n c j = true) : refB l n c = c.any fun x => hasN c (opp x) := by
  have e : ((List.range c.length).any fun i => decide (opp (c.getD i 0) ∈ c)) = c.any fun x => hasN c (opp x) := by
    rw [Bool.eq_iff_iff, List.any_eq_true, List.any_eq_true]
    constructor
    · rintro ⟨i, hi, h⟩
      exact ⟨_, getD_memX (List.mem_range.1 hi), hasN_iff.2 (of_decide_eq_true h)⟩
    · rintro ⟨x, hx, h⟩
      obtain ⟨i, hi, rfl⟩ := mem_getDX hx
      exact ⟨i, List.mem_range.2 hi, decide_eq_true (hasN_iff.1 h)⟩
  unfold refB
  rw [decide_eq_true h1, decide_eq_true h2, e, show (List.range c.length).all (stepB l n c) = true from List.all_eq_true.2 fun i hi => h3 i (List.mem_range.1 hi)]
  rfl
theorem stepB_iff {l : List Cl} {n : Int} {c : List Int} {j : Nat} : stepB l n c j = true ↔ (0 ≤ c.getD j 0 ∧ c.getD j 0 < 2 * n) ∧ hasN (succL l (c.getD j 0)) (c.getD ((j + 1) % c.length) 0) = true := by
  unfold stepB
  rw [Bool.and_eq_true, Bool.and_eq_true, decide_eq_true_eq, decide_eq_true_eq, decide_eq_true_eq, hasN_iff]
theorem next_at {k n : Nat} (hk : k < n) (hn : n < 2 ^ 61) : (IntKind.i64.wrap ((k : Int) + 1)).tmod n = (((k + 1) % n : Nat) : Int) := by
  rw [wr (by omega) (by omega), Int.tmod_eq_emod_of_nonneg (by omega)]
  exact (Int.natCast_emod (k + 1) n).symm

set_option maxRecDepth 20000 in
set_option maxHeartbeats 4000000 in
theorem Refute_fn (l : List Cl) (hl : l.length < 2^62) (n : Int) (c : List Int) (hcl : c.length < 2 ^ 60) :
    Ctr Try.prog 30 [.rs 2 l.length (rowsC l), .i .i64 n, .rs 1 c.length (rowsI c)] [] (.b (rightB l n && refB l n c)) := by
  refine fn_of_exec tabOk Try.func30 (by kernel_rfl) rfl (N := Try.f30.ntmps) rfl (res := [.tmp 6]) rfl rfl [] ?_
  repeat refine Or.inl ?_
  refine ⟨[], _, Right_fn l hl n, ?_⟩
  repeat refine Or.inl ?_
  refine ⟨fun h => RetIs.b ?_, fun h => ?_⟩
  · have h : ((!rightB l n || ((c.length : Int) == 0)) || decide ((c.length : Int) > IntKind.i64.wrap (4 * n))) = true := h
    cases hrt : rightB l n with
    | false => rfl
    | true =>
      have hR := rightB_iff.1 hrt
      have h1 := hR.lo
      have h2 := hR.hi
      rw [hrt, wr (by omega) (by omega)] at h
      simp only [Bool.not_true, Bool.false_or, Bool.or_eq_true, beq_iff_eq, decide_eq_true_eq] at h
      rw [refB_none (by omega)]
      rfl
  have h : ((!rightB l n || ((c.length : Int) == 0)) || decide ((c.length : Int) > IntKind.i64.wrap (4 * n))) = false := h
  rw [Bool.or_eq_false_iff, Bool.or_eq_false_iff, Bool.not_eq_false'] at h
  obtain ⟨⟨hrt, h0⟩, h4⟩ := h
  have hR := rightB_iff.1 hrt
  obtain ⟨m, rfl⟩ := Int.eq_ofNat_of_zero_le hR.lo
  have hm : m ≤ 400 := by have := hR.hi; omega
  have hr : RightC (m : Nat) l := hR.cl
  have hr4 : RightC 400 l := fun c hc => by
    have := hr c hc
    omega
  have w4 : IntKind.i64.wrap (4 * (m : Int)) = 4 * m := wr (by omega) (by omega)
  have w2 : IntKind.i64.wrap (2 * (m : Int)) = 2 * m := wr (by omega) (by omega)
  rw [w4, decide_eq_false_iff_not] at h4
  rw [beq_eq_false_iff_ne] at h0
  rw [hrt, Bool.true_and]
  repeat refine Or.inl ?_
  refine ⟨_, _, graph_fn l hr4 hR.len, ?_⟩
  repeat refine Or.inl ?_
  refine ⟨[], Nat, fun k => k ≤ c.length ∧ ∀ j, j < k → stepB l m c j = true, fun k => [⟨31, [], .i .i64 k⟩, ⟨8, [], .b ((c.take k).any fun x => hasN c (opp x))⟩], fun _ => [], fun k => c.length - k,
    ⟨0, [], ⟨Nat.zero_le _, fun j hj => by omega⟩, rfl, rfl, rfl, rfl, rfl, ⟨⟨rfl, rfl⟩, show false = (c.take 0).any _ from by simp⟩, trivial⟩, ?_⟩
  rintro k ⟨hk, hno⟩
  refine .inl ⟨fun hc => ?_, fun hc => ?_⟩
  · have hc := dlt hc
    have hc : (k : Int) < c.length := hc
    have ek : (k : Int).toNat = k := Int.toNat_natCast k
    have en := next_at (k := k) (n := c.length) (by omega) (by omega)
    have enn : ((((k + 1) % c.length : Nat) : Int)).toNat = (k + 1) % c.length := Int.toNat_natCast _
    have hlt : (k + 1) % c.length < c.length := Nat.mod_lt _ (by omega)
    have hsl := succL_len l (c.getD (k : Int).toNat 0)
    have hll := hR.len
    repeat refine Or.inl ?_
    refine ⟨⟨by omega, by omega⟩, ?_⟩
    repeat refine Or.inl ?_
    refine ⟨_, _, ⟨fun _ => ⟨fun _ _ => rfl, rfl, lookOk_g l (c.getD (k : Int).toNat 0)⟩, ?_⟩⟩
    refine ⟨fun _ => by show (c.length : Int) ≠ 0; omega, fun _ => ⟨by rw [en]; omega, by rw [en]; omega⟩, ?_⟩
    repeat refine Or.inl ?_
    refine ⟨[], _, fun _ => contains_fn (succL l (c.getD (k : Int).toNat 0)) (by omega) _, ?_⟩
    repeat refine Or.inl ?_
    refine ⟨fun h3 => RetIs.b ?_, fun h3 => ?_⟩
    · have h3 : ((decide (c.getD (k : Int).toNat 0 < 0) || decide (c.getD (k : Int).toNat 0 ≥ IntKind.i64.wrap (2 * (m : Int)))) || !hasN (succL l (c.getD (k : Int).toNat 0)) (c.getD ((IntKind.i64.wrap ((k : Int) + 1)).tmod c.length).toNat 0)) = true := h3
      rw [en, enn, ek, w2] at h3
      symm
      refine stepB_false (j := k) (by omega) ?_
      rw [Bool.eq_false_iff]
      intro hf
      have := stepB_iff.1 hf
      rw [this.2, decide_eq_false (by omega), decide_eq_false (by omega)] at h3
      cases h3
    have h3 : ((decide (c.getD (k : Int).toNat 0 < 0) || decide (c.getD (k : Int).toNat 0 ≥ IntKind.i64.wrap (2 * (m : Int)))) || !hasN (succL l (c.getD (k : Int).toNat 0)) (c.getD ((IntKind.i64.wrap ((k : Int) + 1)).tmod c.length).toNat 0)) = false := h3
    rw [en, enn, w2] at h3
    simp only [Bool.or_eq_false_iff, decide_eq_false_iff_not, Bool.not_eq_false'] at h3
    have ho : bitsI .xor .i64 (c.getD (k : Int).toNat 0) 1 = opp (c.getD (k : Int).toNat 0) := bits_opp (by omega) (by omega)
    repeat refine Or.inl ?_
    refine ⟨[], _, fun _ => contains_fn c (by omega) _, ?_⟩
    refine ⟨k + 1, [], ⟨by omega, fun j hj => ?_⟩, by dsimp only; omega, rfl, rfl, rfl, rfl, rfl, ⟨⟨rfl, wr (by omega) (by omega)⟩, ?_⟩, trivial⟩
    · by_cases hjk : j = k
      · subst hjk
        rw [ek] at h3
        exact stepB_iff.2 ⟨by omega, h3.2⟩
      · exact hno j (by omega)
    · rw [ho, ek, any_upto_succ 0 _ _ _ (by omega)]
      rfl
  · have hc := dnlt hc
    have hc : (c.length : Int) ≤ k := hc
    obtain rfl : k = c.length := by omega
    refine RetIs.b ?_
    rw [refB_both (by omega) (by omega) hno, List.take_length]

set_option maxRecDepth 20000 in
set_option maxHeartbeats 4000000 in
theorem rRefute_fn (l : List Cl) (hl : l.length < 2^62) (n : Int) (c : List Int) (hcl : c.length < 2 ^ 60) :
    Ctr Try.prog 31 [.rs 2 l.length (rowsC l), .i .i64 n, .rs 1 c.length (rowsI c)] [] (.b (rightB l n && refB l n c)) := by
  refine fn_of_exec tabOk Try.func31 (by kernel_rfl) rfl (N := Try.f31.ntmps) rfl (res := [.tmp 6]) rfl rfl [] ?_
  repeat refine Or.inl ?_
  refine ⟨[], _, rRight_fn l hl n, ?_⟩
  repeat refine Or.inl ?_
  refine ⟨fun h => RetIs.b ?_, fun h => ?_⟩
  · have h : ((!rightB l n || decide ((c.length : Int) < 1)) || decide ((c.length : Int) > IntKind.i64.wrap (4 * n))) = true := h
    cases hrt : rightB l n with
    | false => rfl
    | true =>
      have hR := rightB_iff.1 hrt
      have h1 := hR.lo
      have h2 := hR.hi
      rw [hrt, wr (by omega) (by omega)] at h
      simp only [Bool.not_true, Bool.false_or, Bool.or_eq_true, decide_eq_true_eq] at h
      rw [refB_none (by omega)]
      rfl
  have h : ((!rightB l n || decide ((c.length : Int) < 1)) || decide ((c.length : Int) > IntKind.i64.wrap (4 * n))) = false := h
  rw [Bool.or_eq_false_iff, Bool.or_eq_false_iff, Bool.not_eq_false'] at h
  obtain ⟨⟨hrt, h0⟩, h4⟩ := h
  have hR := rightB_iff.1 hrt
  obtain ⟨m, rfl⟩ := Int.eq_ofNat_of_zero_le hR.lo
  have hm : m ≤ 400 := by have := hR.hi; omega
  have hr : RightC (m : Nat) l := hR.cl
  have w4 : IntKind.i64.wrap (4 * (m : Int)) = 4 * m := wr (by omega) (by omega)
  have w2 : IntKind.i64.wrap (2 * (m : Int)) = 2 * m := wr (by omega) (by omega)
  rw [w4, decide_eq_false_iff_not] at h4
  rw [decide_eq_false_iff_not] at h0
  rw [hrt, Bool.true_and]
  repeat refine Or.inl ?_
  refine ⟨[], Nat, fun k => k ≤ c.length ∧ ∀ j, j < k → 0 ≤ c.getD j 0 ∧ c.getD j 0 < 2 * (m : Int), fun k => [⟨7, [], .i .i64 k⟩], fun _ => [], fun k => c.length - k,
    ⟨0, [], ⟨Nat.zero_le _, fun j hj => by omega⟩, rfl, rfl, rfl, rfl, rfl, ⟨rfl, rfl⟩, trivial⟩, ?_⟩
  rintro k ⟨hk, hok⟩
  refine .inl ⟨fun hc => ?_, fun hc => ?_⟩
  · have hc := dlt hc
    have ek : (k : Int).toNat = k := Int.toNat_natCast k
    repeat refine Or.inl ?_
    refine ⟨⟨by omega, by omega⟩, fun _ => ⟨by omega, by omega⟩, ⟨fun h2 => RetIs.b ?_, fun h2 => ?_⟩⟩
    · have h2 : (decide (c.getD (k : Int).toNat 0 < 0) || decide (c.getD (k : Int).toNat 0 ≥ IntKind.i64.wrap (2 * (m : Int)))) = true := h2
      rw [ek, w2, Bool.or_eq_true, decide_eq_true_eq, decide_eq_true_eq] at h2
      symm
      refine stepB_false (j := k) (by omega) ?_
      rw [Bool.eq_false_iff]
      intro hf
      have := stepB_iff.1 hf
      omega
    have h2 : (decide (c.getD (k : Int).toNat 0 < 0) || decide (c.getD (k : Int).toNat 0 ≥ IntKind.i64.wrap (2 * (m : Int)))) = false := h2
    rw [ek, w2, Bool.or_eq_false_iff, decide_eq_false_iff_not, decide_eq_false_iff_not] at h2
    refine ⟨k + 1, [], ⟨by omega, fun j hj => ?_⟩, by dsimp only; omega, rfl, rfl, rfl, rfl, rfl, ⟨rfl, wr (by omega) (by omega)⟩, trivial⟩
    by_cases h : j = k
    · subst h
      omega
    · exact hok j (by omega)
  have hc := dnlt hc
  have hrg : ∀ j, j < c.length → 0 ≤ c.getD j 0 ∧ c.getD j 0 < 2 * (m : Int) := fun j hj => hok j (by omega)
  repeat refine Or.inl ?_
  refine ⟨[], Nat, fun k => k ≤ c.length ∧ ∀ j, j < k → stepB l m c j = true, fun k => [⟨9, [], .i .i64 k⟩, ⟨8, [], .b ((c.take k).any fun x => hasN c (opp x))⟩], fun _ => [], fun k => c.length - k,
    ⟨0, [], ⟨Nat.zero_le _, fun j hj => by omega⟩, rfl, rfl, rfl, rfl, rfl, ⟨⟨rfl, rfl⟩, show false = (c.take 0).any _ from by simp⟩, trivial⟩, ?_⟩
  rintro k ⟨hk, hno⟩
  refine .inl ⟨fun hc => ?_, fun hc => ?_⟩
  · have hc := dlt hc
    have hc : (k : Int) < c.length := hc
    have ek : (k : Int).toNat = k := Int.toNat_natCast k
    have en := next_at (k := k) (n := c.length) (by omega) (by omega)
    have enn : ((((k + 1) % c.length : Nat) : Int)).toNat = (k + 1) % c.length := Int.toNat_natCast _
    have hlt : (k + 1) % c.length < c.length := Nat.mod_lt _ (by omega)
    have hkr := hrg k (by omega)
    repeat refine Or.inl ?_
    refine ⟨⟨by omega, by omega⟩, by show (c.length : Int) ≠ 0; omega, ⟨by rw [en]; omega, by rw [en]; omega⟩, ?_⟩
    repeat refine Or.inl ?_
    refine ⟨[], _, implies_fn l hl _ _ (by rw [ek]; omega) (by rw [ek]; omega), ?_⟩
    repeat refine Or.inl ?_
    refine ⟨fun h3 => RetIs.b ?_, fun h3 => ?_⟩
    · have h3 : (!hasN (succL l (c.getD (k : Int).toNat 0)) (c.getD ((IntKind.i64.wrap ((k : Int) + 1)).tmod c.length).toNat 0)) = true := h3
      rw [en, enn, ek] at h3
      symm
      refine stepB_false (j := k) (by omega) ?_
      rw [Bool.eq_false_iff]
      intro hf
      have := stepB_iff.1 hf
      rw [this.2] at h3
      cases h3
    have h3 : (!hasN (succL l (c.getD (k : Int).toNat 0)) (c.getD ((IntKind.i64.wrap ((k : Int) + 1)).tmod c.length).toNat 0)) = false := h3
    rw [en, enn, ek, Bool.not_eq_false'] at h3
    repeat refine Or.inl ?_
    refine ⟨[], Nat, fun i => i ≤ c.length, fun i => [⟨10, [], .i .i64 i⟩, ⟨8, [], .b (((c.take k).any fun x => hasN c (opp x)) || (c.take i).any fun y => y == opp (c.getD k 0))⟩], fun _ => [], fun i => c.length - i,
      ⟨0, [], Nat.zero_le _, rfl, rfl, rfl, rfl, rfl, ⟨⟨rfl, rfl⟩, show ((c.take k).any fun x => hasN c (opp x)) = (((c.take k).any fun x => hasN c (opp x)) || (c.take 0).any fun y => y == opp (c.getD k 0)) from by simp⟩, trivial⟩, ?_⟩
    intro i hi
    have hi : i ≤ c.length := hi
    refine .inl ⟨fun hc2 => ?_, fun hc2 => ?_⟩
    · have hc2 := dlt hc2
      have hc2 : (i : Int) < c.length := hc2
      repeat refine Or.inl ?_
      refine ⟨fun _ => ⟨by omega, by omega⟩, fun _ => ⟨by omega, by omega⟩, ?_⟩
      repeat refine Or.inl ?_
      refine ⟨[], _, fun _ => opposite_fn _ (by rw [ek]; omega) (by rw [ek]; omega), ?_⟩
      refine ⟨i + 1, [], by omega, by dsimp only; omega, rfl, rfl, rfl, rfl, rfl, ⟨⟨rfl, wr (by omega) (by omega)⟩, ?_⟩, trivial⟩
      rw [any_upto_succ 0 _ _ _ (by omega), ← Bool.or_assoc, ek]
      rfl
    · have hc2 := dnlt hc2
      have hc2 : (c.length : Int) ≤ i := hc2
      have e : c.take i = c := List.take_of_length_le (by omega)
      rw [e]
      refine ⟨k + 1, [], ⟨by omega, fun j hj => ?_⟩, by dsimp only; omega, rfl, rfl, rfl, rfl, rfl, ⟨⟨rfl, wr (by omega) (by omega)⟩, ?_⟩, trivial⟩
      · by_cases hjk : j = k
        · subst hjk
          exact stepB_iff.2 ⟨by omega, h3⟩
        · exact hno j (by omega)
      · show (((c.take k).any fun x => hasN c (opp x)) || c.any fun y => y == opp (c.getD k 0)) = (c.take (k + 1)).any fun x => hasN c (opp x)
        rw [any_upto_succ 0 _ _ _ (by omega)]
        congr 1
        unfold hasN
        rw [Bool.eq_iff_iff, List.any_eq_true, List.any_eq_true]
        simp only [beq_iff_eq]
        exact exists_congr fun x => and_congr_right fun _ => eq_comm
  · have hc := dnlt hc
    have hc : (c.length : Int) ≤ k := hc
    obtain rfl : k = c.length := by omega
    refine RetIs.b ?_
    rw [refB_both (by omega) (by omega) hno, List.take_length]
end Go.Proofs.Ytilhaifmfiobhaa
end

section
/-
  The small examples.
-/
namespace Go.Proofs.Ytilhaifmfiobhaa
open Go.Eng

theorem two {p : Nat → Prop} (h0 : p 0) (h1 : p 1) : ∀ k, k < 2 → p k := by
  intro k hk
  match k, hk with
  | 0, _ => exact h0
  | 1, _ => exact h1
theorem one {p : Nat → Prop} (h0 : p 0) : ∀ k, k < 1 → p k := by
  intro k hk
  match k, hk with
  | 0, _ => exact h0
theorem SolvK.of_sat {l : List Cl} {n : Int} {y : SolK} {vs : List Bool} (h : SolvK l n y) (hr : rightB l n = true) (e : firstL l n.toNat [] = some vs) : y = .sat vs := by
  cases y with
  | bad =>
    have h : rightB l n = false := h
    rw [hr] at h
    cases h
  | sat us =>
    obtain ⟨_, h⟩ := h
    rw [e] at h
    rw [Option.some.inj h]
  | uns c =>
    obtain ⟨_, h, _⟩ := h
    rw [e] at h
    cases h
theorem SolvK.of_uns {l : List Cl} {n : Int} {y : SolK} (h : SolvK l n y) (hr : rightB l n = true) (e : firstL l n.toNat [] = none) : ∃ c, y = .uns c ∧ RefP l n c := by
  cases y with
  | bad =>
    have h : rightB l n = false := h
    rw [hr] at h
    cases h
  | sat us =>
    obtain ⟨_, h⟩ := h
    rw [e] at h
    cases h
  | uns c => exact ⟨c, rfl, h.2.2⟩
theorem SolvK.of_bad {l : List Cl} {n : Int} {y : SolK} (h : SolvK l n y) (hr : rightB l n = false) : y = .bad := by
  cases y with
  | bad => rfl
  | sat us =>
    rw [h.1] at hr
    cases hr
  | uns c =>
    rw [h.1] at hr
    cases hr
def exTwo : List Cl := [⟨0, 2⟩, ⟨1, 3⟩]
def exOne : List Cl := [⟨0, 0⟩, ⟨1, 2⟩]
def exNone : List Cl := [⟨0, 0⟩, ⟨1, 1⟩]
def exBad : List Cl := [⟨0, 4⟩]

set_option maxRecDepth 20000 in
set_option maxHeartbeats 4000000 in
theorem small_fn : Ctr Try.prog 21 [] [] (.b true) := by
  refine fn_of_exec tabOk Try.func21 (by kernel_rfl) rfl (N := Try.f21.ntmps) rfl (res := [.tmp 0]) rfl rfl
    [(2, [.eq 0 (.row 25 2 exTwo.length (rowsC exTwo))]), (3, [.eq 1 (.row 25 2 exOne.length (rowsC exOne))]), (4, [.eq 2 (.row 25 2 exNone.length (rowsC exNone))])] ?_
  refine ⟨⟨rfl, rfl, rfl, two rfl rfl⟩, ⟨rfl, rfl, rfl, two rfl rfl⟩, ⟨rfl, rfl, rfl, two rfl rfl⟩, ?_⟩
  have s0 : CtrM Try.prog 24 false [] [.val (.slice none 0 0), .i .i64 2] (SolvK [] 2) (fun _ => []) SolK.os SolK.av :=
    CtrM.of_eqs (args := [.rs 2 0 (rowsC []), .i .i64 2]) ⟨⟨rfl, rfl⟩, AVEq.refl _⟩ (Solve_fn [] (by decide) 2)
  refine .inr (.inr ⟨false, [], rfl, _, _, _, _, _, s0, fun y0 hy0 => ?_⟩)
  obtain rfl := SolvK.of_sat hy0 (by decide) (show firstL [] 2 [] = some [false, false] by decide)
  refine .inr (.inr ⟨false, [], rfl, _, _, _, _, _, Solve_fn exTwo (by decide) 2, fun y1 hy1 => ?_⟩)
  obtain rfl := SolvK.of_sat hy1 (by decide) (show firstL exTwo 2 [] = some [false, true] by decide)
  refine .inr (.inr ⟨false, [], rfl, _, _, _, _, _, Solve_fn exOne (by decide) 2, fun y2 hy2 => ?_⟩)
  obtain rfl := SolvK.of_sat hy2 (by decide) (show firstL exOne 2 [] = some [true, true] by decide)
  refine .inr (.inr ⟨false, [], rfl, _, _, _, _, _, Solve_fn exNone (by decide) 1, fun y3 hy3 => ?_⟩)
  obtain ⟨c, rfl, hc⟩ := SolvK.of_uns hy3 (by decide) (show firstL exNone 1 [] = none by decide)
  have s4 : CtrM Try.prog 24 false [] [.rs 2 1 (rowOf 2 [.i .i64 0, .i .i64 4]), .i .i64 2] (SolvK exBad 2) (fun _ => []) SolK.os SolK.av :=
    CtrM.of_eqs (args := [.rs 2 1 (rowsC exBad), .i .i64 2]) ⟨⟨rfl, rfl, one rfl⟩, AVEq.refl _⟩ (Solve_fn exBad (by decide) 2)
  refine .inr (.inr ⟨false, [], rfl, _, _, _, _, _, s4, fun y4 hy4 => ?_⟩)
  obtain rfl := SolvK.of_bad hy4 (by decide)
  have f1 : Ctr Try.prog 25 [.rs 2 exTwo.length (rowsC exTwo), .i .i64 2] [.row 3 1 2 (rowsI [-1, -1])] (.tup [.so 0, .i .i64 0]) := by
    have := Forced_fn exTwo (by decide) 2
    rw [show forcedY exTwo 2 = ([-1, -1], 0) by decide] at this
    exact this
  have f2 : Ctr Try.prog 25 [.rs 2 exOne.length (rowsC exOne), .i .i64 2] [.row 3 1 2 (rowsI [1, 1])] (.tup [.so 0, .i .i64 0]) := by
    have := Forced_fn exOne (by decide) 2
    rw [show forcedY exOne 2 = ([1, 1], 0) by decide] at this
    exact this
  repeat refine Or.inl ?_
  refine ⟨_, _, f1, ?_⟩
  repeat refine Or.inl ?_
  refine ⟨_, _, f2, ?_⟩
  have b1 : Ctr Try.prog 35 [.rs 1 2 (fun k => [.b ([false, false].getD k false)]), .rs 1 2 (rowOf 1 [.b false, .b false])] [] (.b true) :=
    Ctr.of_eq (args := [.rs 1 2 (rowsB [false, false]), .rs 1 2 (rowsB [false, false])]) ⟨⟨rfl, rfl, two rfl rfl⟩, ⟨rfl, rfl, two rfl rfl⟩⟩ (bools_fn [false, false] [false, false] (by decide) (by decide))
  have b2 : Ctr Try.prog 35 [.rs 1 2 (fun k => [.b ([false, true].getD k false)]), .rs 1 2 (rowOf 1 [.b false, .b true])] [] (.b true) :=
    Ctr.of_eq (args := [.rs 1 2 (rowsB [false, true]), .rs 1 2 (rowsB [false, true])]) ⟨⟨rfl, rfl, two rfl rfl⟩, ⟨rfl, rfl, two rfl rfl⟩⟩ (bools_fn [false, true] [false, true] (by decide) (by decide))
  have b3 : Ctr Try.prog 35 [.rs 1 2 (fun k => [.b ([true, true].getD k false)]), .rs 1 2 (rowOf 1 [.b true, .b true])] [] (.b true) :=
    Ctr.of_eq (args := [.rs 1 2 (rowsB [true, true]), .rs 1 2 (rowsB [true, true])]) ⟨⟨rfl, rfl, two rfl rfl⟩, ⟨rfl, rfl, two rfl rfl⟩⟩ (bools_fn [true, true] [true, true] (by decide) (by decide))
  repeat refine Or.inl ?_
  refine ⟨[], _, b1, ?_⟩
  repeat refine Or.inl ?_
  refine ⟨[], _, fun _ => b2, ?_⟩
  repeat refine Or.inl ?_
  refine ⟨[], _, fun _ => b3, ?_⟩
  have r1 : Ctr Try.prog 30 [.rs 2 exNone.length (rowsC exNone), .i .i64 1, .rs 1 c.length (rowsI c)] [] (.b true) := by
    have hcl : (c.length : Int) ≤ 4 * 1 := hc.len
    have := Refute_fn exNone (by decide) 1 c (by omega)
    rw [show (rightB exNone 1 && refB exNone 1 c) = true by rw [refB_iff.2 hc]; decide] at this
    exact this
  have r2 : Ctr Try.prog 30 [.rs 2 exNone.length (rowsC exNone), .i .i64 1, .rs 1 2 (rowOf 1 [.i .i64 0, .i .i64 1])] [] (.b true) :=
    Ctr.of_eq (args := [.rs 2 exNone.length (rowsC exNone), .i .i64 1, .rs 1 2 (rowsI [0, 1])]) ⟨AVEq.refl _, AVEq.refl _, ⟨rfl, rfl, two rfl rfl⟩⟩ (by
      have := Refute_fn exNone (by decide) 1 [0, 1] (by decide)
      rw [show (rightB exNone 1 && refB exNone 1 [0, 1]) = true by decide] at this
      exact this)
  have i1 : Ctr Try.prog 26 [.rs 1 2 (rowsI [-1, -1]), .rs 1 2 (rowOf 1 [.i .i64 (-1), .i .i64 (-1)])] [] (.b true) :=
    Ctr.of_eq (args := [.rs 1 2 (rowsI [-1, -1]), .rs 1 2 (rowsI [-1, -1])]) ⟨AVEq.refl _, ⟨rfl, rfl, two rfl rfl⟩⟩ (ints26_fn [-1, -1] [-1, -1] (by decide) (by decide))
  have i2 : Ctr Try.prog 26 [.rs 1 2 (rowsI [1, 1]), .rs 1 2 (rowOf 1 [.i .i64 1, .i .i64 1])] [] (.b true) :=
    Ctr.of_eq (args := [.rs 1 2 (rowsI [1, 1]), .rs 1 2 (rowsI [1, 1])]) ⟨AVEq.refl _, ⟨rfl, rfl, two rfl rfl⟩⟩ (ints26_fn [1, 1] [1, 1] (by decide) (by decide))
  have g1 : Ctr Try.prog 23 [.rs 2 exTwo.length (rowsC exTwo), .i .i64 2, .rs 1 2 (rowOf 1 [.i .i64 0, .i .i64 2])] [] (.b true) :=
    Ctr.of_eq (args := [.rs 2 exTwo.length (rowsC exTwo), .i .i64 2, .rs 1 2 (rowsI [0, 2])]) ⟨AVEq.refl _, AVEq.refl _, ⟨rfl, rfl, two rfl rfl⟩⟩ (by
      have := Follows_fn exTwo (by decide) 2 [0, 2] (by decide)
      rw [show followsB exTwo 2 [0, 2] = true by decide] at this
      exact this)
  have g2 : Ctr Try.prog 23 [.rs 2 exTwo.length (rowsC exTwo), .i .i64 2, .rs 1 1 (rowOf 1 [.i .i64 0])] [] (.b false) := by
    have := Follows_one exTwo (by decide) 2 0 0 rfl
    rw [show followsB exTwo 2 [0] = false by decide] at this
    exact this
  repeat refine Or.inl ?_
  refine ⟨[], _, fun _ => r1, ?_⟩
  repeat refine Or.inl ?_
  refine ⟨[], _, fun _ => r2, ?_⟩
  repeat refine Or.inl ?_
  refine ⟨[], _, fun _ => i1, ?_⟩
  repeat refine Or.inl ?_
  refine ⟨[], _, fun _ => i2, ?_⟩
  repeat refine Or.inl ?_
  refine ⟨[], _, fun _ => g1, ?_⟩
  repeat refine Or.inl ?_
  refine ⟨[], _, fun _ => g2, ?_⟩
  exact RetIs.b rfl
end Go.Proofs.Ytilhaifmfiobhaa
end

section
/-
  SatTells and SatDecides.
-/
namespace Go.Proofs.Ytilhaifmfiobhaa
open Go.Eng

theorem ints26_same (a : List Int) (ha : a.length < 2^62) : Ctr Try.prog 26 [.rs 1 a.length (rowsI a), .rs 1 a.length (rowsI a)] [] (.b true) := by
  have := ints26_fn a a ha ha
  rw [decide_eq_true rfl] at this
  exact this
theorem ints26_nil : Ctr Try.prog 26 [.val (.slice none 0 0), .val (.slice none 0 0)] [] (.b true) :=
  Ctr.of_eq (args := [.rs 1 0 (rowsI []), .rs 1 0 (rowsI [])]) ⟨⟨rfl, rfl⟩, ⟨rfl, rfl⟩⟩ (ints26_same [] (by decide))
theorem bools_same (a : List Bool) (ha : a.length < 2^62) : Ctr Try.prog 35 [.rs 1 a.length (rowsB a), .rs 1 a.length (rowsB a)] [] (.b true) := by
  have := bools_fn a a ha ha
  rw [decide_eq_true rfl] at this
  exact this
theorem bools_nil : Ctr Try.prog 35 [.val (.slice none 0 0), .val (.slice none 0 0)] [] (.b true) :=
  Ctr.of_eq (args := [.rs 1 0 (rowsB []), .rs 1 0 (rowsB [])]) ⟨⟨rfl, rfl⟩, ⟨rfl, rfl⟩⟩ (bools_same [] (by decide))
theorem Refute_nil (l : List Cl) (hl : l.length < 2^62) (n : Int) : Ctr Try.prog 30 [.rs 2 l.length (rowsC l), .i .i64 n, .val (.slice none 0 0)] [] (.b (rightB l n && refB l n [])) :=
  Ctr.of_eq (args := [.rs 2 l.length (rowsC l), .i .i64 n, .rs 1 0 (rowsI [])]) ⟨AVEq.refl _, AVEq.refl _, ⟨rfl, rfl⟩⟩ (Refute_fn l hl n [] (by decide))
theorem rRefute_nil (l : List Cl) (hl : l.length < 2^62) (n : Int) : Ctr Try.prog 31 [.rs 2 l.length (rowsC l), .i .i64 n, .val (.slice none 0 0)] [] (.b (rightB l n && refB l n [])) :=
  Ctr.of_eq (args := [.rs 2 l.length (rowsC l), .i .i64 n, .rs 1 0 (rowsI [])]) ⟨AVEq.refl _, AVEq.refl _, ⟨rfl, rfl⟩⟩ (rRefute_fn l hl n [] (by decide))
theorem Check_nil (l : List Cl) (hl : l.length < 2^62) (n : Int) : Ctr Try.prog 28 [.rs 2 l.length (rowsC l), .i .i64 n, .val (.slice none 0 0)] [] (.b (checkB l n [])) :=
  Ctr.of_eq (args := [.rs 2 l.length (rowsC l), .i .i64 n, .rs 1 0 (rowsB [])]) ⟨AVEq.refl _, AVEq.refl _, ⟨rfl, rfl⟩⟩ (Check_fn l hl n [] (by decide))
theorem sat_ref {l : List Cl} {n : Int} {vs : List Bool} (e : firstL l n.toNat [] = some vs) (c : List Int) : refB l n c = false := by
  rw [Bool.eq_false_iff]
  intro h
  exact (refB_iff.1 h).no vs (firstL_some.1 e).good.sat
theorem uns_check {l : List Cl} {n : Int} (e : firstL l n.toNat [] = none) (vs : List Bool) : checkB l n vs = false := by
  rw [Bool.eq_false_iff]
  intro h
  exact firstL_none.1 e ⟨vs, (checkB_iff.1 h).2⟩

set_option maxRecDepth 20000 in
set_option maxHeartbeats 4000000 in
theorem satTells_fn (l : List Cl) (n : Int) (vals : List Bool) (lits : List Int) :
    Ctr Try.prog 5 [.rs 2 l.length (rowsC l), .i .i64 n, .rs 1 vals.length (rowsB vals), .rs 1 lits.length (rowsI lits)] [] (.b true) := by
  refine fn_of_exec tabOk Try.func5 (by kernel_rfl) rfl (N := Try.f5.ntmps) rfl (res := [.tmp 8]) rfl rfl [] ?_
  repeat refine Or.inl ?_
  refine ⟨[], _, small_fn, ?_⟩
  repeat refine Or.inl ?_
  refine ⟨fun _ => RetIs.b rfl, fun h => ?_⟩
  have h : (((decide ((l.length : Int) > 40) || (decide (n > 9) && decide (n ≤ 400))) || decide ((vals.length : Int) > 12)) || decide ((lits.length : Int) > 40)) = false := h
  simp only [Bool.or_eq_false_iff, Bool.and_eq_false_iff, decide_eq_false_iff_not] at h
  have hl : l.length < 2 ^ 62 := by omega
  have hv : vals.length < 2 ^ 62 := by omega
  have hll : lits.length < 2 ^ 60 := by omega
  have hn : rightB l n = true → n ≤ 20 := fun hr => by
    have := (rightB_iff.1 hr).hi
    omega
  repeat refine Or.inl ?_
  refine ⟨[], _, Right_fn l hl n, ?_⟩
  repeat refine Or.inl ?_
  refine ⟨[], _, rRight_fn l hl n, ?_⟩
  repeat refine Or.inl ?_
  refine ⟨[], _, fun _ => Check_fn l hl n vals hv, ?_⟩
  repeat refine Or.inl ?_
  refine ⟨[], _, fun _ => rCheck_fn l hl n vals hv, ?_⟩
  repeat refine Or.inl ?_
  refine ⟨[], _, fun _ => Refute_fn l hl n lits hll, ?_⟩
  repeat refine Or.inl ?_
  refine ⟨[], _, fun _ => rRefute_fn l hl n lits hll, ?_⟩
  repeat refine Or.inl ?_
  refine ⟨[], _, fun _ => Follows_fn l hl n lits (by omega), ?_⟩
  repeat refine Or.inl ?_
  refine ⟨[], _, fun _ => rFollows_fn l hl n hn lits (by omega), ?_⟩
  repeat refine Or.inl ?_
  refine ⟨fun h2 => ?_, fun _ => ?_⟩
  · have h2 : ((((rightB l n != rightB l n) || (checkB l n vals != checkB l n vals)) || ((rightB l n && refB l n lits) != (rightB l n && refB l n lits))) || (followsB l n lits != followsB l n lits)) = true := h2
    simp at h2
  refine .inr (.inr ⟨false, [], rfl, _, _, _, _, _, Solve_fn l hl n, fun y hy => ?_⟩)
  cases hrt : rightB l n with
  | false =>
    obtain rfl := SolvK.of_bad hy hrt
    have rr := rRight_fn l hl n
    rw [hrt] at rr
    have f := Forced_fn l hl n
    rw [forcedY_bad hrt] at f
    repeat refine Or.inl ?_
    refine ⟨[], _, rr, ?_⟩
    repeat refine Or.inl ?_
    refine ⟨fun _ => ?_, fun h => (by cases h)⟩
    repeat refine Or.inl ?_
    refine ⟨_, _, f, ?_⟩
    exact RetIs.b rfl
  | true =>
  have rr := rRight_fn l hl n
  rw [hrt] at rr
  have hR := rightB_iff.1 hrt
  have hn2 := hn hrt
  obtain ⟨m, rfl⟩ := Int.eq_ofNat_of_zero_le hR.lo
  have cf := rFirst_fn l hl m hR (by omega)
  have f := Forced_fn l hl m
  have g := rForced_fn l hl m hn
  cases e : firstL l m [] with
  | some vs =>
    obtain rfl := SolvK.of_sat hy hrt e
    have hvl : vs.length = m := (firstL_some.1 e).good.len
    rw [e] at cf
    rw [forcedY_sat hrt e] at f g
    repeat refine Or.inl ?_
    refine ⟨[], _, rr, ?_⟩
    repeat refine Or.inl ?_
    refine ⟨fun h => (by cases h), fun _ => ?_⟩
    repeat refine Or.inl ?_
    refine ⟨_, _, cf, ?_⟩
    repeat refine Or.inl ?_
    refine ⟨_, _, f, ?_⟩
    repeat refine Or.inl ?_
    refine ⟨_, _, g, ?_⟩
    repeat refine Or.inl ?_
    refine ⟨[], _, fun _ => ints26_same (forcedL l (m : Int).toNat vs) (by simp [forcedL]; omega), ?_⟩
    repeat refine Or.inl ?_
    refine ⟨[], _, fun _ => bools_same vs (by omega), ?_⟩
    repeat refine Or.inl ?_
    refine ⟨fun h => (by cases h), fun _ => ?_⟩
    repeat refine Or.inl ?_
    refine ⟨fun _ => ?_, fun h => (by cases h)⟩
    exact RetIs.b rfl
  | none =>
    obtain ⟨c, rfl, hc⟩ := SolvK.of_uns hy hrt e
    have hcl : (c.length : Int) ≤ 4 * m := hc.len
    rw [e] at cf
    rw [forcedY_uns hrt e] at f g
    repeat refine Or.inl ?_
    refine ⟨[], _, rr, ?_⟩
    repeat refine Or.inl ?_
    refine ⟨fun h => (by cases h), fun _ => ?_⟩
    repeat refine Or.inl ?_
    refine ⟨_, _, cf, ?_⟩
    repeat refine Or.inl ?_
    refine ⟨_, _, f, ?_⟩
    repeat refine Or.inl ?_
    refine ⟨_, _, g, ?_⟩
    repeat refine Or.inl ?_
    refine ⟨[], _, fun _ => ints26_nil, ?_⟩
    repeat refine Or.inl ?_
    refine ⟨[], _, fun _ => bools_nil, ?_⟩
    repeat refine Or.inl ?_
    refine ⟨fun h => (by cases h), fun _ => ?_⟩
    repeat refine Or.inl ?_
    refine ⟨fun h => (by cases h), fun _ => ?_⟩
    have r := rRefute_fn l hl m c (by omega)
    rw [hrt, refB_iff.2 hc] at r
    repeat refine Or.inl ?_
    refine ⟨[], _, fun _ => r, ?_⟩
    exact RetIs.b rfl

set_option maxRecDepth 20000 in
set_option maxHeartbeats 4000000 in
theorem satDecides_fn (l : List Cl) (n : Int) (vals : List Bool) (cyc : List Int) :
    Ctr Try.prog 6 [.rs 2 l.length (rowsC l), .i .i64 n, .rs 1 vals.length (rowsB vals), .rs 1 cyc.length (rowsI cyc)] [] (.b true) := by
  refine fn_of_exec tabOk Try.func6 (by kernel_rfl) rfl (N := Try.f6.ntmps) rfl (res := [.tmp 8]) rfl rfl [] ?_
  repeat refine Or.inl ?_
  refine ⟨[], _, small_fn, ?_⟩
  repeat refine Or.inl ?_
  refine ⟨[], _, fun hg => rRight_fn l (by
    have hg : (((decide ((l.length : Int) > 120) || decide (n > 60)) || decide ((vals.length : Int) > 60)) || decide ((cyc.length : Int) > 250)) = false := hg.1
    simp only [Bool.or_eq_false_iff, decide_eq_false_iff_not] at hg
    omega) n, ?_⟩
  repeat refine Or.inl ?_
  refine ⟨fun _ => RetIs.b rfl, fun h => ?_⟩
  have h : ((((decide ((l.length : Int) > 120) || decide (n > 60)) || decide ((vals.length : Int) > 60)) || decide ((cyc.length : Int) > 250)) || !rightB l n) = false := h
  simp only [Bool.or_eq_false_iff, Bool.not_eq_false', decide_eq_false_iff_not] at h
  have hrt := h.2
  have hl : l.length < 2 ^ 62 := by omega
  have hv : vals.length < 2 ^ 62 := by omega
  have hll : cyc.length < 2 ^ 60 := by omega
  have hR := rightB_iff.1 hrt
  refine .inr (.inr ⟨false, [], rfl, _, _, _, _, _, Solve_fn l hl n, fun y hy => ?_⟩)
  cases e : firstL l n.toNat [] with
  | some vs =>
    obtain rfl := SolvK.of_sat hy hrt e
    have hg := (firstL_some.1 e).good
    have hvl := hg.len
    have hlo := hR.lo
    have c1 : Ctr Try.prog 28 [.rs 2 l.length (rowsC l), .i .i64 n, .rs 1 vs.length (rowsB vs)] [] (.b true) := by
      have := Check_fn l hl n vs (by omega)
      rw [checkB_iff.2 ⟨hR, hg⟩] at this
      exact this
    have r1 : Ctr Try.prog 30 [.rs 2 l.length (rowsC l), .i .i64 n, .rs 1 cyc.length (rowsI cyc)] [] (.b false) := by
      have := Refute_fn l hl n cyc hll
      rw [sat_ref e, Bool.and_false] at this
      exact this
    have r2 := Refute_nil l hl n
    have c2 := Check_fn l hl n vals hv
    repeat refine Or.inl ?_
    refine ⟨[], _, fun _ => c1, ?_⟩
    repeat refine Or.inl ?_
    refine ⟨[], _, fun _ => r1, ?_⟩
    repeat refine Or.inl ?_
    refine ⟨[], _, fun _ => r2, ?_⟩
    repeat refine Or.inl ?_
    refine ⟨[], _, fun _ => c2, ?_⟩
    repeat refine Or.inl ?_
    refine ⟨fun h => (by cases h), fun _ => ?_⟩
    repeat refine Or.inl ?_
    refine ⟨[], _, fun _ => c2, ?_⟩
    repeat refine Or.inl ?_
    refine ⟨[], _, fun _ => r1, ?_⟩
    refine RetIs.b ?_
    cases checkB l n vals <;> rfl
  | none =>
    obtain ⟨c, rfl, hc⟩ := SolvK.of_uns hy hrt e
    have hcl := hc.len
    have c1 := Check_nil l hl n
    have r1 := Refute_fn l hl n cyc hll
    have r2 : Ctr Try.prog 30 [.rs 2 l.length (rowsC l), .i .i64 n, .rs 1 c.length (rowsI c)] [] (.b true) := by
      have := Refute_fn l hl n c (by omega)
      rw [refB_iff.2 hc, hrt] at this
      exact this
    have c2 : Ctr Try.prog 28 [.rs 2 l.length (rowsC l), .i .i64 n, .rs 1 vals.length (rowsB vals)] [] (.b false) := by
      have := Check_fn l hl n vals hv
      rw [uns_check e] at this
      exact this
    repeat refine Or.inl ?_
    refine ⟨[], _, fun _ => c1, ?_⟩
    repeat refine Or.inl ?_
    refine ⟨[], _, fun _ => r1, ?_⟩
    repeat refine Or.inl ?_
    refine ⟨[], _, fun _ => r2, ?_⟩
    repeat refine Or.inl ?_
    refine ⟨[], _, fun _ => c2, ?_⟩
    repeat refine Or.inl ?_
    refine ⟨fun h => (by cases h), fun _ => ?_⟩
    repeat refine Or.inl ?_
    refine ⟨[], _, fun _ => c2, ?_⟩
    repeat refine Or.inl ?_
    refine ⟨[], _, fun _ => r1, ?_⟩
    exact RetIs.b rfl
end Go.Proofs.Ytilhaifmfiobhaa
end

section
/-
  The engine: from a function's walk to what its row says, where the law's result is true and nothing that was there is written.
-/
namespace Go.Eng
open Go.ChangeShapes Go.WideShapes Go.ChangeAt Go.RowKit Go.Deep

section
variable {H : Type} {enc : TypeId × Value → H} {P : Program}

theorem trodAll_below (hl : laidOutB P = true) {W W' : World} {sp : Nat → Bool} (hb : Below W.heap.size W W') : ∀ {ts : List TypeId} {vs : List Value} {ds : List (DataW H)} {ps : List MemPlace},
    ts.all (fun t => P.readableRec t && decide (t < P.types.size)) = true → DataW.TrodAll enc P W 0 (fun _ => true) true ts vs ds ps → (∀ x ∈ ps, sp x.block = true) → (∀ x ∈ ps, x.block < W.heap.size) →
    DataW.TrodAll enc P W' 0 sp true ts vs ds ps
  | [], vs, ds, ps, _, h, _, _ => by
    cases vs <;> cases ds <;> first | exact h | exact h.elim
  | t :: ts, vs, ds, ps, hts, h, hsp, hlt => by
    cases vs with
    | nil => cases ds <;> exact h.elim
    | cons v vs =>
      cases ds with
      | nil => exact h.elim
      | cons d ds =>
        obtain ⟨p, q, h1, h2, rfl⟩ := h
        simp only [List.all_cons, Bool.and_eq_true, decide_eq_true_eq] at hts
        exact ⟨p, q, WideElems.Trod_stays hl hts.1.1 hts.1.2 h1 (fun x hx => hb.same (hlt x (by simp [hx]))) (fun x hx => hsp x (by simp [hx])),
          trodAll_below hl hb (by simpa using hts.2) h2 (fun x hx => hsp x (by simp [hx])) (fun x hx => hlt x (by simp [hx])), rfl⟩

theorem post_true {f : Func} {s : ChangeSpec} {apart fresh handsOn : Bool} {W W' : World} {args : Array Value} {ds gs : List (DataW H)} {before : List MemPlace} {tb : TypeId}
    (hl : laidOutB P = true) (hts : f.params.toList.all (fun t => P.readableRec t && decide (t < P.types.size)) = true)
    (hW : DataW.Whole enc P f.params.toList s.vars apart W args.toList ds gs before) (hvars : s.vars = [])
    (hs : s.fn H (ds ++ gs) = { results := [.lit (.bool true)], args := ds }) (hres : f.resultTypes = #[tb]) (htb : P.underlying tb = some .bool) (hb : Below W.heap.size W W') :
    s.post enc P f apart fresh handsOn false W args (.bool true) W' := by
  have hlt : ∀ x ∈ before, x.block < W.heap.size := fun x hx => by simpa using hW.lt x hx
  have hW2 := hW
  obtain ⟨p, q, hA, hV, rfl, hfz, hnd⟩ := hW
  have hV0 := hV
  rw [hvars] at hV0
  obtain ⟨rfl, rfl⟩ := trodVars_none hV0
  have hargs : DataW.TrodAll enc P W' 0 (fun b => decide (b < W.heap.size)) true f.params.toList args.toList (s.fn H (ds ++ [])).args p := by
    rw [hs]
    exact trodAll_below hl hb hts hA (fun x hx => by simpa using hlt x (by simp [hx])) (fun x hx => hlt x (by simp [hx]))
  refine ⟨ds, [], p ++ [], [], p, [], hW2, ?_, hargs, ?_, Below.frame hb _, fun h => by cases h⟩
  · rw [hs, hres]
    exact trodAll_mk1 (shut_bool htb true)
  · rw [hs, hvars]
    exact rfl
end
end Go.Eng
end

section
/-
  The engine: a law's arguments, opened by their shape.
-/
namespace Go.Eng
open Go.ChangeShapes Go.WideShapes Go.ChangeAt Go.RowKit Go.Deep

/-- The shape of a type of numbers, truth values, texts, structs, and slices. -/
inductive Sh where
  | ki (k : IntKind)
  | kb
  | ks
  | kst (fs : List Sh)
  | ksl (e : Sh)

mutual
def Sh.sz : Sh → Nat
  | .kst fs => Sh.szs fs
  | _ => 1
def Sh.szs : List Sh → Nat
  | [] => 0
  | f :: r => Sh.sz f + Sh.szs r
end
mutual
def Sh.Val : Sh → Type
  | .ki _ => Int
  | .kb => Bool
  | .ks => ByteArray
  | .kst fs => Sh.Vals fs
  | .ksl e => List (Sh.Val e)
def Sh.Vals : List Sh → Type
  | [] => Unit
  | f :: r => Sh.Val f × Sh.Vals r
end
mutual
def Sh.dv : (s : Sh) → s.Val
  | .ki _ => (0 : Int)
  | .kb => false
  | .ks => ByteArray.empty
  | .kst fs => Sh.dvs fs
  | .ksl _ => []
def Sh.dvs : (l : List Sh) → Sh.Vals l
  | [] => ()
  | f :: r => (Sh.dv f, Sh.dvs r)
end
mutual
def Sh.av : (s : Sh) → s.Val → List AV
  | .ki k, n => [.i k n]
  | .kb, c => [.b c]
  | .ks, x => [.s x]
  | .kst fs, v => Sh.avs fs v
  | .ksl e, l => [.rs e.sz (List.length l) fun k => Sh.av e (List.getD l k e.dv)]
def Sh.avs : (l : List Sh) → Sh.Vals l → List AV
  | [], _ => []
  | f :: r, v => Sh.av f v.1 ++ Sh.avs r v.2
end
mutual
def Sh.wf : (s : Sh) → s.Val → Prop
  | .ki k, n => (Lit.int k n).wf = true
  | .kb, _ => True
  | .ks, x => ByteArray.size x ≤ maxLen
  | .kst fs, v => Sh.wfs fs v
  | .ksl e, l => List.length l ≤ maxLen ∧ ∀ x : Sh.Val e, List.Mem x l → Sh.wf e x
def Sh.wfs : (l : List Sh) → Sh.Vals l → Prop
  | [], _ => True
  | f :: r, v => Sh.wf f v.1 ∧ Sh.wfs r v.2
end
mutual
/-- The type t has this shape. -/
def ShOk (P : Program) : Sh → TypeId → Prop
  | .ki k, t => P.underlying t = some (.int k)
  | .kb, t => P.underlying t = some .bool
  | .ks, t => P.underlying t = some .string
  | .kst fs, t => ∃ fl : Array Field, P.underlying t = some (.struct fl) ∧ P.cellsOf t = Sh.szs fs ∧ ShOks P fs 0 fl.toList
  | .ksl e, t => ∃ te, P.underlying t = some (.slice te) ∧ P.cellsOf te = e.sz ∧ 0 < e.sz ∧ ShOk P e te
def ShOks (P : Program) : List Sh → Nat → List Field → Prop
  | [], _, [] => True
  | s :: r, off, f :: fr => f.offset = off ∧ P.cellsOf f.type = s.sz ∧ ShOk P s f.type ∧ ShOks P r (off + s.sz) fr
  | _, _, _ => False
end
mutual
def shB (P : Program) : Sh → TypeId → Bool
  | .ki k, t => (match P.underlying t with
    | some (.int k') => decide (k' = k)
    | _ => false)
  | .kb, t => (match P.underlying t with
    | some .bool => true
    | _ => false)
  | .ks, t => (match P.underlying t with
    | some .string => true
    | _ => false)
  | .kst fs, t => (match P.underlying t with
    | some (.struct fl) => Nat.beq (P.cellsOf t) (Sh.szs fs) && shBs P fs 0 fl.toList
    | _ => false)
  | .ksl e, t => (match P.underlying t with
    | some (.slice te) => Nat.beq (P.cellsOf te) e.sz && Nat.blt 0 e.sz && shB P e te
    | _ => false)
def shBs (P : Program) : List Sh → Nat → List Field → Bool
  | [], _, [] => true
  | s :: r, off, f :: fr => Nat.beq f.offset off && Nat.beq (P.cellsOf f.type) s.sz && shB P s f.type && shBs P r (off + s.sz) fr
  | _, _, _ => false
end

section
variable {P : Program}
mutual
theorem shB_ok : ∀ {s : Sh} {t : TypeId}, shB P s t = true → ShOk P s t
  | .ki k, t, h => by
    simp only [shB] at h
    split at h
    · rename_i e; simp only [ShOk]; rw [e]; rw [of_decide_eq_true h]
    · cases h
  | .kb, t, h => by
    simp only [shB] at h
    split at h
    · rename_i e; simp only [ShOk]; rw [e]
    · cases h
  | .ks, t, h => by
    simp only [shB] at h
    split at h
    · rename_i e; simp only [ShOk]; rw [e]
    · cases h
  | .kst fs, t, h => by
    simp only [shB] at h
    split at h
    · rename_i fl e
      simp only [Bool.and_eq_true] at h
      exact ⟨fl, e, Nat.eq_of_beq_eq_true h.1, shBs_ok h.2⟩
    · cases h
  | .ksl e, t, h => by
    simp only [shB] at h
    split at h
    · rename_i te he
      simp only [Bool.and_eq_true] at h
      exact ⟨te, he, Nat.eq_of_beq_eq_true h.1.1, by simpa [Nat.blt_eq] using h.1.2, shB_ok h.2⟩
    · cases h
theorem shBs_ok : ∀ {l : List Sh} {off : Nat} {fl : List Field}, shBs P l off fl = true → ShOks P l off fl
  | [], _, [], _ => trivial
  | s :: r, off, f :: fr, h => by
    simp only [shBs, Bool.and_eq_true] at h
    exact ⟨Nat.eq_of_beq_eq_true h.1.1.1, Nat.eq_of_beq_eq_true h.1.1.2, shB_ok h.1.2, shBs_ok h.2⟩
  | [], _, _ :: _, h => by simp [shBs] at h
  | _ :: _, _, [], h => by simp [shBs] at h
end

mutual
theorem Sh.av_length : ∀ (s : Sh) (v : s.Val), (Sh.av s v).length = s.sz
  | .ki k, n => rfl
  | .kb, c => rfl
  | .ks, x => rfl
  | .kst fs, v => by simp only [Sh.av, Sh.sz]; exact Sh.avs_length fs v
  | .ksl e, l => rfl
theorem Sh.avs_length : ∀ (l : List Sh) (v : Sh.Vals l), (Sh.avs l v).length = Sh.szs l
  | [], _ => rfl
  | f :: r, v => by simp only [Sh.avs, Sh.szs, List.length_append, Sh.av_length f v.1, Sh.avs_length r v.2]
end
/-- Cells as the shape has them. -/
def CellsAre (W : World) (as : List AV) (cs : List Value) : Prop := as.length = cs.length ∧ ∀ (j : Nat) a u, as[j]? = some a → cs[j]? = some u → Rep0 (fun _ => False) W a u ∧ u.oneCell' = true
theorem CellsAre.one {W : World} {a : AV} {u : Value} (h : Rep0 (fun _ => False) W a u) (h1 : u.oneCell' = true) : CellsAre W [a] [u] := by
  refine ⟨rfl, fun j a' u' ha hu => ?_⟩
  match j with
  | 0 => simp at ha hu; subst ha hu; exact ⟨h, h1⟩
  | j + 1 => simp at ha
theorem CellsAre.append {W : World} {as bs : List AV} {cs ds : List Value} (h : CellsAre W as cs) (g : CellsAre W bs ds) : CellsAre W (as ++ bs) (cs ++ ds) := by
  refine ⟨by simp [h.1, g.1], fun j a u ha hu => ?_⟩
  by_cases hj : j < as.length
  · rw [List.getElem?_append_left hj] at ha
    rw [List.getElem?_append_left (by rw [← h.1]; exact hj)] at hu
    exact h.2 j a u ha hu
  · rw [List.getElem?_append_right (by omega)] at ha
    rw [List.getElem?_append_right (by rw [← h.1]; omega), ← h.1] at hu
    exact g.2 _ a u ha hu

variable {H : Type} {enc : TypeId × Value → H} {W : World}

theorem cell_lt {a : Addr} {v : Value} (h : W.cell? a = some v) : a.block < W.heap.size := by
  unfold World.cell? at h
  split at h
  · rename_i hh; exact (Array.getElem?_eq_some_iff.1 hh).1
  · cases h

/-- A slice opened, where its elements can be. -/
theorem open_sl {e : Sh} {t te : TypeId} {fuel : Nat} {cs : List Value} {x : DataW H × List MemPlace} (ht : P.underlying t = some (.slice te)) (hc : P.cellsOf te = e.sz) (h0 : 0 < e.sz)
    (he : ∀ n cs y, DataW.trod enc P W 0 (fun _ => true) true n te cs = some y → ∃ v : e.Val, e.wf v ∧ CellsAre W (e.av v) cs)
    (h : DataW.trod enc P W 0 (fun _ => true) true fuel t cs = some x) :
    ∃ l : List e.Val, (l.length ≤ maxLen ∧ ∀ z ∈ l, e.wf z) ∧ CellsAre W [.rs e.sz l.length fun k => e.av (l.getD k e.dv)] cs ∧ (l = [] ∨ ∃ el sp, x.1 = .slice el sp ∧ l.length = el.length) := by
  rcases open_slice ht h with ⟨rfl, rfl⟩ | ⟨a, len, cap, m, n, D, Pl, rfl, _, hl, hm, hmm, rfl, hi⟩
  · exact ⟨[], ⟨Nat.zero_le _, fun z hz => by cases hz⟩, CellsAre.one (.rsnil _ _) rfl, .inl rfl⟩
  · simp only [if_true] at hmm
    have hmm := hmm.symm
    subst hmm
    by_cases hcap : cap = 0
    · subst hcap
      obtain rfl : len = 0 := by omega
      exact ⟨[], ⟨Nat.zero_le _, fun z hz => by cases hz⟩, CellsAre.one (.rsz _ _ a) rfl, .inl rfl⟩
    obtain ⟨ab, ao, asp⟩ := a
    have hplain : asp = none ∧ ab < W.heap.size := by
      obtain ⟨cs', hcs, _⟩ := hi 0 (by omega)
      rw [hc] at hcs
      obtain ⟨_, hcl, hat⟩ := World.cells?_some hcs
      have h1 := hat 0 h0
      have h2 : (cs'[0]?) = some (cs'[0]'(by omega)) := List.getElem?_eq_getElem _
      rw [h2] at h1
      have h3 := World.cell?_spot h1
      have h4 := cell_lt h1
      simp [Addr.add] at h3 h4
      exact ⟨h3, h4⟩
    obtain ⟨rfl, hlt⟩ := hplain
    have hex : ∀ i, i < len → ∃ v : e.Val, e.wf v ∧ ∀ j, j < e.sz → ∃ u, W.cell? ⟨ab, ao + i * e.sz + j, none⟩ = some u ∧ u.oneCell' = true ∧ ∀ a, (e.av v)[j]? = some a → Rep0 (fun _ => False) W a u := by
      intro i hil
      obtain ⟨cs', hcs, htr⟩ := hi i (by omega)
      rw [hc] at hcs
      obtain ⟨_, hcl, hat⟩ := World.cells?_some hcs
      obtain ⟨v, hw, hca⟩ := he _ _ _ htr
      refine ⟨v, hw, fun j hj => ?_⟩
      have h1 := hat j hj
      have h2 : (cs'[j]?) = some (cs'[j]'(by omega)) := List.getElem?_eq_getElem _
      have hj' : j < (e.av v).length := by rw [hca.1]; omega
      have h5 := hca.2 j _ _ (List.getElem?_eq_getElem hj') h2
      refine ⟨cs'[j]'(by omega), ?_, h5.2, fun a ha => ?_⟩
      · rw [h2, Go.Deep.add_add] at h1
        rw [← h1]
        congr 1
        unfold Addr.add
        split
        · rename_i h0
          have h1 : i * e.sz = 0 := by omega
          have h2 : j = 0 := by omega
          rw [h1, h2]
          rfl
        · simp [Nat.add_assoc]
      · rw [List.getElem?_eq_getElem hj'] at ha
        obtain rfl := Option.some.inj ha
        exact h5.1
    let F : Nat → e.Val := fun i => if hi : i < len then Classical.choose (hex i hi) else e.dv
    have hF : ∀ i, i < len → e.wf (F i) ∧ ∀ j, j < e.sz → ∃ u, W.cell? ⟨ab, ao + i * e.sz + j, none⟩ = some u ∧ u.oneCell' = true ∧ ∀ a, (e.av (F i))[j]? = some a → Rep0 (fun _ => False) W a u := by
      intro i hi
      have : F i = Classical.choose (hex i hi) := by simp only [F, dif_pos hi]
      rw [this]
      exact Classical.choose_spec (hex i hi)
    have hlen : ((List.range len).map F).length = len := by simp
    have hget : ∀ k, k < len → ((List.range len).map F).getD k e.dv = F k := fun k hk => by
      simp [List.getD, hk]
    refine ⟨(List.range len).map F, ⟨by rw [hlen]; omega, fun z hz => ?_⟩, CellsAre.one ?_ rfl, .inr ⟨_, _, rfl, by simp⟩⟩
    · simp only [List.mem_map, List.mem_range] at hz
      obtain ⟨i, hi, rfl⟩ := hz
      exact (hF i hi).1
    rw [hlen]
    refine .rs e.sz len _ ab ao cap (fun k j => (W.cell? ⟨ab, ao + k * e.sz + j, none⟩).getD (.bool false)) hl hm (fun h => h) hlt (fun k _ => Sh.av_length _ _) (fun k j hk hj => ?_) (fun k j hk hj => ?_) (fun k j hk hj => ?_)
    · obtain ⟨u, hu, _⟩ := (hF k hk).2 j hj
      rw [hu]; rfl
    · obtain ⟨u, hu, h1, _⟩ := (hF k hk).2 j hj
      rw [hu]; exact h1
    · have hj' : j < e.sz := by rw [Sh.av_length] at hj; exact hj
      obtain ⟨u, hu, _, h1⟩ := (hF k hk).2 j hj'
      rw [hu]
      refine h1 _ ?_
      rw [← hget k hk]
      exact List.getElem?_eq_getElem hj

mutual
theorem open_sh : ∀ {s : Sh} {t : TypeId}, ShOk P s t → ∀ {fuel : Nat} {cs : List Value} {x : DataW H × List MemPlace}, DataW.trod enc P W 0 (fun _ => true) true fuel t cs = some x → ∃ v : s.Val, s.wf v ∧ CellsAre W (s.av v) cs
  | .ki k, t, ht, fuel, cs, x, h => by
    obtain ⟨z, rfl, _, hw⟩ := DataW.trod_int ht h
    exact ⟨z, hw, CellsAre.one (.i _ _) rfl⟩
  | .kb, t, ht, fuel, cs, x, h => by
    obtain ⟨z, rfl, _⟩ := DataW.trod_bool ht h
    exact ⟨z, trivial, CellsAre.one (.b _) rfl⟩
  | .ks, t, ht, fuel, cs, x, h => by
    obtain ⟨z, rfl, _, hw⟩ := DataW.trod_string ht h
    exact ⟨z, hw, CellsAre.one (.s _) rfl⟩
  | .kst fs, t, ⟨fl, ht, hsz, hfs⟩, fuel, cs, x, h => by
    obtain ⟨ys, n, _, _, hl, hlen, hg⟩ := DataW.trod_struct ht h
    have hall : ∀ f ∈ fl.toList, ∃ y, DataW.trod enc P W 0 (fun _ => true) true n f.type ((cs.drop f.offset).take (P.cellsOf f.type)) = some y := by
      intro f hf
      obtain ⟨i, hi, rfl⟩ := List.getElem_of_mem hf
      have hi2 : i < fl.size := by simpa using hi
      have h1 := hg i fl[i] (Array.getElem?_eq_getElem hi2)
      rw [List.getElem?_eq_getElem (by omega)] at h1
      exact ⟨_, h1⟩
    obtain ⟨v, hw, hc⟩ := open_shs hfs hall (by rw [hl, hsz]; simp)
    refine ⟨v, hw, ?_⟩
    have e : (cs.drop 0).take (Sh.szs fs) = cs := by
      rw [← hsz, ← hl]
      simp
    rw [e] at hc
    exact hc
  | .ksl e, t, ⟨te, ht, hc, h0, hte⟩, fuel, cs, x, h => by
    obtain ⟨l, hw, hca, _⟩ := open_sl ht hc h0 (fun n cs y hy => open_sh hte hy) h
    exact ⟨l, hw, hca⟩
theorem open_shs : ∀ {l : List Sh} {off : Nat} {fl : List Field}, ShOks P l off fl → ∀ {n : Nat} {cs : List Value},
    (∀ f ∈ fl, ∃ y, DataW.trod enc P W 0 (fun _ => true) true n f.type ((cs.drop f.offset).take (P.cellsOf f.type)) = some y) → off + Sh.szs l ≤ cs.length →
    ∃ v : Sh.Vals l, Sh.wfs l v ∧ CellsAre W (Sh.avs l v) ((cs.drop off).take (Sh.szs l))
  | [], off, [], _, n, cs, _, _ => ⟨(), trivial, by simp only [Sh.avs, Sh.szs, List.take_zero]; exact ⟨rfl, fun j a u ha => by simp at ha⟩⟩
  | s :: r, off, f :: fr, ⟨ho, hc, hs, hr⟩, n, cs, hall, hle => by
    simp only [Sh.szs] at hle
    obtain ⟨y, hy⟩ := hall f (by simp)
    rw [ho, hc] at hy
    obtain ⟨v1, hw1, hc1⟩ := open_sh hs hy
    obtain ⟨v2, hw2, hc2⟩ := open_shs hr (fun f hf => hall f (by simp [hf])) (by omega)
    refine ⟨(v1, v2), ⟨hw1, hw2⟩, ?_⟩
    have e : (cs.drop off).take (Sh.szs (s :: r)) = (cs.drop off).take s.sz ++ (cs.drop (off + s.sz)).take (Sh.szs r) := by
      simp only [Sh.szs]
      rw [List.take_add, List.drop_drop]
    rw [e]
    exact hc1.append hc2
  | [], _, _ :: _, h, _, _, _, _ => h.elim
  | _ :: _, _, [], h, _, _, _, _ => h.elim
end

/-! ### a law's arguments, all at once -/
def Sh.top : (s : Sh) → s.Val → AV
  | .ki k, n => .i k n
  | .kb, c => .b c
  | .ks, x => .s x
  | .kst fs, v => .ag (Sh.avs fs v)
  | .ksl e, l => .rs e.sz (List.length l) fun k => Sh.av e (List.getD l k e.dv)
def Sh.tops : (l : List Sh) → Sh.Vals l → List AV
  | [], _ => []
  | f :: r, v => Sh.top f v.1 :: Sh.tops r v.2
def ShAll (P : Program) : List Sh → List TypeId → Prop
  | [], [] => True
  | s :: r, t :: tr => ShOk P s t ∧ ShAll P r tr
  | _, _ => False
def shAllB (P : Program) : List Sh → List TypeId → Bool
  | [], [] => true
  | s :: r, t :: tr => shB P s t && shAllB P r tr
  | _, _ => false
theorem shAll_ok : ∀ {l : List Sh} {ts : List TypeId}, shAllB P l ts = true → ShAll P l ts
  | [], [], _ => trivial
  | s :: r, t :: tr, h => by
    simp only [shAllB, Bool.and_eq_true] at h
    exact ⟨shB_ok h.1, shAll_ok h.2⟩
  | [], _ :: _, h => by simp [shAllB] at h
  | _ :: _, [], h => by simp [shAllB] at h

theorem single_cells {v : Value} {u : Value} (h : v.cells.toList = [u]) (hn : ∀ cs, v ≠ .agg cs) : v = u := by
  cases v <;> simp [Value.cells] at h <;> first | exact h | exact (hn _ rfl).elim

def flatD : TypeDesc → Bool
  | .int _ => true
  | .bool => true
  | .string => true
  | .slice _ => true
  | _ => false
theorem not_agg {t : TypeId} {td : TypeDesc} {base : Nat} {v : Value} (ht : P.underlying t = some td) (hd : flatD td = true) (hv : Value.okWide P W .any base t v) : ∀ cs, v ≠ .agg cs := by
  rintro cs rfl
  unfold Value.okWide at hv
  rw [ht] at hv
  cases td <;> first
    | (cases hd; done)
    | (dsimp only at hv
       unfold Cell.okWide at hv
       rw [ht] at hv
       dsimp only at hv
       unfold Cell.ok at hv
       rw [ht] at hv
       exact hv)

theorem open_top {s : Sh} {t : TypeId} {base : Nat} {v : Value} {d : DataW H} {p : List MemPlace} (ht : ShOk P s t) (hv : Value.okWide P W .any base t v) (h : DataW.Trod enc P W 0 (fun _ => true) true t v d p) :
    ∃ x : s.Val, s.wf x ∧ Rep0 (fun _ => False) W (s.top x) v := by
  obtain ⟨fuel, h⟩ := h
  obtain ⟨x, hw, hc⟩ := open_sh ht h
  refine ⟨x, hw, ?_⟩
  have one : ∀ {a : AV}, CellsAre W [a] v.cells.toList → (∀ cs, v ≠ .agg cs) → Rep0 (fun _ => False) W a v := by
    intro a hca hn
    obtain ⟨u, hu⟩ : ∃ u, v.cells.toList = [u] := by
      have := hca.1
      generalize v.cells.toList = l at this
      match l, this with
      | [u], _ => exact ⟨u, rfl⟩
    rw [single_cells hu hn]
    exact (hca.2 0 a u rfl (by rw [hu]; rfl)).1
  cases s with
  | ki k => exact one hc (not_agg (show P.underlying t = some _ from ht) rfl hv)
  | kb => exact one hc (not_agg (show P.underlying t = some _ from ht) rfl hv)
  | ks => exact one hc (not_agg (show P.underlying t = some _ from ht) rfl hv)
  | ksl e =>
    obtain ⟨te, ht, _⟩ := ht
    exact one hc (not_agg ht rfl hv)
  | kst fs =>
    obtain ⟨fl, ht, hsz, hfs⟩ := ht
    unfold Value.okWide at hv
    rw [ht] at hv
    obtain ⟨cs, rfl, _⟩ := hv
    have hc' : CellsAre W (Sh.avs fs x) cs.toList := hc
    have e : Value.agg cs = .agg cs.toList.toArray := by simp
    rw [e]
    exact .ag _ cs.toList hc'.1 fun j h1 h2 => (hc'.2 j _ _ (List.getElem?_eq_getElem h1) (List.getElem?_eq_getElem h2)).1

theorem open_all : ∀ {l : List Sh} {ts : List TypeId} {vs : List Value} {ds : List (DataW H)} {p : List MemPlace} {base : Nat}, ShAll P l ts → (∀ (j : Nat) t v, ts[j]? = some t → vs[j]? = some v → Value.okWide P W .any base t v) →
    DataW.TrodAll enc P W 0 (fun _ => true) true ts vs ds p →
    ∃ x : Sh.Vals l, Sh.wfs l x ∧ ds.length = l.length ∧ (Sh.tops l x).length = vs.length ∧ ∀ (j : Nat) (h1 : j < (Sh.tops l x).length) (h2 : j < vs.length), Rep0 (fun _ => False) W (Sh.tops l x)[j] vs[j]
  | [], [], vs, ds, p, base, _, _, h => by
    obtain ⟨rfl, rfl, rfl⟩ := trodAll_nil h
    exact ⟨(), trivial, rfl, rfl, fun j h1 => by simp [Sh.tops] at h1⟩
  | s :: r, t :: tr, vs, ds, p, base, ⟨hs, hr⟩, hv, h => by
    obtain ⟨v0, vs0, d0, ds0, p0, q0, rfl, rfl, rfl, h0, hA⟩ := trodAll_cons h
    obtain ⟨x0, hw0, hr0⟩ := open_top hs (hv 0 t v0 rfl rfl) h0
    obtain ⟨x1, hw1, hd1, hl1, hr1⟩ := open_all hr (fun j t v h1 h2 => hv (j + 1) t v (by simpa using h1) (by simpa using h2)) hA
    refine ⟨(x0, x1), ⟨hw0, hw1⟩, by simp [hd1], by simp [Sh.tops, hl1], fun j h1 h2 => ?_⟩
    cases j with
    | zero => exact hr0
    | succ j => exact hr1 j (by simpa [Sh.tops] using h1) (by simpa using h2)
  | [], _ :: _, _, _, _, _, h, _, _ => h.elim
  | _ :: _, [], _, _, _, _, h, _, _ => h.elim
end

/-- The slice of a shape's values, in words of one's own. -/
theorem map_rs (e : Sh) {α : Type} (of : e.Val → α) (rows : α → List AV) (d : α) (h : ∀ v, rows (of v) = e.av v) (l : List e.Val) {n : Nat} (hn : n = (l.map of).length) :
    AVEq (.rs e.sz n fun k => rows ((l.map of).getD k d)) (.rs e.sz l.length fun k => e.av (l.getD k e.dv)) := by
  subst hn
  refine ⟨rfl, by simp, fun k hk => ?_⟩
  have hk' : k < l.length := by simpa using hk
  have e1 : (l.map of).getD k d = of (l.getD k e.dv) := by simp [List.getD, hk']
  show e.av (l.getD k e.dv) = rows ((l.map of).getD k d)
  rw [e1, h]
end Go.Eng
end

section
/-
  Clauses, claims, proofs and grants, as a law's arguments have them.
-/
namespace Go.Proofs.Ytilhaifmfiobhaa
open Go.Eng

theorem Try.own : ownKnob Try.prog.godebug = none := by kernel_rfl
theorem Try.laidOut : laidOutB Try.prog = true := by kernel_rfl

def shI : Sh := .ki .i64
def shB : Sh := .kb
def shC : Sh := .kst [shI, shI]
def shP : Sh := .kst [shI, shI, shI]
def ofI (v : shI.Val) : Int := v
def ofB (v : shB.Val) : Bool := v
def ofC (v : shC.Val) : Cl := ⟨v.1, v.2.1⟩
def ofM (v : shC.Val) : Cm := ⟨v.1, v.2.1⟩
def ofP (v : shP.Val) : Pf := ⟨v.1, v.2.1, v.2.2.1⟩
def ofG (v : shP.Val) : Gt := ⟨v.1, v.2.1, v.2.2.1⟩
def avI (v : Int) : List AV := [.i .i64 v]
def avB (v : Bool) : List AV := [.b v]
theorem rsI (l : List shI.Val) : AVEq (.rs 1 (l.map ofI).length (rowsI (l.map ofI))) (Sh.top (.ksl shI) l) := map_rs shI ofI avI 0 (fun _ => rfl) l rfl
theorem rsB (l : List shB.Val) : AVEq (.rs 1 (l.map ofB).length (rowsB (l.map ofB))) (Sh.top (.ksl shB) l) := map_rs shB ofB avB false (fun _ => rfl) l rfl
theorem rsC (l : List shC.Val) : AVEq (.rs 2 (l.map ofC).length (rowsC (l.map ofC))) (Sh.top (.ksl shC) l) := map_rs shC ofC Cl.av dC (fun _ => rfl) l rfl
theorem rsM (l : List shC.Val) : AVEq (.rs 2 (l.map ofM).length (rowsM (l.map ofM))) (Sh.top (.ksl shC) l) := map_rs shC ofM Cm.av dCm (fun _ => rfl) l rfl
theorem rsP (l : List shP.Val) : AVEq (.rs 3 (l.map ofP).length (rowsP (l.map ofP))) (Sh.top (.ksl shP) l) := map_rs shP ofP Pf.av dPf (fun _ => rfl) l rfl
theorem rsG (l : List shP.Val) : AVEq (.rs 3 (l.map ofG).length (rowsG (l.map ofG))) (Sh.top (.ksl shP) l) := map_rs shP ofG Gt.av dGt (fun _ => rfl) l rfl
end Go.Proofs.Ytilhaifmfiobhaa
end
