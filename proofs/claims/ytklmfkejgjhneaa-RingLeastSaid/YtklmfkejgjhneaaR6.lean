/-
  Bridges: Cut, both ways.
-/
import Derived.Test.YtklmfkejgjhneaaR5
namespace Go.Proofs.Ytklmfkejgjhneaa
open Go.Eng

def cutY (B : List Bri) (n : Int) : List Int × List Int × Int :=
  if validB B n = true then (match chosenB B with
    | none => ([], [], 19)
    | some s => (s.2, ranksL B s.1 n, 0)) else ([], [], 1)

set_option maxRecDepth 20000 in
set_option maxHeartbeats 2000000 in
theorem rCut_fn (B : List Bri) (hB : B.length < 1000000) (n : Int) :
    Ctr Try.prog 57 [.rs 3 B.length (rowsB B), .i .i64 n] [.row 3 1 (cutY B n).1.length (rowsI (cutY B n).1), .row 3 1 (cutY B n).2.1.length (rowsI (cutY B n).2.1)] (.tup [.so 0, .so 1, .i .i64 (cutY B n).2.2]) := by
  refine fn_of_exec tabOk Try.func57 (by kernel_rfl) rfl (N := Try.f57.ntmps) rfl (res := [.tmp 4, .tmp 5, .tmp 6]) rfl rfl [(999999, [.nl 4 3 1, .nl 5 3 1])] ?_
  repeat refine Or.inl ?_
  refine ⟨[], _, rRightB_fn B (by omega) n, ⟨fun h => ?_, fun h => ?_⟩⟩
  · have h : (!validB B n) = true := h
    have e : cutY B n = ([], [], 1) := by
      unfold cutY
      rw [if_neg (by rw [Bool.not_eq_true'] at h; rw [h]; decide)]
    rw [e]
    exact RetIs.soo rfl rfl (fun _ hk => by cases hk) (fun _ hk => by cases hk) rfl rfl (fun _ hk => by cases hk) (fun _ hk => by cases hk) rfl rfl rfl rfl
  have h : (!validB B n) = false := h
  have h : validB B n = true := by simpa using h
  have hV := validB_iff.1 h
  refine .inl ⟨_, _, chosen_fn B n hV, ?_⟩
  repeat refine Or.inl ?_
  refine ⟨fun h2 => ?_, fun h2 => ?_⟩
  · have h2 : (!(chosenB B).isSome) = true := h2
    have e : cutY B n = ([], [], 19) := by
      unfold cutY
      rw [if_pos h]
      cases hc : chosenB B with
      | none => rfl
      | some s => rw [hc] at h2; cases h2
    rw [e]
    exact RetIs.soo rfl rfl (fun _ hk => by cases hk) (fun _ hk => by cases hk) rfl rfl (fun _ hk => by cases hk) (fun _ hk => by cases hk) rfl rfl rfl rfl
  have h2 : (!(chosenB B).isSome) = false := h2
  have hc : ∃ s, chosenB B = some s := by
    cases hc : chosenB B with
    | none => rw [hc] at h2; cases h2
    | some s => exact ⟨s, rfl⟩
  obtain ⟨s, hc⟩ := hc
  have e : cutY B n = (chC B, ranksL B (chO B) n, 0) := by
    unfold cutY chC chO
    rw [if_pos h, hc]
  rw [e]
  have hok := COk.all 2 s hc
  have e1 : chO B = s.1 := by unfold chO; rw [hc]
  have hO : OkO B (chO B) := by rw [e1]; exact hok.ok
  have hol : (chO B).length < 1000000 := by
    have h3 := hok.len
    have h4 := hV.len
    rw [e1]
    omega
  have hh := hV.hi
  have hlo := hV.lo
  generalize chO B = o at *
  clear h2 hc hok e1 e
  refine ⟨⟨rfl, by omega, show 8 * n.toNat ≤ 140737488355328 from by omega⟩, ?_⟩
  repeat refine Or.inl ?_
  refine ⟨[], Nat, fun r => r ≤ n.toNat, fun r => [⟨11, [], .i .i64 r⟩], fun r => [⟨2, [], .row 3 1 n.toNat (rowsI (rankIt B o (List.replicate n.toNat 0) r))⟩], fun r => n.toNat - r,
    ⟨0, [], Nat.zero_le _, rfl, rfl, rfl, rfl, rfl, ⟨rfl, rfl⟩, ⟨rfl, rfl, rfl, fun q hq => by show _ = [AV.i .i64 ((List.replicate n.toNat (0 : Int)).getD q 0)]; rw [getD_repl]; rfl⟩⟩, ?_⟩
  intro r hr
  refine .inl ⟨fun hc => ?_, fun hc => ?_⟩
  · have hc : decide ((r : Int) < n) = true := hc
    rw [decide_eq_true_eq] at hc
    have hMl := rankIt_len B o (List.replicate n.toNat 0) r
    rw [List.length_replicate] at hMl
    have hMb := RBd.it (B := B) (o := o) (n := n.toNat) r
    have hMb := hMb.mono (show r * o.length ≤ 12 * 1000000 from Nat.mul_le_mul (by omega) (by omega))
    have hnx : rankIt B o (List.replicate n.toNat 0) (r + 1) = rankRound B o (rankIt B o (List.replicate n.toNat 0) r) := rfl
    generalize rankIt B o (List.replicate n.toNat 0) r = M at *
    repeat refine Or.inl ?_
    refine ⟨[], Nat, fun k => k ≤ o.length, fun k => [⟨12, [], .i .i64 k⟩], fun k => [⟨2, [], .row 3 1 n.toNat (rowsI (rankRound B (o.take k) M))⟩], fun k => o.length - k,
      ⟨0, [], Nat.zero_le _, rfl, rfl, rfl, rfl, rfl, ⟨rfl, rfl⟩, ⟨rfl, rfl, rfl, fun _ _ => rfl⟩⟩, ?_⟩
    intro k hk
    refine .inl ⟨fun hc => ?_, fun hc => ?_⟩
    · have hc := dlt hc
      have ek : (k : Int).toNat = k := Int.toNat_natCast k
      have hs := rankRound_take B o M k (by omega)
      have hl2 : (rankRound B (o.take k) M).length = n.toNat := by rw [rankRound_len, hMl]
      have hb2 := hMb.round (B := B) (o.take k)
      have htk : (o.take k).length = k := by rw [List.length_take]; omega
      rw [htk] at hb2
      generalize rankRound B (o.take k) M = M2 at *
      have hmem : o.getD (k : Int).toNat 0 ∈ o := by rw [ek]; exact getD_memD 0 (by omega)
      have hi := hO _ hmem
      have hb := hV.br hi
      have hs : rankRound B (o.take (k + 1)) M = rankStep B M2 (o.getD (k : Int).toNat 0) := by rw [ek]; exact hs
      have f1 : 0 ≤ (B.getD (o.getD (k : Int).toNat 0).toNat dB).fr := hb.1
      have f2 : (B.getD (o.getD (k : Int).toNat 0).toNat dB).fr < n := hb.2.1
      have f3 : 0 ≤ (B.getD (o.getD (k : Int).toNat 0).toNat dB).to := hb.2.2.1
      have f4 : (B.getD (o.getD (k : Int).toNat 0).toNat dB).to < n := hb.2.2.2
      have g1 := hb2 (br B (o.getD (k : Int).toNat 0)).fr.toNat
      have hrow := rank_row B M2 (o.getD (k : Int).toNat 0) hl2 (show (br B (o.getD (k : Int).toNat 0)).to.toNat < n.toNat from by
        have h1 : 0 ≤ (br B (o.getD (k : Int).toNat 0)).to := f3
        have h2 : (br B (o.getD (k : Int).toNat 0)).to < n := f4
        omega) (v := max (M2.getD (br B (o.getD (k : Int).toNat 0)).to.toNat 0) (IntKind.i64.wrap (M2.getD (br B (o.getD (k : Int).toNat 0)).fr.toNat 0 + 1))) (by rw [wr (by omega) (by omega)])
      rw [← hs] at hrow
      repeat refine Or.inl ?_
      refine ⟨⟨by omega, by omega⟩, by omega, ⟨hi.1, hi.2⟩, ?_⟩
      repeat refine Or.inl ?_
      refine ⟨⟨f3, by omega⟩, by omega, ⟨f1, by omega⟩, by omega, ⟨f3, by omega⟩, by omega, ?_⟩
      exact ⟨k + 1, [], by dsimp only; omega, by dsimp only; omega, rfl, rfl, rfl, rfl, rfl, ⟨rfl, wr (by omega) (by omega)⟩, hrow⟩
    · have hc := dnlt hc
      have hk2 : o.take k = o := List.take_of_length_le (by omega)
      rw [hk2]
      exact ⟨r + 1, [], by dsimp only; omega, by dsimp only; omega, rfl, rfl, rfl, rfl, rfl, ⟨rfl, wr (by omega) (by omega)⟩, ⟨rfl, rfl, rfl, fun _ _ => by rw [hnx]⟩⟩
  · have hc : decide ((r : Int) < n) = false := hc
    rw [decide_eq_false_iff_not] at hc
    obtain rfl : r = n.toNat := by omega
    have hl : (ranksL B o n).length = n.toNat := by unfold ranksL; rw [rankIt_len, List.length_replicate]
    exact RetIs.soo rfl rfl (fun _ _ => rfl) (fun _ _ => rfl) rfl hl.symm (fun _ _ => rfl) (fun _ _ => rfl) rfl rfl rfl rfl

/-! ### a ring, shown -/
def inR (B : List Bri) (i : Int) : Bool := !(decide (i < 0) || decide (i ≥ B.length))
def nxt (B : List Bri) (l : List Int) (k : Nat) : Bri := br B (l.getD ((k + 1) % l.length) 0)
def ringAt (B : List Bri) (l : List Int) (k : Nat) : Bool := !((br B (l.getD k 0)).own || (br B (l.getD k 0)).to != (nxt B l k).fr)
def freshAt (B : List Bri) (l : List Int) (k : Nat) : Bool := !(l.take k).any fun j => (br B j).fr == (br B (l.getD k 0)).fr
def aroundB (B : List Bri) (l : List Int) : Bool := l.all (inR B) && (List.range l.length).all (fun k => ringAt B l k && freshAt B l k) && decide (0 < l.length)
theorem pth_at {B : List Bri} : ∀ {l : List Int} {a b : Int}, pth B a l b → ∀ k, k < l.length → (br B (l.getD k 0)).to = (if k + 1 < l.length then (br B (l.getD (k + 1) 0)).fr else b)
  | [], _, _, _, k, hk => by simp at hk
  | [i], a, b, h, k, hk => by
    have hk0 : k = 0 := by simpa using hk
    subst hk0
    exact h.2
  | i :: j :: r, a, b, h, k, hk => by
    cases k with
    | zero =>
      rw [if_pos (by simp)]
      exact h.2.1.symm
    | succ k =>
      have := pth_at h.2 k (by simpa using hk)
      have e1 : (i :: j :: r).getD (k + 1) 0 = (j :: r).getD k 0 := rfl
      have e2 : (i :: j :: r).getD (k + 1 + 1) 0 = (j :: r).getD (k + 1) 0 := rfl
      rw [e1, e2, this]
      simp only [List.length_cons, Nat.add_lt_add_iff_right]
theorem pth_hd {B : List Bri} {l : List Int} {a b : Int} (h : pth B a l b) : (if 0 < l.length then (br B (l.getD 0 0)).fr else b) = a := by
  cases l with
  | nil => exact h.symm
  | cons i r => exact h.1
theorem around_of {B : List Bri} {o : List Int} {k : Nat} {p : List Int} (hO : OkO B o) (hk : k < B.length) (hown : ∀ i ∈ o, (br B i).own = false) (hko : (br B k).own = false)
    (hp : pth B (br B k).to p (br B k).fr) (hin : ∀ i ∈ p, i ∈ o) (hnd : (frs B p).Nodup) (hlast : (br B k).fr ∉ frs B p) : aroundB B (p ++ [(k : Int)]) = true := by
  have hl : (p ++ [(k : Int)]).length = p.length + 1 := by simp
  have hmem : ∀ i ∈ p ++ [(k : Int)], (0 ≤ i ∧ i < B.length) ∧ (br B i).own = false := by
    intro i hi
    rcases List.mem_append.1 hi with hi | hi
    · exact ⟨hO _ (hin i hi), hown _ (hin i hi)⟩
    · rw [List.mem_singleton.1 hi]
      exact ⟨by omega, hko⟩
  have hgl : ∀ j, j < p.length → (p ++ [(k : Int)]).getD j 0 = p.getD j 0 := fun j hj => getD_append_lt 0 p _ j hj
  have hge : (p ++ [(k : Int)]).getD p.length 0 = k := by
    rw [getD_append_ge 0 p _ _ (Nat.le_refl _), Nat.sub_self]
    rfl
  unfold aroundB
  rw [Bool.and_eq_true, Bool.and_eq_true, decide_eq_true_eq]
  refine ⟨⟨?_, ?_⟩, by omega⟩
  · rw [List.all_eq_true]
    intro i hi
    have := (hmem i hi).1
    unfold inR
    rw [Bool.not_eq_true', Bool.or_eq_false_iff, decide_eq_false_iff_not, decide_eq_false_iff_not]
    omega
  · rw [List.all_eq_true]
    intro j hj
    rw [List.mem_range, hl] at hj
    rw [Bool.and_eq_true]
    constructor
    · unfold ringAt
      rw [Bool.not_eq_true', Bool.or_eq_false_iff, bne_eq_false_iff_eq]
      refine ⟨(hmem _ (getD_memD 0 (by omega))).2, ?_⟩
      unfold nxt
      rw [hl]
      by_cases hjp : j < p.length
      · rw [hgl j hjp, Nat.mod_eq_of_lt (by omega), pth_at hp j hjp]
        by_cases hj2 : j + 1 < p.length
        · rw [if_pos hj2, hgl _ hj2]
        · have : j + 1 = p.length := by omega
          rw [if_neg hj2, this, hge]
      · have : j = p.length := by omega
        subst this
        rw [hge, Nat.mod_self, ← pth_hd hp]
        by_cases h0 : 0 < p.length
        · rw [if_pos h0, hgl 0 h0]
        · have e0 : p = [] := List.eq_nil_of_length_eq_zero (by omega)
          subst e0
          rfl
    · unfold freshAt
      rw [Bool.not_eq_true', List.any_eq_false]
      intro i hi
      rw [beq_iff_eq]
      intro he
      rw [List.take_append_of_le_length (by omega)] at hi
      by_cases hjp : j < p.length
      · rw [hgl j hjp] at he
        obtain ⟨q, hq, rfl⟩ := List.getElem_of_mem hi
        rw [List.length_take] at hq
        rw [List.getElem_take] at he
        have h1 : (frs B p)[q]'(by unfold frs; rw [List.length_map]; omega) = (frs B p)[j]'(by unfold frs; rw [List.length_map]; omega) := by
          unfold frs
          rw [List.getElem_map, List.getElem_map, he]
          simp [List.getD, hjp]
        have := (List.getElem_inj hnd).1 h1
        omega
      · have : j = p.length := by omega
        subst this
        rw [hge] at he
        apply hlast
        unfold frs
        rw [List.mem_map]
        exact ⟨i, List.mem_of_mem_take hi, he⟩
theorem passF_ok {B : List Bri} : ∀ k, k ≤ B.length → ∀ o, passF B k = some o → OkO B o ∧ (∀ i ∈ o, (br B i).own = false) ∧ o.length ≤ k
  | 0, _, o, h => by
    cases h
    exact ⟨fun i hi => (by cases hi), fun i hi => (by cases hi), Nat.le_refl _⟩
  | k + 1, hk, o, h => by
    rw [passF_succ] at h
    cases hp : passF B k with
    | none => rw [hp] at h; cases h
    | some u =>
      rw [hp] at h
      obtain ⟨h1, h2, h3⟩ := passF_ok k (by omega) u hp
      dsimp only at h
      by_cases ho : (br B k).own = true
      · rw [if_pos ho] at h
        cases h
        exact ⟨h1, h2, by omega⟩
      · rw [if_neg ho] at h
        split at h
        · cases h
        · cases h
          refine ⟨fun i hi => ?_, fun i hi => ?_, by rw [List.length_append]; simp only [List.length_cons, List.length_nil]; omega⟩
          · rcases List.mem_append.1 hi with hi | hi
            · exact h1 i hi
            · rw [List.mem_singleton.1 hi]; omega
          · rcases List.mem_append.1 hi with hi | hi
            · exact h2 i hi
            · rw [List.mem_singleton.1 hi]; simpa using ho
theorem passF_none {B : List Bri} {k : Nat} (h : passF B k = none) : ∀ m, passF B (k + m) = none
  | 0 => h
  | m + 1 => by
    show passF B (k + m + 1) = none
    rw [passF_succ, passF_none h m]
theorem passO_ok {B : List Bri} {o0 : List Int} (h0 : OkO B o0) : ∀ k, k ≤ B.length → OkO B (passO B o0 k).1 ∧ OkO B (passO B o0 k).2 ∧ (passO B o0 k).1.length ≤ o0.length + k ∧ (passO B o0 k).2.length ≤ k
  | 0, _ => ⟨h0, fun i hi => (by cases hi), Nat.le_refl _, Nat.le_refl _⟩
  | k + 1, hk => by
    obtain ⟨h1, h2, h3, h4⟩ := passO_ok h0 k (by omega)
    rw [passO_succ]
    split
    · exact ⟨h1, h2, by omega, by omega⟩
    · split
      · refine ⟨h1, fun i hi => ?_, by dsimp only; omega, by dsimp only; rw [List.length_append]; simp only [List.length_cons, List.length_nil]; omega⟩
        rcases List.mem_append.1 hi with hi | hi
        · exact h2 i hi
        · rw [List.mem_singleton.1 hi]; omega
      · refine ⟨fun i hi => ?_, h2, by dsimp only; rw [List.length_append]; simp only [List.length_cons, List.length_nil]; omega, by dsimp only; omega⟩
        rcases List.mem_append.1 hi with hi | hi
        · exact h1 i hi
        · rw [List.mem_singleton.1 hi]; omega
/-- What Cut returns. -/
structure CutS (B : List Bri) (n : Int) (y : List Int × List Int × Int) : Prop where
  el : (validB B n = true → chosenB B ≠ none) → y = cutY B n
  bad : validB B n = true → chosenB B = none → y.2 = ([], 19) ∧ aroundB B y.1 = true
  len : y.1.length ≤ 200 ∧ y.2.1.length ≤ 12

set_option maxRecDepth 20000 in
set_option maxHeartbeats 2000000 in
theorem Cut_fn (B : List Bri) (hB : B.length < 1000000) (n : Int) :
    CtrM Try.prog 56 false [] [.rs 3 B.length (rowsB B), .i .i64 n] (fun y : List Int × List Int × Int => CutS B n y) (fun _ => []) (fun y => [.row 3 1 y.1.length (rowsI y.1), .row 3 1 y.2.1.length (rowsI y.2.1)]) (fun y => .tup [.so 0, .so 1, .i .i64 y.2.2]) := by
  refine fn_of_execM tabOk Try.func56 (by kernel_rfl) rfl (N := Try.f56.ntmps) rfl (res := [.tmp 4, .tmp 5, .tmp 6]) rfl false true [] _ _ _ _ rfl (fun _ => rfl) [(999999, [.nl 4 3 1, .nl 5 3 1])] ?_
  repeat refine Or.inl ?_
  refine ⟨[], _, valid_fn B (by omega) n, ⟨fun h => ?_, fun h => ?_⟩⟩
  · have h : (!validB B n) = true := h
    have h3 : validB B n = false := by simpa using h
    have e : cutY B n = ([], [], 1) := by
      unfold cutY
      rw [if_neg (by rw [h3]; decide)]
    exact RetM.of (([], [], 1) : List Int × List Int × Int) ⟨fun _ => e.symm, fun hv => (by rw [h3] at hv; cases hv), by decide⟩
      (RetIs.soo rfl rfl (fun _ hk => by cases hk) (fun _ hk => by cases hk) rfl rfl (fun _ hk => by cases hk) (fun _ hk => by cases hk) rfl rfl rfl rfl)
  have h : (!validB B n) = false := h
  have h : validB B n = true := by simpa using h
  have hV := validB_iff.1 h
  have hBl := hV.len
  have hh := hV.hi
  have hlo := hV.lo
  repeat refine Or.inl ?_
  refine ⟨[(7, 3, 1)], Nat × List Int, fun x => x.1 ≤ B.length ∧ passF B x.1 = some x.2, fun x => [⟨23, [], .i .i64 x.1⟩, ⟨7, [], .so 0⟩], fun x => [⟨0, [], .row 3 1 x.2.length (rowsI x.2)⟩], fun x => B.length - x.1,
    ⟨(0, []), [], ⟨Nat.zero_le _, rfl⟩, rfl, rfl, rfl, rfl, rfl, ⟨⟨rfl, rfl⟩, rfl⟩, ⟨rfl, rfl, rfl, fun j hj => by cases hj⟩⟩, ?_⟩
  rintro ⟨k, o⟩ ⟨hk, hp⟩
  dsimp only at hk hp
  obtain ⟨hO, hown, hol⟩ := passF_ok k hk o hp
  refine .inl ⟨fun hc => ?_, fun hc => ?_⟩
  · have hc := dlt hc
    have ek : (k : Int).toNat = k := Int.toNat_natCast k
    have w : IntKind.i64.wrap ((k : Int) + 1) = ((k + 1 : Nat) : Int) := wr (by omega) (by omega)
    have hi : 0 ≤ (k : Int) ∧ (k : Int) < B.length := ⟨by omega, by omega⟩
    have hb := hV.br hi
    have f1 : 0 ≤ (B.getD (k : Int).toNat dB).fr := hb.1
    have f2 : (B.getD (k : Int).toNat dB).fr < n := hb.2.1
    have f3 : 0 ≤ (B.getD (k : Int).toNat dB).to := hb.2.2.1
    have f4 : (B.getD (k : Int).toNat dB).to < n := hb.2.2.2
    have hs := passF_succ B k
    rw [hp] at hs
    dsimp only at hs
    repeat refine Or.inl ?_
    refine ⟨⟨by omega, by omega⟩, ?_⟩
    repeat refine Or.inl ?_
    refine ⟨fun h3 => ?_, fun h3 => ?_⟩
    · have h3 : (br B (k : Int)).own = true := h3
      rw [if_pos h3] at hs
      exact ⟨(k + 1, o), [], ⟨by dsimp only; omega, hs⟩, by dsimp only; omega, rfl, rfl, rfl, rfl, rfl, ⟨⟨rfl, w⟩, rfl⟩, same_row rfl⟩
    have h3 : (br B (k : Int)).own = false := h3
    rw [if_neg (by rw [h3]; decide)] at hs
    refine Or.inl ?_
    refine .inr (.inr ⟨false, [], rfl, List Int × Bool, _, _, _, _, path_fn B n hV o hO (by omega) (B.getD (k : Int).toNat dB).to (B.getD (k : Int).toNat dB).fr f3 f4 f1, fun y hy => ?_⟩)
    have hy : PathS B o (br B k).to (br B k).fr y := hy
    repeat refine Or.inl ?_
    refine ⟨fun h4 => ?_, fun h4 => ?_⟩
    · have h4 : y.2 = true := h4
      obtain ⟨g1, g2, g3, g4, g5⟩ := hy.is h4
      have hr : reachB B o (br B k).to (br B k).fr = true := by rw [← hy.ok, h4]
      rw [if_pos hr] at hs
      have hnone : chosenB B = none := by
        show cAll B 2 = none
        rw [cAll2]
        have h7 := passF_none hs (B.length - (k + 1))
        rw [Nat.add_sub_cancel' (by omega)] at h7
        rw [h7]
        rfl
      refine ⟨fits (by omega), ?_⟩
      exact RetM.of ((y.1 ++ [(k : Int)], [], 19) : List Int × List Int × Int) ⟨fun hv => (hv h hnone).elim, fun _ _ => ⟨rfl, around_of hO (by omega) hown h3 g1 g2 g3 g4⟩, by simp; omega⟩
        (RetIs.soo rfl (by simp) (fun q hq => snocZ y.1 k q hq) (fun _ _ => rfl) rfl rfl (fun _ hk => by cases hk) (fun _ hk => by cases hk) rfl rfl rfl rfl)
    · have h4 : y.2 = false := h4
      have hr : reachB B o (br B k).to (br B k).fr = false := by rw [← hy.ok, h4]
      rw [if_neg (by rw [hr]; decide)] at hs
      refine ⟨fits (by dsimp only; omega), ?_⟩
      exact ⟨(k + 1, o ++ [(k : Int)]), [(0, 4)], ⟨by dsimp only; omega, hs⟩, by dsimp only; omega, rfl, rfl, rfl, rfl, rfl, ⟨⟨rfl, w⟩, rfl⟩, snocZ_row _ _ rfl⟩
  · have hc := dnlt hc
    obtain rfl : k = B.length := by omega
    repeat refine Or.inl ?_
    refine ⟨[(8, 3, 1)], Nat × List Int × List Int, fun x => x.1 ≤ B.length ∧ passO B o x.1 = x.2, fun x => [⟨52, [], .i .i64 x.1⟩, ⟨7, [], .so 0⟩, ⟨8, [], .so 1⟩], fun x => [⟨0, [], .row 3 1 x.2.1.length (rowsI x.2.1)⟩, ⟨1, [], .row 3 1 x.2.2.length (rowsI x.2.2)⟩], fun x => B.length - x.1,
      ⟨(0, (o, [])), [], ⟨Nat.zero_le _, rfl⟩, rfl, rfl, rfl, rfl, rfl, ⟨⟨rfl, rfl⟩, rfl, rfl⟩, ⟨AOEq.refl _, ⟨rfl, rfl, rfl, fun j hj => by cases hj⟩⟩⟩, ?_⟩
    rintro ⟨k, p, c⟩ ⟨hk, hp2⟩
    dsimp only at hk hp2
    have hpo := passO_ok hO k hk
    have hs := passO_succ B o k
    rw [hp2] at hpo hs
    obtain ⟨hPo, hPc, hpl, hcl⟩ := hpo
    dsimp only at hPo hPc hpl hcl hs
    refine .inl ⟨fun hc => ?_, fun hc => ?_⟩
    · have hc := dlt hc
      have ek : (k : Int).toNat = k := Int.toNat_natCast k
      have w : IntKind.i64.wrap ((k : Int) + 1) = ((k + 1 : Nat) : Int) := wr (by omega) (by omega)
      have hi : 0 ≤ (k : Int) ∧ (k : Int) < B.length := ⟨by omega, by omega⟩
      have hb := hV.br hi
      have f1 : 0 ≤ (B.getD (k : Int).toNat dB).fr := hb.1
      have f2 : (B.getD (k : Int).toNat dB).fr < n := hb.2.1
      have f3 : 0 ≤ (B.getD (k : Int).toNat dB).to := hb.2.2.1
      have f4 : (B.getD (k : Int).toNat dB).to < n := hb.2.2.2
      repeat refine Or.inl ?_
      refine ⟨⟨by omega, by omega⟩, ?_⟩
      repeat refine Or.inl ?_
      refine ⟨fun h3 => ?_, fun h3 => ?_⟩
      · have h3 : (!(br B (k : Int)).own) = true := h3
        have h3 : (br B (k : Int)).own = false := by simpa using h3
        rw [if_pos h3] at hs
        exact ⟨(k + 1, (p, c)), [], ⟨by dsimp only; omega, hs⟩, by dsimp only; omega, rfl, rfl, rfl, rfl, rfl, ⟨⟨rfl, w⟩, rfl, rfl⟩, ⟨AOEq.refl _, same_row rfl⟩⟩
      have h3 : (!(br B (k : Int)).own) = false := h3
      rw [if_neg (by rw [Bool.not_eq_false'] at h3; rw [h3]; decide)] at hs
      refine .inr (.inr ⟨false, [], rfl, List Int × Bool, _, _, _, _, path_fn B n hV p hPo (by omega) (B.getD (k : Int).toNat dB).to (B.getD (k : Int).toNat dB).fr f3 f4 f1, fun y hy => ?_⟩)
      have hy : PathS B p (br B k).to (br B k).fr y := hy
      repeat refine Or.inl ?_
      refine ⟨fun h4 => ?_, fun h4 => ?_⟩
      · have h4 : y.2 = true := h4
        have hr : reachB B p (br B k).to (br B k).fr = true := by rw [← hy.ok, h4]
        rw [if_pos hr] at hs
        refine ⟨fits (by dsimp only; omega), ?_⟩
        exact ⟨(k + 1, (p, c ++ [(k : Int)])), [(1, 5)], ⟨by dsimp only; omega, hs⟩, by dsimp only; omega, rfl, rfl, rfl, rfl, rfl, ⟨⟨rfl, w⟩, rfl, rfl⟩, ⟨AOEq.refl _, snocZ_row _ _ rfl⟩⟩
      · have h4 : y.2 = false := h4
        have hr : reachB B p (br B k).to (br B k).fr = false := by rw [← hy.ok, h4]
        rw [if_neg (by rw [hr]; decide)] at hs
        refine ⟨fits (by dsimp only; omega), ?_⟩
        exact ⟨(k + 1, (p ++ [(k : Int)], c)), [(0, 5)], ⟨by dsimp only; omega, hs⟩, by dsimp only; omega, rfl, rfl, rfl, rfl, rfl, ⟨⟨rfl, w⟩, rfl, rfl⟩, ⟨snocZ_row _ _ rfl, same_row rfl⟩⟩
    · have hc := dnlt hc
      obtain rfl : k = B.length := by omega
      have hch : chosenB B = some (p, c) := by
        show cAll B 2 = _
        rw [cAll2, hp]
        show some (passO B o B.length) = _
        rw [hp2]
      have hcut : cutY B n = (c, ranksL B p n, 0) := by
        unfold cutY
        rw [if_pos h, hch]
      refine .inl ⟨_, _, ranks_fn B n hV p hPo (by omega), ?_⟩
      exact RetM.of ((c, ranksL B p n, 0) : List Int × List Int × Int) ⟨fun _ => hcut.symm, fun _ hn => (by rw [hch] at hn; cases hn), by dsimp only; unfold ranksL; rw [rankIt_len, List.length_replicate]; omega⟩
        (RetIs.soo rfl rfl (fun _ _ => rfl) (fun _ _ => rfl) rfl rfl (fun _ _ => rfl) (fun _ _ => rfl) rfl rfl rfl rfl)
end Go.Proofs.Ytklmfkejgjhneaa
