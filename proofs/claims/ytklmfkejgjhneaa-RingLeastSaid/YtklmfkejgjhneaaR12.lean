/-
  RingForeign: whether foreign bridges lead around.
-/
import Derived.Test.YtklmfkejgjhneaaR11
namespace Go.Proofs.Ytklmfkejgjhneaa
open Go.Eng

/-! ### the plain law -/
def EdF (B : List Bri) (u v : Int) : Prop := ∃ b ∈ B, b.own = false ∧ b.fr = u ∧ b.to = v
def LoopF (B : List Bri) : Prop := ∃ b ∈ B, b.own = false ∧ Rch (EdF B) b.to b.fr
def Acy (B : List Bri) (o : List Int) : Prop := ∀ i ∈ o, ¬ Rch (Ed B o) (br B i).to (br B i).fr
theorem rch_split {B : List Bri} {o : List Int} {k x y : Int} (h : Rch (Ed B (o ++ [k])) x y) : Rch (Ed B o) x y ∨ (Rch (Ed B o) x (br B k).fr ∧ Rch (Ed B o) (br B k).to y) := by
  induction h with
  | refl => exact .inl .refl
  | step _ he ih =>
    obtain ⟨i, hi, rfl, rfl⟩ := he
    rcases List.mem_append.1 hi with hi | hi
    · rcases ih with h1 | ⟨h1, h2⟩
      · exact .inl (h1.step ⟨i, hi, rfl, rfl⟩)
      · exact .inr ⟨h1, h2.step ⟨i, hi, rfl, rfl⟩⟩
    · rw [List.mem_singleton.1 hi] at ih ⊢
      rcases ih with h1 | ⟨h1, _⟩
      · exact .inr ⟨h1, .refl⟩
      · exact .inr ⟨h1, .refl⟩
theorem Acy.add {B : List Bri} {o : List Int} {k : Int} (h : Acy B o) (hk : ¬ Rch (Ed B o) (br B k).to (br B k).fr) : Acy B (o ++ [k]) := by
  intro i hi hr
  rcases List.mem_append.1 hi with hi | hi
  · rcases rch_split hr with h1 | ⟨h1, h2⟩
    · exact h i hi h1
    · exact hk ((h2.step ⟨i, hi, rfl, rfl⟩).trans h1)
  · rw [List.mem_singleton.1 hi] at hr
    rcases rch_split hr with h1 | ⟨h1, _⟩
    · exact hk h1
    · exact hk h1
theorem passF_mem {B : List Bri} : ∀ k o, passF B k = some o → ∀ i, i ∈ o ↔ (0 ≤ i ∧ i < k) ∧ (br B i).own = false
  | 0, o, h, i => by
    cases h
    constructor
    · intro h; cases h
    · rintro ⟨⟨h1, h2⟩, _⟩
      have h2 : i < 0 := h2
      omega
  | k + 1, o, h, i => by
    rw [passF_succ] at h
    cases hp : passF B k with
    | none => rw [hp] at h; cases h
    | some u =>
      rw [hp] at h
      have ih := passF_mem k u hp i
      dsimp only at h
      by_cases ho : (br B k).own = true
      · rw [if_pos ho] at h
        cases h
        rw [ih]
        constructor
        · rintro ⟨h1, h2⟩
          exact ⟨by omega, h2⟩
        · rintro ⟨h1, h2⟩
          refine ⟨?_, h2⟩
          by_cases he : i = (k : Int)
          · subst he; rw [ho] at h2; cases h2
          · omega
      · rw [if_neg ho] at h
        have ho : (br B k).own = false := by simpa using ho
        split at h
        · cases h
        · cases h
          rw [List.mem_append, ih, List.mem_singleton]
          constructor
          · rintro (⟨h1, h2⟩ | rfl)
            · exact ⟨by omega, h2⟩
            · exact ⟨by omega, ho⟩
          · rintro ⟨h1, h2⟩
            by_cases he : i = (k : Int)
            · exact .inr he
            · exact .inl ⟨by omega, h2⟩
section
variable {B : List Bri} {n : Int} (hV : Valid B n)
include hV
theorem reach_at {o : List Int} (hO : OkO B o) {i : Int} (hi : 0 ≤ i ∧ i < B.length) : reachB B o (br B i).to (br B i).fr = true ↔ Rch (Ed B o) (br B i).to (br B i).fr :=
  reachB_iff hV hO (hV.br hi).2.2.1 (hV.br hi).2.2.2 (hV.br hi).1
theorem passF_acy : ∀ k, k ≤ B.length → ∀ o, passF B k = some o → Acy B o
  | 0, _, o, h => by
    cases h
    intro i hi
    cases hi
  | k + 1, hk, o, h => by
    rw [passF_succ] at h
    cases hp : passF B k with
    | none => rw [hp] at h; cases h
    | some u =>
      rw [hp] at h
      have ih := passF_acy k (by omega) u hp
      have hO := (passF_ok k (by omega) u hp).1
      dsimp only at h
      by_cases ho : (br B k).own = true
      · rw [if_pos ho] at h
        cases h
        exact ih
      · rw [if_neg ho] at h
        split at h
        · cases h
        · rename_i hr
          cases h
          rw [reach_at hV hO ⟨by omega, by omega⟩] at hr
          exact ih.add hr
omit hV in
theorem ed_F {o : List Int} (ho : ∀ i ∈ o, (0 ≤ i ∧ i < B.length) ∧ (br B i).own = false) : ∀ u v, Ed B o u v → EdF B u v := by
  rintro u v ⟨i, hi, rfl, rfl⟩
  exact ⟨br B i, br_mem (ho i hi).1, (ho i hi).2, rfl, rfl⟩
theorem passF_bad : ∀ k, k ≤ B.length → passF B k = none → LoopF B
  | 0, _, h => by cases h
  | k + 1, hk, h => by
    rw [passF_succ] at h
    cases hp : passF B k with
    | none => exact passF_bad k (by omega) hp
    | some u =>
      rw [hp] at h
      have hm := passF_mem k u hp
      have hO := (passF_ok k (by omega) u hp).1
      dsimp only at h
      by_cases ho : (br B k).own = true
      · rw [if_pos ho] at h; cases h
      · rw [if_neg ho] at h
        have ho : (br B k).own = false := by simpa using ho
        split at h
        · rename_i hr
          rw [reach_at hV hO ⟨by omega, by omega⟩] at hr
          exact ⟨br B k, br_mem ⟨by omega, by omega⟩, ho, hr.mono (ed_F fun i hi => ⟨by have := ((hm i).1 hi).1; omega, ((hm i).1 hi).2⟩)⟩
        · cases h
omit hV in
theorem br_ex {b : Bri} (h : b ∈ B) : ∃ i : Int, (0 ≤ i ∧ i < B.length) ∧ br B i = b := by
  obtain ⟨q, hq, rfl⟩ := List.getElem_of_mem h
  exact ⟨q, ⟨by omega, by omega⟩, by unfold br; rw [Int.toNat_natCast]; simp [List.getD, hq]⟩
omit hV in
theorem ed_iff {o : List Int} (ho : ∀ i, i ∈ o ↔ (0 ≤ i ∧ i < B.length) ∧ (br B i).own = false) : ∀ u v, EdF B u v → Ed B o u v := by
  rintro u v ⟨b, hb, h1, rfl, rfl⟩
  obtain ⟨i, hi, rfl⟩ := br_ex hb
  exact ⟨i, (ho i).2 ⟨hi, h1⟩, rfl, rfl⟩
theorem passF_none_iff : passF B B.length = none ↔ LoopF B := by
  constructor
  · exact passF_bad hV _ (Nat.le_refl _)
  · rintro ⟨b, hb, h1, h2⟩
    cases hp : passF B B.length with
    | none => rfl
    | some o =>
      exfalso
      have hm := passF_mem _ o hp
      obtain ⟨i, hi, rfl⟩ := br_ex hb
      exact passF_acy hV _ (Nat.le_refl _) o hp i ((hm i).2 ⟨hi, h1⟩) (h2.mono (ed_iff hm))
theorem chosen_none_iff : chosenB B = none ↔ LoopF B := by
  rw [← passF_none_iff hV]
  show cAll B 2 = none ↔ _
  rw [cAll2]
  cases passF B B.length <;> simp
end
def forL (B : List Bri) (k : Nat) : List Bri := (B.take k).filter fun b => !b.own
def ownL (B : List Bri) (k : Nat) : List Int := ((List.range k).filter fun q : Nat => (br B q).own).map fun q : Nat => (q : Int)
theorem forL_valid {B : List Bri} {n : Int} (h : Valid B n) (k : Nat) : Valid (forL B k) n :=
  ⟨h.lo, h.hi, by
    have h1 : (forL B k).length ≤ (B.take k).length := List.length_filter_le _ _
    have h2 := h.len
    rw [List.length_take] at h1
    omega, fun b hb => h.node b (List.mem_of_mem_take (List.mem_filter.1 hb).1)⟩
theorem mem_forL {B : List Bri} {b : Bri} : b ∈ forL B B.length ↔ b ∈ B ∧ b.own = false := by
  unfold forL
  rw [List.take_length, List.mem_filter, Bool.not_eq_true']
theorem edF_for {B : List Bri} (u v : Int) : EdF (forL B B.length) u v ↔ EdF B u v := by
  constructor
  · rintro ⟨b, h1, h2, h3, h4⟩
    exact ⟨b, (mem_forL.1 h1).1, h2, h3, h4⟩
  · rintro ⟨b, h1, h2, h3, h4⟩
    exact ⟨b, mem_forL.2 ⟨h1, h2⟩, h2, h3, h4⟩
theorem loop_for {B : List Bri} : LoopF (forL B B.length) ↔ LoopF B := by
  constructor
  · rintro ⟨b, h1, h2, h3⟩
    exact ⟨b, (mem_forL.1 h1).1, h2, h3.mono fun u v => (edF_for u v).1⟩
  · rintro ⟨b, h1, h2, h3⟩
    exact ⟨b, mem_forL.2 ⟨h1, h2⟩, h2, h3.mono fun u v => (edF_for u v).2⟩
theorem mem_ownL {B : List Bri} {k : Nat} {i : Int} : i ∈ ownL B k ↔ (0 ≤ i ∧ i < k) ∧ (br B i).own = true := by
  unfold ownL
  simp only [List.mem_map, List.mem_filter, List.mem_range]
  constructor
  · rintro ⟨q, ⟨h1, h2⟩, rfl⟩
    exact ⟨⟨by omega, by omega⟩, h2⟩
  · rintro ⟨h1, h2⟩
    refine ⟨i.toNat, ⟨by omega, ?_⟩, by omega⟩
    rw [Int.toNat_of_nonneg h1.1]
    exact h2
theorem mem_notown {B : List Bri} {i : Int} : i ∈ othersL B (ownL B B.length) B.length ↔ (0 ≤ i ∧ i < B.length) ∧ (br B i).own = false := by
  rw [mem_others, mem_ownL]
  constructor
  · rintro ⟨h1, h2⟩
    refine ⟨h1, ?_⟩
    rw [Bool.eq_false_iff]
    exact fun h => h2 ⟨h1, h⟩
  · rintro ⟨h1, h2⟩
    exact ⟨h1, fun h => by rw [h2] at h; cases h.2⟩
def linkAt (B : List Bri) (k : Nat) : Bool := !(br B k).own && hasN (RoundsL B (ownL B B.length) (br B k).to) (br B k).fr
def linkL (B : List Bri) (k : Nat) : Bool := (List.range k).any (linkAt B)
theorem valid12 {B : List Bri} {n : Int} (h : Valid B n) : Valid B 12 := ⟨by decide, by decide, h.len, fun b hb => by
  have h1 := h.node b hb
  have h2 := h.hi
  omega⟩
theorem RoundsL_eq {B : List Bri} {n : Int} (h : Valid B n) {c : List Int} {a : Int} (ha : 0 ≤ a ∧ a < 12) : RoundsL B c a = ReachL B (othersL B c B.length) a := by
  unfold RoundsL
  rw [if_neg]
  rw [validB_iff.2 (valid12 h)]
  simp only [Bool.not_true, Bool.false_or, Bool.or_eq_true, decide_eq_true_eq]
  omega
theorem link_iff {B : List Bri} {n : Int} (h : Valid B n) : linkL B B.length = true ↔ LoopF B := by
  have hV := valid12 h
  have hO := others_ok B (ownL B B.length)
  have key : ∀ k : Nat, k < B.length → (linkAt B k = true ↔ (br B k).own = false ∧ Rch (EdF B) (br B k).to (br B k).fr) := by
    intro k hk
    have hb := hV.br (i := (k : Int)) ⟨by omega, by omega⟩
    unfold linkAt
    rw [Bool.and_eq_true, Bool.not_eq_true', RoundsL_eq h ⟨hb.2.2.1, hb.2.2.2⟩, hasN_iff, mem_ReachL hV hO hb.2.2.1 hb.2.2.2]
    constructor
    · rintro ⟨h1, h2⟩
      exact ⟨h1, h2.mono (ed_F fun i hi => mem_notown.1 hi)⟩
    · rintro ⟨h1, h2⟩
      exact ⟨h1, h2.mono (ed_iff fun i => mem_notown)⟩
  unfold linkL
  rw [List.any_eq_true]
  constructor
  · rintro ⟨k, hk, h1⟩
    rw [List.mem_range] at hk
    have := (key k hk).1 h1
    exact ⟨br B k, br_mem ⟨by omega, by omega⟩, this.1, this.2⟩
  · rintro ⟨b, hb, h1, h2⟩
    obtain ⟨i, hi, rfl⟩ := br_ex hb
    refine ⟨i.toNat, List.mem_range.2 (by omega), (key i.toNat (by omega)).2 ?_⟩
    rw [Int.toNat_of_nonneg hi.1]
    exact ⟨h1, h2⟩
theorem cut_v {B : List Bri} {n : Int} (hV : Valid B n) {y : List Int × List Int × Int} (h : CutS B n y) : y.2.2 = if chosenB B = none then 19 else 0 := by
  have hv := validB_iff.2 hV
  cases hc : chosenB B with
  | none =>
    rw [if_pos rfl, (h.bad hv hc).1]
  | some s =>
    rw [if_neg (by simp), h.el fun _ => by rw [hc]; simp]
    unfold cutY
    rw [if_pos hv, hc]
theorem for_v {B : List Bri} {n : Int} (hV : Valid B n) {y z : List Int × List Int × Int} (h : CutS B n y) (g : CutS (forL B B.length) n z) : y.2.2 = z.2.2 := by
  rw [cut_v hV h, cut_v (forL_valid hV _) g]
  have e : chosenB B = none ↔ chosenB (forL B B.length) = none := by
    rw [chosen_none_iff hV, chosen_none_iff (forL_valid hV _), loop_for]
  by_cases hc : chosenB B = none
  · rw [if_pos hc, if_pos (e.1 hc)]
  · rw [if_neg hc, if_neg fun h => hc (e.2 h)]
theorem link_v {B : List Bri} {n : Int} (hV : Valid B n) {y : List Int × List Int × Int} (h : CutS B n y) : linkL B B.length = (y.2.2 == 19) := by
  rw [cut_v hV h, Bool.eq_iff_iff, link_iff hV, ← chosen_none_iff hV]
  by_cases hc : chosenB B = none
  · rw [if_pos hc]; simp [hc]
  · rw [if_neg hc]; simp [hc]
theorem ownL_succ (B : List Bri) (k : Nat) : ownL B (k + 1) = if (br B k).own = true then ownL B k ++ [(k : Int)] else ownL B k := by
  unfold ownL
  rw [List.range_succ, List.filter_append, List.map_append]
  cases h : (br B k).own <;> simp [h]
theorem forL_succ (B : List Bri) (k : Nat) (h : k < B.length) : forL B (k + 1) = if (br B k).own = true then forL B k else forL B k ++ [br B k] := by
  unfold forL
  rw [List.take_succ_eq_append_getElem h, List.filter_append]
  have e : br B k = B[k] := by unfold br; rw [Int.toNat_natCast]; simp [List.getD, h]
  rw [e]
  cases h : B[k].own <;> simp [h]
theorem snocB (o : List Bri) (x : Bri) : ∀ k, k < (o ++ [x]).length → catG o.length (rowsB o) (rowOf 3 x.av) k = rowsB (o ++ [x]) k := by
  intro k hk
  unfold catG rowsB
  by_cases h : k < o.length
  · rw [if_pos h, getD_append_lt dB _ _ _ h]
  · rw [if_neg h]
    have : k = o.length := by simp at hk; omega
    subst this
    rw [getD_append_ge dB _ _ _ (Nat.le_refl _), Nat.sub_self]
    rfl
theorem snocB_row (o : List Bri) (x : Bri) {l : List Bri} (hl : l = o ++ [x]) : AOEq (.row 83 3 l.length (rowsB l)) (.row 83 3 (o.length + 1) (catG o.length (rowsB o) (rowOf 3 x.av))) := by
  subst hl
  exact ⟨rfl, rfl, by simp, snocB o x⟩
theorem ownL_len (B : List Bri) (k : Nat) : (ownL B k).length ≤ k := by
  unfold ownL
  rw [List.length_map]
  refine Nat.le_trans (List.length_filter_le _ _) ?_
  simp
theorem forL_len (B : List Bri) (k : Nat) : (forL B k).length ≤ k := by
  unfold forL
  refine Nat.le_trans (List.length_filter_le _ _) ?_
  rw [List.length_take]
  omega

set_option maxRecDepth 20000 in
set_option maxHeartbeats 2000000 in
theorem ringForeign_fn (B : List Bri) (n : Int) : Ctr Try.prog 18 [.rs 3 B.length (rowsB B), .i .i64 n] [] (.b true) := by
  refine fn_of_exec tabOk Try.func18 (by kernel_rfl) rfl (N := Try.f18.ntmps) rfl (res := [.tmp 4]) rfl rfl [] ?_
  refine .inl ⟨[], _, smallR_fn, ?_⟩
  repeat refine Or.inl ?_
  refine ⟨[], _, fun hg => rRightB_fn B (by
    have hg : decide ((B.length : Int) > 40) = false := hg.1
    rw [decide_eq_false_iff_not] at hg
    omega) n, ?_⟩
  refine ⟨fun hf => RetIs.b rfl, fun hf => ?_⟩
  have hf : (decide ((B.length : Int) > 40) || !validB B n) = false := hf
  simp only [Bool.or_eq_false_iff, decide_eq_false_iff_not, Bool.not_eq_false'] at hf
  have hV := validB_iff.1 hf.2
  have hB : B.length ≤ 40 := by omega
  repeat refine Or.inl ?_
  refine ⟨[(6, 3, 1), (7, 83, 3)], Nat, fun k => k ≤ B.length, fun k => [⟨8, [], .i .i64 k⟩, ⟨6, [], .so 0⟩, ⟨7, [], .so 1⟩], fun k => [⟨0, [], .row 3 1 (ownL B k).length (rowsI (ownL B k))⟩, ⟨1, [], .row 83 3 (forL B k).length (rowsB (forL B k))⟩], fun k => B.length - k,
    ⟨0, [], Nat.zero_le _, rfl, rfl, rfl, rfl, rfl, ⟨⟨rfl, rfl⟩, rfl, rfl⟩, ⟨⟨rfl, rfl, rfl, fun j hj => by cases hj⟩, ⟨rfl, rfl, rfl, fun j hj => by cases hj⟩⟩⟩, ?_⟩
  intro k hk
  have hol := ownL_len B k
  have hfl := forL_len B k
  refine .inl ⟨fun hc => ?_, fun hc => ?_⟩
  · have hc := dlt hc
    have ek : (k : Int).toNat = k := Int.toNat_natCast k
    have w : IntKind.i64.wrap ((k : Int) + 1) = ((k + 1 : Nat) : Int) := wr (by omega) (by omega)
    have hs1 := ownL_succ B k
    have hs2 := forL_succ B k (by omega)
    repeat refine Or.inl ?_
    refine ⟨⟨by omega, by omega⟩, ?_⟩
    repeat refine Or.inl ?_
    refine ⟨fun h3 => ?_, fun h3 => ?_⟩
    · have h3 : (br B (k : Int)).own = true := h3
      rw [if_pos h3] at hs1 hs2
      refine ⟨fits (by omega), ?_⟩
      have hv : AOEq (.row 83 3 (forL B (k + 1)).length (rowsB (forL B (k + 1)))) (.row 83 3 (forL B k).length (rowsB (forL B k))) := by rw [hs2]; exact AOEq.refl _
      exact ⟨k + 1, [(0, 3)], by dsimp only; omega, by dsimp only; omega, rfl, rfl, rfl, rfl, rfl, ⟨⟨rfl, w⟩, rfl, rfl⟩, ⟨snocZ_row _ _ hs1, hv⟩⟩
    · have h3 : (br B (k : Int)).own = false := h3
      rw [if_neg (by rw [h3]; decide)] at hs1 hs2
      refine ⟨⟨by omega, by omega⟩, ?_⟩
      refine ⟨fits (by omega), ?_⟩
      exact ⟨k + 1, [(1, 3)], by dsimp only; omega, by dsimp only; omega, rfl, rfl, rfl, rfl, rfl, ⟨⟨rfl, w⟩, rfl, rfl⟩, ⟨same_row hs1, snocB_row _ _ hs2⟩⟩
  have hc := dnlt hc
  obtain rfl : k = B.length := by omega
  repeat refine Or.inl ?_
  refine ⟨[], Nat, fun k => k ≤ B.length, fun k => [⟨10, [], .i .i64 k⟩, ⟨9, [], .b (linkL B k)⟩], fun _ => [], fun k => B.length - k,
    ⟨0, [], Nat.zero_le _, rfl, rfl, rfl, rfl, rfl, ⟨⟨rfl, rfl⟩, rfl⟩, trivial⟩, ?_⟩
  intro k hk
  refine .inl ⟨fun hc => ?_, fun hc => ?_⟩
  · have hc := dlt hc
    have ek : (k : Int).toNat = k := Int.toNat_natCast k
    have w : IntKind.i64.wrap ((k : Int) + 1) = ((k + 1 : Nat) : Int) := wr (by omega) (by omega)
    have hs : linkL B (k + 1) = (linkL B k || linkAt B k) := range_any k
    have hrl := RoundsL_len B (ownL B B.length) (B.getD (k : Int).toNat dB).to
    repeat refine Or.inl ?_
    refine ⟨⟨by omega, by omega⟩, ?_⟩
    repeat refine Or.inl ?_
    refine ⟨_, _, fun _ => Rounds_fn B (by omega) (ownL B B.length) (by omega) (B.getD (k : Int).toNat dB).to, ?_⟩
    repeat refine Or.inl ?_
    refine ⟨[], _, fun _ => hasR_fn (RoundsL B (ownL B B.length) (B.getD (k : Int).toNat dB).to) (by omega) (B.getD (k : Int).toNat dB).fr, ?_⟩
    exact ⟨k + 1, [], by dsimp only; omega, by dsimp only; omega, rfl, rfl, rfl, rfl, rfl, ⟨⟨rfl, w⟩, hs.symm⟩, trivial⟩
  have hc := dnlt hc
  obtain rfl : k = B.length := by omega
  refine .inr (.inr ⟨false, [], rfl, List Int × List Int × Int, _, _, _, _, Cut_fn B (by omega) n, fun y hy => ?_⟩)
  refine .inr (.inr ⟨false, [], rfl, List Int × List Int × Int, _, _, _, _, Cut_fn (forL B B.length) (by omega) n, fun z hz => ?_⟩)
  have e1 := link_v hV hy
  have e2 := for_v hV hy hz
  have hyl := hy.len
  repeat refine Or.inl ?_
  refine ⟨fun h => ?_, fun _ => ?_⟩
  · have h : ((linkL B B.length != (y.2.2 == 19)) || (y.2.2 != z.2.2)) = true := h
    rw [e1, e2] at h
    simp at h
  refine .inl ⟨[], _, fun _ => Around_fn B (by omega) y.1 (by omega), ?_⟩
  refine RetIs.b ?_
  have h3 : (!(linkL B B.length) || aroundB B y.1) = true := by
    cases hl : linkL B B.length with
    | false => rfl
    | true =>
      rw [(hy.bad hf.2 ((chosen_none_iff hV).2 ((link_iff hV).1 hl))).2]
      rfl
  exact h3
end Go.Proofs.Ytklmfkejgjhneaa
