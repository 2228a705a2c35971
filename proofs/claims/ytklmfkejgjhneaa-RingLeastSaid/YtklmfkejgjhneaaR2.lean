/-
  Bridges: the small functions.
-/
import Derived.Test.YtklmfkejgjhneaaR1
import Derived.Test.YtklmfkejgjhneaaS7
import Derived.Test.YtklmfkejgjhneaaEngU
namespace Go.Proofs.Ytklmfkejgjhneaa
open Go.Eng

def Bri.av (b : Bri) : List AV := [.i .i64 b.fr, .i .i64 b.to, .b b.own]
def rowsB (l : List Bri) (k : Nat) : List AV := (l.getD k dB).av
def rowsT (l : List Bool) (k : Nat) : List AV := [.b (l.getD k false)]
set_option maxRecDepth 20000 in
theorem sameR_fn (a b : List Int) (ha : a.length < 2^62) (hb : b.length < 2^62) : Ctr Try.prog 58 [.rs 1 a.length (rowsI a), .rs 1 b.length (rowsI b)] [] (.b (decide (a = b))) := by
  refine fn_of_exec tabOk Try.func58 (by kernel_rfl) rfl (N := Try.f58.ntmps) rfl (res := [.tmp 4]) rfl rfl [] ?_
  refine .inl ⟨fun h => ?_, fun h => ?_⟩
  · refine RetIs.b ?_
    have h : ((a.length : Int) != b.length) = true := h
    simp at h
    simp
    intro he
    exact h (by rw [he])
  have h : ((a.length : Int) != b.length) = false := h
  simp at h
  have hl : a.length = b.length := by omega
  refine .inl ⟨[], Nat, fun k => k ≤ a.length ∧ eqUpto 0 a b k, fun k => [⟨5, [], .i .i64 k⟩], fun _ => [], fun k => a.length - k,
    ⟨0, [], ⟨Nat.zero_le _, fun j hj => by omega⟩, rfl, rfl, rfl, rfl, rfl, ⟨rfl, rfl⟩, trivial⟩, ?_⟩
  rintro k ⟨hk, he⟩
  refine .inl ⟨fun hc => ?_, fun hc => ?_⟩
  · have hc := dlt hc
    refine .inl ⟨⟨by omega, by omega⟩, ⟨by omega, by omega⟩, ⟨fun h2 => ?_, fun h2 => ?_⟩⟩
    · refine RetIs.b ?_
      have h2 : (a.getD (k : Int).toNat 0 != b.getD (k : Int).toNat 0) = true := h2
      rw [Int.toNat_natCast] at h2
      symm
      rw [decide_eq_false_iff_not]
      rintro rfl
      simp at h2
    · have h2 : (a.getD (k : Int).toNat 0 != b.getD (k : Int).toNat 0) = false := h2
      rw [Int.toNat_natCast] at h2
      have h3 : a.getD k 0 = b.getD k 0 := by simpa using h2
      refine ⟨k + 1, [], ⟨by omega, fun j hj => ?_⟩, by dsimp only; omega, rfl, rfl, rfl, rfl, rfl, ⟨rfl, wr (by omega) (by omega)⟩, trivial⟩
      by_cases hjk : j = k
      · rw [hjk]; exact h3
      · exact he j (by omega)
  · have hc := dnlt hc
    refine RetIs.b ?_
    have hk2 : k = a.length := by omega
    subst hk2
    simp [eqUpto_all hl he]

def hasN (l : List Int) (n : Int) : Bool := l.any (· == n)
theorem hasN_iff {l : List Int} {n : Int} : hasN l n = true ↔ n ∈ l := by simp [hasN]
set_option maxRecDepth 20000 in
theorem hasR_fn (l : List Int) (hl : l.length < 2^62) (n : Int) : Ctr Try.prog 66 [.rs 1 l.length (rowsI l), .i .i64 n] [] (.b (hasN l n)) := by
  refine fn_of_exec tabOk Try.func66 (by kernel_rfl) rfl (N := Try.f66.ntmps) rfl (res := [.tmp 4]) rfl rfl [] ?_
  refine .inl ⟨[], Nat, fun k => k ≤ l.length ∧ (l.take k).any (· == n) = false, fun k => [⟨5, [], .i .i64 k⟩], fun _ => [], fun k => l.length - k,
    ⟨0, [], ⟨Nat.zero_le _, rfl⟩, rfl, rfl, rfl, rfl, rfl, ⟨rfl, rfl⟩, trivial⟩, ?_⟩
  rintro k ⟨hk, hno⟩
  refine .inl ⟨fun hc => ?_, fun hc => ?_⟩
  · have hc := dlt hc
    have ek : (k : Int).toNat = k := Int.toNat_natCast k
    refine Or.inl ⟨⟨by omega, by omega⟩, ⟨fun h2 => ?_, fun h2 => ?_⟩⟩
    · have h2 : (l.getD (k : Int).toNat 0 == n) = true := h2
      rw [ek] at h2
      refine RetIs.b ?_
      unfold hasN
      rw [any_atD 0 l _ k (by omega) h2]
    · have h2 : (l.getD (k : Int).toNat 0 == n) = false := h2
      rw [ek] at h2
      exact ⟨k + 1, [], ⟨by omega, by rw [any_takeD 0 l _ k (by omega), hno, h2]; rfl⟩, by dsimp only; omega, rfl, rfl, rfl, rfl, rfl, ⟨rfl, wr (by omega) (by omega)⟩, trivial⟩
  · have hc := dnlt hc
    have hk2 : l.take k = l := List.take_of_length_le (by omega)
    rw [hk2] at hno
    refine RetIs.b ?_
    unfold hasN
    rw [hno]

def idxD {α : Type} (p : α → Bool) (l : List α) : Int := match l.findIdx? p with | some k => k | none => -1
theorem idxD_some {α : Type} (d : α) (p : α → Bool) (l : List α) (k : Nat) (hk : k < l.length) (h1 : ∀ j, j < k → p (l.getD j d) = false) (h2 : p (l.getD k d) = true) : idxD p l = k := by
  have : l.findIdx? p = some k := by
    rw [List.findIdx?_eq_some_iff_getElem]
    refine ⟨hk, ?_, fun j hj => ?_⟩
    · simpa [List.getD, hk] using h2
    · have := h1 j hj
      simp only [List.getD, List.getElem?_eq_getElem (show j < l.length by omega), Option.getD_some] at this
      simp [this]
  simp [idxD, this]
theorem idxD_none {α : Type} (d : α) (p : α → Bool) (l : List α) (h1 : ∀ j, j < l.length → p (l.getD j d) = false) : idxD p l = -1 := by
  have : l.findIdx? p = none := by
    rw [List.findIdx?_eq_none_iff]
    intro x hx
    obtain ⟨j, hj, rfl⟩ := List.getElem_of_mem hx
    have := h1 j hj
    simpa [List.getD, hj] using this
  simp [idxD, this]
theorem idxD_any {α : Type} (p : α → Bool) (l : List α) : decide (idxD p l ≥ 0) = l.any p := by
  unfold idxD
  cases h : l.findIdx? p with
  | none =>
    rw [List.findIdx?_eq_none_iff] at h
    have : l.any p = false := by simpa using h
    rw [this]; rfl
  | some k =>
    rw [List.findIdx?_eq_some_iff_getElem] at h
    obtain ⟨hk, hp, _⟩ := h
    have : l.any p = true := by rw [List.any_eq_true]; exact ⟨_, List.getElem_mem hk, hp⟩
    rw [this]
    simp
set_option maxRecDepth 20000 in
set_option maxHeartbeats 1000000 in
theorem indexI_fn (l : List Int) (hl : l.length < 2^62) (n : Int) : Ctr Try.prog 116 [.rs 1 l.length (rowsI l), .i .i64 n] [] (.i .i64 (idxD (· == n) l)) := by
  refine fn_of_exec tabOk Try.func116 (by kernel_rfl) rfl (N := Try.f116.ntmps) rfl (res := [.tmp 4]) rfl rfl [] ?_
  refine .inl ⟨[], Nat, fun k => k ≤ l.length ∧ ∀ j, j < k → (l.getD j 0 == n) = false, fun k => [⟨8, [], .i .i64 k⟩], fun _ => [], fun k => l.length - k,
    ⟨0, [], ⟨Nat.zero_le _, fun j hj => by omega⟩, rfl, rfl, rfl, rfl, rfl, ⟨rfl, rfl⟩, trivial⟩, ?_⟩
  rintro k ⟨hk, hno⟩
  refine .inl ⟨fun hc => ?_, fun hc => ?_⟩
  · have hc := dlt hc
    have ek : (k : Int).toNat = k := Int.toNat_natCast k
    repeat refine Or.inl ?_
    refine ⟨⟨by omega, by omega⟩, ⟨fun h => ?_, fun h => ?_⟩⟩
    · have h : (n == l.getD (k : Int).toNat 0) = true := h
      rw [ek, beq_iff_eq] at h
      refine RetIs.i ?_
      exact (idxD_some 0 (· == n) l k (by omega) hno (by rw [h]; simp)).symm
    · have h : (n == l.getD (k : Int).toNat 0) = false := h
      rw [ek, beq_eq_false_iff_ne] at h
      refine ⟨k + 1, [], ⟨by omega, fun j hj => ?_⟩, by dsimp only; omega, rfl, rfl, rfl, rfl, rfl, ⟨rfl, wr (by omega) (by omega)⟩, trivial⟩
      by_cases hjk : j = k
      · rw [hjk, beq_eq_false_iff_ne]; exact Ne.symm h
      · exact hno j (by omega)
  · have hc := dnlt hc
    refine RetIs.i ?_
    exact (idxD_none 0 (· == n) l fun j hj => hno j (by omega)).symm
set_option maxRecDepth 20000 in
theorem containsI_fn (l : List Int) (hl : l.length < 2^62) (n : Int) : Ctr Try.prog 102 [.rs 1 l.length (rowsI l), .i .i64 n] [] (.b (hasN l n)) := by
  refine fn_of_exec tabOk Try.func102 (by kernel_rfl) rfl (N := Try.f102.ntmps) rfl (res := [.tmp 4]) rfl rfl [] ?_
  repeat refine Or.inl ?_
  refine ⟨[], _, indexI_fn l hl n, ?_⟩
  exact RetIs.b (idxD_any _ l)
set_option maxRecDepth 20000 in
set_option maxHeartbeats 1000000 in
theorem indexB_fn (l : List Bri) (hl : l.length < 2^62) (fid : FuncId) (c1 : List AV) (p : Bri → Bool) (hp : ∀ x : Bri, Ctr Try.prog fid [.ag x.av, .rp c1] [] (.b (p x))) :
    Ctr Try.prog 115 [.rs 3 l.length (rowsB l), .fn fid [.rp c1]] [] (.i .i64 (idxD p l)) := by
  refine fn_of_exec tabOk Try.func115 (by kernel_rfl) rfl (N := Try.f115.ntmps) rfl (res := [.tmp 4]) rfl rfl [] ?_
  refine .inl ⟨[], Nat, fun k => k ≤ l.length ∧ ∀ j, j < k → p (l.getD j dB) = false, fun k => [⟨8, [], .i .i64 k⟩], fun _ => [], fun k => l.length - k,
    ⟨0, [], ⟨Nat.zero_le _, fun j hj => by omega⟩, rfl, rfl, rfl, rfl, rfl, ⟨rfl, rfl⟩, trivial⟩, ?_⟩
  rintro k ⟨hk, hno⟩
  refine .inl ⟨fun hc => ?_, fun hc => ?_⟩
  · have hc := dlt hc
    have ek : (k : Int).toNat = k := Int.toNat_natCast k
    repeat refine Or.inl ?_
    refine ⟨⟨by omega, by omega⟩, ?_⟩
    repeat refine Or.inl ?_
    refine ⟨[], _, hp (l.getD (k : Int).toNat dB), ⟨fun h => ?_, fun h => ?_⟩⟩
    · have h : p (l.getD (k : Int).toNat dB) = true := h
      rw [ek] at h
      refine RetIs.i ?_
      exact (idxD_some dB p l k (by omega) hno h).symm
    · have h : p (l.getD (k : Int).toNat dB) = false := h
      rw [ek] at h
      refine ⟨k + 1, [], ⟨by omega, fun j hj => ?_⟩, by dsimp only; omega, rfl, rfl, rfl, rfl, rfl, ⟨rfl, wr (by omega) (by omega)⟩, trivial⟩
      by_cases hjk : j = k
      · subst hjk; exact h
      · exact hno j (by omega)
  · have hc := dnlt hc
    refine RetIs.i ?_
    exact (idxD_none dB p l fun j hj => hno j (by omega)).symm
set_option maxRecDepth 20000 in
theorem containsB_fn (l : List Bri) (hl : l.length < 2^62) (fid : FuncId) (c1 : List AV) (p : Bri → Bool) (hp : ∀ x : Bri, Ctr Try.prog fid [.ag x.av, .rp c1] [] (.b (p x))) :
    Ctr Try.prog 99 [.rs 3 l.length (rowsB l), .fn fid [.rp c1]] [] (.b (l.any p)) := by
  refine fn_of_exec tabOk Try.func99 (by kernel_rfl) rfl (N := Try.f99.ntmps) rfl (res := [.tmp 4]) rfl rfl [] ?_
  repeat refine Or.inl ?_
  refine ⟨[], _, indexB_fn l hl fid c1 p hp, ?_⟩
  exact RetIs.b (idxD_any p l)
set_option maxRecDepth 20000 in
theorem valid1_fn (n : Int) (x : Bri) : Ctr Try.prog 100 [.ag x.av, .rp [.i .i64 n]] [] (.b (badB1 n x)) := by
  refine fn_of_exec tabOk Try.func100 (by kernel_rfl) rfl (N := Try.f100.ntmps) rfl (res := [.tmp 3]) rfl rfl [] ?_
  exact RetIs.b rfl
set_option maxRecDepth 20000 in
theorem valid_fn (B : List Bri) (hB : B.length < 2^62) (n : Int) : Ctr Try.prog 89 [.rs 3 B.length (rowsB B), .i .i64 n] [] (.b (validB B n)) := by
  refine fn_of_exec tabOk Try.func89 (by kernel_rfl) rfl (N := Try.f89.ntmps) rfl (res := [.tmp 4]) rfl rfl [] ?_
  repeat refine Or.inl ?_
  refine ⟨[], _, fun _ => containsB_fn B hB 100 _ (badB1 n) (valid1_fn n), ?_⟩
  refine RetIs.b ?_
  show (((decide (n ≥ 1) && decide (n ≤ 12)) && decide ((B.length : Int) ≤ 200)) && !B.any (badB1 n)) = validB B n
  unfold validB
  congr 2
  rw [decide_eq_decide]
  omega
theorem badB1_eq (n : Int) (b : Bri) : badB1 n b = (((decide (b.fr < 0) || decide (b.fr ≥ n)) || decide (b.to < 0)) || decide (b.to ≥ n)) := by
  unfold badB1
  rw [Bool.eq_iff_iff]
  simp only [Bool.or_eq_true, decide_eq_true_eq]
  omega
set_option maxRecDepth 20000 in
set_option maxHeartbeats 1000000 in
theorem rRightB_fn (B : List Bri) (hB : B.length < 2^62) (n : Int) : Ctr Try.prog 64 [.rs 3 B.length (rowsB B), .i .i64 n] [] (.b (validB B n)) := by
  refine fn_of_exec tabOk Try.func64 (by kernel_rfl) rfl (N := Try.f64.ntmps) rfl (res := [.tmp 4]) rfl rfl [] ?_
  refine .inl ⟨[], Nat, fun k => k ≤ B.length ∧ (B.take k).any (badB1 n) = false, fun k => [⟨5, [], .i .i64 k⟩], fun _ => [], fun k => B.length - k,
    ⟨0, [], ⟨Nat.zero_le _, rfl⟩, rfl, rfl, rfl, rfl, rfl, ⟨rfl, rfl⟩, trivial⟩, ?_⟩
  rintro k ⟨hk, hno⟩
  refine .inl ⟨fun hc => ?_, fun hc => ?_⟩
  · have hc := dlt hc
    have ek : (k : Int).toNat = k := Int.toNat_natCast k
    repeat refine Or.inl ?_
    refine ⟨⟨by omega, by omega⟩, ?_⟩
    repeat refine Or.inl ?_
    refine ⟨fun h => ?_, fun h => ?_⟩
    · have h : (((decide ((B.getD (k : Int).toNat dB).fr < 0) || decide ((B.getD (k : Int).toNat dB).fr ≥ n)) || decide ((B.getD (k : Int).toNat dB).to < 0)) || decide ((B.getD (k : Int).toNat dB).to ≥ n)) = true := h
      rw [← badB1_eq, ek] at h
      refine RetIs.b ?_
      unfold validB
      rw [any_atD dB B _ k (by omega) h]
      simp
    · have h : (((decide ((B.getD (k : Int).toNat dB).fr < 0) || decide ((B.getD (k : Int).toNat dB).fr ≥ n)) || decide ((B.getD (k : Int).toNat dB).to < 0)) || decide ((B.getD (k : Int).toNat dB).to ≥ n)) = false := h
      rw [← badB1_eq, ek] at h
      exact ⟨k + 1, [], ⟨by omega, by rw [any_takeD dB B _ k (by omega), hno, h]; rfl⟩, by dsimp only; omega, rfl, rfl, rfl, rfl, rfl, ⟨rfl, wr (by omega) (by omega)⟩, trivial⟩
  · have hc := dnlt hc
    have hk2 : B.take k = B := List.take_of_length_le (by omega)
    rw [hk2] at hno
    refine RetIs.b ?_
    show ((decide (n ≥ 1) && decide (n ≤ 12)) && decide ((B.length : Int) ≤ 200)) = validB B n
    unfold validB
    rw [hno, Bool.not_false, Bool.and_true]
    congr 1
    rw [decide_eq_decide]
    omega
theorem others_succ (B : List Bri) (c : List Int) (k : Nat) : othersL B c (k + 1) = if hasN c (k : Int) = true then othersL B c k else othersL B c k ++ [(k : Int)] := by
  unfold othersL hasN
  rw [List.range_succ, List.filter_append, List.map_append]
  cases h : c.any (· == (k : Int)) <;> simp [h]
theorem others_len (B : List Bri) (c : List Int) (k : Nat) : (othersL B c k).length ≤ k := by
  unfold othersL
  rw [List.length_map]
  refine Nat.le_trans (List.length_filter_le _ _) ?_
  simp
theorem snocZ (o : List Int) (n : Int) : ∀ k, k < (o ++ [n]).length → catG o.length (rowsI o) (rowOf 1 [.i .i64 n]) k = rowsI (o ++ [n]) k := by
  intro k hk
  unfold catG rowsI
  by_cases h : k < o.length
  · rw [if_pos h, getD_append_lt 0 _ _ _ h]
  · rw [if_neg h]
    have : k = o.length := by simp at hk; omega
    subst this
    rw [getD_append_ge 0 _ _ _ (Nat.le_refl _)]
    simp [rowOf]
theorem snocZ_row (o : List Int) (n : Int) {l : List Int} (hl : l = o ++ [n]) : AOEq (.row 3 1 l.length (rowsI l)) (.row 3 1 (o.length + 1) (catG o.length (rowsI o) (rowOf 1 [.i .i64 n]))) := by
  subst hl
  exact ⟨rfl, rfl, by simp, snocZ o n⟩
theorem same_row {o l : List Int} (hl : l = o) : AOEq (.row 3 1 l.length (rowsI l)) (.row 3 1 o.length (rowsI o)) := by
  subst hl
  exact AOEq.refl _
set_option maxRecDepth 20000 in
set_option maxHeartbeats 1000000 in
theorem others_fn (B : List Bri) (hB : B.length < 1000000) (c : List Int) (hcl : c.length < 2^62) : Ctr Try.prog 93 [.rs 3 B.length (rowsB B), .rs 1 c.length (rowsI c)] [.row 3 1 (othersL B c B.length).length (rowsI (othersL B c B.length))] (.so 0) := by
  refine fn_of_exec tabOk Try.func93 (by kernel_rfl) rfl (N := Try.f93.ntmps) rfl (res := [.tmp 4]) rfl rfl [] ?_
  refine .inl ⟨[(5, 3, 1)], Nat, fun k => k ≤ B.length, fun k => [⟨9, [], .i .i64 k⟩, ⟨5, [], .so 0⟩], fun k => [⟨0, [], .row 3 1 (othersL B c k).length (rowsI (othersL B c k))⟩], fun k => B.length - k,
    ⟨0, [], Nat.zero_le _, rfl, rfl, rfl, rfl, rfl, ⟨⟨rfl, rfl⟩, rfl⟩, ⟨rfl, rfl, rfl, fun j hj => by cases hj⟩⟩, ?_⟩
  intro k hk
  have hlen := others_len B c k
  refine .inl ⟨fun hc => ?_, fun hc => ?_⟩
  · have hc := dlt hc
    have hs := others_succ B c k
    repeat refine Or.inl ?_
    refine ⟨[], _, containsI_fn c hcl k, ⟨fun h2 => ?_, fun h2 => ?_⟩⟩
    · have h2 : (!hasN c (k : Int)) = true := h2
      rw [if_neg (by simpa using h2)] at hs
      exact ⟨fits (by omega), k + 1, [(0, 2)], by dsimp only; omega, by dsimp only; omega, rfl, rfl, rfl, rfl, rfl, ⟨⟨rfl, wr (by omega) (by omega)⟩, rfl⟩, snocZ_row _ _ hs⟩
    · have h2 : (!hasN c (k : Int)) = false := h2
      rw [if_pos (by simpa using h2)] at hs
      exact ⟨k + 1, [], by dsimp only; omega, by dsimp only; omega, rfl, rfl, rfl, rfl, rfl, ⟨⟨rfl, wr (by omega) (by omega)⟩, rfl⟩, same_row hs⟩
  · have hc := dnlt hc
    obtain rfl : k = B.length := by omega
    exact RetIs.so rfl rfl (fun _ _ => rfl) (fun _ _ => rfl)
set_option maxRecDepth 20000 in
set_option maxHeartbeats 1000000 in
theorem rOpen_fn (B : List Bri) (hB : B.length < 1000000) (c : List Int) (hcl : c.length < 2^62) : Ctr Try.prog 65 [.rs 3 B.length (rowsB B), .rs 1 c.length (rowsI c)] [.row 3 1 (othersL B c B.length).length (rowsI (othersL B c B.length))] (.so 0) := by
  refine fn_of_exec tabOk Try.func65 (by kernel_rfl) rfl (N := Try.f65.ntmps) rfl (res := [.tmp 4]) rfl rfl [] ?_
  refine .inl ⟨[(5, 3, 1)], Nat, fun k => k ≤ B.length, fun k => [⟨6, [], .i .i64 k⟩, ⟨5, [], .so 0⟩], fun k => [⟨0, [], .row 3 1 (othersL B c k).length (rowsI (othersL B c k))⟩], fun k => B.length - k,
    ⟨0, [], Nat.zero_le _, rfl, rfl, rfl, rfl, rfl, ⟨⟨rfl, rfl⟩, rfl⟩, ⟨rfl, rfl, rfl, fun j hj => by cases hj⟩⟩, ?_⟩
  intro k hk
  have hlen := others_len B c k
  refine .inl ⟨fun hc => ?_, fun hc => ?_⟩
  · have hc := dlt hc
    have hs := others_succ B c k
    repeat refine Or.inl ?_
    refine ⟨[], _, hasR_fn c hcl k, ⟨fun h2 => ?_, fun h2 => ?_⟩⟩
    · have h2 : (!hasN c (k : Int)) = true := h2
      rw [if_neg (by simpa using h2)] at hs
      exact ⟨fits (by omega), k + 1, [(0, 2)], by dsimp only; omega, by dsimp only; omega, rfl, rfl, rfl, rfl, rfl, ⟨⟨rfl, wr (by omega) (by omega)⟩, rfl⟩, snocZ_row _ _ hs⟩
    · have h2 : (!hasN c (k : Int)) = false := h2
      rw [if_pos (by simpa using h2)] at hs
      exact ⟨k + 1, [], by dsimp only; omega, by dsimp only; omega, rfl, rfl, rfl, rfl, rfl, ⟨⟨rfl, wr (by omega) (by omega)⟩, rfl⟩, same_row hs⟩
  · have hc := dnlt hc
    obtain rfl : k = B.length := by omega
    exact RetIs.so rfl rfl (fun _ _ => rfl) (fun _ _ => rfl)

theorem inStep_row (B : List Bri) (M : List Bool) (i : Int) (hM : M.length = 12) (ht : 0 ≤ (br B i).to ∧ (br B i).to < 12) (hf : M.getD (br B i).fr.toNat false = true) : ∀ q, q < 12 →
    (if q = (br B i).to.toNat then over 0 [.b true] (rowsT M q) else rowsT M q) = rowsT (inStep B M i) q := by
  intro q hq
  unfold inStep rowsT
  rw [if_pos hf, getD_setD false M _ true (by omega)]
  by_cases h : q = (br B i).to.toNat
  · rw [if_pos h, if_pos h]
    rfl
  · rw [if_neg h, if_neg h]
theorem inAll_len (B : List Bri) (o : List Int) (a : Int) (k : Nat) : (inIt B o (in0 a) k).length = 12 := by rw [inIt_len, in0_len]
theorem inRound_take (B : List Bri) (o : List Int) (M : List Bool) (k : Nat) (h : k < o.length) : inRound B (o.take (k + 1)) M = inStep B (inRound B (o.take k) M) (o.getD k 0) := foldl_take _ _ o k 0 h
def inNums (M : List Bool) (k : Nat) : List Int := ((List.range k).filter fun q => M.getD q false).map fun q : Nat => (q : Int)
theorem inNums_succ (M : List Bool) (k : Nat) : inNums M (k + 1) = if M.getD k false = true then inNums M k ++ [(k : Int)] else inNums M k := by
  unfold inNums
  rw [List.range_succ, List.filter_append, List.map_append]
  by_cases h : M.getD k false = true
  · rw [if_pos h, List.filter_cons, if_pos h]
    rfl
  · rw [if_neg h, List.filter_cons, if_neg h]
    simp
theorem inNums_len (M : List Bool) (k : Nat) : (inNums M k).length ≤ k := by
  unfold inNums
  rw [List.length_map]
  refine Nat.le_trans (List.length_filter_le _ _) ?_
  simp
theorem in0_row (a : Int) (_h0 : 0 ≤ a) (h1 : a < 12) : ∀ q, q < 12 → (if q = a.toNat then over 0 [.b true] [.b false] else [AV.b false]) = rowsT (in0 a) q := by
  intro q hq
  unfold rowsT in0
  rw [getD_setD false _ _ true (by simp; omega)]
  by_cases h : q = a.toNat
  · rw [if_pos h, if_pos h]
    rfl
  · rw [if_neg h, if_neg h]
    have hf : (List.replicate 12 false).getD q false = false := by
      simp only [List.getD]
      rw [List.getElem?_replicate]
      split <;> rfl
    rw [hf]
set_option maxRecDepth 20000 in
set_option maxHeartbeats 2000000 in
theorem rReach_fn (B : List Bri) (n : Int) (hV : Valid B n) (o : List Int) (hO : OkO B o) (hol : o.length < 1000000) (a : Int) (h0 : 0 ≤ a) (h1 : a < n) :
    Ctr Try.prog 94 [.rs 3 B.length (rowsB B), .rs 1 o.length (rowsI o), .i .i64 a] [.row 3 1 (ReachL B o a).length (rowsI (ReachL B o a))] (.so 0) := by
  refine fn_of_exec tabOk Try.func94 (by kernel_rfl) rfl (N := Try.f94.ntmps) rfl (res := [.tmp 6]) rfl rfl [] ?_
  have hh := hV.hi
  have hBl := hV.len
  refine ⟨⟨rfl, by decide, by decide⟩, ?_⟩
  refine ⟨⟨by omega, by omega⟩, by omega, ?_⟩
  repeat refine Or.inl ?_
  refine ⟨[], Nat, fun r => r ≤ 12, fun r => [⟨8, [], .i .i64 r⟩], fun r => [⟨0, [], .row 4 1 12 (rowsT (inIt B o (in0 a) r))⟩], fun r => 12 - r,
    ⟨0, [], Nat.zero_le _, rfl, rfl, rfl, rfl, rfl, ⟨rfl, rfl⟩, ⟨rfl, rfl, rfl, in0_row a h0 (by omega)⟩⟩, ?_⟩
  intro r hr
  refine .inl ⟨fun hc => ?_, fun hc => ?_⟩
  · have hc := dlt hc
    have hMl := inAll_len B o a r
    have hnx : inIt B o (in0 a) (r + 1) = inRound B o (inIt B o (in0 a) r) := rfl
    generalize inIt B o (in0 a) r = M at *
    repeat refine Or.inl ?_
    refine ⟨[], Nat, fun k => k ≤ o.length, fun k => [⟨9, [], .i .i64 k⟩], fun k => [⟨0, [], .row 4 1 12 (rowsT (inRound B (o.take k) M))⟩], fun k => o.length - k,
      ⟨0, [], Nat.zero_le _, rfl, rfl, rfl, rfl, rfl, ⟨rfl, rfl⟩, ⟨rfl, rfl, rfl, fun _ _ => rfl⟩⟩, ?_⟩
    intro k hk
    refine .inl ⟨fun hc => ?_, fun hc => ?_⟩
    · have hc := dlt hc
      have ek : (k : Int).toNat = k := Int.toNat_natCast k
      have hs := inRound_take B o M k (by omega)
      have hl2 : (inRound B (o.take k) M).length = 12 := by rw [inRound_len, hMl]
      generalize inRound B (o.take k) M = M2 at *
      have hmem : o.getD (k : Int).toNat 0 ∈ o := by rw [ek]; exact getD_memD 0 (by omega)
      have hi := hO _ hmem
      have hb := hV.br hi
      have hs : inRound B (o.take (k + 1)) M = inStep B M2 (o.getD (k : Int).toNat 0) := by rw [ek]; exact hs
      have hrow := inStep_row B M2 (o.getD (k : Int).toNat 0) hl2
      have f1 : 0 ≤ (B.getD (o.getD (k : Int).toNat 0).toNat dB).fr := hb.1
      have f2 : (B.getD (o.getD (k : Int).toNat 0).toNat dB).fr < n := hb.2.1
      have f3 : 0 ≤ (B.getD (o.getD (k : Int).toNat 0).toNat dB).to := hb.2.2.1
      have f4 : (B.getD (o.getD (k : Int).toNat 0).toNat dB).to < n := hb.2.2.2
      repeat refine Or.inl ?_
      refine ⟨⟨by omega, by omega⟩, ⟨hi.1, hi.2⟩, ?_⟩
      repeat refine Or.inl ?_
      refine ⟨⟨f1, by omega⟩, by omega, ⟨fun h2 => ⟨⟨f3, by omega⟩, by omega, ?_⟩, fun h2 => ?_⟩⟩
      · have h2 : M2.getD (br B (o.getD (k : Int).toNat 0)).fr.toNat false = true := h2
        refine ⟨k + 1, [], by dsimp only; omega, by dsimp only; omega, rfl, rfl, rfl, rfl, rfl, ⟨rfl, wr (by omega) (by omega)⟩, ?_⟩
        have hv : AOEq (.row 4 1 12 (rowsT (inRound B (o.take (k + 1)) M))) (.row 4 1 12 (fun q => if q = (br B (o.getD (k : Int).toNat 0)).to.toNat then over 0 [.b true] (rowsT M2 q) else rowsT M2 q)) := by
          rw [hs]
          exact ⟨rfl, rfl, rfl, hrow ⟨f3, show (br B (o.getD (k : Int).toNat 0)).to < 12 from by have : (br B (o.getD (k : Int).toNat 0)).to < n := f4; omega⟩ h2⟩
        exact hv
      · have h2 : M2.getD (br B (o.getD (k : Int).toNat 0)).fr.toNat false = false := h2
        refine ⟨k + 1, [], by dsimp only; omega, by dsimp only; omega, rfl, rfl, rfl, rfl, rfl, ⟨rfl, wr (by omega) (by omega)⟩, ?_⟩
        have hv : AOEq (.row 4 1 12 (rowsT (inRound B (o.take (k + 1)) M))) (.row 4 1 12 (rowsT M2)) := by
          rw [hs]
          unfold inStep
          rw [if_neg (by rw [h2]; decide)]
          exact AOEq.refl _
        exact hv
    · have hc := dnlt hc
      have hk2 : o.take k = o := List.take_of_length_le (by omega)
      rw [hk2]
      exact ⟨r + 1, [], by dsimp only; omega, by dsimp only; omega, rfl, rfl, rfl, rfl, rfl, ⟨rfl, wr (by omega) (by omega)⟩, ⟨rfl, rfl, rfl, fun _ _ => by rw [hnx]⟩⟩
  · have hc := dnlt hc
    obtain rfl : r = 12 := by omega
    have hRL : ReachL B o a = inNums (inIt B o (in0 a) 12) 12 := rfl
    rw [hRL]
    generalize inIt B o (in0 a) 12 = M
    repeat refine Or.inl ?_
    refine ⟨[(11, 3, 1)], Nat, fun k => k ≤ 12, fun k => [⟨12, [], .i .i64 k⟩, ⟨11, [], .so 1⟩], fun k => [⟨1, [], .row 3 1 (inNums M k).length (rowsI (inNums M k))⟩], fun k => 12 - k,
      ⟨0, [], Nat.zero_le _, rfl, rfl, rfl, rfl, rfl, ⟨⟨rfl, rfl⟩, rfl⟩, ⟨rfl, rfl, rfl, fun j hj => by cases hj⟩⟩, ?_⟩
    intro k hk
    have hnl := inNums_len M k
    refine .inl ⟨fun hc => ?_, fun hc => ?_⟩
    · have hc : decide ((k : Int) < ((12 : Nat) : Int)) = true := hc
      have hc := dlt hc
      have ek : (k : Int).toNat = k := Int.toNat_natCast k
      have hs := inNums_succ M k
      repeat refine Or.inl ?_
      refine ⟨⟨by omega, by omega⟩, by omega, ⟨fun h2 => ?_, fun h2 => ?_⟩⟩
      · have h2 : M.getD (k : Int).toNat false = true := h2
        rw [ek] at h2
        rw [if_pos h2] at hs
        exact ⟨fits (by omega), k + 1, [(1, 3)], by dsimp only; omega, by dsimp only; omega, rfl, rfl, rfl, rfl, rfl, ⟨⟨rfl, wr (by omega) (by omega)⟩, rfl⟩, snocZ_row _ _ hs⟩
      · have h2 : M.getD (k : Int).toNat false = false := h2
        rw [ek] at h2
        rw [if_neg (by rw [h2]; decide)] at hs
        exact ⟨k + 1, [], by dsimp only; omega, by dsimp only; omega, rfl, rfl, rfl, rfl, rfl, ⟨⟨rfl, wr (by omega) (by omega)⟩, rfl⟩, same_row hs⟩
    · have hc : decide ((k : Int) < ((12 : Nat) : Int)) = false := hc
      have hc := dnlt hc
      obtain rfl : k = 12 := by omega
      exact RetIs.so rfl rfl (fun _ _ => rfl) (fun _ _ => rfl)
theorem RetIs.soL {l m : List Int} {id nid : Nat} {O : List OE} (hg : getO id O = some ([], .row 3 1 m.length (rowsI m))) (h : m = l) : RetIs [.row 3 1 l.length (rowsI l)] (.so 0) (.so id) O nid := by
  subst h
  exact RetIs.so hg rfl (fun _ _ => rfl) (fun _ _ => rfl)
def RoundsL (B : List Bri) (c : List Int) (a : Int) : List Int := if (!validB B 12 || decide (a < 0) || decide (a ≥ 12)) = true then [] else ReachL B (othersL B c B.length) a
set_option maxRecDepth 20000 in
set_option maxHeartbeats 2000000 in
theorem rRounds_fn (B : List Bri) (hB : B.length < 1000000) (c : List Int) (hcl : c.length < 1000000) (a : Int) :
    Ctr Try.prog 63 [.rs 3 B.length (rowsB B), .rs 1 c.length (rowsI c), .i .i64 a] [.row 3 1 (RoundsL B c a).length (rowsI (RoundsL B c a))] (.so 0) := by
  refine fn_of_exec tabOk Try.func63 (by kernel_rfl) rfl (N := Try.f63.ntmps) rfl (res := [.tmp 6]) rfl rfl [(999999, [.nl 6 3 1])] ?_
  repeat refine Or.inl ?_
  refine ⟨[], _, rRightB_fn B (by omega) 12, ⟨fun h => ?_, fun h => ?_⟩⟩
  · have h : (!validB B 12 || decide (a < 0) || decide (a ≥ 12)) = true := h
    unfold RoundsL
    rw [if_pos h]
    exact RetIs.so rfl rfl (fun k hk => by cases hk) (fun k hk => by cases hk)
  · have h : (!validB B 12 || decide (a < 0) || decide (a ≥ 12)) = false := h
    unfold RoundsL
    rw [if_neg (by rw [h]; decide)]
    simp only [Bool.or_eq_false_iff, Bool.not_eq_false', decide_eq_false_iff_not] at h
    have hV := validB_iff.1 h.1.1
    have hol := others_len B c B.length
    refine .inl ⟨_, _, rOpen_fn B hB c (by omega), ?_⟩
    repeat refine Or.inl ?_
    refine ⟨_, _, rReach_fn B 12 hV _ (others_ok B c) (by omega) a (by omega) (by omega), ?_⟩
    exact RetIs.so rfl rfl (fun _ _ => rfl) (fun _ _ => rfl)
end Go.Proofs.Ytklmfkejgjhneaa
