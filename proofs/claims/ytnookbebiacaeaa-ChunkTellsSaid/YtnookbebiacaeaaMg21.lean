/-
  Several texts in one: Ckh, Cki, Ckj, Ckk, Ckl, Ckn, Cko, Ckp, Ckm, Ckq, Cks, Ckr.
-/
import Derived.Test.YtnookbebiacaeaaMg20

section
namespace Go.Proofs.Ytnookbebiacaeaa
open Go.Eng
set_option maxRecDepth 20000 in
set_option maxHeartbeats 4000000 in
theorem ints_fn (l m : List Int) (hl : l.length ≤ 100000) (hm : m.length ≤ 100000) : Ctr Try.prog 63 [.rs 1 l.length (rI l), .rs 1 m.length (rI m)] [] (.b (decide (l = m))) := by
 refine fn_of_exec tabOk Try.func63 (by kernel_rfl) rfl (N := Try.f63.ntmps) rfl (res := [.tmp 4]) rfl rfl [] ?_
 repeat refine Or.inl ?_
 refine ⟨fun h => ?_, fun h => ?_⟩
 ·have h : ((l.length : Int) != m.length) = true := h
  rw [bne_iff_ne] at h
  refine RetIs.b ?_
  symm
  rw [decide_eq_false_iff_not]
  rintro rfl
  exact h rfl
 have h : ((l.length : Int) != m.length) = false := h
 rw [bne_eq_false_iff_eq] at h
 repeat refine Or.inl ?_
 refine ⟨[], Nat, fun k => k ≤ l.length ∧ ∀ j, j < k → l.getD j 0 = m.getD j 0, fun k => [⟨5, [], .i .i64 k⟩], fun _ => [], fun k => l.length - k,
  ⟨0, [], ⟨Nat.zero_le _, fun j hj => by omega⟩, rfl, rfl, rfl, rfl, rfl, ⟨rfl, rfl⟩, trivial⟩, ?_⟩
 rintro k ⟨hk, hno⟩
 have hk : k ≤ l.length := hk
 refine .inl ⟨fun hc => ?_, fun hc => ?_⟩
 ·have hc := dlt hc
  have hc : (k : Int) < l.length := hc
  have ek : ((k : Nat) : Int).toNat = k := Int.toNat_natCast k
  repeat refine Or.inl ?_
  refine ⟨⟨by omega, by omega⟩, ?_⟩
  refine ⟨⟨by omega, by omega⟩, ?_⟩
  refine ⟨fun h2 => ?_, fun h2 => ?_⟩
  ·have h2 : (l.getD ((k : Nat) : Int).toNat 0 != m.getD ((k : Nat) : Int).toNat 0) = true := h2
   rw [ek, bne_iff_ne] at h2
   refine RetIs.b ?_
   symm
   rw [decide_eq_false_iff_not]
   rintro rfl
   exact h2 rfl
  ·have h2 : (l.getD ((k : Nat) : Int).toNat 0 != m.getD ((k : Nat) : Int).toNat 0) = false := h2
   rw [ek, bne_eq_false_iff_eq] at h2
   refine ⟨k + 1, [], ⟨by omega, fun j hj => ?_⟩, by dsimp only; omega, rfl, rfl, rfl, rfl, rfl, ⟨rfl, wr (by omega) (by omega)⟩, trivial⟩
   by_cases hjk : j = k
   ·rw [hjk]; exact h2
   ·exact hno j (by omega)
 ·have hc := dnlt hc
  have hc : (l.length : Int) ≤ k := hc
  refine RetIs.b ?_
  symm
  rw [decide_eq_true_eq]
  refine List.ext_getElem (by omega) fun j h1 h2 => ?_
  rw [← gdI (d := (0 : Int)) h1, ← gdI (d := (0 : Int)) h2]
  exact hno j (by omega)
def hasS (l : List ByteArray) (x : ByteArray) : Bool := l.any fun y => bytesEq y x
theorem hasS_iff {l : List ByteArray} {x : ByteArray} : hasS l x = true ↔ x ∈ l := by
 unfold hasS
 rw [List.any_eq_true]
 constructor
 ·rintro ⟨y, hy, h⟩
  rw [bytes_eq] at h
  rw [← h]
  exact hy
 ·exact fun h => ⟨x, h, bytes_eq.2 rfl⟩
def rS (l : List ByteArray) (k : Nat) : List AV := [.s (l.getD k noB)]
set_option maxRecDepth 20000 in
set_option maxHeartbeats 4000000 in
theorem hasS_fn (l : List ByteArray) (hl : l.length ≤ 1000000) (x : ByteArray) : Ctr Try.prog 130 [.rs 1 l.length (rS l), .s x] [] (.b (hasS l x)) := by
 refine fn_of_exec tabOk Try.func130 (by kernel_rfl) rfl (N := Try.f130.ntmps) rfl (res := [.tmp 4]) rfl rfl [] ?_
 repeat refine Or.inl ?_
 refine ⟨[], Nat, fun k => k ≤ l.length ∧ ∀ j, j < k → l.getD j noB ≠ x, fun k => [⟨5, [], .i .i64 k⟩], fun _ => [], fun k => l.length - k,
  ⟨0, [], ⟨Nat.zero_le _, fun j hj => by omega⟩, rfl, rfl, rfl, rfl, rfl, ⟨rfl, rfl⟩, trivial⟩, ?_⟩
 rintro k ⟨hk, hno⟩
 have hk : k ≤ l.length := hk
 refine .inl ⟨fun hc => ?_, fun hc => ?_⟩
 ·have hc := dlt hc
  have hc : (k : Int) < l.length := hc
  have ek : ((k : Nat) : Int).toNat = k := Int.toNat_natCast k
  repeat refine Or.inl ?_
  refine ⟨⟨by omega, by omega⟩, ?_⟩
  refine ⟨fun h2 => ?_, fun h2 => ?_⟩
  ·have h2 : bytesEq (l.getD ((k : Nat) : Int).toNat noB) x = true := h2
   rw [ek, bytes_eq] at h2
   refine RetIs.b ?_
   symm
   rw [hasS_iff, ← h2]
   exact getD_memD noB (by omega)
  ·have h2 : bytesEq (l.getD ((k : Nat) : Int).toNat noB) x = false := h2
   rw [ek] at h2
   refine ⟨k + 1, [], ⟨by omega, fun j hj => ?_⟩, by dsimp only; omega, rfl, rfl, rfl, rfl, rfl, ⟨rfl, wr (by omega) (by omega)⟩, trivial⟩
   by_cases hjk : j = k
   ·rw [hjk]
    intro e
    rw [bytes_eq.2 e] at h2
    cases h2
   ·exact hno j (by omega)
 ·have hc := dnlt hc
  have hc : (l.length : Int) ≤ k := hc
  refine RetIs.b ?_
  symm
  cases hh : hasS l x with
  | false => rfl
  | true =>
   exfalso
   obtain ⟨j, hj, rfl⟩ := List.getElem_of_mem (hasS_iff.1 hh)
   have := hno j (by omega)
   rw [gdI hj] at this
   exact this rfl
end Go.Proofs.Ytnookbebiacaeaa
end

section
namespace Go.Proofs.Ytnookbebiacaeaa
open Go.Eng
def rDv (x : ByteArray) : List ByteArray := (divL x).map (·.1)
theorem snocS_row (l : List ByteArray) (x : ByteArray) : AOEq (.row 9 1 (l ++ [x]).length (rS (l ++ [x]))) (.row 9 1 (l.length + 1) (catG l.length (rS l) (rowOf 1 [.s x]))) := by
 refine ⟨rfl, rfl, by simp, fun k hk => ?_⟩
 unfold catG rS
 by_cases h : k < l.length
 ·rw [if_pos h, getD_snoc, if_pos h]
 ·have : k = l.length := by
   rw [List.length_append, List.length_singleton] at hk
   omega
  subst this
  rw [if_neg h, getD_snoc, if_neg h, if_pos rfl]
  simp
  rfl
theorem ex_head (x : ByteArray) (m : Nat) (h : m < x.size) : (headC (x.extract m x.size)).1 = x.extract m (min (m + 32) x.size) := by
 apply byL_ext
 have hs : (x.extract m x.size).size = x.size - m := by rw [ByteArray.size_extract]; omega
 unfold headC
 dsimp only
 rw [byL_extract, byL_extract, byL_extract, hs, List.drop_zero, List.take_take]
 congr 1
 omega
theorem ex_rest (x : ByteArray) (m : Nat) (h : m < x.size) : restC (x.extract m x.size) = x.extract (min (m + 32) x.size) x.size := by
 apply byL_ext
 have hs : (x.extract m x.size).size = x.size - m := by rw [ByteArray.size_extract]; omega
 unfold restC
 rw [byL_extract, byL_extract, byL_extract, hs]
 have hl : (byL x).length = x.size := byL_len x
 rw [List.take_of_length_le (l := (byL x).drop m) (by rw [List.length_drop]; omega), List.drop_drop, List.take_of_length_le (by rw [List.length_drop]; omega), List.take_of_length_le (by rw [List.length_drop]; omega)]
 congr 1
 omega
set_option maxRecDepth 20000 in
set_option maxHeartbeats 8000000 in
theorem rdiv_fn (x : ByteArray) (hx : x.size ≤ 65536) : Ctr Try.prog 129 [.s x] [.row 9 1 (rDv x).length (rS (rDv x))] (.so 0) := by
 refine fn_of_exec tabOk Try.func129 (by kernel_rfl) rfl (N := Try.f129.ntmps) rfl (res := [.tmp 2]) rfl rfl [(1000001, [.nl 3 9 1])] ?_
 repeat refine Or.inl ?_
 refine ⟨[], List Chk, fun L => L ++ divL (x.extract (min (32 * L.length) x.size) x.size) = divL x, fun L => [⟨4, [], .i .i64 ((32 * L.length : Nat) : Int)⟩, ⟨3, [], .so 0⟩], fun L => [⟨0, [], .row 9 1 (L.map (·.1)).length (rS (L.map (·.1)))⟩], fun L => x.size + 1 - 32 * L.length,
  ⟨[], [], ?_, rfl, rfl, rfl, rfl, rfl, ⟨⟨rfl, rfl⟩, rfl⟩, ⟨rfl, rfl, rfl, fun k hk => absurd hk (Nat.not_lt_zero k)⟩⟩, ?_⟩
 ·show divL (x.extract (min 0 x.size) x.size) = divL x
  rw [Nat.zero_min]
  congr 1
  apply byL_ext
  rw [byL_extract, List.drop_zero, List.take_of_length_le (by rw [byL_len]; omega)]
 intro L hI
 have hI : L ++ divL (x.extract (min (32 * L.length) x.size) x.size) = divL x := hI
 have hdl := div_len x
 have hLl : L.length ≤ x.size := by
  have := congrArg List.length hI
  rw [List.length_append] at this
  omega
 refine .inl ⟨fun hc => ?_, fun hc => ?_⟩
 ·have hc := dlt hc
  have hc : ((32 * L.length : Nat) : Int) < x.size := hc
  have hm : min (32 * L.length) x.size = 32 * L.length := by omega
  rw [hm] at hI
  have hs : (x.extract (32 * L.length) x.size).size = x.size - 32 * L.length := by rw [ByteArray.size_extract]; omega
  rw [divL_cons (by omega), ex_rest x _ (by omega)] at hI
  have w1 : IntKind.i64.wrap (((32 * L.length : Nat) : Int) + 32) = ((32 * L.length + 32 : Nat) : Int) := by rw [wr (by omega) (by omega)]; omega
  have hpc : x.extract (((32 * L.length : Nat) : Int)).toNat (min (IntKind.i64.wrap (((32 * L.length : Nat) : Int) + 32)) (x.size : Int)).toNat = (headC (x.extract (32 * L.length) x.size)).1 := by
   rw [ex_head x _ (by omega), w1]
   congr 1
   omega
  repeat refine Or.inl ?_
  refine ⟨⟨by omega, by rw [w1]; omega, by rw [w1]; omega⟩, ?_⟩
  refine ⟨fits (by rw [List.length_map]; omega), ?_⟩
  have ao := snocS_row (L.map (·.1)) (headC (x.extract (32 * L.length) x.size)).1
  have e : L.map (·.1) ++ [(headC (x.extract (32 * L.length) x.size)).1] = (L ++ [headC (x.extract (32 * L.length) x.size)]).map (·.1) := by simp
  rw [e, ← hpc] at ao
  refine ⟨L ++ [headC (x.extract (32 * L.length) x.size)], [(0, 2)], ?_, ?_, rfl, rfl, rfl, rfl, rfl, ⟨⟨rfl, ?_⟩, rfl⟩, ao⟩
  ·show (L ++ [headC (x.extract (32 * L.length) x.size)]) ++ divL (x.extract (min (32 * (L ++ [headC (x.extract (32 * L.length) x.size)]).length) x.size) x.size) = divL x
   rw [List.append_assoc, List.length_append, List.length_singleton, Nat.mul_add]
   exact hI
  ·show x.size + 1 - 32 * (L ++ [headC (x.extract (32 * L.length) x.size)]).length < x.size + 1 - 32 * L.length
   rw [List.length_append, List.length_singleton]
   omega
  ·show _ = ((32 * (L ++ [headC (x.extract (32 * L.length) x.size)]).length : Nat) : Int)
   rw [List.length_append, List.length_singleton, w1]
   omega
 ·have hc := dnlt hc
  have hc : (x.size : Int) ≤ ((32 * L.length : Nat) : Int) := hc
  rw [divL_nil (by rw [ByteArray.size_extract]; omega), List.append_nil] at hI
  have e : L.map (·.1) = rDv x := by unfold rDv; rw [hI]
  rw [← e]
  exact RetIs.so rfl rfl (fun _ _ => rfl) (fun _ _ => rfl)
def addP (acc : List ByteArray) (p : ByteArray) : List ByteArray := if hasS acc p then acc else acc ++ [p]
def keptL (ts : List ByteArray) : List ByteArray := ts.foldl (fun acc x => (rDv x).foldl addP acc) []
theorem kept_snoc {ts : List ByteArray} {k : Nat} (h : k < ts.length) : keptL (ts.take (k + 1)) = (rDv (ts.getD k noB)).foldl addP (keptL (ts.take k)) := by
 unfold keptL
 rw [take_snocD noB h, List.foldl_append]
 rfl
theorem foldP_len (l : List ByteArray) : ∀ acc, (l.foldl addP acc).length ≤ acc.length + l.length := by
 induction l with
 | nil => intro acc; simp
 | cons p r ih =>
  intro acc
  rw [List.foldl_cons]
  have h1 := ih (addP acc p)
  have h2 : (addP acc p).length ≤ acc.length + 1 := by
   unfold addP
   split
   ·omega
   ·simp
  rw [List.length_cons]
  omega
theorem kept_bd {ts : List ByteArray} (hz : ∀ x ∈ ts, x.size ≤ 200) : ∀ k, k ≤ ts.length → (keptL (ts.take k)).length ≤ 200 * k
 | 0, _ => by simp [keptL]
 | k + 1, h => by
  have ih := kept_bd hz k (by omega)
  rw [kept_snoc (by omega)]
  have h1 := foldP_len (rDv (ts.getD k noB)) (keptL (ts.take k))
  have h2 := div_len (ts.getD k noB)
  have h3 := hz _ (getD_memD noB (show k < ts.length by omega))
  have h4 : (rDv (ts.getD k noB)).length = (divL (ts.getD k noB)).length := by unfold rDv; rw [List.length_map]
  omega
theorem foldP_snoc {l acc : List ByteArray} {j : Nat} (h : j < l.length) : (l.take (j + 1)).foldl addP acc = addP ((l.take j).foldl addP acc) (l.getD j noB) := by
 rw [take_snocD noB h, List.foldl_append]
 rfl
set_option maxRecDepth 20000 in
set_option maxHeartbeats 8000000 in
theorem kept_fn (ts : List ByteArray) (hl : ts.length ≤ 1000) (hz : ∀ x ∈ ts, x.size ≤ 200) : Ctr Try.prog 67 [.rs 1 ts.length (rS ts)] [.row 9 1 (keptL ts).length (rS (keptL ts))] (.so 0) := by
 refine fn_of_exec tabOk Try.func67 (by kernel_rfl) rfl (N := Try.f67.ntmps) rfl (res := [.tmp 2]) rfl rfl [(1000001, [.nl 3 9 1])] ?_
 repeat refine Or.inl ?_
 refine ⟨[], Nat, fun k => k ≤ ts.length, fun k => [⟨4, [], .i .i64 k⟩, ⟨3, [], .so 0⟩], fun k => [⟨0, [], .row 9 1 (keptL (ts.take k)).length (rS (keptL (ts.take k)))⟩], fun k => ts.length - k,
  ⟨0, [], Nat.zero_le _, rfl, rfl, rfl, rfl, rfl, ⟨⟨rfl, rfl⟩, rfl⟩, ⟨rfl, rfl, rfl, fun k hk => absurd hk (Nat.not_lt_zero k)⟩⟩, ?_⟩
 intro k hk
 have hk : k ≤ ts.length := hk
 refine .inl ⟨fun hc => ?_, fun hc => ?_⟩
 ·have hc := dlt hc
  have hc : (k : Int) < ts.length := hc
  have ek : ((k : Nat) : Int).toNat = k := Int.toNat_natCast k
  have hzk := hz _ (getD_memD noB (show k < ts.length by omega))
  have hkb := kept_bd hz k hk
  have hdl := div_len (ts.getD k noB)
  have hrl : (rDv (ts.getD k noB)).length = (divL (ts.getD k noB)).length := by unfold rDv; rw [List.length_map]
  repeat refine Or.inl ?_
  refine ⟨⟨by omega, by omega⟩, ?_⟩
  rw [ek]
  refine Or.inl ⟨_, _, rdiv_fn (ts.getD k noB) (by omega), ?_⟩
  repeat refine Or.inl ?_
  have ao0 : AOEq (.row 9 1 (((rDv (ts.getD k noB)).take 0).foldl addP (keptL (ts.take k))).length (rS (((rDv (ts.getD k noB)).take 0).foldl addP (keptL (ts.take k))))) (.row 9 1 (keptL (ts.take k)).length (rS (keptL (ts.take k)))) := AOEq.refl _
  refine ⟨[], Nat, fun j => j ≤ (rDv (ts.getD k noB)).length, fun j => [⟨6, [], .i .i64 j⟩, ⟨3, [], .so 0⟩], fun j => [⟨0, [], .row 9 1 (((rDv (ts.getD k noB)).take j).foldl addP (keptL (ts.take k))).length (rS (((rDv (ts.getD k noB)).take j).foldl addP (keptL (ts.take k))))⟩], fun j => (rDv (ts.getD k noB)).length - j,
   ⟨0, [], Nat.zero_le _, rfl, rfl, rfl, rfl, rfl, ⟨⟨rfl, rfl⟩, rfl⟩, ao0⟩, ?_⟩
  intro j hj
  have hj : j ≤ (rDv (ts.getD k noB)).length := hj
  have hfl := foldP_len ((rDv (ts.getD k noB)).take j) (keptL (ts.take k))
  rw [List.length_take] at hfl
  refine .inl ⟨fun hc2 => ?_, fun hc2 => ?_⟩
  ·have hc2 := dlt hc2
   have hc2 : (j : Int) < (rDv (ts.getD k noB)).length := hc2
   have ej : ((j : Nat) : Int).toNat = j := Int.toNat_natCast j
   have hsn := foldP_snoc (l := rDv (ts.getD k noB)) (acc := keptL (ts.take k)) (j := j) (by omega)
   repeat refine Or.inl ?_
   refine ⟨⟨by omega, by omega⟩, by omega, ?_⟩
   refine Or.inl ⟨_, _, hasS_fn (((rDv (ts.getD k noB)).take j).foldl addP (keptL (ts.take k))) (by omega) ((rDv (ts.getD k noB)).getD ((j : Nat) : Int).toNat noB), ?_⟩
   refine ⟨fun hh => ?_, fun hh => ?_⟩
   ·have hh : (!hasS (((rDv (ts.getD k noB)).take j).foldl addP (keptL (ts.take k))) ((rDv (ts.getD k noB)).getD ((j : Nat) : Int).toNat noB)) = true := hh
    rw [ej, Bool.not_eq_true'] at hh
    unfold addP at hsn
    rw [if_neg (by rw [show (fun acc p => if hasS acc p = true then acc else acc ++ [p]) = addP from rfl, hh]; decide)] at hsn
    rw [show (fun acc p => if hasS acc p = true then acc else acc ++ [p]) = addP from rfl] at hsn
    repeat refine Or.inl ?_
    refine ⟨⟨by omega, by omega⟩, by omega, ?_⟩
    refine ⟨fits (by omega), ?_⟩
    have ao := snocS_row (((rDv (ts.getD k noB)).take j).foldl addP (keptL (ts.take k))) ((rDv (ts.getD k noB)).getD ((j : Nat) : Int).toNat noB)
    rw [ej, ← hsn] at ao
    have ao2 : AOEq (.row 9 1 (((rDv (ts.getD k noB)).take (j + 1)).foldl addP (keptL (ts.take k))).length (rS (((rDv (ts.getD k noB)).take (j + 1)).foldl addP (keptL (ts.take k))))) (.row 9 1 ((((rDv (ts.getD k noB)).take j).foldl addP (keptL (ts.take k))).length + 1) (catG (((rDv (ts.getD k noB)).take j).foldl addP (keptL (ts.take k))).length (rS (((rDv (ts.getD k noB)).take j).foldl addP (keptL (ts.take k)))) (rowOf 1 [.s ((rDv (ts.getD k noB)).getD ((j : Nat) : Int).toNat noB)]))) := by
     rw [ej]
     exact ao
    refine ⟨j + 1, [(0, 3)], (by show j + 1 ≤ (rDv (ts.getD k noB)).length; omega), by dsimp only; omega, rfl, rfl, rfl, rfl, rfl, ⟨⟨rfl, wr (by omega) (by omega)⟩, rfl⟩, ao2⟩
   ·have hh : (!hasS (((rDv (ts.getD k noB)).take j).foldl addP (keptL (ts.take k))) ((rDv (ts.getD k noB)).getD ((j : Nat) : Int).toNat noB)) = false := hh
    rw [ej, Bool.not_eq_false'] at hh
    unfold addP at hsn
    rw [if_pos (by rw [show (fun acc p => if hasS acc p = true then acc else acc ++ [p]) = addP from rfl, hh])] at hsn
    rw [show (fun acc p => if hasS acc p = true then acc else acc ++ [p]) = addP from rfl] at hsn
    have ao2 : AOEq (.row 9 1 (((rDv (ts.getD k noB)).take (j + 1)).foldl addP (keptL (ts.take k))).length (rS (((rDv (ts.getD k noB)).take (j + 1)).foldl addP (keptL (ts.take k))))) (.row 9 1 (((rDv (ts.getD k noB)).take j).foldl addP (keptL (ts.take k))).length (rS (((rDv (ts.getD k noB)).take j).foldl addP (keptL (ts.take k))))) := by
     rw [hsn]
     exact AOEq.refl _
    refine ⟨j + 1, [], (by show j + 1 ≤ (rDv (ts.getD k noB)).length; omega), by dsimp only; omega, rfl, rfl, rfl, rfl, rfl, ⟨⟨rfl, wr (by omega) (by omega)⟩, rfl⟩, ao2⟩
  ·have hc2 := dnlt hc2
   have hc2 : ((rDv (ts.getD k noB)).length : Int) ≤ (j : Nat) := hc2
   have hte : (rDv (ts.getD k noB)).take j = rDv (ts.getD k noB) := List.take_of_length_le (by omega)
   have ao : AOEq (.row 9 1 (keptL (ts.take (k + 1))).length (rS (keptL (ts.take (k + 1))))) (.row 9 1 (((rDv (ts.getD k noB)).take j).foldl addP (keptL (ts.take k))).length (rS (((rDv (ts.getD k noB)).take j).foldl addP (keptL (ts.take k))))) := by
    rw [hte, ← kept_snoc (by omega)]
    exact AOEq.refl _
   refine ⟨k + 1, [], (by show k + 1 ≤ ts.length; omega), by dsimp only; omega, rfl, rfl, rfl, rfl, rfl, ⟨⟨rfl, wr (by omega) (by omega)⟩, rfl⟩, ao⟩
 ·have hc := dnlt hc
  have hc : (ts.length : Int) ≤ (k : Nat) := hc
  have hte : ts.take k = ts := List.take_of_length_le (by omega)
  rw [hte]
  exact RetIs.so rfl rfl (fun _ _ => rfl) (fun _ _ => rfl)
end Go.Proofs.Ytnookbebiacaeaa
end

section
namespace Go.Proofs.Ytnookbebiacaeaa
open Go.Eng
def rTxt (R : List Fl) : List ByteArray := R.map fun f => f.2.2
theorem rTxt_at (R : List Fl) (k : Nat) : (rTxt R).getD k noB = (R.getD k dFf).2.2 := by
 unfold rTxt
 simp only [List.getD, List.getElem?_map]
 cases R[k]? <;> rfl
set_option maxRecDepth 20000 in
set_option maxHeartbeats 8000000 in
theorem rchunks_fn (R : List Fl) (N : List Int) (hR : R.length ≤ 1000) (hz : ∀ f ∈ R, f.2.2.size ≤ 200) : Ctr Try.prog 62 [.rp (rfV R N)] [] (.i .i64 (keptL (rTxt R)).length) := by
 refine fn_of_exec tabOk Try.func62 (by kernel_rfl) rfl (N := Try.f62.ntmps) rfl (res := [.tmp 2]) rfl rfl [(1000001, [.nl 3 9 1])] ?_
 repeat refine Or.inl ?_
 refine ⟨[], Nat, fun k => k ≤ R.length, fun k => [⟨4, [], .i .i64 k⟩, ⟨3, [], .so 0⟩], fun k => [⟨0, [], .row 9 1 ((rTxt R).take k).length (rS ((rTxt R).take k))⟩], fun k => R.length - k,
  ⟨0, [], Nat.zero_le _, rfl, rfl, rfl, rfl, rfl, ⟨⟨rfl, rfl⟩, rfl⟩, ⟨rfl, rfl, rfl, fun k hk => absurd hk (Nat.not_lt_zero k)⟩⟩, ?_⟩
 intro k hk
 have hk : k ≤ R.length := hk
 have htl : (rTxt R).length = R.length := by unfold rTxt; rw [List.length_map]
 refine .inl ⟨fun hc => ?_, fun hc => ?_⟩
 ·have hc := dlt hc
  have hc : (k : Int) < R.length := hc
  have ek : ((k : Nat) : Int).toNat = k := Int.toNat_natCast k
  have htk : ((rTxt R).take k).length = k := by rw [List.length_take]; omega
  have hsn : (rTxt R).take (k + 1) = (rTxt R).take k ++ [(R.getD k dFf).2.2] := by rw [take_snocD noB (by omega), rTxt_at]
  repeat refine Or.inl ?_
  refine ⟨⟨by omega, by omega⟩, ?_⟩
  refine ⟨fits (by omega), ?_⟩
  have ao := snocS_row ((rTxt R).take k) (R.getD k dFf).2.2
  rw [← hsn] at ao
  have ao2 : AOEq (.row 9 1 ((rTxt R).take (k + 1)).length (rS ((rTxt R).take (k + 1)))) (.row 9 1 (((rTxt R).take k).length + 1) (catG ((rTxt R).take k).length (rS ((rTxt R).take k)) (rowOf 1 [.s (R.getD ((k : Nat) : Int).toNat dFf).2.2]))) := by
   rw [ek]
   exact ao
  refine ⟨k + 1, [(0, 2)], (by show k + 1 ≤ R.length; omega), by dsimp only; omega, rfl, rfl, rfl, rfl, rfl, ⟨⟨rfl, wr (by omega) (by omega)⟩, rfl⟩, ao2⟩
 ·have hc := dnlt hc
  have hc : (R.length : Int) ≤ (k : Nat) := hc
  have hte : (rTxt R).take k = rTxt R := List.take_of_length_le (by omega)
  rw [hte]
  refine Or.inl ⟨_, _, kept_fn (rTxt R) (by omega) (fun x hx => by
   unfold rTxt at hx
   obtain ⟨f, hf, rfl⟩ := List.mem_map.1 hx
   exact hz f hf), ?_⟩
  exact RetIs.i rfl
theorem rUsed_m {m : Nat} {R : List Fl} (hz : ∀ f ∈ R, f.2.2.size ≤ m) (t : Int) : rUsed R t ≤ m * R.length := by
 induction R with
 | nil => simp [rUsed]
 | cons f r ih =>
  have h1 := hz f (by simp)
  have h2 := ih fun g hg => hz g (by simp [hg])
  have e : rUsed (f :: r) t = (if (f.1 == t) = true then f.2.2.size else 0) + rUsed r t := by
   unfold rUsed
   rw [List.filter_cons]
   split
   ·simp
   ·simp
  rw [e, List.length_cons, Nat.mul_succ]
  split <;> omega
def rowF (R : List Fl) : AO := .row 161 3 R.length (rF R)
def rowN (N : List Int) : AO := .row 3 1 N.length (rI N)
theorem snocF_row (R : List Fl) (f : Fl) : AOEq (rowF (R ++ [f])) (.row 161 3 (R.length + 1) (catG R.length (rF R) (rowOf 3 [.i .i64 f.1, .i .i64 f.2.1, .s f.2.2]))) := by
 refine ⟨rfl, rfl, by simp, fun k hk => ?_⟩
 unfold catG rF
 by_cases h : k < R.length
 ·rw [if_pos h, getD_snoc, if_pos h]
 ·have : k = R.length := by
   rw [List.length_append, List.length_singleton] at hk
   omega
  subst this
  rw [if_neg h, getD_snoc, if_neg h, if_pos rfl]
  simp
  rfl
theorem setN_row (N : List Int) (k : Nat) (v : Int) (hk : k < N.length) : AOEq (rowN (N.set k v)) (.row 3 1 N.length (fun q => if q = k then over 0 [AV.i .i64 v] (rI N q) else rI N q)) := by
 refine ⟨rfl, rfl, by simp, fun q hq => ?_⟩
 dsimp only
 unfold rI
 rw [getD_setD 0 N k v hk q]
 split
 ·rfl
 ·rfl
def rO (R : List Fl) (N : List Int) : List AO := [.cells 154 [.so 1, .so 2], rowF R, rowN N]
set_option maxRecDepth 20000 in
theorem rnew38_fn : CtrM Try.prog 56 true [] [] (fun _ : Unit => True) (fun _ => []) (fun _ => [.cells 154 [.so 1, .so 2], rowF [], rowN (List.replicate 12 0)]) (fun _ => .p 0 0) := by
 refine fn_of_execM tabOk Try.func56 (by kernel_rfl) rfl (N := Try.f56.ntmps) rfl (res := [.tmp 0]) rfl true false [] _ _ _ _ rfl (fun h => by cases h) [(999999, [.nlc 1 0 161 3])] ?_
 have ao : AOEq (rowN (List.replicate 12 0)) (.row 3 1 12 (fun _ => [.i .i64 0])) := by
  refine ⟨rfl, rfl, rfl, fun k hk => ?_⟩
  have hk : k < 12 := hk
  show [AV.i .i64 0] = [AV.i .i64 ((List.replicate 12 (0 : Int)).getD k 0)]
  have e : (List.replicate 12 (0 : Int)).getD k 0 = 0 := by
   unfold List.getD
   rw [List.getElem?_replicate, if_pos hk]
   rfl
  rw [e]
 refine ⟨⟨rfl, by decide, by decide⟩, ?_⟩
 exact ⟨(), [(0, 1), (1, 2), (2, 0)], trivial, ⟨⟨⟨rfl, rfl, AVEq.refl _⟩, trivial⟩, ⟨⟨rfl, rfl, rfl, ⟨rfl, AVsEq.refl _⟩⟩, ⟨rfl, rfl, trivial, ⟨rfl, rfl, rfl, fun k hk => absurd hk (Nat.not_lt_zero k)⟩⟩, ⟨rfl, rfl, trivial, ao⟩, trivial⟩, rfl⟩, rfl, fun h => (by cases h)⟩
def rPut (R : List Fl) (N : List Int) (t : Int) (x : ByteArray) : (List Fl × List Int) × (Int × Int) :=
 if t < 0 ∨ 11 < t then ((R, N), (0, 1)) else
 match R.find? (fun f => f.1 == t && bytesEq f.2.2 x) with
 | some f => ((R, N), (f.2.1, 0))
 | none => ((R ++ [(t, N.getD t.toNat 0, x)], N.set t.toNat (N.getD t.toNat 0 + 1)), (N.getD t.toNat 0, 0))
set_option maxRecDepth 20000 in
set_option maxHeartbeats 8000000 in
theorem rput_fn (R : List Fl) (N : List Int) (hR : R.length ≤ 1000) (hz : ∀ f ∈ R, f.2.2.size ≤ 200) (hN : N.length = 12) (hNb : ∀ k, 0 ≤ N.getD k 0 ∧ N.getD k 0 ≤ 100000) (t : Int) (x : ByteArray) (hx : x.size ≤ 200) :
  CtrM Try.prog 121 true (rO R N) [.p 0 0, .i .i64 t, .s x] (fun _ : Unit => True) (fun _ => [.cells 154 [.so 3, .so 2], .dead, rowN (rPut R N t x).1.2]) (fun _ => [rowF (rPut R N t x).1.1]) (fun _ => .tup [.i .i64 (rPut R N t x).2.1, .i .i64 (rPut R N t x).2.2]) := by
 refine fn_of_execM tabOk Try.func121 (by kernel_rfl) rfl (N := Try.f121.ntmps) rfl (res := [.tmp 6, .tmp 7]) rfl true false (rO R N) _ _ _ _ rfl (fun h => by cases h) [(999999, [.mvc 0 0])] ?_
 repeat refine Or.inl ?_
 refine ⟨fun h => ?_, fun h => ?_⟩
 ·have h : (decide (t < 0) || decide (t > 11)) = true := h
  have hP : rPut R N t x = ((R, N), (0, 1)) := by
   unfold rPut
   rw [if_pos (by simpa using h)]
  rw [hP]
  exact ⟨(), [(3, 3)], trivial, ⟨⟨⟨rfl, rfl, AVEq.refl _⟩, trivial⟩, ⟨⟨rfl, rfl, rfl, ⟨rfl, AVsEq.refl _⟩⟩, ⟨rfl, rfl, trivial, trivial⟩, ⟨rfl, rfl, trivial, AOEq.refl _⟩, ⟨rfl, rfl, trivial, AOEq.refl _⟩, trivial⟩, rfl⟩, rfl, fun h => (by cases h)⟩
 ·have h : (decide (t < 0) || decide (t > 11)) = false := h
  have ht : 0 ≤ t ∧ t ≤ 11 := by
   simp at h
   omega
  repeat refine Or.inl ?_
  refine ⟨fun hc => (by have hc : decide ((x.size : Int) > 65536) = true := hc; rw [decide_eq_true_eq] at hc; omega), fun _ => ?_⟩
  repeat refine Or.inl ?_
  refine ⟨[], Nat, fun k => k ≤ R.length ∧ ∀ j, j < k → ((R.getD j dFf).1 == t && bytesEq (R.getD j dFf).2.2 x) = false, fun k => [⟨8, [], .i .i64 k⟩], fun _ => [], fun k => R.length - k,
   ⟨0, [], ⟨Nat.zero_le _, fun j hj => absurd hj (Nat.not_lt_zero j)⟩, rfl, rfl, rfl, rfl, rfl, ⟨rfl, rfl⟩, trivial⟩, ?_⟩
  rintro k ⟨hk, hno⟩
  have hk : k ≤ R.length := hk
  refine .inl ⟨fun hc => ?_, fun hc => ?_⟩
  ·have hc := dlt hc
   have hc : (k : Int) < R.length := hc
   have ek : ((k : Nat) : Int).toNat = k := Int.toNat_natCast k
   repeat refine Or.inl ?_
   refine ⟨⟨by omega, by omega⟩, by omega, ?_⟩
   refine ⟨fun _ => ⟨by omega, by omega⟩, fun _ => by omega, ?_⟩
   refine ⟨fun h2 => ?_, fun h2 => ?_⟩
   ·have h2 : ((R.getD ((k : Nat) : Int).toNat dFf).1 == t && bytesEq (R.getD ((k : Nat) : Int).toNat dFf).2.2 x) = true := h2
    rw [ek] at h2
    have hfd : R.find? (fun f => f.1 == t && bytesEq f.2.2 x) = some (R.getD k dFf) := by
     rw [List.find?_eq_some_iff_getElem]
     refine ⟨h2, k, by omega, (gdI (by omega)).symm, fun j hj => ?_⟩
     have := hno j hj
     rw [gdI (by omega)] at this
     show (!(R[j].1 == t && bytesEq R[j].2.2 x)) = true
     rw [this]
     rfl
    have hP : rPut R N t x = ((R, N), ((R.getD k dFf).2.1, 0)) := by
     unfold rPut
     rw [if_neg (by omega), hfd]
    rw [hP]
    repeat refine Or.inl ?_
    refine ⟨⟨by omega, by omega⟩, by omega, ?_⟩
    have hav : AVEq (.tup [.i .i64 (R.getD k dFf).2.1, .i .i64 0]) (.tup [.i .i64 (R.getD ((k : Nat) : Int).toNat dFf).2.1, .i .i64 0]) := by
     rw [ek]
     exact AVEq.refl _
    exact ⟨(), [(3, 3)], trivial, ⟨⟨⟨rfl, rfl, hav⟩, trivial⟩, ⟨⟨rfl, rfl, rfl, ⟨rfl, AVsEq.refl _⟩⟩, ⟨rfl, rfl, trivial, trivial⟩, ⟨rfl, rfl, trivial, AOEq.refl _⟩, ⟨rfl, rfl, trivial, AOEq.refl _⟩, trivial⟩, rfl⟩, rfl, fun h => (by cases h)⟩
   ·have h2 : ((R.getD ((k : Nat) : Int).toNat dFf).1 == t && bytesEq (R.getD ((k : Nat) : Int).toNat dFf).2.2 x) = false := h2
    rw [ek] at h2
    refine ⟨k + 1, [], ⟨by omega, fun j hj => ?_⟩, by dsimp only; omega, rfl, rfl, rfl, rfl, rfl, ⟨rfl, wr (by omega) (by omega)⟩, trivial⟩
    by_cases hjk : j = k
    ·rw [hjk]; exact h2
    ·exact hno j (by omega)
  ·have hc := dnlt hc
   have hc : (R.length : Int) ≤ (k : Nat) := hc
   have hfd : R.find? (fun f => f.1 == t && bytesEq f.2.2 x) = none := by
    rw [List.find?_eq_none]
    intro f hf hp
    obtain ⟨j, hj, rfl⟩ := List.getElem_of_mem hf
    have := hno j (by omega)
    rw [gdI hj] at this
    rw [this] at hp
    cases hp
   have hP : rPut R N t x = ((R ++ [(t, N.getD t.toNat 0, x)], N.set t.toNat (N.getD t.toNat 0 + 1)), (N.getD t.toNat 0, 0)) := by
    unfold rPut
    rw [if_neg (by omega), hfd]
   rw [hP]
   have hub := rUsed_bd (R := R) (fun f hf => Nat.le_trans (hz f hf) (by decide)) t R.length (Nat.le_refl _)
   rw [List.take_of_length_le (Nat.le_refl _)] at hub
   have hnb := hNb t.toNat
   repeat refine Or.inl ?_
   refine ⟨_, _, rused_fn R N (by omega) (fun f hf => Nat.le_trans (hz f hf) (by decide)) t, ?_⟩
   repeat refine Or.inl ?_
   refine ⟨fun h3 => ?_, fun _ => ?_⟩
   ·exfalso
    have h3 : decide (IntKind.i64.wrap ((rUsed R t : Int) + x.size) > 1048576) = true := h3
    have hm := rUsed_m hz t
    rw [wr (by omega) (by omega), decide_eq_true_eq] at h3
    omega
   repeat refine Or.inl ?_
   refine ⟨⟨by omega, by omega⟩, by omega, ?_⟩
   repeat refine Or.inl ?_
   refine ⟨⟨by omega, by omega⟩, by omega, ?_⟩
   repeat refine Or.inl ?_
   refine ⟨fits (by omega), ?_⟩
   have aoF := snocF_row R (t, N.getD t.toNat 0, x)
   have aoN := setN_row N t.toNat (N.getD t.toNat 0 + 1) (by omega)
   have w1 : IntKind.i64.wrap (N.getD t.toNat 0 + 1) = N.getD t.toNat 0 + 1 := wr (by omega) (by omega)
   have aoN2 : AOEq (rowN (N.set t.toNat (N.getD t.toNat 0 + 1))) (.row 3 1 N.length (fun q => if q = t.toNat then over 0 [AV.i .i64 (IntKind.i64.wrap (N.getD t.toNat 0 + 1))] (rI N q) else rI N q)) := by
    rw [w1]
    exact aoN
   exact ⟨(), [(3, 5)], trivial, ⟨⟨⟨rfl, rfl, AVEq.refl _⟩, trivial⟩, ⟨⟨rfl, rfl, rfl, ⟨rfl, AVsEq.refl _⟩⟩, ⟨rfl, rfl, trivial, trivial⟩, ⟨rfl, rfl, trivial, aoN2⟩, ⟨rfl, rfl, trivial, aoF⟩, trivial⟩, rfl⟩, rfl, fun h => (by cases h)⟩
end Go.Proofs.Ytnookbebiacaeaa
end

section
namespace Go.Proofs.Ytnookbebiacaeaa
open Go.Eng
def rDrop (R : List Fl) (t n : Int) : List Fl × Int := if rAt R t n < 0 then (R, 4) else (R.eraseIdx (rAt R t n).toNat, 0)
theorem erase_row (R : List Fl) (a w : Int) (h0 : 0 ≤ a) (h1 : a.toNat < R.length) (hw : w = a + 1) : AOEq (rowF (R.eraseIdx a.toNat)) (.row 161 3 (0 + (a - 0).toNat + ((R.length : Int) - w).toNat) (catG (0 + (a - 0).toNat) (catG 0 (rowOf 3 []) fun q => rF R (Int.toNat 0 + q)) fun q => rF R (w.toNat + q))) := by
 have hl : (R.eraseIdx a.toNat).length = R.length - 1 := List.length_eraseIdx_of_lt h1
 refine ⟨rfl, rfl, by rw [hl]; omega, fun k hk => ?_⟩
 have hk : k < (R.eraseIdx a.toNat).length := hk
 have hg : ∀ k, (R.eraseIdx a.toNat).getD k dFf = R.getD (if k < a.toNat then k else k + 1) dFf := fun k => by
  unfold List.getD
  rw [List.getElem?_eraseIdx]
  split <;> rfl
 unfold catG rF
 dsimp only
 rw [hg k]
 by_cases h : k < a.toNat
 ·rw [if_pos (by omega), if_neg (by omega), if_pos h]
  have e : Int.toNat 0 + (k - 0) = k := by simp
  rw [e]
 ·rw [if_neg (by omega), if_neg h]
  have e : w.toNat + (k - (0 + (a - 0).toNat)) = k + 1 := by omega
  rw [e]
set_option maxRecDepth 20000 in
set_option maxHeartbeats 8000000 in
theorem rdrop_fn (R : List Fl) (N : List Int) (hR : R.length ≤ 1000) (t n : Int) :
  CtrM Try.prog 123 true (rO R N) [.p 0 0, .i .i64 t, .i .i64 n] (fun _ : Unit => True) (fun _ => [.cells 154 [.so 3, .so 2], .dead, rowN N]) (fun _ => [rowF (rDrop R t n).1]) (fun _ => .i .i64 (rDrop R t n).2) := by
 refine fn_of_execM tabOk Try.func123 (by kernel_rfl) rfl (N := Try.f123.ntmps) rfl (res := [.tmp 6]) rfl true false (rO R N) _ _ _ _ rfl (fun h => by cases h) [(999999, [.mvc 0 0])] ?_
 repeat refine Or.inl ?_
 refine ⟨_, _, rat_fn R N (by omega) t n, ?_⟩
 repeat refine Or.inl ?_
 refine ⟨fun h => ?_, fun h => ?_⟩
 ·have h : decide (rAt R t n < 0) = true := h
  rw [decide_eq_true_eq] at h
  have hD : rDrop R t n = (R, 4) := by unfold rDrop; rw [if_pos h]
  rw [hD]
  exact ⟨(), [(3, 3)], trivial, ⟨⟨⟨rfl, rfl, AVEq.refl _⟩, trivial⟩, ⟨⟨rfl, rfl, rfl, ⟨rfl, AVsEq.refl _⟩⟩, ⟨rfl, rfl, trivial, trivial⟩, ⟨rfl, rfl, trivial, AOEq.refl _⟩, ⟨rfl, rfl, trivial, AOEq.refl _⟩, trivial⟩, rfl⟩, rfl, fun h => (by cases h)⟩
 ·have h : decide (rAt R t n < 0) = false := h
  rw [decide_eq_false_iff_not] at h
  obtain ⟨h1, h2, h3⟩ := at_pos h
  have hD : rDrop R t n = (R.eraseIdx (rAt R t n).toNat, 0) := by unfold rDrop; rw [if_neg h]
  rw [hD]
  repeat refine Or.inl ?_
  refine ⟨⟨by omega, by omega⟩, ?_⟩
  have w1 : IntKind.i64.wrap (rAt R t n + 1) = rAt R t n + 1 := wr (by omega) (by omega)
  refine ⟨fits (by omega), ?_⟩
  refine ⟨⟨by rw [w1]; omega, by rw [w1]; omega⟩, ?_⟩
  refine ⟨fits (by rw [w1]; omega), ?_⟩
  have aoF := erase_row R (rAt R t n) (IntKind.i64.wrap (rAt R t n + 1)) h3 h1 w1
  repeat refine Or.inl ?_
  exact ⟨(), [(3, 6)], trivial, ⟨⟨⟨rfl, rfl, AVEq.refl _⟩, trivial⟩, ⟨⟨rfl, rfl, rfl, ⟨rfl, AVsEq.refl _⟩⟩, ⟨rfl, rfl, trivial, trivial⟩, ⟨rfl, rfl, trivial, AOEq.refl _⟩, ⟨rfl, rfl, trivial, aoF⟩, trivial⟩, rfl⟩, rfl, fun h => (by cases h)⟩
end Go.Proofs.Ytnookbebiacaeaa
end

section
namespace Go.Proofs.Ytnookbebiacaeaa
open Go.Eng
abbrev Dn := Int × ByteArray × Int
def dnA (d : Dn) : List AV := [.i .i64 d.1, .s d.2.1, .i .i64 d.2.2]
def getD0 : Option ByteArray → Dn
 | some x => (0, x, 0)
 | none => (0, noB, 4)
def rDo (R : List Fl) (N : List Int) (o : Opn) : (List Fl × List Int) × Dn :=
 if o.d = 0 then ((rPut R N o.t o.x).1, ((rPut R N o.t o.x).2.1, noB, (rPut R N o.t o.x).2.2)) else
 if o.d = 1 then ((R, N), getD0 (rGet R o.t o.n)) else
 if o.d = 2 then (((rDrop R o.t o.n).1, N), (0, noB, (rDrop R o.t o.n).2)) else ((R, N), (0, noB, 0))
set_option maxRecDepth 20000 in
set_option maxHeartbeats 8000000 in
theorem rdo_fn (R : List Fl) (N : List Int) (hR : R.length ≤ 1000) (hz : ∀ f ∈ R, f.2.2.size ≤ 200) (hN : N.length = 12) (hNb : ∀ k, 0 ≤ N.getD k 0 ∧ N.getD k 0 ≤ 100000) (o : Opn) (hx : o.x.size ≤ 200) (F : (List Fl × List Int) × Dn) (hF : F = rDo R N o) :
  CtrM Try.prog 58 true (rO R N) [.p 0 0, .ag o.av] (fun _ : Unit => True) (fun _ => [.cells 154 [.so 3, .so 2], .dead, rowN F.1.2]) (fun _ => [rowF F.1.1]) (fun _ => .ag (dnA F.2)) := by
 refine fn_of_execM tabOk Try.func58 (by kernel_rfl) rfl (N := Try.f58.ntmps) rfl (res := [.cell 4 73]) rfl true false (rO R N) _ _ _ _ rfl (fun h => by cases h) [(999999, [.mvc 0 0])] ?_
 repeat refine Or.inl ?_
 refine ⟨fun h => ?_, fun h => ?_⟩
 ·have h : (o.d == 0) = true := h
  rw [beq_iff_eq] at h
  unfold rDo at hF
  rw [if_pos h] at hF
  subst hF
  refine Or.inr (Or.inr ?_)
  refine ⟨true, [0, 1, 2], rfl, Unit, _, _, _, _, rput_fn R N hR hz hN hNb o.t o.x hx, fun _ _ => ?_⟩
  repeat refine Or.inl ?_
  exact ⟨(), [(3, 6)], trivial, ⟨⟨⟨rfl, rfl, AVEq.refl _⟩, trivial⟩, ⟨⟨rfl, rfl, rfl, ⟨rfl, AVsEq.refl _⟩⟩, ⟨rfl, rfl, trivial, trivial⟩, ⟨rfl, rfl, trivial, AOEq.refl _⟩, ⟨rfl, rfl, trivial, AOEq.refl _⟩, trivial⟩, rfl⟩, rfl, fun h => (by cases h)⟩
 ·have h : (o.d == 0) = false := h
  rw [beq_eq_false_iff_ne] at h
  repeat refine Or.inl ?_
  refine ⟨fun h2 => ?_, fun h2 => ?_⟩
  ·have h2 : (o.d == 1) = true := h2
   rw [beq_iff_eq] at h2
   unfold rDo at hF
   rw [if_neg h, if_pos h2] at hF
   subst hF
   refine Or.inl ⟨_, _, rget_fn R N (by omega) o.t o.n, ?_⟩
   cases hg : rGet R o.t o.n with
   | none =>
    repeat refine Or.inl ?_
    exact ⟨(), [(3, 5)], trivial, ⟨⟨⟨rfl, rfl, AVEq.refl _⟩, trivial⟩, ⟨⟨rfl, rfl, rfl, ⟨rfl, AVsEq.refl _⟩⟩, ⟨rfl, rfl, trivial, trivial⟩, ⟨rfl, rfl, trivial, AOEq.refl _⟩, ⟨rfl, rfl, trivial, AOEq.refl _⟩, trivial⟩, rfl⟩, rfl, fun h => (by cases h)⟩
   | some y =>
    repeat refine Or.inl ?_
    exact ⟨(), [(3, 5)], trivial, ⟨⟨⟨rfl, rfl, AVEq.refl _⟩, trivial⟩, ⟨⟨rfl, rfl, rfl, ⟨rfl, AVsEq.refl _⟩⟩, ⟨rfl, rfl, trivial, trivial⟩, ⟨rfl, rfl, trivial, AOEq.refl _⟩, ⟨rfl, rfl, trivial, AOEq.refl _⟩, trivial⟩, rfl⟩, rfl, fun h => (by cases h)⟩
  ·have h2 : (o.d == 1) = false := h2
   rw [beq_eq_false_iff_ne] at h2
   repeat refine Or.inl ?_
   refine ⟨fun h3 => ?_, fun h3 => ?_⟩
   ·have h3 : (o.d == 2) = true := h3
    rw [beq_iff_eq] at h3
    unfold rDo at hF
    rw [if_neg h, if_neg h2, if_pos h3] at hF
    subst hF
    refine Or.inr (Or.inr ?_)
    refine ⟨true, [0, 1, 2], rfl, Unit, _, _, _, _, rdrop_fn R N hR o.t o.n, fun _ _ => ?_⟩
    repeat refine Or.inl ?_
    exact ⟨(), [(3, 6)], trivial, ⟨⟨⟨rfl, rfl, AVEq.refl _⟩, trivial⟩, ⟨⟨rfl, rfl, rfl, ⟨rfl, AVsEq.refl _⟩⟩, ⟨rfl, rfl, trivial, trivial⟩, ⟨rfl, rfl, trivial, AOEq.refl _⟩, ⟨rfl, rfl, trivial, AOEq.refl _⟩, trivial⟩, rfl⟩, rfl, fun h => (by cases h)⟩
   ·have h3 : (o.d == 2) = false := h3
    rw [beq_eq_false_iff_ne] at h3
    unfold rDo at hF
    rw [if_neg h, if_neg h2, if_neg h3] at hF
    subst hF
    exact ⟨(), [(3, 5)], trivial, ⟨⟨⟨rfl, rfl, AVEq.refl _⟩, trivial⟩, ⟨⟨rfl, rfl, rfl, ⟨rfl, AVsEq.refl _⟩⟩, ⟨rfl, rfl, trivial, trivial⟩, ⟨rfl, rfl, trivial, AOEq.refl _⟩, ⟨rfl, rfl, trivial, AOEq.refl _⟩, trivial⟩, rfl⟩, rfl, fun h => (by cases h)⟩
end Go.Proofs.Ytnookbebiacaeaa
end

section
namespace Go.Proofs.Ytnookbebiacaeaa
open Go.Eng Go.RowKit
def sPut (st : St) (t : Nat) (x : ByteArray) : St × Dn :=
 match (st.fs t).find? (fun p => bytesEq p.2 x) with
 | some p => (st, (p.1, noB, 0))
 | none => (putS st t x, (st.nx t, noB, 0))
def sDrop (st : St) (t : Nat) (n : Int) : St × Dn :=
 match mget (st.fs t) n with
 | some x => (dropS st t n x, (0, noB, 0))
 | none => (st, (0, noB, 4))
def sDo (st : St) (o : Opn) : St × Dn :=
 if 0 ≤ o.t ∧ o.t < 12 then
  (if o.d = 0 then sPut st o.t.toNat o.x else if o.d = 1 then (st, getD0 (mget (st.fs o.t.toNat) o.n)) else if o.d = 2 then sDrop st o.t.toNat o.n else (st, (0, noB, 0)))
 else
  (if o.d = 0 then (st, (0, noB, 1)) else if o.d = 1 then (st, (0, noB, 4)) else if o.d = 2 then (st, (0, noB, 4)) else (st, (0, noB, 0)))
structure SOk (st : St) (m : Nat) : Prop where
 t : ∀ t, t < 12 → TOk (st.fs t) (st.nx t) m
 u : UB st.us 100000
theorem find_at {L : List (Int × ByteArray)} {p : Int × ByteArray} {x : ByteArray} (h : L.find? (fun p => bytesEq p.2 x) = some p) : ∃ i, i < L.length ∧ L.getD i dFl = p ∧ p.2 = x ∧ ∀ j, j < i → (L.getD j dFl).2 ≠ x := by
 rw [List.find?_eq_some_iff_getElem] at h
 obtain ⟨hp, i, hi, he, hj⟩ := h
 refine ⟨i, hi, by rw [gdI hi, he], bytes_eq.1 hp, fun j hji e => ?_⟩
 have := hj j hji
 rw [gdI (by omega)] at e
 rw [bytes_eq.2 e] at this
 cases this
theorem find_no {L : List (Int × ByteArray)} {x : ByteArray} (h : L.find? (fun p => bytesEq p.2 x) = none) : ∀ j, j < L.length → (L.getD j dFl).2 ≠ x := by
 intro j hj e
 rw [List.find?_eq_none] at h
 exact h _ (getD_memD dFl hj) (bytes_eq.2 e)
set_option maxRecDepth 20000 in
set_option maxHeartbeats 8000000 in
theorem do_fn (st : St) (B : Bn) (o : Opn) (m : Nat) (hS : SOk st m) (hm : m ≤ 200) (hB : BOk st B) (hx : o.x.size ≤ 200) (F : St × Dn) (hF : F = sDo st o) :
  CtrM Try.prog 57 true (storeO st B) [.p 0 0, .ag o.av] (fun B' : Bn => BOk F.1 B') (fun B' => storeO F.1 B') (fun _ => []) (fun _ => .ag (dnA F.2)) := by
 refine fn_of_execM tabOk Try.func57 (by kernel_rfl) rfl (N := Try.f57.ntmps) rfl (res := [.cell 4 73]) rfl true false (storeO st B) _ _ _ _ rfl (fun h => by cases h) [] ?_
 unfold sDo at hF
 by_cases hr : 0 ≤ o.t ∧ o.t < 12
 ·rw [if_pos hr] at hF
  obtain ⟨t, ht⟩ : ∃ t : Nat, o.t = t := ⟨o.t.toNat, by omega⟩
  have ht12 : t < 12 := by omega
  have hT := hS.t t ht12
  rw [ht, Int.toNat_natCast] at hF
  repeat refine Or.inl ?_
  refine ⟨fun h => ?_, fun h => ?_⟩
  ·have h : (o.d == 0) = true := h
   rw [beq_iff_eq] at h
   rw [if_pos h] at hF
   unfold sPut at hF
   cases hfd : (st.fs t).find? (fun p => bytesEq p.2 o.x) with
   | some p =>
    rw [hfd] at hF
    dsimp only at hF
    subst hF
    obtain ⟨i, h1, h2, h3, h4⟩ := find_at hfd
    have c := put_same st B t m o.x ht12 hm hT hx i h1 (by rw [h2]; exact h3) h4
    rw [← ht, h2] at c
    refine Or.inr (Or.inr ?_)
    refine ⟨true, [0, 1, 2, 3, 4, 5, 6, 7, 8, 9, 10, 11, 12, 13], rfl, Unit, _, _, _, _, c, fun y hy => ?_⟩
    repeat refine Or.inl ?_
    exact ⟨B, [], hB, ⟨⟨⟨rfl, rfl, AVEq.refl _⟩, trivial⟩, ⟨⟨rfl, rfl, rfl, ⟨rfl, AVsEq.refl _⟩⟩, ⟨rfl, rfl, trivial, AOEq.refl _⟩, ⟨rfl, rfl, trivial, AOEq.refl _⟩, ⟨rfl, rfl, trivial, AOEq.refl _⟩, ⟨rfl, rfl, trivial, AOEq.refl _⟩, ⟨rfl, rfl, trivial, AOEq.refl _⟩, ⟨rfl, rfl, trivial, AOEq.refl _⟩, ⟨rfl, rfl, trivial, AOEq.refl _⟩, ⟨rfl, rfl, trivial, AOEq.refl _⟩, ⟨rfl, rfl, trivial, AOEq.refl _⟩, ⟨rfl, rfl, trivial, AOEq.refl _⟩, ⟨rfl, rfl, trivial, AOEq.refl _⟩, ⟨rfl, rfl, trivial, AOEq.refl _⟩, ⟨rfl, rfl, trivial, AOEq.refl _⟩, trivial⟩, rfl⟩, rfl, fun h => by cases h⟩
   | none =>
    rw [hfd] at hF
    dsimp only at hF
    subst hF
    have c := put_new st B t m o.x ht12 hm hT hx hB hS.u (find_no hfd)
    rw [← ht] at c
    refine Or.inr (Or.inr ?_)
    refine ⟨true, [0, 1, 2, 3, 4, 5, 6, 7, 8, 9, 10, 11, 12, 13], rfl, Bn, _, _, _, _, c, fun y hy => ?_⟩
    repeat refine Or.inl ?_
    exact ⟨y, [], hy, ⟨⟨⟨rfl, rfl, AVEq.refl _⟩, trivial⟩, ⟨⟨rfl, rfl, rfl, ⟨rfl, AVsEq.refl _⟩⟩, ⟨rfl, rfl, trivial, AOEq.refl _⟩, ⟨rfl, rfl, trivial, AOEq.refl _⟩, ⟨rfl, rfl, trivial, AOEq.refl _⟩, ⟨rfl, rfl, trivial, AOEq.refl _⟩, ⟨rfl, rfl, trivial, AOEq.refl _⟩, ⟨rfl, rfl, trivial, AOEq.refl _⟩, ⟨rfl, rfl, trivial, AOEq.refl _⟩, ⟨rfl, rfl, trivial, AOEq.refl _⟩, ⟨rfl, rfl, trivial, AOEq.refl _⟩, ⟨rfl, rfl, trivial, AOEq.refl _⟩, ⟨rfl, rfl, trivial, AOEq.refl _⟩, ⟨rfl, rfl, trivial, AOEq.refl _⟩, ⟨rfl, rfl, trivial, AOEq.refl _⟩, trivial⟩, rfl⟩, rfl, fun h => by cases h⟩
  ·have h : (o.d == 0) = false := h
   rw [beq_eq_false_iff_ne] at h
   rw [if_neg h] at hF
   repeat refine Or.inl ?_
   refine ⟨fun h2 => ?_, fun h2 => ?_⟩
   ·have h2 : (o.d == 1) = true := h2
    rw [beq_iff_eq] at h2
    rw [if_pos h2] at hF
    have c := get_fn st B t o.n ht12 (fun p hp => Nat.le_trans (hT.sz p hp) (by decide))
    rw [← ht] at c
    refine Or.inr (Or.inr ?_)
    refine ⟨true, [0, 1, 2, 3, 4, 5, 6, 7, 8, 9, 10, 11, 12, 13], rfl, Unit, _, _, _, _, c, fun y hy => ?_⟩
    clear hy
    subst hF
    cases hg : mget (st.fs t) o.n with
    | none =>
     repeat refine Or.inl ?_
     exact ⟨B, [], hB, ⟨⟨⟨rfl, rfl, AVEq.refl _⟩, trivial⟩, ⟨⟨rfl, rfl, rfl, ⟨rfl, AVsEq.refl _⟩⟩, ⟨rfl, rfl, trivial, AOEq.refl _⟩, ⟨rfl, rfl, trivial, AOEq.refl _⟩, ⟨rfl, rfl, trivial, AOEq.refl _⟩, ⟨rfl, rfl, trivial, AOEq.refl _⟩, ⟨rfl, rfl, trivial, AOEq.refl _⟩, ⟨rfl, rfl, trivial, AOEq.refl _⟩, ⟨rfl, rfl, trivial, AOEq.refl _⟩, ⟨rfl, rfl, trivial, AOEq.refl _⟩, ⟨rfl, rfl, trivial, AOEq.refl _⟩, ⟨rfl, rfl, trivial, AOEq.refl _⟩, ⟨rfl, rfl, trivial, AOEq.refl _⟩, ⟨rfl, rfl, trivial, AOEq.refl _⟩, ⟨rfl, rfl, trivial, AOEq.refl _⟩, trivial⟩, rfl⟩, rfl, fun h => by cases h⟩
    | some z =>
     repeat refine Or.inl ?_
     exact ⟨B, [], hB, ⟨⟨⟨rfl, rfl, AVEq.refl _⟩, trivial⟩, ⟨⟨rfl, rfl, rfl, ⟨rfl, AVsEq.refl _⟩⟩, ⟨rfl, rfl, trivial, AOEq.refl _⟩, ⟨rfl, rfl, trivial, AOEq.refl _⟩, ⟨rfl, rfl, trivial, AOEq.refl _⟩, ⟨rfl, rfl, trivial, AOEq.refl _⟩, ⟨rfl, rfl, trivial, AOEq.refl _⟩, ⟨rfl, rfl, trivial, AOEq.refl _⟩, ⟨rfl, rfl, trivial, AOEq.refl _⟩, ⟨rfl, rfl, trivial, AOEq.refl _⟩, ⟨rfl, rfl, trivial, AOEq.refl _⟩, ⟨rfl, rfl, trivial, AOEq.refl _⟩, ⟨rfl, rfl, trivial, AOEq.refl _⟩, ⟨rfl, rfl, trivial, AOEq.refl _⟩, ⟨rfl, rfl, trivial, AOEq.refl _⟩, trivial⟩, rfl⟩, rfl, fun h => by cases h⟩
   ·have h2 : (o.d == 1) = false := h2
    rw [beq_eq_false_iff_ne] at h2
    rw [if_neg h2] at hF
    repeat refine Or.inl ?_
    refine ⟨fun h3 => ?_, fun h3 => ?_⟩
    ·have h3 : (o.d == 2) = true := h3
     rw [beq_iff_eq] at h3
     rw [if_pos h3] at hF
     unfold sDrop at hF
     cases hg : mget (st.fs t) o.n with
     | none =>
      rw [hg] at hF
      dsimp only at hF
      subst hF
      have c := drop_no st B t o.n ht12 hg
      rw [← ht] at c
      refine Or.inr (Or.inr ?_)
      refine ⟨true, [0, 1, 2, 3, 4, 5, 6, 7, 8, 9, 10, 11, 12, 13], rfl, Unit, _, _, _, _, c, fun y hy => ?_⟩
      repeat refine Or.inl ?_
      exact ⟨B, [], hB, ⟨⟨⟨rfl, rfl, AVEq.refl _⟩, trivial⟩, ⟨⟨rfl, rfl, rfl, ⟨rfl, AVsEq.refl _⟩⟩, ⟨rfl, rfl, trivial, AOEq.refl _⟩, ⟨rfl, rfl, trivial, AOEq.refl _⟩, ⟨rfl, rfl, trivial, AOEq.refl _⟩, ⟨rfl, rfl, trivial, AOEq.refl _⟩, ⟨rfl, rfl, trivial, AOEq.refl _⟩, ⟨rfl, rfl, trivial, AOEq.refl _⟩, ⟨rfl, rfl, trivial, AOEq.refl _⟩, ⟨rfl, rfl, trivial, AOEq.refl _⟩, ⟨rfl, rfl, trivial, AOEq.refl _⟩, ⟨rfl, rfl, trivial, AOEq.refl _⟩, ⟨rfl, rfl, trivial, AOEq.refl _⟩, ⟨rfl, rfl, trivial, AOEq.refl _⟩, ⟨rfl, rfl, trivial, AOEq.refl _⟩, trivial⟩, rfl⟩, rfl, fun h => by cases h⟩
     | some z =>
      rw [hg] at hF
      dsimp only at hF
      subst hF
      have hz : z.size ≤ 200 := by
       obtain ⟨i, g1, g2, g3⟩ := mget_some hg dFl
       rw [← g3]
       exact hT.sz _ (getD_memD dFl g1)
      have c := drop_fn st B t o.n z ht12 hg (Nat.le_trans hz (by decide)) hB hS.u
      rw [← ht] at c
      refine Or.inr (Or.inr ?_)
      refine ⟨true, [0, 1, 2, 3, 4, 5, 6, 7, 8, 9, 10, 11, 12, 13], rfl, Bn, _, _, _, _, c, fun y hy => ?_⟩
      repeat refine Or.inl ?_
      exact ⟨y, [], hy, ⟨⟨⟨rfl, rfl, AVEq.refl _⟩, trivial⟩, ⟨⟨rfl, rfl, rfl, ⟨rfl, AVsEq.refl _⟩⟩, ⟨rfl, rfl, trivial, AOEq.refl _⟩, ⟨rfl, rfl, trivial, AOEq.refl _⟩, ⟨rfl, rfl, trivial, AOEq.refl _⟩, ⟨rfl, rfl, trivial, AOEq.refl _⟩, ⟨rfl, rfl, trivial, AOEq.refl _⟩, ⟨rfl, rfl, trivial, AOEq.refl _⟩, ⟨rfl, rfl, trivial, AOEq.refl _⟩, ⟨rfl, rfl, trivial, AOEq.refl _⟩, ⟨rfl, rfl, trivial, AOEq.refl _⟩, ⟨rfl, rfl, trivial, AOEq.refl _⟩, ⟨rfl, rfl, trivial, AOEq.refl _⟩, ⟨rfl, rfl, trivial, AOEq.refl _⟩, ⟨rfl, rfl, trivial, AOEq.refl _⟩, trivial⟩, rfl⟩, rfl, fun h => by cases h⟩
    ·have h3 : (o.d == 2) = false := h3
     rw [beq_eq_false_iff_ne] at h3
     rw [if_neg h3] at hF
     subst hF
     exact ⟨B, [], hB, ⟨⟨⟨rfl, rfl, AVEq.refl _⟩, trivial⟩, ⟨⟨rfl, rfl, rfl, ⟨rfl, AVsEq.refl _⟩⟩, ⟨rfl, rfl, trivial, AOEq.refl _⟩, ⟨rfl, rfl, trivial, AOEq.refl _⟩, ⟨rfl, rfl, trivial, AOEq.refl _⟩, ⟨rfl, rfl, trivial, AOEq.refl _⟩, ⟨rfl, rfl, trivial, AOEq.refl _⟩, ⟨rfl, rfl, trivial, AOEq.refl _⟩, ⟨rfl, rfl, trivial, AOEq.refl _⟩, ⟨rfl, rfl, trivial, AOEq.refl _⟩, ⟨rfl, rfl, trivial, AOEq.refl _⟩, ⟨rfl, rfl, trivial, AOEq.refl _⟩, ⟨rfl, rfl, trivial, AOEq.refl _⟩, ⟨rfl, rfl, trivial, AOEq.refl _⟩, ⟨rfl, rfl, trivial, AOEq.refl _⟩, trivial⟩, rfl⟩, rfl, fun h => by cases h⟩
 ·rw [if_neg hr] at hF
  repeat refine Or.inl ?_
  refine ⟨fun h => ?_, fun h => ?_⟩
  ·have h : (o.d == 0) = true := h
   rw [beq_iff_eq] at h
   rw [if_pos h] at hF
   subst hF
   refine Or.inr (Or.inr ?_)
   refine ⟨true, [0, 1, 2, 3, 4, 5, 6, 7, 8, 9, 10, 11, 12, 13], rfl, Unit, _, _, _, _, put_none st B o.t o.x hr, fun y hy => ?_⟩
   repeat refine Or.inl ?_
   exact ⟨B, [], hB, ⟨⟨⟨rfl, rfl, AVEq.refl _⟩, trivial⟩, ⟨⟨rfl, rfl, rfl, ⟨rfl, AVsEq.refl _⟩⟩, ⟨rfl, rfl, trivial, AOEq.refl _⟩, ⟨rfl, rfl, trivial, AOEq.refl _⟩, ⟨rfl, rfl, trivial, AOEq.refl _⟩, ⟨rfl, rfl, trivial, AOEq.refl _⟩, ⟨rfl, rfl, trivial, AOEq.refl _⟩, ⟨rfl, rfl, trivial, AOEq.refl _⟩, ⟨rfl, rfl, trivial, AOEq.refl _⟩, ⟨rfl, rfl, trivial, AOEq.refl _⟩, ⟨rfl, rfl, trivial, AOEq.refl _⟩, ⟨rfl, rfl, trivial, AOEq.refl _⟩, ⟨rfl, rfl, trivial, AOEq.refl _⟩, ⟨rfl, rfl, trivial, AOEq.refl _⟩, ⟨rfl, rfl, trivial, AOEq.refl _⟩, trivial⟩, rfl⟩, rfl, fun h => by cases h⟩
  ·have h : (o.d == 0) = false := h
   rw [beq_eq_false_iff_ne] at h
   rw [if_neg h] at hF
   repeat refine Or.inl ?_
   refine ⟨fun h2 => ?_, fun h2 => ?_⟩
   ·have h2 : (o.d == 1) = true := h2
    rw [beq_iff_eq] at h2
    rw [if_pos h2] at hF
    subst hF
    refine Or.inr (Or.inr ?_)
    refine ⟨true, [0, 1, 2, 3, 4, 5, 6, 7, 8, 9, 10, 11, 12, 13], rfl, Unit, _, _, _, _, get_none st B o.t o.n hr, fun y hy => ?_⟩
    repeat refine Or.inl ?_
    exact ⟨B, [], hB, ⟨⟨⟨rfl, rfl, AVEq.refl _⟩, trivial⟩, ⟨⟨rfl, rfl, rfl, ⟨rfl, AVsEq.refl _⟩⟩, ⟨rfl, rfl, trivial, AOEq.refl _⟩, ⟨rfl, rfl, trivial, AOEq.refl _⟩, ⟨rfl, rfl, trivial, AOEq.refl _⟩, ⟨rfl, rfl, trivial, AOEq.refl _⟩, ⟨rfl, rfl, trivial, AOEq.refl _⟩, ⟨rfl, rfl, trivial, AOEq.refl _⟩, ⟨rfl, rfl, trivial, AOEq.refl _⟩, ⟨rfl, rfl, trivial, AOEq.refl _⟩, ⟨rfl, rfl, trivial, AOEq.refl _⟩, ⟨rfl, rfl, trivial, AOEq.refl _⟩, ⟨rfl, rfl, trivial, AOEq.refl _⟩, ⟨rfl, rfl, trivial, AOEq.refl _⟩, ⟨rfl, rfl, trivial, AOEq.refl _⟩, trivial⟩, rfl⟩, rfl, fun h => by cases h⟩
   ·have h2 : (o.d == 1) = false := h2
    rw [beq_eq_false_iff_ne] at h2
    rw [if_neg h2] at hF
    repeat refine Or.inl ?_
    refine ⟨fun h3 => ?_, fun h3 => ?_⟩
    ·have h3 : (o.d == 2) = true := h3
     rw [beq_iff_eq] at h3
     rw [if_pos h3] at hF
     subst hF
     refine Or.inr (Or.inr ?_)
     refine ⟨true, [0, 1, 2, 3, 4, 5, 6, 7, 8, 9, 10, 11, 12, 13], rfl, Unit, _, _, _, _, drop_none st B o.t o.n hr, fun y hy => ?_⟩
     repeat refine Or.inl ?_
     exact ⟨B, [], hB, ⟨⟨⟨rfl, rfl, AVEq.refl _⟩, trivial⟩, ⟨⟨rfl, rfl, rfl, ⟨rfl, AVsEq.refl _⟩⟩, ⟨rfl, rfl, trivial, AOEq.refl _⟩, ⟨rfl, rfl, trivial, AOEq.refl _⟩, ⟨rfl, rfl, trivial, AOEq.refl _⟩, ⟨rfl, rfl, trivial, AOEq.refl _⟩, ⟨rfl, rfl, trivial, AOEq.refl _⟩, ⟨rfl, rfl, trivial, AOEq.refl _⟩, ⟨rfl, rfl, trivial, AOEq.refl _⟩, ⟨rfl, rfl, trivial, AOEq.refl _⟩, ⟨rfl, rfl, trivial, AOEq.refl _⟩, ⟨rfl, rfl, trivial, AOEq.refl _⟩, ⟨rfl, rfl, trivial, AOEq.refl _⟩, ⟨rfl, rfl, trivial, AOEq.refl _⟩, ⟨rfl, rfl, trivial, AOEq.refl _⟩, trivial⟩, rfl⟩, rfl, fun h => by cases h⟩
    ·have h3 : (o.d == 2) = false := h3
     rw [beq_eq_false_iff_ne] at h3
     rw [if_neg h3] at hF
     subst hF
     exact ⟨B, [], hB, ⟨⟨⟨rfl, rfl, AVEq.refl _⟩, trivial⟩, ⟨⟨rfl, rfl, rfl, ⟨rfl, AVsEq.refl _⟩⟩, ⟨rfl, rfl, trivial, AOEq.refl _⟩, ⟨rfl, rfl, trivial, AOEq.refl _⟩, ⟨rfl, rfl, trivial, AOEq.refl _⟩, ⟨rfl, rfl, trivial, AOEq.refl _⟩, ⟨rfl, rfl, trivial, AOEq.refl _⟩, ⟨rfl, rfl, trivial, AOEq.refl _⟩, ⟨rfl, rfl, trivial, AOEq.refl _⟩, ⟨rfl, rfl, trivial, AOEq.refl _⟩, ⟨rfl, rfl, trivial, AOEq.refl _⟩, ⟨rfl, rfl, trivial, AOEq.refl _⟩, ⟨rfl, rfl, trivial, AOEq.refl _⟩, ⟨rfl, rfl, trivial, AOEq.refl _⟩, ⟨rfl, rfl, trivial, AOEq.refl _⟩, trivial⟩, rfl⟩, rfl, fun h => by cases h⟩
end Go.Proofs.Ytnookbebiacaeaa
end

section
namespace Go.Proofs.Ytnookbebiacaeaa
open Go.Eng
def GoodU (us : List (Chk × Int)) : Prop := (mkeys us).Nodup ∧ ∀ c v, mget us c = some v → 0 < v
theorem good_nil : GoodU [] := ⟨by simp [mkeys], fun c v h => by cases h⟩
theorem cnt_some {us : List (Chk × Int)} {c : Chk} {v : Int} (h : mget us c = some v) : cntU us c = v := by unfold cntU; rw [h]; rfl
theorem cnt_nn {us : List (Chk × Int)} (h : GoodU us) (c : Chk) : 0 ≤ cntU us c := by
 unfold cntU
 cases hm : mget us c with
 | none => exact Int.le_refl 0
 | some v => exact Int.le_of_lt (h.2 c v hm)
theorem good_inc {us : List (Chk × Int)} (h : GoodU us) (c : Chk) : GoodU (incU us c) := by
 refine ⟨nodup_incU h.1 c, fun d v hd => ?_⟩
 unfold incU at hd
 rw [mget_mset] at hd
 split at hd
 ·have := cnt_nn h c
  have := Option.some.inj hd
  omega
 ·exact h.2 d v hd
theorem good_dec {us : List (Chk × Int)} (h : GoodU us) {c : Chk} (hc : 0 < cntU us c) : GoodU (decU us c) := by
 refine ⟨nodup_decU h.1 c, fun d v hd => ?_⟩
 unfold decU at hd
 by_cases h0 : cntU us c - 1 = 0
 ·rw [if_pos h0, mget_mdel (nodup_mset h.1 _ _)] at hd
  split at hd
  ·cases hd
  ·rename_i hne
   rw [mget_mset, if_neg hne] at hd
   exact h.2 d v hd
 ·rw [if_neg h0, mget_mset] at hd
  split at hd
  ·have := Option.some.inj hd
   omega
  ·exact h.2 d v hd
def ckn : List Chk → Chk → Nat
 | [], _ => 0
 | d :: r, c => (if c = d then 1 else 0) + ckn r c
theorem ckn_cons (d : Chk) (r : List Chk) (c : Chk) : ckn (d :: r) c = (if c = d then 1 else 0) + ckn r c := rfl
theorem ckn_app : ∀ (l m : List Chk) (c : Chk), ckn (l ++ m) c = ckn l c + ckn m c
 | [], m, c => by simp [ckn]
 | d :: r, m, c => by
  rw [List.cons_append, ckn_cons, ckn_cons, ckn_app r m c]
  omega
theorem ckn_pos : ∀ {l : List Chk} {c : Chk}, 0 < ckn l c ↔ c ∈ l
 | [], c => by simp [ckn]
 | d :: r, c => by
  rw [ckn_cons, List.mem_cons, ← ckn_pos (l := r)]
  by_cases h : c = d
  ·rw [if_pos h]
   simp [h]
   omega
  ·rw [if_neg h]
   simp [h]
theorem incs_good : ∀ {l : List Chk} {us : List (Chk × Int)}, GoodU us → GoodU (incs us l) ∧ ∀ c, cntU (incs us l) c = cntU us c + (ckn l c : Nat)
 | [], us, h => ⟨h, fun c => by show cntU us c = _; simp [ckn]⟩
 | a :: r, us, h => by
  obtain ⟨h1, h2⟩ := incs_good (l := r) (good_inc h a)
  refine ⟨h1, fun c => ?_⟩
  have e : incs us (a :: r) = incs (incU us a) r := rfl
  rw [e, h2 c, cnt_incU, ckn_cons]
  by_cases hc : c = a
  ·rw [if_pos hc, if_pos hc]
   omega
  ·rw [if_neg hc, if_neg hc]
   omega
theorem decs_good : ∀ {l : List Chk} {us : List (Chk × Int)}, GoodU us → (∀ c, ((ckn l c : Nat) : Int) ≤ cntU us c) → GoodU (decs us l) ∧ ∀ c, cntU (decs us l) c = cntU us c - (ckn l c : Nat)
 | [], us, h, _ => ⟨h, fun c => by show cntU us c = _; simp [ckn]⟩
 | a :: r, us, h, hc => by
  have ha : 0 < cntU us a := by
   have := hc a
   rw [ckn_cons] at this
   rw [if_pos rfl] at this
   omega
  obtain ⟨h1, h2⟩ := decs_good (l := r) (good_dec h ha) (fun c => by
   have := hc c
   rw [ckn_cons] at this
   rw [cnt_decU h.1]
   by_cases hca : c = a
   ·rw [if_pos hca] at this ⊢
    omega
   ·rw [if_neg hca] at this ⊢
    omega)
  refine ⟨h1, fun c => ?_⟩
  have e : decs us (a :: r) = decs (decU us a) r := rfl
  rw [e, h2 c, cnt_decU h.1, ckn_cons]
  by_cases hca : c = a
  ·rw [if_pos hca, if_pos hca]
   omega
  ·rw [if_neg hca, if_neg hca]
   omega
theorem mem_addP {acc : List ByteArray} {p q : ByteArray} : q ∈ addP acc p ↔ q ∈ acc ∨ q = p := by
 unfold addP
 split
 ·rename_i h
  rw [hasS_iff] at h
  constructor
  ·exact .inl
  ·rintro (h1 | rfl)
   ·exact h1
   ·exact h
 ·simp
theorem nodup_addP {acc : List ByteArray} (h : acc.Nodup) (p : ByteArray) : (addP acc p).Nodup := by
 unfold addP
 split
 ·exact h
 ·rename_i hn
  rw [List.nodup_append]
  refine ⟨h, by simp, fun a ha b hb e => hn ?_⟩
  rw [hasS_iff]
  rw [List.mem_singleton.1 hb] at e
  rw [← e]
  exact ha
theorem foldP_spec : ∀ (l acc : List ByteArray), acc.Nodup → (l.foldl addP acc).Nodup ∧ ∀ q, q ∈ l.foldl addP acc ↔ q ∈ acc ∨ q ∈ l
 | [], acc, h => ⟨h, by simp⟩
 | p :: r, acc, h => by
  obtain ⟨h1, h2⟩ := foldP_spec r (addP acc p) (nodup_addP h p)
  refine ⟨h1, fun q => ?_⟩
  rw [List.foldl_cons, h2 q, mem_addP, List.mem_cons, or_assoc]
theorem kept_aux : ∀ (ts acc : List ByteArray), acc.Nodup → (ts.foldl (fun acc x => (rDv x).foldl addP acc) acc).Nodup ∧ ∀ q, q ∈ ts.foldl (fun acc x => (rDv x).foldl addP acc) acc ↔ q ∈ acc ∨ ∃ x ∈ ts, q ∈ rDv x
 | [], acc, h => ⟨h, by simp⟩
 | x :: r, acc, h => by
  obtain ⟨g1, g2⟩ := foldP_spec (rDv x) acc h
  obtain ⟨h1, h2⟩ := kept_aux r _ g1
  refine ⟨h1, fun q => ?_⟩
  rw [List.foldl_cons, h2 q, g2 q]
  simp only [List.mem_cons, exists_eq_or_imp, or_assoc]
theorem kept_spec (ts : List ByteArray) : (keptL ts).Nodup ∧ ∀ q, q ∈ keptL ts ↔ ∃ x ∈ ts, q ∈ rDv x := by
 obtain ⟨h1, h2⟩ := kept_aux ts [] (by simp)
 exact ⟨h1, fun q => by rw [show keptL ts = ts.foldl (fun acc x => (rDv x).foldl addP acc) [] from rfl, h2 q]; simp⟩
def allC (ts : List ByteArray) : List Chk := ts.flatMap divL
theorem uses_len {us : List (Chk × Int)} {ts : List ByteArray} (h : GoodU us) (hc : ∀ c, cntU us c = (ckn (allC ts) c : Nat)) : us.length = (keptL ts).length := by
 have hk := kept_spec ts
 have hmem : ∀ c, c ∈ mkeys us ↔ c ∈ allC ts := by
  intro c
  rw [mem_mkeys]
  have e := hc c
  constructor
  ·intro hs
   cases hm : mget us c with
   | none => rw [hm] at hs; cases hs
   | some v =>
    have := h.2 c v hm
    rw [cnt_some hm] at e
    exact ckn_pos.1 (by omega)
  ·intro hcm
   have := ckn_pos.2 hcm
   cases hm : mget us c with
   | none =>
    unfold cntU at e
    rw [hm] at e
    simp at e
    omega
   | some v => rfl
 have hperm : ((mkeys us).map fun c : Chk => c.1).Perm (keptL ts) := by
  refine (List.perm_ext_iff_of_nodup ?_ hk.1).2 fun q => ?_
  ·rw [List.Nodup, List.pairwise_map]
   exact h.1.imp fun hab e => hab (Subtype.ext e)
  ·rw [hk.2 q, List.mem_map]
   constructor
   ·rintro ⟨c, hcm, rfl⟩
    obtain ⟨x, hx, hcx⟩ := List.mem_flatMap.1 ((hmem c).1 hcm)
    exact ⟨x, hx, List.mem_map.2 ⟨c, hcx, rfl⟩⟩
   ·rintro ⟨x, hx, hq⟩
    obtain ⟨c, hcx, rfl⟩ := List.mem_map.1 hq
    exact ⟨c, (hmem c).2 (List.mem_flatMap.2 ⟨x, hx, hcx⟩), rfl⟩
 have := hperm.length_eq
 rw [List.length_map] at this
 rw [← this]
 simp [mkeys]
end Go.Proofs.Ytnookbebiacaeaa
end

section
namespace Go.Proofs.Ytnookbebiacaeaa
open Go.Eng
def vw (R : List Fl) (t : Int) : List (Int × ByteArray) := (R.filter fun f => f.1 == t).map fun f => (f.2.1, f.2.2)
theorem vw_cons (f : Fl) (r : List Fl) (t : Int) : vw (f :: r) t = (if f.1 = t then [(f.2.1, f.2.2)] else []) ++ vw r t := by
 unfold vw
 rw [List.filter_cons]
 by_cases h : f.1 = t
 ·rw [if_pos (by simpa using h), if_pos h]
  rfl
 ·rw [if_neg (by simpa using h), if_neg h]
  rfl
theorem vw_snoc (R : List Fl) (f : Fl) (t : Int) : vw (R ++ [f]) t = vw R t ++ if f.1 = t then [(f.2.1, f.2.2)] else [] := by
 induction R with
 | nil => rw [List.nil_append, vw_cons]; simp [vw]
 | cons g r ih => rw [List.cons_append, vw_cons, vw_cons, ih, List.append_assoc]
theorem vw_find (R : List Fl) (t : Int) (x : ByteArray) : (vw R t).find? (fun p => bytesEq p.2 x) = (R.find? fun f => f.1 == t && bytesEq f.2.2 x).map fun f => (f.2.1, f.2.2) := by
 induction R with
 | nil => rfl
 | cons f r ih =>
  rw [vw_cons, List.find?_append, ih, List.find?_cons]
  by_cases h : f.1 = t
  ·rw [if_pos h]
   have e : (f.1 == t) = true := by simpa using h
   cases hb : bytesEq f.2.2 x with
   | true => simp [List.find?_cons, e, hb]
   | false => simp [List.find?_cons, e, hb]
  ·rw [if_neg h]
   have e : (f.1 == t) = false := by simpa using h
   simp [e]
theorem vw_get (R : List Fl) (t n : Int) : mget (vw R t) n = rGet R t n := by
 unfold rGet
 induction R with
 | nil => rfl
 | cons f r ih =>
  rw [vw_cons, List.find?_cons]
  by_cases h : f.1 = t
  ·rw [if_pos h, List.singleton_append]
   have e : (f.1 == t) = true := by simpa using h
   simp only [mget]
   by_cases h2 : f.2.1 = n
   ·rw [if_pos h2]
    have e2 : hitF t n f = true := by simp [hitF, h, h2]
    rw [e2]
    rfl
   ·rw [if_neg h2, ih]
    have e2 : hitF t n f = false := by simp [hitF, h2]
    rw [e2]
  ·rw [if_neg h, List.nil_append, ih]
   have e2 : hitF t n f = false := by simp [hitF, h]
   rw [e2]
theorem vw_erase (t n : Int) : ∀ (R : List Fl), R.any (hitF t n) = true → ∀ s, vw (R.eraseIdx (R.findIdx (hitF t n))) s = if s = t then mdel (vw R t) n else vw R s
 | [], h, _ => by cases h
 | f :: r, h, s => by
  rw [List.findIdx_cons]
  cases hf : hitF t n f with
  | true =>
   have hft : f.1 = t ∧ f.2.1 = n := by simpa [hitF] using hf
   rw [cond_true, List.eraseIdx_zero, List.tail_cons, vw_cons f r t, if_pos hft.1, List.singleton_append]
   simp only [mdel]
   rw [if_pos hft.2]
   by_cases hs : s = t
   ·rw [if_pos hs, hs]
   ·rw [if_neg hs, vw_cons, if_neg (by rw [hft.1]; exact Ne.symm hs), List.nil_append]
  | false =>
   have hr : r.any (hitF t n) = true := by
    rw [List.any_cons, hf, Bool.false_or] at h
    exact h
   rw [cond_false, List.eraseIdx_cons_succ, vw_cons, vw_erase t n r hr s]
   by_cases hs : s = t
   ·subst hs
    rw [if_pos rfl, if_pos rfl, vw_cons]
    by_cases hfs : f.1 = s
    ·rw [if_pos hfs, List.singleton_append, List.singleton_append]
     simp only [mdel]
     rw [if_neg]
     intro e
     rw [show hitF s n f = true by simp [hitF, hfs, e]] at hf
     cases hf
    ·rw [if_neg hfs, List.nil_append, List.nil_append]
   ·rw [if_neg hs, if_neg hs, vw_cons]
theorem allC_snoc (R : List Fl) (f : Fl) : allC (rTxt (R ++ [f])) = allC (rTxt R) ++ divL f.2.2 := by
 unfold allC rTxt
 rw [List.map_append, List.flatMap_append]
 simp
theorem allC_erase : ∀ (R : List Fl) (i : Nat), i < R.length → ∀ c, ckn (allC (rTxt (R.eraseIdx i))) c + ckn (divL (R.getD i dFf).2.2) c = ckn (allC (rTxt R)) c
 | [], i, hi, _ => by simp at hi
 | f :: r, 0, _, c => by
  have e : allC (rTxt (f :: r)) = divL f.2.2 ++ allC (rTxt r) := by simp [allC, rTxt]
  rw [e, ckn_app]
  simp
  omega
 | f :: r, i + 1, hi, c => by
  have e : ∀ l, allC (rTxt (f :: l)) = divL f.2.2 ++ allC (rTxt l) := fun l => by simp [allC, rTxt]
  rw [List.eraseIdx_cons_succ, e, e, ckn_app, ckn_app]
  have := allC_erase r i (by simpa using hi) c
  rw [List.getD_cons_succ]
  omega
theorem ckn_le (l : List Chk) (c : Chk) : ckn l c ≤ l.length := by
 induction l with
 | nil => simp [ckn]
 | cons d r ih =>
  rw [ckn_cons, List.length_cons]
  split <;> omega
theorem allC_len {ts : List ByteArray} (h : ∀ x ∈ ts, x.size ≤ 200) : (allC ts).length ≤ 200 * ts.length := by
 induction ts with
 | nil => simp [allC]
 | cons x r ih =>
  have e : allC (x :: r) = divL x ++ allC r := by simp [allC]
  have h1 := div_len x
  have h2 := h x (by simp)
  have h3 := ih fun y hy => h y (by simp [hy])
  rw [e, List.length_append, List.length_cons, Nat.mul_succ]
  omega
end Go.Proofs.Ytnookbebiacaeaa
end

section
namespace Go.Proofs.Ytnookbebiacaeaa
open Go.Eng Go.RowKit
def st0 : St := ⟨fun _ => [], fun _ => 0, []⟩
def b0 : Bn := ⟨fun _ => 0, 0, fun _ _ => 0, fun _ => 0⟩
theorem b0_ok : BOk st0 b0 := fun t _ => ⟨fun i hi => absurd hi (Nat.not_lt_zero i), fun i j hi => absurd hi (Nat.not_lt_zero i)⟩
def newC : Nat → List AV
 | 0 => [.mo 0, .val (.map none), .i .i64 0, .val (.map none), .i .i64 0, .val (.map none), .i .i64 0, .val (.map none), .i .i64 0, .val (.map none), .i .i64 0, .val (.map none), .i .i64 0, .val (.map none), .i .i64 0, .val (.map none), .i .i64 0, .val (.map none), .i .i64 0, .val (.map none), .i .i64 0, .val (.map none), .i .i64 0, .val (.map none), .i .i64 0]
 | 1 => [.mo 0, .mo 2, .i .i64 0, .val (.map none), .i .i64 0, .val (.map none), .i .i64 0, .val (.map none), .i .i64 0, .val (.map none), .i .i64 0, .val (.map none), .i .i64 0, .val (.map none), .i .i64 0, .val (.map none), .i .i64 0, .val (.map none), .i .i64 0, .val (.map none), .i .i64 0, .val (.map none), .i .i64 0, .val (.map none), .i .i64 0]
 | 2 => [.mo 0, .mo 2, .i .i64 0, .mo 3, .i .i64 0, .val (.map none), .i .i64 0, .val (.map none), .i .i64 0, .val (.map none), .i .i64 0, .val (.map none), .i .i64 0, .val (.map none), .i .i64 0, .val (.map none), .i .i64 0, .val (.map none), .i .i64 0, .val (.map none), .i .i64 0, .val (.map none), .i .i64 0, .val (.map none), .i .i64 0]
 | 3 => [.mo 0, .mo 2, .i .i64 0, .mo 3, .i .i64 0, .mo 4, .i .i64 0, .val (.map none), .i .i64 0, .val (.map none), .i .i64 0, .val (.map none), .i .i64 0, .val (.map none), .i .i64 0, .val (.map none), .i .i64 0, .val (.map none), .i .i64 0, .val (.map none), .i .i64 0, .val (.map none), .i .i64 0, .val (.map none), .i .i64 0]
 | 4 => [.mo 0, .mo 2, .i .i64 0, .mo 3, .i .i64 0, .mo 4, .i .i64 0, .mo 5, .i .i64 0, .val (.map none), .i .i64 0, .val (.map none), .i .i64 0, .val (.map none), .i .i64 0, .val (.map none), .i .i64 0, .val (.map none), .i .i64 0, .val (.map none), .i .i64 0, .val (.map none), .i .i64 0, .val (.map none), .i .i64 0]
 | 5 => [.mo 0, .mo 2, .i .i64 0, .mo 3, .i .i64 0, .mo 4, .i .i64 0, .mo 5, .i .i64 0, .mo 6, .i .i64 0, .val (.map none), .i .i64 0, .val (.map none), .i .i64 0, .val (.map none), .i .i64 0, .val (.map none), .i .i64 0, .val (.map none), .i .i64 0, .val (.map none), .i .i64 0, .val (.map none), .i .i64 0]
 | 6 => [.mo 0, .mo 2, .i .i64 0, .mo 3, .i .i64 0, .mo 4, .i .i64 0, .mo 5, .i .i64 0, .mo 6, .i .i64 0, .mo 7, .i .i64 0, .val (.map none), .i .i64 0, .val (.map none), .i .i64 0, .val (.map none), .i .i64 0, .val (.map none), .i .i64 0, .val (.map none), .i .i64 0, .val (.map none), .i .i64 0]
 | 7 => [.mo 0, .mo 2, .i .i64 0, .mo 3, .i .i64 0, .mo 4, .i .i64 0, .mo 5, .i .i64 0, .mo 6, .i .i64 0, .mo 7, .i .i64 0, .mo 8, .i .i64 0, .val (.map none), .i .i64 0, .val (.map none), .i .i64 0, .val (.map none), .i .i64 0, .val (.map none), .i .i64 0, .val (.map none), .i .i64 0]
 | 8 => [.mo 0, .mo 2, .i .i64 0, .mo 3, .i .i64 0, .mo 4, .i .i64 0, .mo 5, .i .i64 0, .mo 6, .i .i64 0, .mo 7, .i .i64 0, .mo 8, .i .i64 0, .mo 9, .i .i64 0, .val (.map none), .i .i64 0, .val (.map none), .i .i64 0, .val (.map none), .i .i64 0, .val (.map none), .i .i64 0]
 | 9 => [.mo 0, .mo 2, .i .i64 0, .mo 3, .i .i64 0, .mo 4, .i .i64 0, .mo 5, .i .i64 0, .mo 6, .i .i64 0, .mo 7, .i .i64 0, .mo 8, .i .i64 0, .mo 9, .i .i64 0, .mo 10, .i .i64 0, .val (.map none), .i .i64 0, .val (.map none), .i .i64 0, .val (.map none), .i .i64 0]
 | 10 => [.mo 0, .mo 2, .i .i64 0, .mo 3, .i .i64 0, .mo 4, .i .i64 0, .mo 5, .i .i64 0, .mo 6, .i .i64 0, .mo 7, .i .i64 0, .mo 8, .i .i64 0, .mo 9, .i .i64 0, .mo 10, .i .i64 0, .mo 11, .i .i64 0, .val (.map none), .i .i64 0, .val (.map none), .i .i64 0]
 | 11 => [.mo 0, .mo 2, .i .i64 0, .mo 3, .i .i64 0, .mo 4, .i .i64 0, .mo 5, .i .i64 0, .mo 6, .i .i64 0, .mo 7, .i .i64 0, .mo 8, .i .i64 0, .mo 9, .i .i64 0, .mo 10, .i .i64 0, .mo 11, .i .i64 0, .mo 12, .i .i64 0, .val (.map none), .i .i64 0]
 | _ => [.mo 0, .mo 2, .i .i64 0, .mo 3, .i .i64 0, .mo 4, .i .i64 0, .mo 5, .i .i64 0, .mo 6, .i .i64 0, .mo 7, .i .i64 0, .mo 8, .i .i64 0, .mo 9, .i .i64 0, .mo 10, .i .i64 0, .mo 11, .i .i64 0, .mo 12, .i .i64 0, .mo 13, .i .i64 0]
def newM (k j : Nat) : AO := match Nat.blt j k with
 | true => .mp 0 (fun _ => .u) (fun _ => .u) (fun _ => 0) 0
 | false => .dead
def newO (k : Nat) : List OE := [⟨1, [], .cells 151 (newC k)⟩, ⟨2, [], newM k 0⟩, ⟨3, [], newM k 1⟩, ⟨4, [], newM k 2⟩, ⟨5, [], newM k 3⟩, ⟨6, [], newM k 4⟩, ⟨7, [], newM k 5⟩, ⟨8, [], newM k 6⟩, ⟨9, [], newM k 7⟩, ⟨10, [], newM k 8⟩, ⟨11, [], newM k 9⟩, ⟨12, [], newM k 10⟩, ⟨13, [], newM k 11⟩]
theorem cases13 {t : Nat} (h : t ≤ 12) : t = 0 ∨ t = 1 ∨ t = 2 ∨ t = 3 ∨ t = 4 ∨ t = 5 ∨ t = 6 ∨ t = 7 ∨ t = 8 ∨ t = 9 ∨ t = 10 ∨ t = 11 ∨ t = 12 := by omega
set_option maxRecDepth 20000 in
set_option maxHeartbeats 8000000 in
theorem new55_fn : CtrM Try.prog 55 true [] [] (fun _ : Unit => True) (fun _ => []) (fun _ => storeO st0 b0) (fun _ => .p 0 0) := by
 refine fn_of_execM tabOk Try.func55 (by kernel_rfl) rfl (N := Try.f55.ntmps) rfl (res := [.tmp 0]) rfl true false [] _ _ _ _ rfl (fun h => by cases h) [(1000001, [.nw, .nw, .nw, .nw, .nw, .nw, .nw, .nw, .nw, .nw, .nw, .nw])] ?_
 repeat refine Or.inl ?_
 refine ⟨[], Nat, fun k => k ≤ 12, fun k => [⟨6, [], .i .i64 k⟩], newO, fun k => 12 - k,
  ⟨0, [], Nat.zero_le _, rfl, rfl, rfl, rfl, rfl, ⟨rfl, rfl⟩, ?_⟩, ?_⟩
 ·exact ⟨⟨rfl, AVsEq.refl _⟩, trivial, trivial, trivial, trivial, trivial, trivial, trivial, trivial, trivial, trivial, trivial, trivial⟩
 intro k hk
 have hk : k ≤ 12 := hk
 rcases cases13 hk with rfl | rfl | rfl | rfl | rfl | rfl | rfl | rfl | rfl | rfl | rfl | rfl | rfl
 ·refine .inl ⟨fun _ => ?_, fun hc => (by cases hc)⟩
  repeat refine Or.inl ?_
  refine ⟨⟨by decide, by decide⟩, ?_⟩
  refine ⟨1, [(2, 14)], (by decide), (by decide), rfl, rfl, rfl, rfl, rfl, ⟨rfl, rfl⟩, ⟨⟨rfl, AVsEq.refl _⟩, ⟨rfl, rfl, fun i hi => absurd hi (Nat.not_lt_zero i)⟩, trivial, trivial, trivial, trivial, trivial, trivial, trivial, trivial, trivial, trivial, trivial⟩⟩
 ·refine .inl ⟨fun _ => ?_, fun hc => (by cases hc)⟩
  repeat refine Or.inl ?_
  refine ⟨⟨by decide, by decide⟩, ?_⟩
  refine ⟨2, [(3, 14)], (by decide), (by decide), rfl, rfl, rfl, rfl, rfl, ⟨rfl, rfl⟩, ⟨⟨rfl, AVsEq.refl _⟩, ⟨rfl, rfl, fun i hi => absurd hi (Nat.not_lt_zero i)⟩, ⟨rfl, rfl, fun i hi => absurd hi (Nat.not_lt_zero i)⟩, trivial, trivial, trivial, trivial, trivial, trivial, trivial, trivial, trivial, trivial⟩⟩
 ·refine .inl ⟨fun _ => ?_, fun hc => (by cases hc)⟩
  repeat refine Or.inl ?_
  refine ⟨⟨by decide, by decide⟩, ?_⟩
  refine ⟨3, [(4, 14)], (by decide), (by decide), rfl, rfl, rfl, rfl, rfl, ⟨rfl, rfl⟩, ⟨⟨rfl, AVsEq.refl _⟩, ⟨rfl, rfl, fun i hi => absurd hi (Nat.not_lt_zero i)⟩, ⟨rfl, rfl, fun i hi => absurd hi (Nat.not_lt_zero i)⟩, ⟨rfl, rfl, fun i hi => absurd hi (Nat.not_lt_zero i)⟩, trivial, trivial, trivial, trivial, trivial, trivial, trivial, trivial, trivial⟩⟩
 ·refine .inl ⟨fun _ => ?_, fun hc => (by cases hc)⟩
  repeat refine Or.inl ?_
  refine ⟨⟨by decide, by decide⟩, ?_⟩
  refine ⟨4, [(5, 14)], (by decide), (by decide), rfl, rfl, rfl, rfl, rfl, ⟨rfl, rfl⟩, ⟨⟨rfl, AVsEq.refl _⟩, ⟨rfl, rfl, fun i hi => absurd hi (Nat.not_lt_zero i)⟩, ⟨rfl, rfl, fun i hi => absurd hi (Nat.not_lt_zero i)⟩, ⟨rfl, rfl, fun i hi => absurd hi (Nat.not_lt_zero i)⟩, ⟨rfl, rfl, fun i hi => absurd hi (Nat.not_lt_zero i)⟩, trivial, trivial, trivial, trivial, trivial, trivial, trivial, trivial⟩⟩
 ·refine .inl ⟨fun _ => ?_, fun hc => (by cases hc)⟩
  repeat refine Or.inl ?_
  refine ⟨⟨by decide, by decide⟩, ?_⟩
  refine ⟨5, [(6, 14)], (by decide), (by decide), rfl, rfl, rfl, rfl, rfl, ⟨rfl, rfl⟩, ⟨⟨rfl, AVsEq.refl _⟩, ⟨rfl, rfl, fun i hi => absurd hi (Nat.not_lt_zero i)⟩, ⟨rfl, rfl, fun i hi => absurd hi (Nat.not_lt_zero i)⟩, ⟨rfl, rfl, fun i hi => absurd hi (Nat.not_lt_zero i)⟩, ⟨rfl, rfl, fun i hi => absurd hi (Nat.not_lt_zero i)⟩, ⟨rfl, rfl, fun i hi => absurd hi (Nat.not_lt_zero i)⟩, trivial, trivial, trivial, trivial, trivial, trivial, trivial⟩⟩
 ·refine .inl ⟨fun _ => ?_, fun hc => (by cases hc)⟩
  repeat refine Or.inl ?_
  refine ⟨⟨by decide, by decide⟩, ?_⟩
  refine ⟨6, [(7, 14)], (by decide), (by decide), rfl, rfl, rfl, rfl, rfl, ⟨rfl, rfl⟩, ⟨⟨rfl, AVsEq.refl _⟩, ⟨rfl, rfl, fun i hi => absurd hi (Nat.not_lt_zero i)⟩, ⟨rfl, rfl, fun i hi => absurd hi (Nat.not_lt_zero i)⟩, ⟨rfl, rfl, fun i hi => absurd hi (Nat.not_lt_zero i)⟩, ⟨rfl, rfl, fun i hi => absurd hi (Nat.not_lt_zero i)⟩, ⟨rfl, rfl, fun i hi => absurd hi (Nat.not_lt_zero i)⟩, ⟨rfl, rfl, fun i hi => absurd hi (Nat.not_lt_zero i)⟩, trivial, trivial, trivial, trivial, trivial, trivial⟩⟩
 ·refine .inl ⟨fun _ => ?_, fun hc => (by cases hc)⟩
  repeat refine Or.inl ?_
  refine ⟨⟨by decide, by decide⟩, ?_⟩
  refine ⟨7, [(8, 14)], (by decide), (by decide), rfl, rfl, rfl, rfl, rfl, ⟨rfl, rfl⟩, ⟨⟨rfl, AVsEq.refl _⟩, ⟨rfl, rfl, fun i hi => absurd hi (Nat.not_lt_zero i)⟩, ⟨rfl, rfl, fun i hi => absurd hi (Nat.not_lt_zero i)⟩, ⟨rfl, rfl, fun i hi => absurd hi (Nat.not_lt_zero i)⟩, ⟨rfl, rfl, fun i hi => absurd hi (Nat.not_lt_zero i)⟩, ⟨rfl, rfl, fun i hi => absurd hi (Nat.not_lt_zero i)⟩, ⟨rfl, rfl, fun i hi => absurd hi (Nat.not_lt_zero i)⟩, ⟨rfl, rfl, fun i hi => absurd hi (Nat.not_lt_zero i)⟩, trivial, trivial, trivial, trivial, trivial⟩⟩
 ·refine .inl ⟨fun _ => ?_, fun hc => (by cases hc)⟩
  repeat refine Or.inl ?_
  refine ⟨⟨by decide, by decide⟩, ?_⟩
  refine ⟨8, [(9, 14)], (by decide), (by decide), rfl, rfl, rfl, rfl, rfl, ⟨rfl, rfl⟩, ⟨⟨rfl, AVsEq.refl _⟩, ⟨rfl, rfl, fun i hi => absurd hi (Nat.not_lt_zero i)⟩, ⟨rfl, rfl, fun i hi => absurd hi (Nat.not_lt_zero i)⟩, ⟨rfl, rfl, fun i hi => absurd hi (Nat.not_lt_zero i)⟩, ⟨rfl, rfl, fun i hi => absurd hi (Nat.not_lt_zero i)⟩, ⟨rfl, rfl, fun i hi => absurd hi (Nat.not_lt_zero i)⟩, ⟨rfl, rfl, fun i hi => absurd hi (Nat.not_lt_zero i)⟩, ⟨rfl, rfl, fun i hi => absurd hi (Nat.not_lt_zero i)⟩, ⟨rfl, rfl, fun i hi => absurd hi (Nat.not_lt_zero i)⟩, trivial, trivial, trivial, trivial⟩⟩
 ·refine .inl ⟨fun _ => ?_, fun hc => (by cases hc)⟩
  repeat refine Or.inl ?_
  refine ⟨⟨by decide, by decide⟩, ?_⟩
  refine ⟨9, [(10, 14)], (by decide), (by decide), rfl, rfl, rfl, rfl, rfl, ⟨rfl, rfl⟩, ⟨⟨rfl, AVsEq.refl _⟩, ⟨rfl, rfl, fun i hi => absurd hi (Nat.not_lt_zero i)⟩, ⟨rfl, rfl, fun i hi => absurd hi (Nat.not_lt_zero i)⟩, ⟨rfl, rfl, fun i hi => absurd hi (Nat.not_lt_zero i)⟩, ⟨rfl, rfl, fun i hi => absurd hi (Nat.not_lt_zero i)⟩, ⟨rfl, rfl, fun i hi => absurd hi (Nat.not_lt_zero i)⟩, ⟨rfl, rfl, fun i hi => absurd hi (Nat.not_lt_zero i)⟩, ⟨rfl, rfl, fun i hi => absurd hi (Nat.not_lt_zero i)⟩, ⟨rfl, rfl, fun i hi => absurd hi (Nat.not_lt_zero i)⟩, ⟨rfl, rfl, fun i hi => absurd hi (Nat.not_lt_zero i)⟩, trivial, trivial, trivial⟩⟩
 ·refine .inl ⟨fun _ => ?_, fun hc => (by cases hc)⟩
  repeat refine Or.inl ?_
  refine ⟨⟨by decide, by decide⟩, ?_⟩
  refine ⟨10, [(11, 14)], (by decide), (by decide), rfl, rfl, rfl, rfl, rfl, ⟨rfl, rfl⟩, ⟨⟨rfl, AVsEq.refl _⟩, ⟨rfl, rfl, fun i hi => absurd hi (Nat.not_lt_zero i)⟩, ⟨rfl, rfl, fun i hi => absurd hi (Nat.not_lt_zero i)⟩, ⟨rfl, rfl, fun i hi => absurd hi (Nat.not_lt_zero i)⟩, ⟨rfl, rfl, fun i hi => absurd hi (Nat.not_lt_zero i)⟩, ⟨rfl, rfl, fun i hi => absurd hi (Nat.not_lt_zero i)⟩, ⟨rfl, rfl, fun i hi => absurd hi (Nat.not_lt_zero i)⟩, ⟨rfl, rfl, fun i hi => absurd hi (Nat.not_lt_zero i)⟩, ⟨rfl, rfl, fun i hi => absurd hi (Nat.not_lt_zero i)⟩, ⟨rfl, rfl, fun i hi => absurd hi (Nat.not_lt_zero i)⟩, ⟨rfl, rfl, fun i hi => absurd hi (Nat.not_lt_zero i)⟩, trivial, trivial⟩⟩
 ·refine .inl ⟨fun _ => ?_, fun hc => (by cases hc)⟩
  repeat refine Or.inl ?_
  refine ⟨⟨by decide, by decide⟩, ?_⟩
  refine ⟨11, [(12, 14)], (by decide), (by decide), rfl, rfl, rfl, rfl, rfl, ⟨rfl, rfl⟩, ⟨⟨rfl, AVsEq.refl _⟩, ⟨rfl, rfl, fun i hi => absurd hi (Nat.not_lt_zero i)⟩, ⟨rfl, rfl, fun i hi => absurd hi (Nat.not_lt_zero i)⟩, ⟨rfl, rfl, fun i hi => absurd hi (Nat.not_lt_zero i)⟩, ⟨rfl, rfl, fun i hi => absurd hi (Nat.not_lt_zero i)⟩, ⟨rfl, rfl, fun i hi => absurd hi (Nat.not_lt_zero i)⟩, ⟨rfl, rfl, fun i hi => absurd hi (Nat.not_lt_zero i)⟩, ⟨rfl, rfl, fun i hi => absurd hi (Nat.not_lt_zero i)⟩, ⟨rfl, rfl, fun i hi => absurd hi (Nat.not_lt_zero i)⟩, ⟨rfl, rfl, fun i hi => absurd hi (Nat.not_lt_zero i)⟩, ⟨rfl, rfl, fun i hi => absurd hi (Nat.not_lt_zero i)⟩, ⟨rfl, rfl, fun i hi => absurd hi (Nat.not_lt_zero i)⟩, trivial⟩⟩
 ·refine .inl ⟨fun _ => ?_, fun hc => (by cases hc)⟩
  repeat refine Or.inl ?_
  refine ⟨⟨by decide, by decide⟩, ?_⟩
  refine ⟨12, [(13, 14)], (by decide), (by decide), rfl, rfl, rfl, rfl, rfl, ⟨rfl, rfl⟩, ⟨⟨rfl, AVsEq.refl _⟩, ⟨rfl, rfl, fun i hi => absurd hi (Nat.not_lt_zero i)⟩, ⟨rfl, rfl, fun i hi => absurd hi (Nat.not_lt_zero i)⟩, ⟨rfl, rfl, fun i hi => absurd hi (Nat.not_lt_zero i)⟩, ⟨rfl, rfl, fun i hi => absurd hi (Nat.not_lt_zero i)⟩, ⟨rfl, rfl, fun i hi => absurd hi (Nat.not_lt_zero i)⟩, ⟨rfl, rfl, fun i hi => absurd hi (Nat.not_lt_zero i)⟩, ⟨rfl, rfl, fun i hi => absurd hi (Nat.not_lt_zero i)⟩, ⟨rfl, rfl, fun i hi => absurd hi (Nat.not_lt_zero i)⟩, ⟨rfl, rfl, fun i hi => absurd hi (Nat.not_lt_zero i)⟩, ⟨rfl, rfl, fun i hi => absurd hi (Nat.not_lt_zero i)⟩, ⟨rfl, rfl, fun i hi => absurd hi (Nat.not_lt_zero i)⟩, ⟨rfl, rfl, fun i hi => absurd hi (Nat.not_lt_zero i)⟩⟩⟩
 ·refine .inl ⟨fun hc => (by cases hc), fun _ => ?_⟩
  repeat refine Or.inl ?_
  exact ⟨(), [(0, 1), (1, 0)], trivial, ⟨⟨⟨rfl, rfl, AVEq.refl _⟩, trivial⟩, ⟨⟨rfl, rfl, rfl, ⟨rfl, AVsEq.refl _⟩⟩, ⟨rfl, rfl, trivial, ⟨rfl, rfl, fun i hi => absurd hi (Nat.not_lt_zero i)⟩⟩, ⟨rfl, rfl, trivial, ⟨rfl, rfl, fun i hi => absurd hi (Nat.not_lt_zero i)⟩⟩, ⟨rfl, rfl, trivial, ⟨rfl, rfl, fun i hi => absurd hi (Nat.not_lt_zero i)⟩⟩, ⟨rfl, rfl, trivial, ⟨rfl, rfl, fun i hi => absurd hi (Nat.not_lt_zero i)⟩⟩, ⟨rfl, rfl, trivial, ⟨rfl, rfl, fun i hi => absurd hi (Nat.not_lt_zero i)⟩⟩, ⟨rfl, rfl, trivial, ⟨rfl, rfl, fun i hi => absurd hi (Nat.not_lt_zero i)⟩⟩, ⟨rfl, rfl, trivial, ⟨rfl, rfl, fun i hi => absurd hi (Nat.not_lt_zero i)⟩⟩, ⟨rfl, rfl, trivial, ⟨rfl, rfl, fun i hi => absurd hi (Nat.not_lt_zero i)⟩⟩, ⟨rfl, rfl, trivial, ⟨rfl, rfl, fun i hi => absurd hi (Nat.not_lt_zero i)⟩⟩, ⟨rfl, rfl, trivial, ⟨rfl, rfl, fun i hi => absurd hi (Nat.not_lt_zero i)⟩⟩, ⟨rfl, rfl, trivial, ⟨rfl, rfl, fun i hi => absurd hi (Nat.not_lt_zero i)⟩⟩, ⟨rfl, rfl, trivial, ⟨rfl, rfl, fun i hi => absurd hi (Nat.not_lt_zero i)⟩⟩, ⟨rfl, rfl, trivial, ⟨rfl, rfl, fun i hi => absurd hi (Nat.not_lt_zero i)⟩⟩, trivial⟩, rfl⟩, rfl, fun h => (by cases h)⟩
end Go.Proofs.Ytnookbebiacaeaa
end

section
namespace Go.Proofs.Ytnookbebiacaeaa
open Go.Eng
structure Rel (st : St) (R : List Fl) (N : List Int) (m : Nat) : Prop where
 fs : ∀ t : Nat, t < 12 → st.fs t = vw R t
 tn : ∀ f ∈ R, 0 ≤ f.1 ∧ f.1 < 12
 nl : N.length = 12
 nx : ∀ t : Nat, t < 12 → N.getD t 0 = st.nx t
 ok : ∀ t : Nat, t < 12 → TOk (st.fs t) (st.nx t) m
 len : R.length ≤ m
 sz : ∀ f ∈ R, f.2.2.size ≤ 200
 gu : GoodU st.us
 cu : ∀ c, cntU st.us c = (ckn (allC (rTxt R)) c : Nat)
theorem TOk.more {L : List (Int × ByteArray)} {nx : Int} {m : Nat} (h : TOk L nx m) : TOk L nx (m + 1) :=
 ⟨h.asc, h.lo, Nat.le_succ_of_le h.len, h.n0, by have := h.nm; omega, h.sz⟩
theorem Rel.more {st : St} {R : List Fl} {N : List Int} {m : Nat} (h : Rel st R N m) : Rel st R N (m + 1) :=
 ⟨h.fs, h.tn, h.nl, h.nx, fun t ht => (h.ok t ht).more, Nat.le_succ_of_le h.len, h.sz, h.gu, h.cu⟩
theorem TOk.put {L : List (Int × ByteArray)} {nx : Int} {m : Nat} (h : TOk L nx m) {x : ByteArray} (hx : x.size ≤ 200) : TOk (L ++ [(nx, x)]) (nx + 1) (m + 1) := by
 have e : mkeys (L ++ [(nx, x)]) = mkeys L ++ [nx] := by simp [mkeys]
 refine ⟨?_, ?_, by have := h.len; simp; omega, by have := h.n0; omega, by have := h.nm; omega, ?_⟩
 ·rw [e, List.pairwise_append]
  refine ⟨h.asc, by simp, fun a ha b hb => ?_⟩
  rw [List.mem_singleton.1 hb]
  exact (h.lo a ha).2
 ·intro k hk
  rw [e] at hk
  rcases List.mem_append.1 hk with hk | hk
  ·have := h.lo k hk
   omega
  ·rw [List.mem_singleton.1 hk]
   have := h.n0
   omega
 ·intro p hp
  rcases List.mem_append.1 hp with hp | hp
  ·exact h.sz p hp
  ·rw [List.mem_singleton.1 hp]
   exact hx
theorem mdel_sub {α γ : Type} [DecidableEq α] : ∀ (L : List (α × γ)) (k : α), (mdel L k).Sublist L
 | [], _ => List.Sublist.refl _
 | p :: r, k => by
  simp only [mdel]
  split
  ·exact List.sublist_cons_self p r
  ·exact (mdel_sub r k).cons_cons p
theorem TOk.del {L : List (Int × ByteArray)} {nx : Int} {m : Nat} (h : TOk L nx m) (n : Int) : TOk (mdel L n) nx m := by
 have hs := mdel_sub L n
 have hm : (mkeys (mdel L n)).Sublist (mkeys L) := hs.map _
 exact ⟨h.asc.sublist hm, fun k hk => h.lo k (hm.subset hk), Nat.le_trans hs.length_le h.len, h.n0, h.nm, fun p hp => h.sz p (hs.subset hp)⟩
theorem Rel.ub {st : St} {R : List Fl} {N : List Int} {m : Nat} (h : Rel st R N m) (hm : m ≤ 200) : UB st.us 100000 := by
 refine ⟨h.gu.1, fun c => ?_⟩
 rw [h.cu c]
 have h1 := ckn_le (allC (rTxt R)) c
 have h2 := allC_len (ts := rTxt R) (fun x hx => by
  unfold rTxt at hx
  obtain ⟨f, hf, rfl⟩ := List.mem_map.1 hx
  exact h.sz f hf)
 have h3 : (rTxt R).length = R.length := by unfold rTxt; rw [List.length_map]
 have h4 := h.len
 omega
theorem Rel.sok {st : St} {R : List Fl} {N : List Int} {m : Nat} (h : Rel st R N m) (hm : m ≤ 200) : SOk st m := ⟨h.ok, h.ub hm⟩
theorem Rel.start : Rel st0 [] (List.replicate 12 0) 0 :=
 ⟨fun t _ => rfl, fun f hf => (by cases hf), rfl, fun t ht => by
   show (List.replicate 12 (0 : Int)).getD t 0 = 0
   unfold List.getD
   rw [List.getElem?_replicate, if_pos ht]
   rfl, fun t _ => ⟨List.Pairwise.nil, fun k hk => (by cases hk), Nat.le_refl _, Int.le_refl _, Int.le_refl _, fun p hp => (by cases hp)⟩, Nat.le_refl _, fun f hf => (by cases hf), good_nil, fun c => rfl⟩
theorem Rel.step {st : St} {R : List Fl} {N : List Int} {m : Nat} (h : Rel st R N m) (o : Opn) (hx : o.x.size ≤ 200) :
  (sDo st o).2 = (rDo R N o).2 ∧ Rel (sDo st o).1 (rDo R N o).1.1 (rDo R N o).1.2 (m + 1) := by
 unfold sDo rDo
 by_cases hr : 0 ≤ o.t ∧ o.t < 12
 ·rw [if_pos hr]
  obtain ⟨t, ht⟩ : ∃ t : Nat, o.t = t := ⟨o.t.toNat, by omega⟩
  have ht12 : t < 12 := by omega
  have htn : o.t.toNat = t := by omega
  by_cases h0 : o.d = 0
  ·rw [if_pos h0, if_pos h0, htn]
   unfold sPut rPut
   rw [if_neg (by omega), h.fs t ht12, vw_find, ← ht]
   cases hfd : R.find? (fun f => f.1 == o.t && bytesEq f.2.2 o.x) with
   | some f => exact ⟨rfl, h.more⟩
   | none =>
    dsimp only [Option.map_none]
    rw [htn, h.nx t ht12]
    refine ⟨rfl, ?_⟩
    obtain ⟨g1, g2⟩ := incs_good (l := divL o.x) h.gu
    refine ⟨fun s hs => ?_, ?_, by rw [List.length_set]; exact h.nl, fun s hs => ?_, fun s hs => ?_, by have := h.len; simp; omega, ?_, g1, fun c => ?_⟩
    ·show upd st.fs t (st.fs t ++ [(st.nx t, o.x)]) s = _
     unfold upd
     rw [vw_snoc, ht]
     by_cases e : s = t
     ·rw [if_pos e, if_pos (by rw [e]), e, h.fs t ht12]
     ·rw [if_neg e, if_neg (by omega), List.append_nil, h.fs s hs]
    ·intro f hf
     rcases List.mem_append.1 hf with hf | hf
     ·exact h.tn f hf
     ·rw [List.mem_singleton.1 hf]
      exact hr
    ·show (N.set t (st.nx t + 1)).getD s 0 = upd st.nx t (st.nx t + 1) s
     rw [getD_setD 0 N t _ (by rw [h.nl]; exact ht12) s]
     unfold upd
     split
     ·rfl
     ·exact h.nx s hs
    ·show TOk (upd st.fs t (st.fs t ++ [(st.nx t, o.x)]) s) (upd st.nx t (st.nx t + 1) s) (m + 1)
     unfold upd
     by_cases e : s = t
     ·rw [if_pos e, if_pos e]
      exact (h.ok t ht12).put hx
     ·rw [if_neg e, if_neg e]
      exact (h.ok s hs).more
    ·intro f hf
     rcases List.mem_append.1 hf with hf | hf
     ·exact h.sz f hf
     ·rw [List.mem_singleton.1 hf]
      exact hx
    ·show cntU (incs st.us (divL o.x)) c = _
     rw [g2 c, allC_snoc, ckn_app, h.cu c]
     simp
  ·rw [if_neg h0, if_neg h0]
   by_cases h1 : o.d = 1
   ·rw [if_pos h1, if_pos h1, htn, h.fs t ht12, vw_get, ht]
    exact ⟨rfl, h.more⟩
   ·rw [if_neg h1, if_neg h1]
    by_cases h2 : o.d = 2
    ·rw [if_pos h2, if_pos h2, htn]
     unfold sDrop rDrop
     rw [h.fs t ht12, vw_get, ht]
     by_cases ha : rAt R t o.n < 0
     ·rw [if_pos ha]
      have e : rGet R t o.n = none := by unfold rGet; rw [(at_neg ha).1]; rfl
      rw [e]
      exact ⟨rfl, h.more⟩
     ·rw [if_neg ha]
      obtain ⟨a1, a2, a3⟩ := at_pos ha
      have e : rGet R t o.n = some (R.getD (rAt R t o.n).toNat dFf).2.2 := by unfold rGet; rw [a2]; rfl
      rw [e]
      refine ⟨rfl, ?_⟩
      have hany : R.any (hitF t o.n) = true := by
       unfold rAt at ha
       by_cases hh : R.any (hitF t o.n) = true
       ·exact hh
       ·rw [if_neg hh] at ha
        exact absurd (by decide) ha
      have hidx : (rAt R t o.n).toNat = R.findIdx (hitF t o.n) := by
       unfold rAt
       rw [if_pos hany, Int.toNat_natCast]
      have hce : ∀ c, ckn (allC (rTxt (R.eraseIdx (rAt R t o.n).toNat))) c + ckn (divL (R.getD (rAt R t o.n).toNat dFf).2.2) c = ckn (allC (rTxt R)) c := allC_erase R _ a1
      obtain ⟨g1, g2⟩ := decs_good (l := divL (R.getD (rAt R t o.n).toNat dFf).2.2) h.gu (fun c => by
       rw [h.cu c]
       have := hce c
       omega)
      have hsub : (R.eraseIdx (rAt R t o.n).toNat).Sublist R := List.eraseIdx_sublist ..
      refine ⟨fun s hs => ?_, fun f hf => h.tn f (hsub.subset hf), h.nl, h.nx, fun s hs => ?_, Nat.le_succ_of_le (Nat.le_trans hsub.length_le h.len), fun f hf => h.sz f (hsub.subset hf), g1, fun c => ?_⟩
      ·show upd st.fs t (mdel (st.fs t) o.n) s = _
       rw [hidx, vw_erase t o.n R hany s]
       unfold upd
       by_cases e2 : s = t
       ·rw [if_pos e2, if_pos (by rw [e2]), h.fs t ht12]
       ·rw [if_neg e2, if_neg (by omega), h.fs s hs]
      ·show TOk (upd st.fs t (mdel (st.fs t) o.n) s) (st.nx s) (m + 1)
       unfold upd
       by_cases e2 : s = t
       ·rw [if_pos e2, e2]
        exact ((h.ok t ht12).del o.n).more
       ·rw [if_neg e2]
        exact (h.ok s hs).more
      ·show cntU (decs st.us (divL (R.getD (rAt R t o.n).toNat dFf).2.2)) c = ((ckn (allC (rTxt (R.eraseIdx (rAt R t o.n).toNat))) c : Nat) : Int)
       rw [g2 c, h.cu c]
       have := hce c
       omega
    ·rw [if_neg h2, if_neg h2]
     exact ⟨rfl, h.more⟩
 ·rw [if_neg hr]
  have hno : R.find? (hitF o.t o.n) = none := by
   rw [List.find?_eq_none]
   intro f hf hp
   have := h.tn f hf
   have e : f.1 = o.t := by
    have : (f.1 == o.t && f.2.1 == o.n) = true := hp
    rw [Bool.and_eq_true, beq_iff_eq] at this
    exact this.1
   rw [e] at this
   exact hr this
  by_cases h0 : o.d = 0
  ·rw [if_pos h0, if_pos h0]
   unfold rPut
   rw [if_pos (by omega)]
   exact ⟨rfl, h.more⟩
  ·rw [if_neg h0, if_neg h0]
   by_cases h1 : o.d = 1
   ·rw [if_pos h1, if_pos h1]
    have e : rGet R o.t o.n = none := by unfold rGet; rw [hno]; rfl
    rw [e]
    exact ⟨rfl, h.more⟩
   ·rw [if_neg h1, if_neg h1]
    by_cases h2 : o.d = 2
    ·rw [if_pos h2, if_pos h2]
     unfold rDrop
     have ha : rAt R o.t o.n < 0 := by
      unfold rAt
      rw [if_neg]
      ·decide
      ·intro hh
       obtain ⟨f, hf, hp⟩ := List.any_eq_true.1 hh
       exact List.find?_eq_none.1 hno f hf hp
     rw [if_pos ha]
     exact ⟨rfl, h.more⟩
    ·rw [if_neg h2, if_neg h2]
     exact ⟨rfl, h.more⟩
end Go.Proofs.Ytnookbebiacaeaa
end

section
namespace Go.Proofs.Ytnookbebiacaeaa
open Go.Eng Go.RowKit
def tri (l : List Opn) : Nat → St × (List Fl × List Int)
 | 0 => (st0, ([], List.replicate 12 0))
 | k + 1 => ((sDo (tri l k).1 (l.getD k dOp)).1, (rDo (tri l k).2.1 (tri l k).2.2 (l.getD k dOp)).1)
theorem tri_rel {l : List Opn} (hz : ∀ o ∈ l, o.x.size ≤ 200) : ∀ k, k ≤ l.length → Rel (tri l k).1 (tri l k).2.1 (tri l k).2.2 k
 | 0, _ => Rel.start
 | k + 1, h => ((tri_rel hz k (by omega)).step _ (hz _ (getD_memD dOp (by omega)))).2
def usedV (st : St) (t : Int) : Int := if 0 ≤ t ∧ t < 12 then (usedL (st.fs t.toNat) : Int) else 0
theorem used_any (st : St) (B : Bn) (t : Int) (m : Nat) (hm : m ≤ 200) (hS : SOk st m) (hB : BOk st B) : CtrM Try.prog 59 true (storeO st B) [.p 0 0, .i .i64 t] (fun _ : Unit => True) (fun _ => storeO st B) (fun _ => []) (fun _ => .i .i64 (usedV st t)) := by
 unfold usedV
 by_cases h : 0 ≤ t ∧ t < 12
 ·rw [if_pos h]
  have hT := hS.t t.toNat (by omega)
  have c := used_fn st B t.toNat (by omega) (Nat.le_trans hT.len (by omega)) (fun p hp => Nat.le_trans (hT.sz p hp) (by decide)) (hB t.toNat (by omega))
  rw [show ((t.toNat : Nat) : Int) = t by omega] at c
  exact c
 ·rw [if_neg h]
  exact used_none st B t h
theorem usedL_vw (R : List Fl) (t : Int) : usedL (vw R t) = rUsed R t := by
 unfold usedL rUsed vw
 rw [List.map_map]
 rfl
theorem vw_none {R : List Fl} (ht : ∀ f ∈ R, 0 ≤ f.1 ∧ f.1 < 12) {t : Int} (h : ¬ (0 ≤ t ∧ t < 12)) : R.filter (fun f => f.1 == t) = [] := by
 rw [List.filter_eq_nil_iff]
 intro f hf e
 have e : f.1 = t := by simpa using e
 have := ht f hf
 rw [e] at this
 exact h this
theorem rel_used {st : St} {R : List Fl} {N : List Int} {m : Nat} (h : Rel st R N m) (t : Int) : usedV st t = rUsed R t := by
 unfold usedV
 by_cases hr : 0 ≤ t ∧ t < 12
 ·rw [if_pos hr, h.fs t.toNat (by omega), usedL_vw, show ((t.toNat : Nat) : Int) = t by omega]
 ·rw [if_neg hr]
  unfold rUsed
  rw [vw_none h.tn hr]
  rfl
theorem rel_len {st : St} {R : List Fl} {N : List Int} {m : Nat} (h : Rel st R N m) : st.us.length = (keptL (rTxt R)).length := uses_len h.gu h.cu
theorem rel_names {st : St} {R : List Fl} {N : List Int} {m : Nat} (h : Rel st R N m) {t : Nat} (ht : t < 12) : sortI (mkeys (st.fs t)) = rNames R t := by
 rw [sortI_id (h.ok t ht).asc, h.fs t ht]
 unfold mkeys vw rNames
 rw [List.map_map]
 rfl
theorem dn_eq (d : Dn) : eqAVs (dnA d) (dnA d) = true := by
 have hb : bytesEq d.2.1 d.2.1 = true := bytes_eq.2 rfl
 show ((d.1 == d.1) && (bytesEq d.2.1 d.2.1 && (d.2.2 == d.2.2))) = true
 rw [hb]
 simp
set_option maxRecDepth 20000 in
set_option maxHeartbeats 32000000 in
theorem chunkTells_in (hsm : Ctr Try.prog 53 [] [] (.b true)) (l : List Opn) (hl : l.length < 2 ^ 63) (t : Nat) (ht : t < 12) : Ctr Try.prog 12 [.rs 4 l.length (rOp l), .i .i64 t] [] (.b true) := by
 refine fn_of_exec tabOk Try.func12 (by kernel_rfl) rfl (N := Try.f12.ntmps) rfl (res := [.tmp 4]) rfl rfl [(2000011, [.nw])] ?_
 repeat refine Or.inl ?_
 refine ⟨_, _, hsm, ?_⟩
 repeat refine Or.inl ?_
 refine ⟨_, _, few_fn l 50 hl, ?_⟩
 refine ⟨fun _ => RetIs.b rfl, fun hf => ?_⟩
 have hf : (!fewL l 50) = false := hf
 rw [Bool.not_eq_false'] at hf
 unfold fewL at hf
 rw [Bool.and_eq_true, decide_eq_true_eq, List.all_eq_true] at hf
 obtain ⟨hl50, hz⟩ := hf
 have hz : ∀ o ∈ l, o.x.size ≤ 200 := fun o ho => by simpa using hz o ho
 refine Or.inr (Or.inr ?_)
 refine ⟨true, [], rfl, Unit, _, _, _, _, new55_fn, fun _ _ => ?_⟩
 refine Or.inr (Or.inr ?_)
 refine ⟨true, [], rfl, Unit, _, _, _, _, rnew38_fn, fun _ _ => ?_⟩
 repeat refine Or.inl ?_
 refine ⟨fun hc => (by cases hc), fun _ => ?_⟩
 repeat refine Or.inl ?_
 have aoN : AOEq (rowN (List.replicate 12 0)) (rowN (List.replicate 12 0)) := AOEq.refl _
 refine ⟨[], Nat × (Bn × (St × (List Fl × List Int))), fun p => p.1 ≤ l.length ∧ BOk p.2.2.1 p.2.1 ∧ tri l p.1 = p.2.2, fun p => [⟨8, [], .i .i64 p.1⟩], fun p => [⟨0, [], .cells 151 (stC p.2.2.1)⟩, ⟨1, [], usO p.2.2.1 p.2.1⟩, ⟨2, [], filO p.2.2.1 p.2.1 0⟩, ⟨3, [], filO p.2.2.1 p.2.1 1⟩, ⟨4, [], filO p.2.2.1 p.2.1 2⟩, ⟨5, [], filO p.2.2.1 p.2.1 3⟩, ⟨6, [], filO p.2.2.1 p.2.1 4⟩, ⟨7, [], filO p.2.2.1 p.2.1 5⟩, ⟨8, [], filO p.2.2.1 p.2.1 6⟩, ⟨9, [], filO p.2.2.1 p.2.1 7⟩, ⟨10, [], filO p.2.2.1 p.2.1 8⟩, ⟨11, [], filO p.2.2.1 p.2.1 9⟩, ⟨12, [], filO p.2.2.1 p.2.1 10⟩, ⟨13, [], filO p.2.2.1 p.2.1 11⟩, ⟨14, [], .cells 154 [.so 15, .so 16]⟩, ⟨15, [], rowF p.2.2.2.1⟩, ⟨16, [], rowN p.2.2.2.2⟩], fun p => l.length - p.1,
  ⟨(0, b0, st0, [], List.replicate 12 0), [], ⟨Nat.zero_le _, b0_ok, rfl⟩, rfl, rfl, rfl, rfl, rfl, ⟨rfl, rfl⟩, ?_⟩, ?_⟩
 ·exact ⟨⟨rfl, AVsEq.refl _⟩, AOEq.refl _, AOEq.refl _, AOEq.refl _, AOEq.refl _, AOEq.refl _, AOEq.refl _, AOEq.refl _, AOEq.refl _, AOEq.refl _, AOEq.refl _, AOEq.refl _, AOEq.refl _, AOEq.refl _, ⟨rfl, AVsEq.refl _⟩, AOEq.refl _, aoN⟩
 rintro ⟨k, B, s, R, M⟩ ⟨hk, hB, htr⟩
 have hk : k ≤ l.length := hk
 have hB : BOk s B := hB
 have htr : tri l k = (s, (R, M)) := htr
 refine .inl ⟨fun hc => ?_, fun _ => RetIs.b rfl⟩
 have hc := dlt hc
 have hc : (k : Int) < l.length := hc
 have ek : ((k : Nat) : Int).toNat = k := Int.toNat_natCast k
 have hR := tri_rel hz k hk
 rw [htr] at hR
 have hR : Rel s R M k := hR
 have hxk := hz _ (getD_memD dOp (show k < l.length by omega))
 have hst := hR.step (l.getD k dOp) hxk
 have hsok := hR.sok (by omega)
 repeat refine Or.inl ?_
 refine ⟨[(0, true), (1, true), (2, true), (3, true), (4, true), (6, true), (7, true), (8, true), (9, true), (10, true), (5, false), (11, false), (12, false), (13, true), (14, true), (15, true), (17, true), (18, true), (16, false), (19, false), (20, false), (21, false), (22, true), (23, true), (25, true), (24, false), (26, false), (27, false), (28, false), (29, true), (30, true), (31, true), (33, true), (34, true), (32, false), (35, false), (36, false), (37, false), (38, false)], [0, 0, 0, 6, 14, 31, 0, 0, 0, 384, 896, 2047, 4095, 8191, 16383, 16383, 65535, 16383, 16383, 524287, 1048575, 2097151, 4194303, 8388607, 16777215, 8388607, 67108863, 134217727, 268435455, 536870911, 1073741823, 1073741823, 4294967295, 1073741823, 1073741823, 34359738367, 68719476735, 137438953471, 274877906943], by decide, ?_⟩
 refine ⟨⟨by omega, by omega⟩, ?_⟩
 refine ⟨⟨by omega, by omega⟩, ?_⟩
 obtain ⟨F, hF⟩ : ∃ F, F = sDo s (l.getD ((k : Nat) : Int).toNat dOp) := ⟨_, rfl⟩
 obtain ⟨D, hD⟩ : ∃ D, D = rDo R M (l.getD ((k : Nat) : Int).toNat dOp) := ⟨_, rfl⟩
 rw [ek] at hF hD
 have hFD : F.2 = D.2 := by rw [hF, hD]; exact hst.1
 have hR3 : Rel F.1 D.1.1 D.1.2 (k + 1) := by rw [hF, hD]; exact hst.2
 have hnx : ∀ j, 0 ≤ M.getD j 0 ∧ M.getD j 0 ≤ 100000 := fun j => by
  by_cases hj : j < 12
  ·rw [hR.nx j hj]
   have := hR.ok j hj
   have h1 := this.n0
   have h2 := this.nm
   omega
  ·have : M.getD j 0 = 0 := by simp [List.getD, hR.nl, Nat.le_of_not_lt hj]
   rw [this]
   exact ⟨by decide, by decide⟩
 have c57 := do_fn s B (l.getD k dOp) k hsok (by omega) hB hxk F hF
 have c58 := rdo_fn R M (by have := hR.len; omega) hR.sz hR.nl hnx (l.getD k dOp) hxk D hD
 rw [← ek] at c57 c58
 refine Or.inr (Or.inr ?_)
 refine ⟨true, [0, 1, 2, 3, 4, 5, 6, 7, 8, 9, 10, 11, 12, 13], rfl, Bn, _, _, _, _, c57, fun B2 hB2 => ?_⟩
 refine Or.inr (Or.inr ?_)
 refine ⟨true, [14, 15, 16], rfl, Unit, _, _, _, _, c58, fun _ _ => ?_⟩
 have hsok3 := hR3.sok (by omega)
 have q1 : (!eqAVs (dnA F.2) (dnA D.2)) = false := by rw [hFD, dn_eq]; rfl
 have q2 : (usedV F.1 t != (rUsed D.1.1 t : Int)) = false := by rw [rel_used hR3]; simp
 have q3 : ((F.1.us.length : Int) != ((keptL (rTxt D.1.1)).length : Int)) = false := by rw [rel_len hR3]; simp
 refine Or.inr (Or.inl ⟨⟨⟨rfl, q1⟩, trivial⟩, ?_⟩)
 refine Or.inr (Or.inr ?_)
 refine ⟨true, [0, 1, 2, 3, 4, 5, 6, 7, 8, 9, 10, 11, 12, 13], rfl, Unit, _, _, _, _, used_any F.1 B2 t (k + 1) (by omega) hsok3 hB2, fun _ _ => ?_⟩
 refine Or.inr (Or.inl ⟨⟨⟨rfl, q1⟩, trivial⟩, ?_⟩)
 refine Or.inl ⟨_, _, rused_fn D.1.1 D.1.2 (by have := hR3.len; omega) (fun f hf => Nat.le_trans (hR3.sz f hf) (by decide)) t, ?_⟩
 have q12 : ((!eqAVs (dnA F.2) (dnA D.2)) || (usedV F.1 t != (rUsed D.1.1 t : Int))) = false := by rw [q1, q2]; rfl
 have q123 : (((!eqAVs (dnA F.2) (dnA D.2)) || (usedV F.1 t != (rUsed D.1.1 t : Int))) || ((F.1.us.length : Int) != ((keptL (rTxt D.1.1)).length : Int))) = false := by rw [q12, q3]; rfl
 refine Or.inr (Or.inl ⟨⟨⟨rfl, q12⟩, trivial⟩, ?_⟩)
 refine Or.inr (Or.inr ?_)
 refine ⟨true, [0, 1, 2, 3, 4, 5, 6, 7, 8, 9, 10, 11, 12, 13], rfl, Unit, _, _, _, _, chunks_fn F.1 B2, fun _ _ => ?_⟩
 refine Or.inr (Or.inl ⟨⟨⟨rfl, q12⟩, trivial⟩, ?_⟩)
 refine Or.inl ⟨_, _, rchunks_fn D.1.1 D.1.2 (by have := hR3.len; omega) hR3.sz, ?_⟩
 refine Or.inr (Or.inl ⟨⟨⟨rfl, q123⟩, trivial⟩, ?_⟩)
 refine Or.inr (Or.inr ?_)
 refine ⟨true, [0, 1, 2, 3, 4, 5, 6, 7, 8, 9, 10, 11, 12, 13], rfl, Unit, _, _, _, _, names_fn F.1 B2 t ht ((hR3.ok t ht).wf (by omega)) (by have := (hR3.ok t ht).len; omega), fun _ _ => ?_⟩
 refine Or.inr (Or.inl ⟨⟨⟨rfl, q123⟩, trivial⟩, ?_⟩)
 refine Or.inl ⟨_, _, rnames_fn D.1.1 D.1.2 (by have := hR3.len; omega) t, ?_⟩
 refine Or.inr (Or.inl ⟨⟨⟨rfl, q123⟩, trivial⟩, ?_⟩)
 have hnl : (F.1.fs t).length = (rNames D.1.1 t).length := by
  rw [← rel_names hR3 ht, sortI_length]
  simp [mkeys]
 have hnr := rNames_len D.1.1 t
 have hrl := hR3.len
 have c63 : Ctr Try.prog 63 [.rs 1 (F.1.fs t).length (rI (sortI (mkeys (F.1.fs t)))), .rs 1 (rNames D.1.1 t).length (rI (rNames D.1.1 t))] [] (.b true) := by
  rw [hnl, rel_names hR3 ht]
  have := ints_fn (rNames D.1.1 t) (rNames D.1.1 t) (by omega) (by omega)
  rwa [decide_eq_true rfl] at this
 refine Or.inl ⟨_, _, c63, ?_⟩
 refine ⟨fun h => ?_, fun _ => ?_⟩
 ·have h : ((((!eqAVs (dnA F.2) (dnA D.2)) || (usedV F.1 t != (rUsed D.1.1 t : Int))) || ((F.1.us.length : Int) != ((keptL (rTxt D.1.1)).length : Int))) || !true) = true := h
  rw [q123] at h
  cases h
 have htr2 : tri l (k + 1) = (F.1, D.1) := by
  show ((sDo (tri l k).1 (l.getD k dOp)).1, (rDo (tri l k).2.1 (tri l k).2.2 (l.getD k dOp)).1) = _
  rw [htr, hF, hD]
 have aoN2 : AOEq (rowN D.1.2) (rowN D.1.2) := AOEq.refl _
 refine ⟨(k + 1, B2, F.1, D.1), [(15, 17)], ⟨(by show k + 1 ≤ l.length; omega), hB2, htr2⟩, by dsimp only; omega, rfl, rfl, rfl, rfl, rfl, ⟨rfl, wr (by omega) (by omega)⟩, ⟨⟨rfl, AVsEq.refl _⟩, AOEq.refl _, AOEq.refl _, AOEq.refl _, AOEq.refl _, AOEq.refl _, AOEq.refl _, AOEq.refl _, AOEq.refl _, AOEq.refl _, AOEq.refl _, AOEq.refl _, AOEq.refl _, AOEq.refl _, ⟨rfl, AVsEq.refl _⟩, AOEq.refl _, aoN2⟩⟩
set_option maxRecDepth 20000 in
set_option maxHeartbeats 32000000 in
theorem chunkTells_out (hsm : Ctr Try.prog 53 [] [] (.b true)) (l : List Opn) (hl : l.length < 2 ^ 63) (t : Int) (ht : ¬ (0 ≤ t ∧ t < 12)) : Ctr Try.prog 12 [.rs 4 l.length (rOp l), .i .i64 t] [] (.b true) := by
 refine fn_of_exec tabOk Try.func12 (by kernel_rfl) rfl (N := Try.f12.ntmps) rfl (res := [.tmp 4]) rfl rfl [(2000011, [.nw])] ?_
 repeat refine Or.inl ?_
 refine ⟨_, _, hsm, ?_⟩
 repeat refine Or.inl ?_
 refine ⟨_, _, few_fn l 50 hl, ?_⟩
 refine ⟨fun _ => RetIs.b rfl, fun hf => ?_⟩
 have hf : (!fewL l 50) = false := hf
 rw [Bool.not_eq_false'] at hf
 unfold fewL at hf
 rw [Bool.and_eq_true, decide_eq_true_eq, List.all_eq_true] at hf
 obtain ⟨hl50, hz⟩ := hf
 have hz : ∀ o ∈ l, o.x.size ≤ 200 := fun o ho => by simpa using hz o ho
 refine Or.inr (Or.inr ?_)
 refine ⟨true, [], rfl, Unit, _, _, _, _, new55_fn, fun _ _ => ?_⟩
 refine Or.inr (Or.inr ?_)
 refine ⟨true, [], rfl, Unit, _, _, _, _, rnew38_fn, fun _ _ => ?_⟩
 repeat refine Or.inl ?_
 refine ⟨fun hc => (by cases hc), fun _ => ?_⟩
 repeat refine Or.inl ?_
 have aoN : AOEq (rowN (List.replicate 12 0)) (rowN (List.replicate 12 0)) := AOEq.refl _
 refine ⟨[], Nat × (Bn × (St × (List Fl × List Int))), fun p => p.1 ≤ l.length ∧ BOk p.2.2.1 p.2.1 ∧ tri l p.1 = p.2.2, fun p => [⟨8, [], .i .i64 p.1⟩], fun p => [⟨0, [], .cells 151 (stC p.2.2.1)⟩, ⟨1, [], usO p.2.2.1 p.2.1⟩, ⟨2, [], filO p.2.2.1 p.2.1 0⟩, ⟨3, [], filO p.2.2.1 p.2.1 1⟩, ⟨4, [], filO p.2.2.1 p.2.1 2⟩, ⟨5, [], filO p.2.2.1 p.2.1 3⟩, ⟨6, [], filO p.2.2.1 p.2.1 4⟩, ⟨7, [], filO p.2.2.1 p.2.1 5⟩, ⟨8, [], filO p.2.2.1 p.2.1 6⟩, ⟨9, [], filO p.2.2.1 p.2.1 7⟩, ⟨10, [], filO p.2.2.1 p.2.1 8⟩, ⟨11, [], filO p.2.2.1 p.2.1 9⟩, ⟨12, [], filO p.2.2.1 p.2.1 10⟩, ⟨13, [], filO p.2.2.1 p.2.1 11⟩, ⟨14, [], .cells 154 [.so 15, .so 16]⟩, ⟨15, [], rowF p.2.2.2.1⟩, ⟨16, [], rowN p.2.2.2.2⟩], fun p => l.length - p.1,
  ⟨(0, b0, st0, [], List.replicate 12 0), [], ⟨Nat.zero_le _, b0_ok, rfl⟩, rfl, rfl, rfl, rfl, rfl, ⟨rfl, rfl⟩, ?_⟩, ?_⟩
 ·exact ⟨⟨rfl, AVsEq.refl _⟩, AOEq.refl _, AOEq.refl _, AOEq.refl _, AOEq.refl _, AOEq.refl _, AOEq.refl _, AOEq.refl _, AOEq.refl _, AOEq.refl _, AOEq.refl _, AOEq.refl _, AOEq.refl _, AOEq.refl _, ⟨rfl, AVsEq.refl _⟩, AOEq.refl _, aoN⟩
 rintro ⟨k, B, s, R, M⟩ ⟨hk, hB, htr⟩
 have hk : k ≤ l.length := hk
 have hB : BOk s B := hB
 have htr : tri l k = (s, (R, M)) := htr
 refine .inl ⟨fun hc => ?_, fun _ => RetIs.b rfl⟩
 have hc := dlt hc
 have hc : (k : Int) < l.length := hc
 have ek : ((k : Nat) : Int).toNat = k := Int.toNat_natCast k
 have hR := tri_rel hz k hk
 rw [htr] at hR
 have hR : Rel s R M k := hR
 have hxk := hz _ (getD_memD dOp (show k < l.length by omega))
 have hst := hR.step (l.getD k dOp) hxk
 have hsok := hR.sok (by omega)
 repeat refine Or.inl ?_
 refine ⟨[(0, true), (1, true), (2, true), (3, true), (4, true), (6, true), (7, true), (8, true), (9, true), (10, true), (5, false), (11, false), (12, false), (13, true), (14, true), (15, true), (17, true), (18, true), (16, false), (19, false), (20, false), (21, false), (22, true), (23, true), (25, true), (24, false), (26, false), (27, false), (28, false), (29, true), (30, true), (31, true), (33, true), (34, true), (32, false), (35, false), (36, false), (37, false), (38, false)], [0, 0, 0, 6, 14, 31, 0, 0, 0, 384, 896, 2047, 4095, 8191, 16383, 16383, 65535, 16383, 16383, 524287, 1048575, 2097151, 4194303, 8388607, 16777215, 8388607, 67108863, 134217727, 268435455, 536870911, 1073741823, 1073741823, 4294967295, 1073741823, 1073741823, 34359738367, 68719476735, 137438953471, 274877906943], by decide, ?_⟩
 refine ⟨⟨by omega, by omega⟩, ?_⟩
 refine ⟨⟨by omega, by omega⟩, ?_⟩
 obtain ⟨F, hF⟩ : ∃ F, F = sDo s (l.getD ((k : Nat) : Int).toNat dOp) := ⟨_, rfl⟩
 obtain ⟨D, hD⟩ : ∃ D, D = rDo R M (l.getD ((k : Nat) : Int).toNat dOp) := ⟨_, rfl⟩
 rw [ek] at hF hD
 have hFD : F.2 = D.2 := by rw [hF, hD]; exact hst.1
 have hR3 : Rel F.1 D.1.1 D.1.2 (k + 1) := by rw [hF, hD]; exact hst.2
 have hnx : ∀ j, 0 ≤ M.getD j 0 ∧ M.getD j 0 ≤ 100000 := fun j => by
  by_cases hj : j < 12
  ·rw [hR.nx j hj]
   have := hR.ok j hj
   have h1 := this.n0
   have h2 := this.nm
   omega
  ·have : M.getD j 0 = 0 := by simp [List.getD, hR.nl, Nat.le_of_not_lt hj]
   rw [this]
   exact ⟨by decide, by decide⟩
 have c57 := do_fn s B (l.getD k dOp) k hsok (by omega) hB hxk F hF
 have c58 := rdo_fn R M (by have := hR.len; omega) hR.sz hR.nl hnx (l.getD k dOp) hxk D hD
 rw [← ek] at c57 c58
 refine Or.inr (Or.inr ?_)
 refine ⟨true, [0, 1, 2, 3, 4, 5, 6, 7, 8, 9, 10, 11, 12, 13], rfl, Bn, _, _, _, _, c57, fun B2 hB2 => ?_⟩
 refine Or.inr (Or.inr ?_)
 refine ⟨true, [14, 15, 16], rfl, Unit, _, _, _, _, c58, fun _ _ => ?_⟩
 have hsok3 := hR3.sok (by omega)
 have q1 : (!eqAVs (dnA F.2) (dnA D.2)) = false := by rw [hFD, dn_eq]; rfl
 have q2 : (usedV F.1 t != (rUsed D.1.1 t : Int)) = false := by rw [rel_used hR3]; simp
 have q3 : ((F.1.us.length : Int) != ((keptL (rTxt D.1.1)).length : Int)) = false := by rw [rel_len hR3]; simp
 refine Or.inr (Or.inl ⟨⟨⟨rfl, q1⟩, trivial⟩, ?_⟩)
 refine Or.inr (Or.inr ?_)
 refine ⟨true, [0, 1, 2, 3, 4, 5, 6, 7, 8, 9, 10, 11, 12, 13], rfl, Unit, _, _, _, _, used_any F.1 B2 t (k + 1) (by omega) hsok3 hB2, fun _ _ => ?_⟩
 refine Or.inr (Or.inl ⟨⟨⟨rfl, q1⟩, trivial⟩, ?_⟩)
 refine Or.inl ⟨_, _, rused_fn D.1.1 D.1.2 (by have := hR3.len; omega) (fun f hf => Nat.le_trans (hR3.sz f hf) (by decide)) t, ?_⟩
 have q12 : ((!eqAVs (dnA F.2) (dnA D.2)) || (usedV F.1 t != (rUsed D.1.1 t : Int))) = false := by rw [q1, q2]; rfl
 have q123 : (((!eqAVs (dnA F.2) (dnA D.2)) || (usedV F.1 t != (rUsed D.1.1 t : Int))) || ((F.1.us.length : Int) != ((keptL (rTxt D.1.1)).length : Int))) = false := by rw [q12, q3]; rfl
 refine Or.inr (Or.inl ⟨⟨⟨rfl, q12⟩, trivial⟩, ?_⟩)
 refine Or.inr (Or.inr ?_)
 refine ⟨true, [0, 1, 2, 3, 4, 5, 6, 7, 8, 9, 10, 11, 12, 13], rfl, Unit, _, _, _, _, chunks_fn F.1 B2, fun _ _ => ?_⟩
 refine Or.inr (Or.inl ⟨⟨⟨rfl, q12⟩, trivial⟩, ?_⟩)
 refine Or.inl ⟨_, _, rchunks_fn D.1.1 D.1.2 (by have := hR3.len; omega) hR3.sz, ?_⟩
 refine Or.inr (Or.inl ⟨⟨⟨rfl, q123⟩, trivial⟩, ?_⟩)
 refine Or.inr (Or.inr ?_)
 refine ⟨true, [0, 1, 2, 3, 4, 5, 6, 7, 8, 9, 10, 11, 12, 13], rfl, Unit, _, _, _, _, names_none F.1 B2 t ht, fun _ _ => ?_⟩
 refine Or.inr (Or.inl ⟨⟨⟨rfl, q123⟩, trivial⟩, ?_⟩)
 refine Or.inl ⟨_, _, rnames_fn D.1.1 D.1.2 (by have := hR3.len; omega) t, ?_⟩
 refine Or.inr (Or.inl ⟨⟨⟨rfl, q123⟩, trivial⟩, ?_⟩)
 have hn0 : rNames D.1.1 t = [] := by
  unfold rNames
  rw [vw_none hR3.tn ht]
  rfl
 have c63 : Ctr Try.prog 63 [.val (.slice none 0 0), .rs 1 (rNames D.1.1 t).length (rI (rNames D.1.1 t))] [] (.b true) := by
  rw [hn0]
  have := ints_fn [] [] (by decide) (by decide)
  rw [decide_eq_true rfl] at this
  have hw : AVWs [.rs 1 ([] : List Int).length (rI []), .rs 1 ([] : List Int).length (rI [])] [.val (.slice none 0 0), .rs 1 ([] : List Int).length (rI [])] := ⟨AVW.nil 1 _, AVW.refl _, trivial⟩
  exact Ctr.of_w hw this
 refine Or.inl ⟨_, _, c63, ?_⟩
 refine ⟨fun h => ?_, fun _ => ?_⟩
 ·have h : ((((!eqAVs (dnA F.2) (dnA D.2)) || (usedV F.1 t != (rUsed D.1.1 t : Int))) || ((F.1.us.length : Int) != ((keptL (rTxt D.1.1)).length : Int))) || !true) = true := h
  rw [q123] at h
  cases h
 have htr2 : tri l (k + 1) = (F.1, D.1) := by
  show ((sDo (tri l k).1 (l.getD k dOp)).1, (rDo (tri l k).2.1 (tri l k).2.2 (l.getD k dOp)).1) = _
  rw [htr, hF, hD]
 have aoN2 : AOEq (rowN D.1.2) (rowN D.1.2) := AOEq.refl _
 refine ⟨(k + 1, B2, F.1, D.1), [(15, 17)], ⟨(by show k + 1 ≤ l.length; omega), hB2, htr2⟩, by dsimp only; omega, rfl, rfl, rfl, rfl, rfl, ⟨rfl, wr (by omega) (by omega)⟩, ⟨⟨rfl, AVsEq.refl _⟩, AOEq.refl _, AOEq.refl _, AOEq.refl _, AOEq.refl _, AOEq.refl _, AOEq.refl _, AOEq.refl _, AOEq.refl _, AOEq.refl _, AOEq.refl _, AOEq.refl _, AOEq.refl _, AOEq.refl _, ⟨rfl, AVsEq.refl _⟩, AOEq.refl _, aoN2⟩⟩
theorem chunkTells_fn (hsm : Ctr Try.prog 53 [] [] (.b true)) (l : List Opn) (hl : l.length < 2 ^ 63) (t : Int) : Ctr Try.prog 12 [.rs 4 l.length (rOp l), .i .i64 t] [] (.b true) := by
 by_cases ht : 0 ≤ t ∧ t < 12
 ·have := chunkTells_in hsm l hl t.toNat (by omega)
  rwa [show ((t.toNat : Nat) : Int) = t by omega] at this
 ·exact chunkTells_out hsm l hl t ht
end Go.Proofs.Ytnookbebiacaeaa
end

section
namespace Go.Proofs.Ytnookbebiacaeaa
open Go.Eng Go.RowKit
theorem CtrM.unitB {P : Program} {f : FuncId} {ins : List AO} {args : List AV} {Y : Type} {spec : Y → Prop} {outs : Y → List AO} {r : AV} (y : Y) (hy : spec y) {o : List AO} (ho : outs y = o)
  (h : CtrM P f true ins args (fun _ : Unit => True) (fun _ => o) (fun _ => []) (fun _ => r)) : CtrM P f true ins args spec outs (fun _ => []) (fun _ => r) := by
 subst ho
 refine ⟨h.1, fun F w β vs h1 h2 h3 h4 h5 h6 h7 => (h.2 F w β vs h1 h2 h3 h4 h5 h6 h7).mono ?_⟩
 rintro e w' ⟨v, β', _, h8, _, h9⟩
 exact ⟨v, β', y, h8, hy, h9⟩
theorem put_o (st : St) (B : Bn) (t : Int) (x : ByteArray) (m : Nat) (hS : SOk st m) (hm : m ≤ 200) (hB : BOk st B) (hx : x.size ≤ 200) (F : St × Dn) (hF : F = sDo st ⟨0, t, 0, x⟩) :
  CtrM Try.prog 69 true (storeO st B) [.p 0 0, .i .i64 t, .s x] (fun B' : Bn => BOk F.1 B') (fun B' => storeO F.1 B') (fun _ => []) (fun _ => .tup [.i .i64 F.2.1, .i .i64 F.2.2.2]) := by
 unfold sDo at hF
 dsimp only at hF
 by_cases hr : 0 ≤ t ∧ t < 12
 ·rw [if_pos hr, if_pos rfl] at hF
  have hT := hS.t t.toNat (by omega)
  have ett : ((t.toNat : Nat) : Int) = t := by omega
  unfold sPut at hF
  cases hfd : (st.fs t.toNat).find? (fun p => bytesEq p.2 x) with
  | some p =>
   rw [hfd] at hF
   dsimp only at hF
   subst hF
   obtain ⟨i, h1, h2, h3, h4⟩ := find_at hfd
   have c := put_same st B t.toNat m x (by omega) hm hT hx i h1 (by rw [h2]; exact h3) h4
   rw [ett, h2] at c
   exact CtrM.unitB B hB rfl c
  | none =>
   rw [hfd] at hF
   dsimp only at hF
   subst hF
   have c := put_new st B t.toNat m x (by omega) hm hT hx hB hS.u (find_no hfd)
   rw [ett] at c
   exact c
 ·rw [if_neg hr, if_pos rfl] at hF
  subst hF
  exact CtrM.unitB B hB rfl (put_none st B t x hr)
def sA : ByteArray := ⟨#[97]⟩
def sB : ByteArray := ⟨#[98]⟩
def sX : ByteArray := ⟨#[120]⟩
def smL : List Opn := [⟨0, 0, 0, sA⟩, ⟨0, 0, 0, sB⟩, ⟨0, 0, 0, sA⟩, ⟨0, 1, 0, sB⟩, ⟨2, 0, 1, noB⟩, ⟨0, 0, 0, sB⟩, ⟨0, 12, 0, sX⟩]
end Go.Proofs.Ytnookbebiacaeaa
end
