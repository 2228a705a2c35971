/-
  RingSettles: what open bridges carry settles.
-/
import Derived.Test.YtklmfkejgjhneaaR14
namespace Go.Proofs.Ytklmfkejgjhneaa
open Go.Eng

theorem setT_row {N : List Bool} {t m : Nat} (hN : N.length = m) (ht : t < m) (v : Bool) :
    AOEq (.row 4 1 m (rowsT (N.set t v))) (.row 4 1 m (fun q => if q = t then over 0 [.b v] (rowsT N q) else rowsT N q)) := by
  refine ⟨rfl, rfl, rfl, fun q hq => ?_⟩
  unfold rowsT
  rw [getD_setD false N _ _ (by omega)]
  dsimp only
  by_cases h : q = t
  · rw [if_pos h, if_pos h]
    rfl
  · rw [if_neg h, if_neg h]
theorem getD_replT {n j : Nat} : (List.replicate n false).getD j false = false := by
  simp only [List.getD]
  rw [List.getElem?_replicate]
  split <;> rfl
def AtLeast (M : List Bool) (R : List Int) (n : Int) (r : Nat) : Prop := M.length = n.toNat ∧ ∀ v, M.getD v false = true → (r : Int) ≤ R.getD v 0
theorem AtLeast.step {B : List Bri} {n : Int} (hV : Valid B n) {o : List Int} (hO : OkO B o) (hA : Acy B o) {M N : List Bool} {r : Nat} (hM : AtLeast M (ranksL B o n) n r) (hN : AtLeast N (ranksL B o n) n (r + 1)) {i : Int} (hi : i ∈ o) :
    AtLeast (N.set (br B i).to.toNat (N.getD (br B i).to.toNat false || M.getD (br B i).fr.toNat false)) (ranksL B o n) n (r + 1) := by
  have hb := hV.br (hO _ hi)
  refine ⟨by rw [List.length_set]; exact hN.1, fun v hv => ?_⟩
  have hl := hN.1
  rw [getD_setD false N _ _ (by omega)] at hv
  split at hv
  · rename_i e
    subst e
    rw [Bool.or_eq_true] at hv
    rcases hv with hv | hv
    · exact hN.2 _ hv
    · have h1 := hM.2 _ hv
      have h2 := ranks_up hV hO hA hi
      omega
  · exact hN.2 v hv

set_option maxRecDepth 20000 in
set_option maxHeartbeats 2000000 in
theorem ringSettles_fn (B : List Bri) (n s : Int) (hs : (Lit.int .u8 s).wf = true) : Ctr Try.prog 16 [.rs 3 B.length (rowsB B), .i .i64 n, .i .u8 s] [] (.b true) := by
  refine fn_of_exec tabOk Try.func16 (by kernel_rfl) rfl (N := Try.f16.ntmps) rfl (res := [.tmp 6]) rfl rfl [(1000017, [.sl 107 .u, .sl 108 .u, .sl 113 .u])] ?_
  refine .inl ⟨[], _, smallR_fn, ?_⟩
  repeat refine Or.inl ?_
  refine ⟨[], _, fun hg => rRightB_fn B (by
    have hg : decide ((B.length : Int) > 40) = false := hg.1
    rw [decide_eq_false_iff_not] at hg
    omega) n, ?_⟩
  refine ⟨fun hf => RetIs.b rfl, fun hf => ?_⟩
  have hf : (decide ((B.length : Int) > 40) || !validB B n) = false := hf
  simp only [Bool.or_eq_false_iff, decide_eq_false_iff_not, Bool.not_eq_false'] at hf
  have hV := validB_iff.1 hf.2
  have hB : B.length ≤ 40 := by omega
  have hh := hV.hi
  have hlo := hV.lo
  refine .inr (.inr ⟨false, [], rfl, List Int × List Int × Int, _, _, _, _, Cut_fn B (by omega) n, fun y hy => ?_⟩)
  cases hch : chosenB B with
  | none =>
    have h2 := (hy.bad hf.2 hch).1
    obtain ⟨y1, y2⟩ := y
    dsimp only at h2
    subst h2
    repeat refine Or.inl ?_
    refine ⟨fun _ => RetIs.b rfl, fun h => ?_⟩
    have h : ((19 : Int) != 0) = false := h
    exact absurd h (by decide)
  | some t =>
    obtain ⟨o, c⟩ := t
    have hC := cut_ok hV hch
    have hy2 := hy.el fun _ => by rw [hch]; exact fun h => by cases h
    have e : cutY B n = (c, ranksL B o n, 0) := by
      unfold cutY
      rw [if_pos hf.2, hch]
    rw [e] at hy2
    subst hy2
    have hlen := hy.len
    dsimp only at hlen
    have hRl : (ranksL B o n).length = n.toNat := by unfold ranksL; rw [rankIt_len, List.length_replicate]
    have hck := hC.check hV
    have hcf := Check_fn B (by omega) n c (by omega) (ranksL B o n) (by omega)
    rw [hck] at hcf
    have hop := rOpen_fn B (by omega) c (by omega)
    have hol := others_len B c B.length
    have hpm : ∀ i, i ∈ othersL B c B.length → i ∈ o := fun i hi => by rw [hC.mem]; exact mem_others.1 hi
    generalize othersL B c B.length = p at *
    have hup := fun i (hi : i ∈ o) => ranks_up hV hC.ok hC.acy hi
    have hlt := fun v (g0 : 0 ≤ v) (g1 : v < n) => ranks_lt hV hC.ok hC.acy g0 g1
    have hst := fun M N r i => AtLeast.step hV hC.ok hC.acy (M := M) (N := N) (r := r) (i := i)
    generalize ranksL B o n = R at *
    repeat refine Or.inl ?_
    refine ⟨fun h => ?_, fun _ => ?_⟩
    · have h : ((0 : Int) != 0) = true := h
      exact absurd h (by decide)
    repeat refine Or.inl ?_
    refine ⟨[], _, fun _ => hcf, ?_⟩
    refine ⟨fun h => ?_, fun _ => ?_⟩
    · have h : (((R.length : Int) != n) || ((0 : Int) != 0)) = true := h
      have e2 : (R.length : Int) = n := by omega
      rw [e2] at h
      simp at h
    refine .inl ⟨_, _, hop, ?_⟩
    repeat refine Or.inl ?_
    refine ⟨[], Nat, fun k => k ≤ p.length, fun k => [⟨12, [], .i .i64 k⟩], fun _ => [], fun k => p.length - k,
      ⟨0, [], Nat.zero_le _, rfl, rfl, rfl, rfl, rfl, ⟨rfl, rfl⟩, trivial⟩, ?_⟩
    intro k hk
    refine .inl ⟨fun hc => ?_, fun hc => ?_⟩
    · have hc := dlt hc
      have ek : (k : Int).toNat = k := Int.toNat_natCast k
      have w : IntKind.i64.wrap ((k : Int) + 1) = ((k + 1 : Nat) : Int) := wr (by omega) (by omega)
      have hmem : p.getD (k : Int).toNat 0 ∈ p := by rw [ek]; exact getD_memD 0 (by omega)
      have hi := hC.ok _ (hpm _ hmem)
      have hb := hV.br hi
      have hu := hup _ (hpm _ hmem)
      have f1 : 0 ≤ (B.getD (p.getD (k : Int).toNat 0).toNat dB).fr := hb.1
      have f2 : (B.getD (p.getD (k : Int).toNat 0).toNat dB).fr < n := hb.2.1
      have f3 : 0 ≤ (B.getD (p.getD (k : Int).toNat 0).toNat dB).to := hb.2.2.1
      have f4 : (B.getD (p.getD (k : Int).toNat 0).toNat dB).to < n := hb.2.2.2
      have q1 : (B.getD (p.getD (k : Int).toNat 0).toNat dB).fr < (R.length : Int) := by omega
      have q2 : (B.getD (p.getD (k : Int).toNat 0).toNat dB).fr.toNat < R.length := by omega
      have q3 : (B.getD (p.getD (k : Int).toNat 0).toNat dB).to < (R.length : Int) := by omega
      have q4 : (B.getD (p.getD (k : Int).toNat 0).toNat dB).to.toNat < R.length := by omega
      have g1 := hlt _ hb.1 hb.2.1
      have g2 := hlt _ hb.2.2.1 hb.2.2.2
      repeat refine Or.inl ?_
      refine ⟨⟨by omega, by omega⟩, by omega, ⟨hi.1, hi.2⟩, ?_⟩
      repeat refine Or.inl ?_
      refine ⟨⟨f1, q1⟩, q2, fun _ => ⟨f3, q3⟩, fun _ => q4, fun _ => ⟨f1, q1⟩, fun _ => q2, fun _ => ⟨f3, q3⟩, fun _ => q4, ?_⟩
      repeat refine Or.inl ?_
      refine ⟨fun h => ?_, fun _ => ?_⟩
      · have h : ((decide (R.getD (br B (p.getD (k : Int).toNat 0)).fr.toNat 0 < 0) || decide (R.getD (br B (p.getD (k : Int).toNat 0)).to.toNat 0 ≥ n)) || decide (R.getD (br B (p.getD (k : Int).toNat 0)).fr.toNat 0 ≥ R.getD (br B (p.getD (k : Int).toNat 0)).to.toNat 0)) = true := h
        simp only [Bool.or_eq_true, decide_eq_true_eq] at h
        omega
      exact ⟨k + 1, [], by dsimp only; omega, by dsimp only; omega, rfl, rfl, rfl, rfl, rfl, ⟨rfl, w⟩, trivial⟩
    have hc := dnlt hc
    obtain rfl : k = p.length := by omega
    refine ⟨⟨rfl, by omega, show 1 * n.toNat ≤ 140737488355328 from by omega⟩, ?_⟩
    have hs2 : (decide (IntKind.u8.min ≤ s) && decide (s ≤ IntKind.u8.max)) = true := hs
    have e1 : IntKind.u8.min = 0 := rfl
    have e2 : IntKind.u8.max = 255 := rfl
    rw [e1, e2, Bool.and_eq_true, decide_eq_true_eq, decide_eq_true_eq] at hs2
    have hw : IntKind.i64.wrap s = s := wr (by omega) (by omega)
    have hZ : 0 ≤ (IntKind.i64.wrap s).tmod n ∧ (IntKind.i64.wrap s).tmod n < n := by
      rw [hw]
      exact ⟨Int.tmod_nonneg n hs2.1, Int.tmod_lt_of_pos s (by omega)⟩
    refine ⟨by omega, ⟨hZ.1, by omega⟩, by omega, trivial, trivial, trivial, ?_⟩
    have hM0 : AtLeast ((List.replicate n.toNat false).set ((IntKind.i64.wrap s).tmod n).toNat true) R n 0 := by
      refine ⟨by rw [List.length_set, List.length_replicate], fun v hv => ?_⟩
      have h1 := getD_lt_true hv
      rw [List.length_set, List.length_replicate] at h1
      exact (hlt (v : Int) (by omega) (by omega)).1
    have hr0 := setT_row (N := List.replicate n.toNat false) (t := ((IntKind.i64.wrap s).tmod n).toNat) (m := n.toNat) List.length_replicate (by omega) true
    have hrz : AOEq (.row 4 1 n.toNat (rowsT ((List.replicate n.toNat false).set ((IntKind.i64.wrap s).tmod n).toNat true))) (.row 4 1 n.toNat (fun q => if q = ((IntKind.i64.wrap s).tmod n).toNat then over 0 [.b true] [.b false] else [.b false])) := by
      refine ⟨rfl, rfl, rfl, fun q hq => ?_⟩
      rw [← hr0.2.2.2 q hq]
      unfold rowsT
      dsimp only
      rw [getD_replT]
    repeat refine Or.inl ?_
    refine ⟨[], Nat × List Bool, fun x => x.1 ≤ n.toNat ∧ AtLeast x.2 R n x.1, fun x => [⟨15, [], .i .i64 x.1⟩, ⟨14, [], .so 3⟩], fun x => [⟨3, [], .row 4 1 n.toNat (rowsT x.2)⟩], fun x => n.toNat - x.1,
      ⟨(0, (List.replicate n.toNat false).set ((IntKind.i64.wrap s).tmod n).toNat true), [], ⟨Nat.zero_le _, hM0⟩, rfl, rfl, rfl, rfl, rfl, ⟨⟨rfl, rfl⟩, rfl⟩, hrz⟩, ?_⟩
    rintro ⟨r, M⟩ ⟨hr, hM⟩
    dsimp only at hr hM
    have hMl := hM.1
    refine .inl ⟨fun hc => ?_, fun hc => ?_⟩
    · have hc : decide ((r : Int) < n) = true := hc
      rw [decide_eq_true_eq] at hc
      have w : IntKind.i64.wrap ((r : Int) + 1) = ((r + 1 : Nat) : Int) := wr (by omega) (by omega)
      have hN0 : AtLeast (List.replicate n.toNat false) R n (r + 1) := ⟨List.length_replicate, fun v hv => by rw [getD_replT] at hv; cases hv⟩
      repeat refine Or.inl ?_
      refine ⟨⟨rfl, by omega, show 1 * n.toNat ≤ 140737488355328 from by omega⟩, ?_⟩
      repeat refine Or.inl ?_
      refine ⟨[], Nat × List Bool, fun x => x.1 ≤ p.length ∧ AtLeast x.2 R n (r + 1), fun x => [⟨17, [], .i .i64 x.1⟩], fun x => [⟨4, [], .row 4 1 n.toNat (rowsT x.2)⟩], fun x => p.length - x.1,
        ⟨(0, List.replicate n.toNat false), [], ⟨Nat.zero_le _, hN0⟩, rfl, rfl, rfl, rfl, rfl, ⟨rfl, rfl⟩, ⟨rfl, rfl, rfl, fun q hq => by show _ = [AV.b ((List.replicate n.toNat false).getD q false)]; rw [getD_replT]; rfl⟩⟩, ?_⟩
      rintro ⟨j, N⟩ ⟨hj, hN⟩
      dsimp only at hj hN
      have hNl := hN.1
      refine .inl ⟨fun hc5 => ?_, fun hc5 => ?_⟩
      · have hc5 := dlt hc5
        have ej : (j : Int).toNat = j := Int.toNat_natCast j
        have w3 : IntKind.i64.wrap ((j : Int) + 1) = ((j + 1 : Nat) : Int) := wr (by omega) (by omega)
        have hmem : p.getD (j : Int).toNat 0 ∈ p := by rw [ej]; exact getD_memD 0 (by omega)
        have hi := hC.ok _ (hpm _ hmem)
        have hb := hV.br hi
        have hnx := hst M N r _ hM hN (hpm _ hmem)
        have f1 : 0 ≤ (B.getD (p.getD (j : Int).toNat 0).toNat dB).fr := hb.1
        have f2 : (B.getD (p.getD (j : Int).toNat 0).toNat dB).fr < n := hb.2.1
        have f3 : 0 ≤ (B.getD (p.getD (j : Int).toNat 0).toNat dB).to := hb.2.2.1
        have f4 : (B.getD (p.getD (j : Int).toNat 0).toNat dB).to < n := hb.2.2.2
        have hrow := setT_row (t := (br B (p.getD (j : Int).toNat 0)).to.toNat) hNl (by have := hb.2.2; omega) (N.getD (br B (p.getD (j : Int).toNat 0)).to.toNat false || M.getD (br B (p.getD (j : Int).toNat 0)).fr.toNat false)
        repeat refine Or.inl ?_
        refine ⟨⟨by omega, by omega⟩, by omega, ⟨hi.1, hi.2⟩, ?_⟩
        repeat refine Or.inl ?_
        have q1 : (B.getD (p.getD (j : Int).toNat 0).toNat dB).fr < ((n.toNat : Nat) : Int) := by omega
        have q2 : (B.getD (p.getD (j : Int).toNat 0).toNat dB).fr.toNat < n.toNat := by omega
        have q3 : (B.getD (p.getD (j : Int).toNat 0).toNat dB).to < ((n.toNat : Nat) : Int) := by omega
        have q4 : (B.getD (p.getD (j : Int).toNat 0).toNat dB).to.toNat < n.toNat := by omega
        refine ⟨⟨f3, q3⟩, q4, fun _ => ⟨f1, q1⟩, fun _ => q2, ⟨f3, q3⟩, q4, ?_⟩
        exact ⟨(j + 1, N.set (br B (p.getD (j : Int).toNat 0)).to.toNat (N.getD (br B (p.getD (j : Int).toNat 0)).to.toNat false || M.getD (br B (p.getD (j : Int).toNat 0)).fr.toNat false)), [], ⟨by dsimp only; omega, hnx⟩, by dsimp only; omega, rfl, rfl, rfl, rfl, rfl, ⟨rfl, w3⟩, hrow⟩
      have hc5 := dnlt hc5
      exact ⟨(r + 1, N), [(3, 4)], ⟨by dsimp only; omega, hN⟩, by dsimp only; omega, rfl, rfl, rfl, rfl, rfl, ⟨⟨rfl, w⟩, rfl⟩, ⟨rfl, rfl, rfl, fun _ _ => rfl⟩⟩
    have hc : decide ((r : Int) < n) = false := hc
    rw [decide_eq_false_iff_not] at hc
    repeat refine Or.inl ?_
    refine ⟨[], Nat, fun k => k ≤ n.toNat, fun k => [⟨19, [], .i .i64 k⟩], fun _ => [], fun k => n.toNat - k,
      ⟨0, [], Nat.zero_le _, rfl, rfl, rfl, rfl, rfl, ⟨rfl, rfl⟩, trivial⟩, ?_⟩
    intro k hk
    refine .inl ⟨fun hc => ?_, fun hc => ?_⟩
    · have hc : decide ((k : Int) < n) = true := hc
      rw [decide_eq_true_eq] at hc
      have ek : (k : Int).toNat = k := Int.toNat_natCast k
      have w : IntKind.i64.wrap ((k : Int) + 1) = ((k + 1 : Nat) : Int) := wr (by omega) (by omega)
      repeat refine Or.inl ?_
      refine ⟨⟨by omega, by omega⟩, by omega, ?_⟩
      refine ⟨fun h => ?_, fun _ => ?_⟩
      · have h : M.getD (k : Int).toNat false = true := h
        have h1 := hM.2 _ h
        have h2 := hlt (k : Int) (by omega) (by omega)
        omega
      exact ⟨k + 1, [], by dsimp only; omega, by dsimp only; omega, rfl, rfl, rfl, rfl, rfl, ⟨rfl, w⟩, trivial⟩
    exact RetIs.b rfl
end Go.Proofs.Ytklmfkejgjhneaa
