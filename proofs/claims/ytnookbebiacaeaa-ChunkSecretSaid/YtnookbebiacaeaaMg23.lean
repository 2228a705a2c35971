/-
  Several texts in one: Cky, Ckr, Ckt, Ckx.
-/
import Derived.Shelf.SlMaps.Clone
import Derived.Test.YtnookbebiacaeaaMg22

section
namespace Go.Eng
open Go.RowKit
end Go.Eng
namespace Go.Proofs.Ytnookbebiacaeaa
open Go.Eng
def stC2 (st : St) : List AV := [.mo 15, .mo 16, .i .i64 (st.nx 0), .mo 17, .i .i64 (st.nx 1), .mo 18, .i .i64 (st.nx 2), .mo 19, .i .i64 (st.nx 3), .mo 20, .i .i64 (st.nx 4), .mo 21, .i .i64 (st.nx 5), .mo 22, .i .i64 (st.nx 6), .mo 23, .i .i64 (st.nx 7), .mo 24, .i .i64 (st.nx 8), .mo 25, .i .i64 (st.nx 9), .mo 26, .i .i64 (st.nx 10), .mo 27, .i .i64 (st.nx 11)]
end Go.Proofs.Ytnookbebiacaeaa
end

section
namespace Go.Proofs.Ytnookbebiacaeaa
open Go.Eng Go.RowKit
theorem CtrM.unitB {P : Program} {f : FuncId} {ins : List AO} {args : List AV} {Y : Type} {spec : Y → Prop} {outs : Y → List AO} {r : AV} (y : Y) (hy : spec y) {o : List AO} (ho : outs y = o)
  (h : CtrM P f true ins args (fun _ : Unit => True) (fun _ => o) (fun _ => []) (fun _ => r)) : CtrM P f true ins args spec outs (fun _ => []) (fun _ => r) := by
 subst ho
 refine ⟨h.1, fun F w β vs h1 h2 h3 h4 h5 h6 h7 => (h.2 F w β vs h1 h2 h3 h4 h5 h6 h7).mono ?_⟩
 rintro e w' ⟨v, β', _, h8, _, h9⟩
 exact ⟨v, β', y, h8, hy, h9⟩
theorem put_o (st : St) (B : Bn) (t : Int) (x : ByteArray) (m : Nat) (hS : SOk st m) (hm : m ≤ 200) (hB : BOk st B) (hx : x.size ≤ 200) (F : St × Dn) (hF : F = sDo st ⟨0, t, 0, x⟩) :
  CtrM Try.prog 69 true (storeO st B) [.p 0 0, .i .i64 t, .s x] (fun B' : Bn => BOk F.1 B') (fun B' => storeO F.1 B') (fun _ => []) (fun _ => .tup [.i .i64 F.2.1, .i .i64 F.2.2.2]) := by
 unfold sDo at hF
 dsimp only at hF
 by_cases hr : 0 ≤ t ∧ t < 12
 ·rw [if_pos hr, if_pos rfl] at hF
  have hT := hS.t t.toNat (by omega)
  have ett : ((t.toNat : Nat) : Int) = t := by omega
  unfold sPut at hF
  cases hfd : (st.fs t.toNat).find? (fun p => bytesEq p.2 x) with
  | some p =>
   rw [hfd] at hF
   dsimp only at hF
   subst hF
   obtain ⟨i, h1, h2, h3, h4⟩ := find_at hfd
   have c := put_same st B t.toNat m x (by omega) hm hT hx i h1 (by rw [h2]; exact h3) h4
   rw [ett, h2] at c
   exact CtrM.unitB B hB rfl c
  | none =>
   rw [hfd] at hF
   dsimp only at hF
   subst hF
   have c := put_new st B t.toNat m x (by omega) hm hT hx hB hS.u (find_no hfd)
   rw [ett] at c
   exact c
 ·rw [if_neg hr, if_pos rfl] at hF
  subst hF
  exact CtrM.unitB B hB rfl (put_none st B t x hr)
def sA : ByteArray := ⟨#[97]⟩
def sB : ByteArray := ⟨#[98]⟩
def sX : ByteArray := ⟨#[120]⟩
def smL : List Opn := [⟨0, 0, 0, sA⟩, ⟨0, 0, 0, sB⟩, ⟨0, 0, 0, sA⟩, ⟨0, 1, 0, sB⟩, ⟨2, 0, 1, noB⟩, ⟨0, 0, 0, sB⟩, ⟨0, 12, 0, sX⟩]
theorem smK : (keptL [sA, sB, sB]).length = 2 := by kernel_rfl
end Go.Proofs.Ytnookbebiacaeaa
end

section
namespace Go.Proofs.Ytnookbebiacaeaa
open Go.Eng Go.RowKit
theorem smZ : ∀ o ∈ smL, o.x.size ≤ 200 := by
 intro o ho
 simp only [smL, List.mem_cons, List.not_mem_nil, or_false] at ho
 rcases ho with rfl | rfl | rfl | rfl | rfl | rfl | rfl <;> decide
theorem smRel (k : Nat) (h : k ≤ 7) : Rel (tri smL k).1 (tri smL k).2.1 (tri smL k).2.2 k := tri_rel smZ k h
theorem smSt (k : Nat) (h : k < 7) (d : Dn) (hd : (rDo (tri smL k).2.1 (tri smL k).2.2 (smL.getD k dOp)).2 = d) : ((tri smL (k + 1)).1, d) = sDo (tri smL k).1 (smL.getD k dOp) := by
 have := ((smRel k (by omega)).step (smL.getD k dOp) (smZ _ (getD_memD dOp h))).1
 rw [hd] at this
 exact Prod.ext rfl this.symm
theorem smPut (k : Nat) (h : k < 7) (t : Int) (x : ByteArray) (ho : smL.getD k dOp = ⟨0, t, 0, x⟩) (d : Dn) (hd : (rDo (tri smL k).2.1 (tri smL k).2.2 (smL.getD k dOp)).2 = d) (hx : x.size ≤ 200) (B : Bn) (hB : BOk (tri smL k).1 B) :
  CtrM Try.prog 69 true (storeO (tri smL k).1 B) [.p 0 0, .i .i64 t, .s x] (fun B' : Bn => BOk (tri smL (k + 1)).1 B') (fun B' => storeO (tri smL (k + 1)).1 B') (fun _ => []) (fun _ => .tup [.i .i64 d.1, .i .i64 d.2.2]) :=
 put_o (tri smL k).1 B t x k ((smRel k (by omega)).sok (by omega)) (by omega) hB hx ((tri smL (k + 1)).1, d) (by rw [← ho]; exact smSt k h d hd)
theorem smUsed (k : Nat) (h : k ≤ 7) (t : Int) (n : Nat) (hn : rUsed (tri smL k).2.1 t = n) (B : Bn) (hB : BOk (tri smL k).1 B) :
  CtrM Try.prog 59 true (storeO (tri smL k).1 B) [.p 0 0, .i .i64 t] (fun _ : Unit => True) (fun _ => storeO (tri smL k).1 B) (fun _ => []) (fun _ => .i .i64 (n : Int)) := by
 have c := used_any (tri smL k).1 B t k (by omega) ((smRel k h).sok (by omega)) hB
 rw [rel_used (smRel k h), hn] at c
 exact c
theorem smChunks (k : Nat) (h : k ≤ 7) (n : Nat) (hn : (keptL (rTxt (tri smL k).2.1)).length = n) (B : Bn) :
  CtrM Try.prog 61 true (storeO (tri smL k).1 B) [.p 0 0] (fun _ : Unit => True) (fun _ => storeO (tri smL k).1 B) (fun _ => []) (fun _ => .i .i64 (n : Int)) := by
 have c := chunks_fn (tri smL k).1 B
 rw [rel_len (smRel k h), hn] at c
 exact c
theorem smGet (k : Nat) (h : k ≤ 7) (t : Nat) (ht : t < 12) (n : Int) (y : Option ByteArray) (hy : rGet (tri smL k).2.1 t n = y) (B : Bn) :
  CtrM Try.prog 66 true (storeO (tri smL k).1 B) [.p 0 0, .i .i64 t, .i .i64 n] (fun _ : Unit => True) (fun _ => storeO (tri smL k).1 B) (fun _ => []) (fun _ => getR y) := by
 have hR := smRel k h
 have c := get_fn (tri smL k).1 B t n ht (fun p hp => Nat.le_trans ((hR.ok t ht).sz p hp) (by decide))
 rw [hR.fs t ht, vw_get, hy] at c
 exact c
theorem smDrop (B : Bn) (hB : BOk (tri smL 4).1 B) : CtrM Try.prog 68 true (storeO (tri smL 4).1 B) [.p 0 0, .i .i64 (0 : Nat), .i .i64 1] (fun B' : Bn => BOk (tri smL 5).1 B') (fun B' => storeO (tri smL 5).1 B') (fun _ => []) (fun _ => .i .i64 0) := by
 have hR := smRel 4 (by decide)
 have hg : mget ((tri smL 4).1.fs 0) 1 = some sB := by
  rw [hR.fs 0 (by decide), vw_get]
  kernel_rfl
 have e : (tri smL 5).1 = dropS (tri smL 4).1 0 1 sB := by
  show (sDo (tri smL 4).1 ⟨2, 0, 1, noB⟩).1 = _
  unfold sDo
  dsimp only
  rw [if_pos (by decide), if_neg (by decide), if_neg (by decide), if_pos rfl]
  unfold sDrop
  rw [show ((0 : Int).toNat) = 0 from rfl, hg]
 rw [e]
 exact drop_fn (tri smL 4).1 B 0 1 sB (by decide) hg (by decide) hB (hR.ub (by decide))
theorem smNames (B : Bn) : CtrM Try.prog 64 true (storeO (tri smL 7).1 B) [.p 0 0, .i .i64 (0 : Nat)] (fun _ : Unit => True) (fun _ => storeO (tri smL 7).1 B) (fun _ => [.row 3 1 2 (rI [0, 2])]) (fun _ => .so 14) := by
 have hR := smRel 7 (by decide)
 have hT := hR.ok 0 (by decide)
 have c := names_fn (tri smL 7).1 B 0 (by decide) (hT.wf (by decide)) (by have := hT.len; omega)
 have hn := rel_names hR (t := 0) (by decide)
 have hr : rNames (tri smL 7).2.1 ((0 : Nat) : Int) = [0, 2] := by kernel_rfl
 have hl : ((tri smL 7).1.fs 0).length = 2 := by
  have e := congrArg List.length (hn.trans hr)
  rw [sortI_length] at e
  simpa [mkeys] using e
 rw [hn, hr, hl] at c
 exact c
set_option maxRecDepth 20000 in
set_option maxHeartbeats 16000000 in
theorem small53_fn : Ctr Try.prog 53 [] [] (.b true) := by
 refine fn_of_exec tabOk Try.func53 (by kernel_rfl) rfl (N := Try.f53.ntmps) rfl (res := [.tmp 0]) rfl rfl [] ?_
 refine Or.inr (Or.inr ?_)
 refine ⟨true, [], rfl, Unit, _, _, _, _, new55_fn, fun _ _ => ?_⟩
 repeat refine Or.inl ?_
 refine ⟨fun hc => (by cases hc), fun _ => ?_⟩
 refine Or.inr (Or.inr ?_)
 refine ⟨true, [0, 1, 2, 3, 4, 5, 6, 7, 8, 9, 10, 11, 12, 13], rfl, Bn, _, _, _, _, smPut 0 (by decide) 0 sA rfl (0, noB, 0) (by kernel_rfl) (by decide) b0 b0_ok, fun B1 h1 => ?_⟩
 refine Or.inr (Or.inr ?_)
 refine ⟨true, [0, 1, 2, 3, 4, 5, 6, 7, 8, 9, 10, 11, 12, 13], rfl, Bn, _, _, _, _, smPut 1 (by decide) 0 sB rfl (1, noB, 0) (by kernel_rfl) (by decide) B1 h1, fun B2 h2 => ?_⟩
 refine Or.inr (Or.inr ?_)
 refine ⟨true, [0, 1, 2, 3, 4, 5, 6, 7, 8, 9, 10, 11, 12, 13], rfl, Bn, _, _, _, _, smPut 2 (by decide) 0 sA rfl (0, noB, 0) (by kernel_rfl) (by decide) B2 h2, fun B3 h3 => ?_⟩
 refine Or.inr (Or.inr ?_)
 refine ⟨true, [0, 1, 2, 3, 4, 5, 6, 7, 8, 9, 10, 11, 12, 13], rfl, Bn, _, _, _, _, smPut 3 (by decide) 1 sB rfl (0, noB, 0) (by kernel_rfl) (by decide) B3 h3, fun B4 h4 => ?_⟩
 refine Or.inr (Or.inl ⟨⟨⟨rfl, rfl⟩, trivial⟩, ?_⟩)
 refine Or.inr (Or.inr ?_)
 refine ⟨true, [0, 1, 2, 3, 4, 5, 6, 7, 8, 9, 10, 11, 12, 13], rfl, Unit, _, _, _, _, smChunks 4 (by decide) 2 (by kernel_rfl) B4, fun _ _ => ?_⟩
 refine Or.inr (Or.inl ⟨⟨⟨rfl, rfl⟩, trivial⟩, ?_⟩)
 refine Or.inr (Or.inr ?_)
 refine ⟨true, [0, 1, 2, 3, 4, 5, 6, 7, 8, 9, 10, 11, 12, 13], rfl, Unit, _, _, _, _, smUsed 4 (by decide) 0 2 (by kernel_rfl) B4 h4, fun _ _ => ?_⟩
 refine Or.inr (Or.inl ⟨⟨⟨rfl, rfl⟩, trivial⟩, ?_⟩)
 refine Or.inr (Or.inr ?_)
 refine ⟨true, [0, 1, 2, 3, 4, 5, 6, 7, 8, 9, 10, 11, 12, 13], rfl, Unit, _, _, _, _, smUsed 4 (by decide) 1 1 (by kernel_rfl) B4 h4, fun _ _ => ?_⟩
 refine Or.inr (Or.inr ?_)
 refine ⟨true, [0, 1, 2, 3, 4, 5, 6, 7, 8, 9, 10, 11, 12, 13], rfl, Bn, _, _, _, _, smDrop B4 h4, fun B5 h5 => ?_⟩
 refine Or.inr (Or.inr ?_)
 refine ⟨true, [0, 1, 2, 3, 4, 5, 6, 7, 8, 9, 10, 11, 12, 13], rfl, Unit, _, _, _, _, smGet 5 (by decide) 0 (by decide) 1 none (by kernel_rfl) B5, fun _ _ => ?_⟩
 refine Or.inr (Or.inr ?_)
 refine ⟨true, [0, 1, 2, 3, 4, 5, 6, 7, 8, 9, 10, 11, 12, 13], rfl, Unit, _, _, _, _, smGet 5 (by decide) 1 (by decide) 0 (some sB) (by kernel_rfl) B5, fun _ _ => ?_⟩
 refine Or.inr (Or.inl ⟨⟨⟨rfl, by kernel_rfl⟩, trivial⟩, ?_⟩)
 refine Or.inr (Or.inr ?_)
 refine ⟨true, [0, 1, 2, 3, 4, 5, 6, 7, 8, 9, 10, 11, 12, 13], rfl, Unit, _, _, _, _, smChunks 5 (by decide) 2 (by kernel_rfl) B5, fun _ _ => ?_⟩
 refine Or.inr (Or.inr ?_)
 refine ⟨true, [0, 1, 2, 3, 4, 5, 6, 7, 8, 9, 10, 11, 12, 13], rfl, Bn, _, _, _, _, smPut 5 (by decide) 0 sB rfl (2, noB, 0) (by kernel_rfl) (by decide) B5 h5, fun B6 h6 => ?_⟩
 refine Or.inr (Or.inr ?_)
 refine ⟨true, [0, 1, 2, 3, 4, 5, 6, 7, 8, 9, 10, 11, 12, 13], rfl, Bn, _, _, _, _, smPut 6 (by decide) 12 sX rfl (0, noB, 1) (by kernel_rfl) (by decide) B6 h6, fun B7 h7 => ?_⟩
 refine Or.inr (Or.inl ⟨⟨⟨rfl, by kernel_rfl⟩, trivial⟩, ?_⟩)
 refine Or.inr (Or.inr ?_)
 refine ⟨true, [0, 1, 2, 3, 4, 5, 6, 7, 8, 9, 10, 11, 12, 13], rfl, Unit, _, _, _, _, smNames B7, fun _ _ => ?_⟩
 have c63 : Ctr Try.prog 63 [.rs 1 2 (rI [0, 2]), .rs 1 2 (rowOf 1 [.i .i64 0, .i .i64 2])] [] (.b true) := by
  have := ints_fn [0, 2] [0, 2] (by decide) (by decide)
  rw [decide_eq_true rfl] at this
  refine Ctr.of_eq (args := [.rs 1 2 (rI [0, 2]), .rs 1 2 (rI [0, 2])]) ⟨AVEq.refl _, rfl, rfl, fun k hk => ?_⟩ this
  match k, hk with
  | 0, _ => rfl
  | 1, _ => rfl
 refine Or.inl (Or.inl ⟨_, _, ⟨fun _ => c63, ?_⟩⟩)
 exact RetIs.b (by kernel_rfl)
end Go.Proofs.Ytnookbebiacaeaa
end

section
namespace Go.Proofs.Ytnookbebiacaeaa
open Go.Eng Go.RowKit
set_option maxRecDepth 20000 in
set_option maxHeartbeats 32000000 in
theorem chunkSecret_in (l : List Opn) (hl : l.length < 2 ^ 63) (t : Nat) (ht : t < 12) : Ctr Try.prog 13 [.rs 4 l.length (rOp l), .i .i64 t] [] (.b true) := by
 refine fn_of_exec tabOk Try.func13 (by kernel_rfl) rfl (N := Try.f13.ntmps) rfl (res := [.tmp 4]) rfl rfl [(2000012, [.frz 0 [28]])] ?_
 repeat refine Or.inl ?_
 refine ⟨_, _, small53_fn, ?_⟩
 repeat refine Or.inl ?_
 refine ⟨_, _, few_fn l 50 hl, ?_⟩
 refine ⟨fun _ => RetIs.b rfl, fun hf => ?_⟩
 have hf : (!fewL l 50) = false := hf
 rw [Bool.not_eq_false'] at hf
 unfold fewL at hf
 rw [Bool.and_eq_true, decide_eq_true_eq, List.all_eq_true] at hf
 obtain ⟨hl50, hz⟩ := hf
 have hz : ∀ o ∈ l, o.x.size ≤ 200 := fun o ho => by simpa using hz o ho
 refine Or.inr (Or.inr ?_)
 refine ⟨true, [], rfl, Unit, _, _, _, _, new55_fn, fun _ _ => ?_⟩
 refine Or.inr (Or.inr ?_)
 refine ⟨true, [], rfl, Unit, _, _, _, _, new55_fn, fun _ _ => ?_⟩
 repeat refine Or.inl ?_
 refine ⟨fun hc => (by cases hc), fun _ => ?_⟩
 repeat refine Or.inl ?_
 refine ⟨[], Nat × (Bn × (St × (Bn × St))), fun p => p.1 ≤ l.length ∧ BOk p.2.2.1 p.2.1 ∧ BOk p.2.2.2.2 p.2.2.2.1 ∧ SameT p.2.2.1 p.2.2.2.2 t ∧ Good p.2.2.1 p.1 ∧ Good p.2.2.2.2 p.1, fun p => [⟨8, [], .i .i64 p.1⟩], fun p => [⟨0, [], .cells 151 (stC p.2.2.1)⟩, ⟨1, [], usO p.2.2.1 p.2.1⟩, ⟨2, [], filO p.2.2.1 p.2.1 0⟩, ⟨3, [], filO p.2.2.1 p.2.1 1⟩, ⟨4, [], filO p.2.2.1 p.2.1 2⟩, ⟨5, [], filO p.2.2.1 p.2.1 3⟩, ⟨6, [], filO p.2.2.1 p.2.1 4⟩, ⟨7, [], filO p.2.2.1 p.2.1 5⟩, ⟨8, [], filO p.2.2.1 p.2.1 6⟩, ⟨9, [], filO p.2.2.1 p.2.1 7⟩, ⟨10, [], filO p.2.2.1 p.2.1 8⟩, ⟨11, [], filO p.2.2.1 p.2.1 9⟩, ⟨12, [], filO p.2.2.1 p.2.1 10⟩, ⟨13, [], filO p.2.2.1 p.2.1 11⟩, ⟨14, [], .cells 151 (stC2 p.2.2.2.2)⟩, ⟨15, [], usO p.2.2.2.2 p.2.2.2.1⟩, ⟨16, [], filO p.2.2.2.2 p.2.2.2.1 0⟩, ⟨17, [], filO p.2.2.2.2 p.2.2.2.1 1⟩, ⟨18, [], filO p.2.2.2.2 p.2.2.2.1 2⟩, ⟨19, [], filO p.2.2.2.2 p.2.2.2.1 3⟩, ⟨20, [], filO p.2.2.2.2 p.2.2.2.1 4⟩, ⟨21, [], filO p.2.2.2.2 p.2.2.2.1 5⟩, ⟨22, [], filO p.2.2.2.2 p.2.2.2.1 6⟩, ⟨23, [], filO p.2.2.2.2 p.2.2.2.1 7⟩, ⟨24, [], filO p.2.2.2.2 p.2.2.2.1 8⟩, ⟨25, [], filO p.2.2.2.2 p.2.2.2.1 9⟩, ⟨26, [], filO p.2.2.2.2 p.2.2.2.1 10⟩, ⟨27, [], filO p.2.2.2.2 p.2.2.2.1 11⟩], fun p => l.length - p.1,
  ⟨(0, b0, st0, b0, st0), [], ⟨Nat.zero_le _, b0_ok, b0_ok, SameT.refl _ _, Good.start, Good.start⟩, rfl, rfl, rfl, rfl, rfl, ⟨rfl, rfl⟩, ?_⟩, ?_⟩
 ·have ao : AOEq (filO st0 b0 11) (filO st0 b0 11) := AOEq.refl _
  exact ⟨⟨rfl, AVsEq.refl _⟩, AOEq.refl _, AOEq.refl _, AOEq.refl _, AOEq.refl _, AOEq.refl _, AOEq.refl _, AOEq.refl _, AOEq.refl _, AOEq.refl _, AOEq.refl _, AOEq.refl _, AOEq.refl _, AOEq.refl _, ⟨rfl, AVsEq.refl _⟩, AOEq.refl _, AOEq.refl _, AOEq.refl _, AOEq.refl _, AOEq.refl _, AOEq.refl _, AOEq.refl _, AOEq.refl _, AOEq.refl _, AOEq.refl _, AOEq.refl _, AOEq.refl _, ao⟩
 rintro ⟨k, B, s, B', s'⟩ ⟨hk, hB, hB', hsame, hgs, hgs'⟩
 have hk : k ≤ l.length := hk
 have hB : BOk s B := hB
 have hB' : BOk s' B' := hB'
 have hsame : SameT s s' t := hsame
 have hgs : Good s k := hgs
 have hgs' : Good s' k := hgs'
 refine .inl ⟨fun hc => ?_, fun _ => RetIs.b rfl⟩
 have hc := dlt hc
 have hc : (k : Int) < l.length := hc
 have ek : ((k : Nat) : Int).toNat = k := Int.toNat_natCast k
 have hxk := hz _ (getD_memD dOp (show k < l.length by omega))
 have hsok := hgs.sok (by omega)
 have hsok' := hgs'.sok (by omega)
 have hg2 := hgs.step (l.getD k dOp) hxk
 have hg2' := hgs'.step (l.getD k dOp) hxk
 obtain ⟨F, hF⟩ : ∃ F, F = sDo s (l.getD ((k : Nat) : Int).toNat dOp) := ⟨_, rfl⟩
 obtain ⟨D, hD⟩ : ∃ D, D = sDo s' (l.getD ((k : Nat) : Int).toNat dOp) := ⟨_, rfl⟩
 rw [ek] at hF hD
 rw [← hF] at hg2
 rw [← hD] at hg2'
 have hsok2 := hg2.sok (by omega)
 have c57 := do_fn s B (l.getD k dOp) k hsok (by omega) hB hxk F hF
 have c57' := do_fn s' B' (l.getD k dOp) k hsok' (by omega) hB' hxk D hD
 rw [← ek] at c57 c57'
 repeat refine Or.inl ?_
 refine ⟨⟨by omega, by omega⟩, ?_⟩
 refine Or.inr (Or.inr ?_)
 refine ⟨true, [0, 1, 2, 3, 4, 5, 6, 7, 8, 9, 10, 11, 12, 13], rfl, Bn, _, _, _, _, c57, fun B2 hB2 => ?_⟩
 repeat refine Or.inl ?_
 refine ⟨rfl, [(0, true), (1, true), (2, true), (5, true), (3, true), (4, true), (6, true), (7, true), (8, true), (9, true), (10, true), (14, true), (11, false), (12, false), (13, false), (15, false), (16, false)], [0, 0, 3, 7, 15, 0, 63, 127, 255, 255, 255, 1791, 3839, 8191, 255, 32767, 65535], by decide, ?_⟩
 refine ⟨⟨by omega, by omega⟩, ?_⟩
 by_cases ht2 : (l.getD k dOp).t = t
 ·have hsm : SameT s s' (l.getD k dOp).t := by rw [ht2]; exact hsame
  obtain ⟨hans, hnext⟩ := sDo_same _ hsm
  rw [← hF, ← hD] at hans
  rw [← hF, ← hD, ht2] at hnext
  have q1 : ((l.getD ((k : Nat) : Int).toNat dOp).t == (t : Int)) = true := by rw [ek]; simpa using ht2
  refine ⟨fun _ => ⟨by omega, by omega⟩, ?_⟩
  refine Or.inr (Or.inl ⟨⟨⟨rfl, q1⟩, trivial⟩, ?_⟩)
  refine Or.inr (Or.inr ?_)
  refine ⟨true, [14, 15, 16, 17, 18, 19, 20, 21, 22, 23, 24, 25, 26, 27], rfl, Bn, _, _, _, _, c57', fun B3 hB3 => ?_⟩
  refine ⟨fun h => ?_, fun _ => ?_⟩
  ·have h : (((l.getD ((k : Nat) : Int).toNat dOp).t == (t : Int)) && !eqAVs (dnA D.2) (dnA F.2)) = true := h
   rw [hans, dn_eq] at h
   simp at h
  have hsk := (hg2').sok (show k + 1 ≤ 200 by omega)
  have hus := used_same hnext
  have q2 : (usedV F.1 t != usedV D.1 t) = false := by rw [hus]; simp
  refine Or.inr (Or.inr ?_)
  refine ⟨true, [0, 1, 2, 3, 4, 5, 6, 7, 8, 9, 10, 11, 12, 13], rfl, Unit, _, _, _, _, used_any F.1 B2 t (k + 1) (by omega) hsok2 hB2, fun _ _ => ?_⟩
  refine Or.inr (Or.inr ?_)
  refine ⟨true, [14, 15, 16, 17, 18, 19, 20, 21, 22, 23, 24, 25, 26, 27], rfl, Unit, _, _, _, _, used_any D.1 B3 t (k + 1) (by omega) hsk hB3, fun _ _ => ?_⟩
  refine Or.inr (Or.inl ⟨⟨⟨rfl, q2⟩, trivial⟩, ?_⟩)
  refine Or.inr (Or.inr ?_)
  refine ⟨true, [0, 1, 2, 3, 4, 5, 6, 7, 8, 9, 10, 11, 12, 13], rfl, Unit, _, _, _, _, names_fn F.1 B2 t ht ((hsok2.t t ht).wf (by omega)) (by have := (hsok2.t t ht).len; omega), fun _ _ => ?_⟩
  refine Or.inr (Or.inl ⟨⟨⟨rfl, q2⟩, trivial⟩, ?_⟩)
  refine Or.inr (Or.inr ?_)
  refine ⟨true, [14, 15, 16, 17, 18, 19, 20, 21, 22, 23, 24, 25, 26, 27], rfl, Unit, _, _, _, _, names_fn D.1 B3 t ht ((hsk.t t ht).wf (by omega)) (by have := (hsk.t t ht).len; omega), fun _ _ => ?_⟩
  refine Or.inr (Or.inl ⟨⟨⟨rfl, q2⟩, trivial⟩, ?_⟩)
  have hfs : F.1.fs t = (D.1).fs t := (hnext t rfl).1
  have hlm := (hsok2.t t ht).len
  have c63 : Ctr Try.prog 63 [.rs 1 (F.1.fs t).length (rI (sortI (mkeys (F.1.fs t)))), .rs 1 ((D.1).fs t).length (rI (sortI (mkeys ((D.1).fs t))))] [] (.b true) := by
   rw [← hfs]
   have := ints_fn (sortI (mkeys (F.1.fs t))) (sortI (mkeys (F.1.fs t))) (by rw [sortI_length]; simp [mkeys]; omega) (by rw [sortI_length]; simp [mkeys]; omega)
   rw [decide_eq_true rfl, sortI_length] at this
   simpa [mkeys] using this
  refine Or.inl ⟨_, _, c63, ?_⟩
  refine ⟨fun h => ?_, fun _ => ?_⟩
  ·have h : ((usedV F.1 t != usedV D.1 t) || !true) = true := h
   rw [q2] at h
   cases h
  have ao : AOEq (filO D.1 B3 11) (filO D.1 B3 11) := AOEq.refl _
  refine ⟨(k + 1, B2, F.1, B3, D.1), [], ⟨(by show k + 1 ≤ l.length; omega), hB2, hB3, hnext, hg2, hg2'⟩, by dsimp only; omega, rfl, rfl, rfl, rfl, rfl, ⟨rfl, wr (by omega) (by omega)⟩, ⟨⟨rfl, AVsEq.refl _⟩, AOEq.refl _, AOEq.refl _, AOEq.refl _, AOEq.refl _, AOEq.refl _, AOEq.refl _, AOEq.refl _, AOEq.refl _, AOEq.refl _, AOEq.refl _, AOEq.refl _, AOEq.refl _, AOEq.refl _, ⟨rfl, AVsEq.refl _⟩, AOEq.refl _, AOEq.refl _, AOEq.refl _, AOEq.refl _, AOEq.refl _, AOEq.refl _, AOEq.refl _, AOEq.refl _, AOEq.refl _, AOEq.refl _, AOEq.refl _, AOEq.refl _, ao⟩⟩
 ·have q1 : ((l.getD ((k : Nat) : Int).toNat dOp).t == (t : Int)) = false := by rw [ek]; simpa using ht2
  refine ⟨fun hg => (by rw [show ((l.getD ((k : Nat) : Int).toNat dOp).t == (t : Int)) = true from hg.1] at q1; cases q1), ?_⟩
  refine Or.inl (Or.inl ⟨[], .ag (dnA F.2), fun hg => (by rw [show ((l.getD ((k : Nat) : Int).toNat dOp).t == (t : Int)) = true from hg.1] at q1; cases q1), ?_⟩)
  have hnext : SameT F.1 s' t := by rw [hF]; exact sDo_other _ ht2 hsame
  have hgm := hgs'.more
  refine ⟨fun h => ?_, fun _ => ?_⟩
  ·have h : (((l.getD ((k : Nat) : Int).toNat dOp).t == (t : Int)) && !eqAVs (dnA F.2) (dnA F.2)) = true := h
   rw [q1] at h
   cases h
  have hsk := (hgm).sok (show k + 1 ≤ 200 by omega)
  have hus := used_same hnext
  have q2 : (usedV F.1 t != usedV s' t) = false := by rw [hus]; simp
  refine Or.inr (Or.inr ?_)
  refine ⟨true, [0, 1, 2, 3, 4, 5, 6, 7, 8, 9, 10, 11, 12, 13], rfl, Unit, _, _, _, _, used_any F.1 B2 t (k + 1) (by omega) hsok2 hB2, fun _ _ => ?_⟩
  refine Or.inr (Or.inr ?_)
  refine ⟨true, [14, 15, 16, 17, 18, 19, 20, 21, 22, 23, 24, 25, 26, 27], rfl, Unit, _, _, _, _, used_any s' B' t (k + 1) (by omega) hsk hB', fun _ _ => ?_⟩
  refine Or.inr (Or.inl ⟨⟨⟨rfl, q2⟩, trivial⟩, ?_⟩)
  refine Or.inr (Or.inr ?_)
  refine ⟨true, [0, 1, 2, 3, 4, 5, 6, 7, 8, 9, 10, 11, 12, 13], rfl, Unit, _, _, _, _, names_fn F.1 B2 t ht ((hsok2.t t ht).wf (by omega)) (by have := (hsok2.t t ht).len; omega), fun _ _ => ?_⟩
  refine Or.inr (Or.inl ⟨⟨⟨rfl, q2⟩, trivial⟩, ?_⟩)
  refine Or.inr (Or.inr ?_)
  refine ⟨true, [14, 15, 16, 17, 18, 19, 20, 21, 22, 23, 24, 25, 26, 27], rfl, Unit, _, _, _, _, names_fn s' B' t ht ((hsk.t t ht).wf (by omega)) (by have := (hsk.t t ht).len; omega), fun _ _ => ?_⟩
  refine Or.inr (Or.inl ⟨⟨⟨rfl, q2⟩, trivial⟩, ?_⟩)
  have hfs : F.1.fs t = (s').fs t := (hnext t rfl).1
  have hlm := (hsok2.t t ht).len
  have c63 : Ctr Try.prog 63 [.rs 1 (F.1.fs t).length (rI (sortI (mkeys (F.1.fs t)))), .rs 1 ((s').fs t).length (rI (sortI (mkeys ((s').fs t))))] [] (.b true) := by
   rw [← hfs]
   have := ints_fn (sortI (mkeys (F.1.fs t))) (sortI (mkeys (F.1.fs t))) (by rw [sortI_length]; simp [mkeys]; omega) (by rw [sortI_length]; simp [mkeys]; omega)
   rw [decide_eq_true rfl, sortI_length] at this
   simpa [mkeys] using this
  refine Or.inl ⟨_, _, c63, ?_⟩
  refine ⟨fun h => ?_, fun _ => ?_⟩
  ·have h : ((usedV F.1 t != usedV s' t) || !true) = true := h
   rw [q2] at h
   cases h
  have ao : AOEq (filO s' B' 11) (filO s' B' 11) := AOEq.refl _
  refine ⟨(k + 1, B2, F.1, B', s'), [], ⟨(by show k + 1 ≤ l.length; omega), hB2, hB', hnext, hg2, hgm⟩, by dsimp only; omega, rfl, rfl, rfl, rfl, rfl, ⟨rfl, wr (by omega) (by omega)⟩, ⟨⟨rfl, AVsEq.refl _⟩, AOEq.refl _, AOEq.refl _, AOEq.refl _, AOEq.refl _, AOEq.refl _, AOEq.refl _, AOEq.refl _, AOEq.refl _, AOEq.refl _, AOEq.refl _, AOEq.refl _, AOEq.refl _, AOEq.refl _, ⟨rfl, AVsEq.refl _⟩, AOEq.refl _, AOEq.refl _, AOEq.refl _, AOEq.refl _, AOEq.refl _, AOEq.refl _, AOEq.refl _, AOEq.refl _, AOEq.refl _, AOEq.refl _, AOEq.refl _, AOEq.refl _, ao⟩⟩
set_option maxRecDepth 20000 in
set_option maxHeartbeats 32000000 in
theorem chunkSecret_out (l : List Opn) (hl : l.length < 2 ^ 63) (t : Int) (ht : ¬ (0 ≤ t ∧ t < 12)) : Ctr Try.prog 13 [.rs 4 l.length (rOp l), .i .i64 t] [] (.b true) := by
 refine fn_of_exec tabOk Try.func13 (by kernel_rfl) rfl (N := Try.f13.ntmps) rfl (res := [.tmp 4]) rfl rfl [(2000012, [.frz 0 [28]])] ?_
 repeat refine Or.inl ?_
 refine ⟨_, _, small53_fn, ?_⟩
 repeat refine Or.inl ?_
 refine ⟨_, _, few_fn l 50 hl, ?_⟩
 refine ⟨fun _ => RetIs.b rfl, fun hf => ?_⟩
 have hf : (!fewL l 50) = false := hf
 rw [Bool.not_eq_false'] at hf
 unfold fewL at hf
 rw [Bool.and_eq_true, decide_eq_true_eq, List.all_eq_true] at hf
 obtain ⟨hl50, hz⟩ := hf
 have hz : ∀ o ∈ l, o.x.size ≤ 200 := fun o ho => by simpa using hz o ho
 refine Or.inr (Or.inr ?_)
 refine ⟨true, [], rfl, Unit, _, _, _, _, new55_fn, fun _ _ => ?_⟩
 refine Or.inr (Or.inr ?_)
 refine ⟨true, [], rfl, Unit, _, _, _, _, new55_fn, fun _ _ => ?_⟩
 repeat refine Or.inl ?_
 refine ⟨fun hc => (by cases hc), fun _ => ?_⟩
 repeat refine Or.inl ?_
 refine ⟨[], Nat × (Bn × (St × (Bn × St))), fun p => p.1 ≤ l.length ∧ BOk p.2.2.1 p.2.1 ∧ BOk p.2.2.2.2 p.2.2.2.1 ∧ SameT p.2.2.1 p.2.2.2.2 t ∧ Good p.2.2.1 p.1 ∧ Good p.2.2.2.2 p.1, fun p => [⟨8, [], .i .i64 p.1⟩], fun p => [⟨0, [], .cells 151 (stC p.2.2.1)⟩, ⟨1, [], usO p.2.2.1 p.2.1⟩, ⟨2, [], filO p.2.2.1 p.2.1 0⟩, ⟨3, [], filO p.2.2.1 p.2.1 1⟩, ⟨4, [], filO p.2.2.1 p.2.1 2⟩, ⟨5, [], filO p.2.2.1 p.2.1 3⟩, ⟨6, [], filO p.2.2.1 p.2.1 4⟩, ⟨7, [], filO p.2.2.1 p.2.1 5⟩, ⟨8, [], filO p.2.2.1 p.2.1 6⟩, ⟨9, [], filO p.2.2.1 p.2.1 7⟩, ⟨10, [], filO p.2.2.1 p.2.1 8⟩, ⟨11, [], filO p.2.2.1 p.2.1 9⟩, ⟨12, [], filO p.2.2.1 p.2.1 10⟩, ⟨13, [], filO p.2.2.1 p.2.1 11⟩, ⟨14, [], .cells 151 (stC2 p.2.2.2.2)⟩, ⟨15, [], usO p.2.2.2.2 p.2.2.2.1⟩, ⟨16, [], filO p.2.2.2.2 p.2.2.2.1 0⟩, ⟨17, [], filO p.2.2.2.2 p.2.2.2.1 1⟩, ⟨18, [], filO p.2.2.2.2 p.2.2.2.1 2⟩, ⟨19, [], filO p.2.2.2.2 p.2.2.2.1 3⟩, ⟨20, [], filO p.2.2.2.2 p.2.2.2.1 4⟩, ⟨21, [], filO p.2.2.2.2 p.2.2.2.1 5⟩, ⟨22, [], filO p.2.2.2.2 p.2.2.2.1 6⟩, ⟨23, [], filO p.2.2.2.2 p.2.2.2.1 7⟩, ⟨24, [], filO p.2.2.2.2 p.2.2.2.1 8⟩, ⟨25, [], filO p.2.2.2.2 p.2.2.2.1 9⟩, ⟨26, [], filO p.2.2.2.2 p.2.2.2.1 10⟩, ⟨27, [], filO p.2.2.2.2 p.2.2.2.1 11⟩], fun p => l.length - p.1,
  ⟨(0, b0, st0, b0, st0), [], ⟨Nat.zero_le _, b0_ok, b0_ok, SameT.refl _ _, Good.start, Good.start⟩, rfl, rfl, rfl, rfl, rfl, ⟨rfl, rfl⟩, ?_⟩, ?_⟩
 ·have ao : AOEq (filO st0 b0 11) (filO st0 b0 11) := AOEq.refl _
  exact ⟨⟨rfl, AVsEq.refl _⟩, AOEq.refl _, AOEq.refl _, AOEq.refl _, AOEq.refl _, AOEq.refl _, AOEq.refl _, AOEq.refl _, AOEq.refl _, AOEq.refl _, AOEq.refl _, AOEq.refl _, AOEq.refl _, AOEq.refl _, ⟨rfl, AVsEq.refl _⟩, AOEq.refl _, AOEq.refl _, AOEq.refl _, AOEq.refl _, AOEq.refl _, AOEq.refl _, AOEq.refl _, AOEq.refl _, AOEq.refl _, AOEq.refl _, AOEq.refl _, AOEq.refl _, ao⟩
 rintro ⟨k, B, s, B', s'⟩ ⟨hk, hB, hB', hsame, hgs, hgs'⟩
 have hk : k ≤ l.length := hk
 have hB : BOk s B := hB
 have hB' : BOk s' B' := hB'
 have hsame : SameT s s' t := hsame
 have hgs : Good s k := hgs
 have hgs' : Good s' k := hgs'
 refine .inl ⟨fun hc => ?_, fun _ => RetIs.b rfl⟩
 have hc := dlt hc
 have hc : (k : Int) < l.length := hc
 have ek : ((k : Nat) : Int).toNat = k := Int.toNat_natCast k
 have hxk := hz _ (getD_memD dOp (show k < l.length by omega))
 have hsok := hgs.sok (by omega)
 have hsok' := hgs'.sok (by omega)
 have hg2 := hgs.step (l.getD k dOp) hxk
 have hg2' := hgs'.step (l.getD k dOp) hxk
 obtain ⟨F, hF⟩ : ∃ F, F = sDo s (l.getD ((k : Nat) : Int).toNat dOp) := ⟨_, rfl⟩
 obtain ⟨D, hD⟩ : ∃ D, D = sDo s' (l.getD ((k : Nat) : Int).toNat dOp) := ⟨_, rfl⟩
 rw [ek] at hF hD
 rw [← hF] at hg2
 rw [← hD] at hg2'
 have hsok2 := hg2.sok (by omega)
 have c57 := do_fn s B (l.getD k dOp) k hsok (by omega) hB hxk F hF
 have c57' := do_fn s' B' (l.getD k dOp) k hsok' (by omega) hB' hxk D hD
 rw [← ek] at c57 c57'
 repeat refine Or.inl ?_
 refine ⟨⟨by omega, by omega⟩, ?_⟩
 refine Or.inr (Or.inr ?_)
 refine ⟨true, [0, 1, 2, 3, 4, 5, 6, 7, 8, 9, 10, 11, 12, 13], rfl, Bn, _, _, _, _, c57, fun B2 hB2 => ?_⟩
 repeat refine Or.inl ?_
 refine ⟨rfl, [(0, true), (1, true), (2, true), (5, true), (3, true), (4, true), (6, true), (7, true), (8, true), (9, true), (10, true), (14, true), (11, false), (12, false), (13, false), (15, false), (16, false)], [0, 0, 3, 7, 15, 0, 63, 127, 255, 255, 255, 1791, 3839, 8191, 255, 32767, 65535], by decide, ?_⟩
 refine ⟨⟨by omega, by omega⟩, ?_⟩
 by_cases ht2 : (l.getD k dOp).t = t
 ·have hsm : SameT s s' (l.getD k dOp).t := by rw [ht2]; exact hsame
  obtain ⟨hans, hnext⟩ := sDo_same _ hsm
  rw [← hF, ← hD] at hans
  rw [← hF, ← hD, ht2] at hnext
  have q1 : ((l.getD ((k : Nat) : Int).toNat dOp).t == (t : Int)) = true := by rw [ek]; simpa using ht2
  refine ⟨fun _ => ⟨by omega, by omega⟩, ?_⟩
  refine Or.inr (Or.inl ⟨⟨⟨rfl, q1⟩, trivial⟩, ?_⟩)
  refine Or.inr (Or.inr ?_)
  refine ⟨true, [14, 15, 16, 17, 18, 19, 20, 21, 22, 23, 24, 25, 26, 27], rfl, Bn, _, _, _, _, c57', fun B3 hB3 => ?_⟩
  refine ⟨fun h => ?_, fun _ => ?_⟩
  ·have h : (((l.getD ((k : Nat) : Int).toNat dOp).t == (t : Int)) && !eqAVs (dnA D.2) (dnA F.2)) = true := h
   rw [hans, dn_eq] at h
   simp at h
  have hsk := (hg2').sok (show k + 1 ≤ 200 by omega)
  have hus := used_same hnext
  have q2 : (usedV F.1 t != usedV D.1 t) = false := by rw [hus]; simp
  refine Or.inr (Or.inr ?_)
  refine ⟨true, [0, 1, 2, 3, 4, 5, 6, 7, 8, 9, 10, 11, 12, 13], rfl, Unit, _, _, _, _, used_any F.1 B2 t (k + 1) (by omega) hsok2 hB2, fun _ _ => ?_⟩
  refine Or.inr (Or.inr ?_)
  refine ⟨true, [14, 15, 16, 17, 18, 19, 20, 21, 22, 23, 24, 25, 26, 27], rfl, Unit, _, _, _, _, used_any D.1 B3 t (k + 1) (by omega) hsk hB3, fun _ _ => ?_⟩
  refine Or.inr (Or.inl ⟨⟨⟨rfl, q2⟩, trivial⟩, ?_⟩)
  refine Or.inr (Or.inr ?_)
  refine ⟨true, [0, 1, 2, 3, 4, 5, 6, 7, 8, 9, 10, 11, 12, 13], rfl, Unit, _, _, _, _, names_none F.1 B2 t ht, fun _ _ => ?_⟩
  refine Or.inr (Or.inl ⟨⟨⟨rfl, q2⟩, trivial⟩, ?_⟩)
  refine Or.inr (Or.inr ?_)
  refine ⟨true, [14, 15, 16, 17, 18, 19, 20, 21, 22, 23, 24, 25, 26, 27], rfl, Unit, _, _, _, _, names_none D.1 B3 t ht, fun _ _ => ?_⟩
  refine Or.inr (Or.inl ⟨⟨⟨rfl, q2⟩, trivial⟩, ?_⟩)
  have c63 : Ctr Try.prog 63 [.val (.slice none 0 0), .val (.slice none 0 0)] [] (.b true) := by
   have := ints_fn [] [] (by decide) (by decide)
   rw [decide_eq_true rfl] at this
   have hw : AVWs [.rs 1 ([] : List Int).length (rI []), .rs 1 ([] : List Int).length (rI [])] [.val (.slice none 0 0), .val (.slice none 0 0)] := ⟨AVW.nil 1 _, AVW.nil 1 _, trivial⟩
   exact Ctr.of_w hw this
  refine Or.inl ⟨_, _, c63, ?_⟩
  refine ⟨fun h => ?_, fun _ => ?_⟩
  ·have h : ((usedV F.1 t != usedV D.1 t) || !true) = true := h
   rw [q2] at h
   cases h
  have ao : AOEq (filO D.1 B3 11) (filO D.1 B3 11) := AOEq.refl _
  refine ⟨(k + 1, B2, F.1, B3, D.1), [], ⟨(by show k + 1 ≤ l.length; omega), hB2, hB3, hnext, hg2, hg2'⟩, by dsimp only; omega, rfl, rfl, rfl, rfl, rfl, ⟨rfl, wr (by omega) (by omega)⟩, ⟨⟨rfl, AVsEq.refl _⟩, AOEq.refl _, AOEq.refl _, AOEq.refl _, AOEq.refl _, AOEq.refl _, AOEq.refl _, AOEq.refl _, AOEq.refl _, AOEq.refl _, AOEq.refl _, AOEq.refl _, AOEq.refl _, AOEq.refl _, ⟨rfl, AVsEq.refl _⟩, AOEq.refl _, AOEq.refl _, AOEq.refl _, AOEq.refl _, AOEq.refl _, AOEq.refl _, AOEq.refl _, AOEq.refl _, AOEq.refl _, AOEq.refl _, AOEq.refl _, AOEq.refl _, ao⟩⟩
 ·have q1 : ((l.getD ((k : Nat) : Int).toNat dOp).t == (t : Int)) = false := by rw [ek]; simpa using ht2
  refine ⟨fun hg => (by rw [show ((l.getD ((k : Nat) : Int).toNat dOp).t == (t : Int)) = true from hg.1] at q1; cases q1), ?_⟩
  refine Or.inl (Or.inl ⟨[], .ag (dnA F.2), fun hg => (by rw [show ((l.getD ((k : Nat) : Int).toNat dOp).t == (t : Int)) = true from hg.1] at q1; cases q1), ?_⟩)
  have hnext : SameT F.1 s' t := by rw [hF]; exact sDo_other _ ht2 hsame
  have hgm := hgs'.more
  refine ⟨fun h => ?_, fun _ => ?_⟩
  ·have h : (((l.getD ((k : Nat) : Int).toNat dOp).t == (t : Int)) && !eqAVs (dnA F.2) (dnA F.2)) = true := h
   rw [q1] at h
   cases h
  have hsk := (hgm).sok (show k + 1 ≤ 200 by omega)
  have hus := used_same hnext
  have q2 : (usedV F.1 t != usedV s' t) = false := by rw [hus]; simp
  refine Or.inr (Or.inr ?_)
  refine ⟨true, [0, 1, 2, 3, 4, 5, 6, 7, 8, 9, 10, 11, 12, 13], rfl, Unit, _, _, _, _, used_any F.1 B2 t (k + 1) (by omega) hsok2 hB2, fun _ _ => ?_⟩
  refine Or.inr (Or.inr ?_)
  refine ⟨true, [14, 15, 16, 17, 18, 19, 20, 21, 22, 23, 24, 25, 26, 27], rfl, Unit, _, _, _, _, used_any s' B' t (k + 1) (by omega) hsk hB', fun _ _ => ?_⟩
  refine Or.inr (Or.inl ⟨⟨⟨rfl, q2⟩, trivial⟩, ?_⟩)
  refine Or.inr (Or.inr ?_)
  refine ⟨true, [0, 1, 2, 3, 4, 5, 6, 7, 8, 9, 10, 11, 12, 13], rfl, Unit, _, _, _, _, names_none F.1 B2 t ht, fun _ _ => ?_⟩
  refine Or.inr (Or.inl ⟨⟨⟨rfl, q2⟩, trivial⟩, ?_⟩)
  refine Or.inr (Or.inr ?_)
  refine ⟨true, [14, 15, 16, 17, 18, 19, 20, 21, 22, 23, 24, 25, 26, 27], rfl, Unit, _, _, _, _, names_none s' B' t ht, fun _ _ => ?_⟩
  refine Or.inr (Or.inl ⟨⟨⟨rfl, q2⟩, trivial⟩, ?_⟩)
  have c63 : Ctr Try.prog 63 [.val (.slice none 0 0), .val (.slice none 0 0)] [] (.b true) := by
   have := ints_fn [] [] (by decide) (by decide)
   rw [decide_eq_true rfl] at this
   have hw : AVWs [.rs 1 ([] : List Int).length (rI []), .rs 1 ([] : List Int).length (rI [])] [.val (.slice none 0 0), .val (.slice none 0 0)] := ⟨AVW.nil 1 _, AVW.nil 1 _, trivial⟩
   exact Ctr.of_w hw this
  refine Or.inl ⟨_, _, c63, ?_⟩
  refine ⟨fun h => ?_, fun _ => ?_⟩
  ·have h : ((usedV F.1 t != usedV s' t) || !true) = true := h
   rw [q2] at h
   cases h
  have ao : AOEq (filO s' B' 11) (filO s' B' 11) := AOEq.refl _
  refine ⟨(k + 1, B2, F.1, B', s'), [], ⟨(by show k + 1 ≤ l.length; omega), hB2, hB', hnext, hg2, hgm⟩, by dsimp only; omega, rfl, rfl, rfl, rfl, rfl, ⟨rfl, wr (by omega) (by omega)⟩, ⟨⟨rfl, AVsEq.refl _⟩, AOEq.refl _, AOEq.refl _, AOEq.refl _, AOEq.refl _, AOEq.refl _, AOEq.refl _, AOEq.refl _, AOEq.refl _, AOEq.refl _, AOEq.refl _, AOEq.refl _, AOEq.refl _, AOEq.refl _, ⟨rfl, AVsEq.refl _⟩, AOEq.refl _, AOEq.refl _, AOEq.refl _, AOEq.refl _, AOEq.refl _, AOEq.refl _, AOEq.refl _, AOEq.refl _, AOEq.refl _, AOEq.refl _, AOEq.refl _, AOEq.refl _, ao⟩⟩
theorem chunkSecret (l : List Opn) (hl : l.length < 2 ^ 63) (t : Int) : Ctr Try.prog 13 [.rs 4 l.length (rOp l), .i .i64 t] [] (.b true) := by
 by_cases ht : 0 ≤ t ∧ t < 12
 ·have := chunkSecret_in l hl t.toNat (by omega)
  rwa [show ((t.toNat : Nat) : Int) = t by omega] at this
 ·exact chunkSecret_out l hl t ht
end Go.Proofs.Ytnookbebiacaeaa
end
