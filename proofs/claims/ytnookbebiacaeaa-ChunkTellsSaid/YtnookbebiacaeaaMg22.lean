/-
  Several texts in one: Ckt, Cku.
-/
import Derived.Test.YtnookbebiacaeaaMg21

section
namespace Go.Proofs.Ytnookbebiacaeaa
open Go.Eng Go.RowKit
theorem smZ : ∀ o ∈ smL, o.x.size ≤ 200 := by
 intro o ho
 simp only [smL, List.mem_cons, List.not_mem_nil, or_false] at ho
 rcases ho with rfl | rfl | rfl | rfl | rfl | rfl | rfl <;> decide
theorem smRel (k : Nat) (h : k ≤ 7) : Rel (tri smL k).1 (tri smL k).2.1 (tri smL k).2.2 k := tri_rel smZ k h
theorem smSt (k : Nat) (h : k < 7) (d : Dn) (hd : (rDo (tri smL k).2.1 (tri smL k).2.2 (smL.getD k dOp)).2 = d) : ((tri smL (k + 1)).1, d) = sDo (tri smL k).1 (smL.getD k dOp) := by
 have := ((smRel k (by omega)).step (smL.getD k dOp) (smZ _ (getD_memD dOp h))).1
 rw [hd] at this
 exact Prod.ext rfl this.symm
theorem smPut (k : Nat) (h : k < 7) (t : Int) (x : ByteArray) (ho : smL.getD k dOp = ⟨0, t, 0, x⟩) (d : Dn) (hd : (rDo (tri smL k).2.1 (tri smL k).2.2 (smL.getD k dOp)).2 = d) (hx : x.size ≤ 200) (B : Bn) (hB : BOk (tri smL k).1 B) :
  CtrM Try.prog 69 true (storeO (tri smL k).1 B) [.p 0 0, .i .i64 t, .s x] (fun B' : Bn => BOk (tri smL (k + 1)).1 B') (fun B' => storeO (tri smL (k + 1)).1 B') (fun _ => []) (fun _ => .tup [.i .i64 d.1, .i .i64 d.2.2]) :=
 put_o (tri smL k).1 B t x k ((smRel k (by omega)).sok (by omega)) (by omega) hB hx ((tri smL (k + 1)).1, d) (by rw [← ho]; exact smSt k h d hd)
theorem smUsed (k : Nat) (h : k ≤ 7) (t : Int) (n : Nat) (hn : rUsed (tri smL k).2.1 t = n) (B : Bn) (hB : BOk (tri smL k).1 B) :
  CtrM Try.prog 59 true (storeO (tri smL k).1 B) [.p 0 0, .i .i64 t] (fun _ : Unit => True) (fun _ => storeO (tri smL k).1 B) (fun _ => []) (fun _ => .i .i64 (n : Int)) := by
 have c := used_any (tri smL k).1 B t k (by omega) ((smRel k h).sok (by omega)) hB
 rw [rel_used (smRel k h), hn] at c
 exact c
theorem smChunks (k : Nat) (h : k ≤ 7) (n : Nat) (hn : (keptL (rTxt (tri smL k).2.1)).length = n) (B : Bn) :
  CtrM Try.prog 61 true (storeO (tri smL k).1 B) [.p 0 0] (fun _ : Unit => True) (fun _ => storeO (tri smL k).1 B) (fun _ => []) (fun _ => .i .i64 (n : Int)) := by
 have c := chunks_fn (tri smL k).1 B
 rw [rel_len (smRel k h), hn] at c
 exact c
theorem smGet (k : Nat) (h : k ≤ 7) (t : Nat) (ht : t < 12) (n : Int) (y : Option ByteArray) (hy : rGet (tri smL k).2.1 t n = y) (B : Bn) :
  CtrM Try.prog 66 true (storeO (tri smL k).1 B) [.p 0 0, .i .i64 t, .i .i64 n] (fun _ : Unit => True) (fun _ => storeO (tri smL k).1 B) (fun _ => []) (fun _ => getR y) := by
 have hR := smRel k h
 have c := get_fn (tri smL k).1 B t n ht (fun p hp => Nat.le_trans ((hR.ok t ht).sz p hp) (by decide))
 rw [hR.fs t ht, vw_get, hy] at c
 exact c
theorem smDrop (B : Bn) (hB : BOk (tri smL 4).1 B) : CtrM Try.prog 68 true (storeO (tri smL 4).1 B) [.p 0 0, .i .i64 (0 : Nat), .i .i64 1] (fun B' : Bn => BOk (tri smL 5).1 B') (fun B' => storeO (tri smL 5).1 B') (fun _ => []) (fun _ => .i .i64 0) := by
 have hR := smRel 4 (by decide)
 have hg : mget ((tri smL 4).1.fs 0) 1 = some sB := by
  rw [hR.fs 0 (by decide), vw_get]
  kernel_rfl
 have e : (tri smL 5).1 = dropS (tri smL 4).1 0 1 sB := by
  show (sDo (tri smL 4).1 ⟨2, 0, 1, noB⟩).1 = _
  unfold sDo
  dsimp only
  rw [if_pos (by decide), if_neg (by decide), if_neg (by decide), if_pos rfl]
  unfold sDrop
  rw [show ((0 : Int).toNat) = 0 from rfl, hg]
 rw [e]
 exact drop_fn (tri smL 4).1 B 0 1 sB (by decide) hg (by decide) hB (hR.ub (by decide))
theorem smNames (B : Bn) : CtrM Try.prog 64 true (storeO (tri smL 7).1 B) [.p 0 0, .i .i64 (0 : Nat)] (fun _ : Unit => True) (fun _ => storeO (tri smL 7).1 B) (fun _ => [.row 3 1 2 (rI [0, 2])]) (fun _ => .so 14) := by
 have hR := smRel 7 (by decide)
 have hT := hR.ok 0 (by decide)
 have c := names_fn (tri smL 7).1 B 0 (by decide) (hT.wf (by decide)) (by have := hT.len; omega)
 have hn := rel_names hR (t := 0) (by decide)
 have hr : rNames (tri smL 7).2.1 ((0 : Nat) : Int) = [0, 2] := by kernel_rfl
 have hl : ((tri smL 7).1.fs 0).length = 2 := by
  have e := congrArg List.length (hn.trans hr)
  rw [sortI_length] at e
  simpa [mkeys] using e
 rw [hn, hr, hl] at c
 exact c
set_option maxRecDepth 20000 in
set_option maxHeartbeats 16000000 in
theorem small53_fn : Ctr Try.prog 53 [] [] (.b true) := by
 refine fn_of_exec tabOk Try.func53 (by kernel_rfl) rfl (N := Try.f53.ntmps) rfl (res := [.tmp 0]) rfl rfl [] ?_
 refine Or.inr (Or.inr ?_)
 refine ⟨true, [], rfl, Unit, _, _, _, _, new55_fn, fun _ _ => ?_⟩
 repeat refine Or.inl ?_
 refine ⟨fun hc => (by cases hc), fun _ => ?_⟩
 refine Or.inr (Or.inr ?_)
 refine ⟨true, [0, 1, 2, 3, 4, 5, 6, 7, 8, 9, 10, 11, 12, 13], rfl, Bn, _, _, _, _, smPut 0 (by decide) 0 sA rfl (0, noB, 0) (by kernel_rfl) (by decide) b0 b0_ok, fun B1 h1 => ?_⟩
 refine Or.inr (Or.inr ?_)
 refine ⟨true, [0, 1, 2, 3, 4, 5, 6, 7, 8, 9, 10, 11, 12, 13], rfl, Bn, _, _, _, _, smPut 1 (by decide) 0 sB rfl (1, noB, 0) (by kernel_rfl) (by decide) B1 h1, fun B2 h2 => ?_⟩
 refine Or.inr (Or.inr ?_)
 refine ⟨true, [0, 1, 2, 3, 4, 5, 6, 7, 8, 9, 10, 11, 12, 13], rfl, Bn, _, _, _, _, smPut 2 (by decide) 0 sA rfl (0, noB, 0) (by kernel_rfl) (by decide) B2 h2, fun B3 h3 => ?_⟩
 refine Or.inr (Or.inr ?_)
 refine ⟨true, [0, 1, 2, 3, 4, 5, 6, 7, 8, 9, 10, 11, 12, 13], rfl, Bn, _, _, _, _, smPut 3 (by decide) 1 sB rfl (0, noB, 0) (by kernel_rfl) (by decide) B3 h3, fun B4 h4 => ?_⟩
 refine Or.inr (Or.inl ⟨⟨⟨rfl, rfl⟩, trivial⟩, ?_⟩)
 refine Or.inr (Or.inr ?_)
 refine ⟨true, [0, 1, 2, 3, 4, 5, 6, 7, 8, 9, 10, 11, 12, 13], rfl, Unit, _, _, _, _, smChunks 4 (by decide) 2 (by kernel_rfl) B4, fun _ _ => ?_⟩
 refine Or.inr (Or.inl ⟨⟨⟨rfl, rfl⟩, trivial⟩, ?_⟩)
 refine Or.inr (Or.inr ?_)
 refine ⟨true, [0, 1, 2, 3, 4, 5, 6, 7, 8, 9, 10, 11, 12, 13], rfl, Unit, _, _, _, _, smUsed 4 (by decide) 0 2 (by kernel_rfl) B4 h4, fun _ _ => ?_⟩
 refine Or.inr (Or.inl ⟨⟨⟨rfl, rfl⟩, trivial⟩, ?_⟩)
 refine Or.inr (Or.inr ?_)
 refine ⟨true, [0, 1, 2, 3, 4, 5, 6, 7, 8, 9, 10, 11, 12, 13], rfl, Unit, _, _, _, _, smUsed 4 (by decide) 1 1 (by kernel_rfl) B4 h4, fun _ _ => ?_⟩
 refine Or.inr (Or.inr ?_)
 refine ⟨true, [0, 1, 2, 3, 4, 5, 6, 7, 8, 9, 10, 11, 12, 13], rfl, Bn, _, _, _, _, smDrop B4 h4, fun B5 h5 => ?_⟩
 refine Or.inr (Or.inr ?_)
 refine ⟨true, [0, 1, 2, 3, 4, 5, 6, 7, 8, 9, 10, 11, 12, 13], rfl, Unit, _, _, _, _, smGet 5 (by decide) 0 (by decide) 1 none (by kernel_rfl) B5, fun _ _ => ?_⟩
 refine Or.inr (Or.inr ?_)
 refine ⟨true, [0, 1, 2, 3, 4, 5, 6, 7, 8, 9, 10, 11, 12, 13], rfl, Unit, _, _, _, _, smGet 5 (by decide) 1 (by decide) 0 (some sB) (by kernel_rfl) B5, fun _ _ => ?_⟩
 refine Or.inr (Or.inl ⟨⟨⟨rfl, by kernel_rfl⟩, trivial⟩, ?_⟩)
 refine Or.inr (Or.inr ?_)
 refine ⟨true, [0, 1, 2, 3, 4, 5, 6, 7, 8, 9, 10, 11, 12, 13], rfl, Unit, _, _, _, _, smChunks 5 (by decide) 2 (by kernel_rfl) B5, fun _ _ => ?_⟩
 refine Or.inr (Or.inr ?_)
 refine ⟨true, [0, 1, 2, 3, 4, 5, 6, 7, 8, 9, 10, 11, 12, 13], rfl, Bn, _, _, _, _, smPut 5 (by decide) 0 sB rfl (2, noB, 0) (by kernel_rfl) (by decide) B5 h5, fun B6 h6 => ?_⟩
 refine Or.inr (Or.inr ?_)
 refine ⟨true, [0, 1, 2, 3, 4, 5, 6, 7, 8, 9, 10, 11, 12, 13], rfl, Bn, _, _, _, _, smPut 6 (by decide) 12 sX rfl (0, noB, 1) (by kernel_rfl) (by decide) B6 h6, fun B7 h7 => ?_⟩
 refine Or.inr (Or.inl ⟨⟨⟨rfl, by kernel_rfl⟩, trivial⟩, ?_⟩)
 refine Or.inr (Or.inr ?_)
 refine ⟨true, [0, 1, 2, 3, 4, 5, 6, 7, 8, 9, 10, 11, 12, 13], rfl, Unit, _, _, _, _, smNames B7, fun _ _ => ?_⟩
 have c63 : Ctr Try.prog 63 [.rs 1 2 (rI [0, 2]), .rs 1 2 (rowOf 1 [.i .i64 0, .i .i64 2])] [] (.b true) := by
  have := ints_fn [0, 2] [0, 2] (by decide) (by decide)
  rw [decide_eq_true rfl] at this
  refine Ctr.of_eq (args := [.rs 1 2 (rI [0, 2]), .rs 1 2 (rI [0, 2])]) ⟨AVEq.refl _, rfl, rfl, fun k hk => ?_⟩ this
  match k, hk with
  | 0, _ => rfl
  | 1, _ => rfl
 refine Or.inl (Or.inl ⟨_, _, ⟨fun _ => c63, ?_⟩⟩)
 exact RetIs.b (by kernel_rfl)
end Go.Proofs.Ytnookbebiacaeaa
end

section
namespace Go.Proofs.Ytnookbebiacaeaa
open Go.Eng
theorem chunkTells (l : List Opn) (hl : l.length < 2 ^ 63) (t : Int) : Ctr Try.prog 12 [.rs 4 l.length (rOp l), .i .i64 t] [] (.b true) := chunkTells_fn small53_fn l hl t
end Go.Proofs.Ytnookbebiacaeaa
end
