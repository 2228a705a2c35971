/-
  Groups: the small examples, and GroupTells.
-/
import Derived.Test.YtklmfkejgjhneaaG5
namespace Go.Proofs.Ytklmfkejgjhneaa
open Go.Eng

def mkEv (kind group author who n : Int) : Ev := ⟨author, 0, [], kind, group, 0, 0, who, n, ⟨#[]⟩, [], 0⟩
def exE : List Ev := [mkEv 5 1 0 7 0, mkEv 5 1 0 8 0, mkEv 5 1 0 7 0, mkEv 6 1 7 0 0, mkEv 7 1 9 8 0, mkEv 5 1 0 7 0, mkEv 9 1 0 3 5]
def exG : List Gra := [⟨1, 3, 1⟩, ⟨1, 3, 8⟩, ⟨2, 3, 2⟩]
def exS : List Sta := [⟨7, 1, 0, 3⟩, ⟨8, 1, 1, 4⟩, ⟨7, 1, 5, -1⟩]
def evZ (e : Ev) : List AV := [.i .i64 e.author, .i .i64 e.sq, .val (.slice none 0 0), .i .i64 e.kind, .i .i64 e.group, .i .i64 e.target, .i .i64 e.quot, .i .i64 e.who, .i .i64 e.n, .s e.text, .val (.slice none 0 0), .i .i64 e.stp]
theorem evZ_w {e : Ev} (h1 : e.causes = []) (h2 : e.files = []) : AVWs e.av (evZ e) := by
  unfold Ev.av evZ
  rw [h1, h2]
  exact ⟨AVW.refl _, AVW.refl _, AVW.nil _ _, AVW.refl _, AVW.refl _, AVW.refl _, AVW.refl _, AVW.refl _, AVW.refl _, AVW.refl _, AVW.nil _ _, AVW.refl _, trivial⟩
theorem seven {p : Nat → Prop} (h0 : p 0) (h1 : p 1) (h2 : p 2) (h3 : p 3) (h4 : p 4) (h5 : p 5) (h6 : p 6) : ∀ k, k < 7 → p k := by
  intro k hk
  match k, hk with
  | 0, _ => exact h0
  | 1, _ => exact h1
  | 2, _ => exact h2
  | 3, _ => exact h3
  | 4, _ => exact h4
  | 5, _ => exact h5
  | 6, _ => exact h6
theorem threeP {p : Nat → Prop} (h0 : p 0) (h1 : p 1) (h2 : p 2) : ∀ k, k < 3 → p k := by
  intro k hk
  match k, hk with
  | 0, _ => exact h0
  | 1, _ => exact h1
  | 2, _ => exact h2
theorem twoP {p : Nat → Prop} (h0 : p 0) (h1 : p 1) : ∀ k, k < 2 → p k := by
  intro k hk
  match k, hk with
  | 0, _ => exact h0
  | 1, _ => exact h1
theorem oneP {p : Nat → Prop} (h0 : p 0) : ∀ k, k < 1 → p k := by
  intro k hk
  match k, hk with
  | 0, _ => exact h0
abbrev exRow : Nat → List AV := fun k => evZ (exE.getD k dE)
theorem exW : AVW (.rs 12 exE.length (rowsE exE)) (.rs 12 7 exRow) :=
  AVW.rs' rfl (seven (evZ_w rfl rfl) (evZ_w rfl rfl) (evZ_w rfl rfl) (evZ_w rfl rfl) (evZ_w rfl rfl) (evZ_w rfl rfl) (evZ_w rfl rfl))
set_option maxRecDepth 20000 in
theorem sample_fn : Ctr Try.prog 67 [] [.row 36 12 7 exRow] (.so 0) := by
  refine fn_of_exec tabOk Try.func67 (by kernel_rfl) rfl (N := Try.f67.ntmps) rfl (res := [.tmp 0]) rfl rfl [] ?_
  exact RetIs.so rfl rfl (seven rfl rfl rfl rfl rfl rfl rfl) (fun _ _ => rfl)
theorem exE_wf : ∀ x ∈ exE, (Lit.int .i64 x.who).wf = true := by
  intro x hx
  simp only [exE, List.mem_cons, List.not_mem_nil, or_false] at hx
  rcases hx with rfl | rfl | rfl | rfl | rfl | rfl | rfl <;> decide
set_option maxRecDepth 20000 in
set_option maxHeartbeats 2000000 in
theorem smallG_fn : Ctr Try.prog 20 [] [] (.b true) := by
  refine fn_of_exec tabOk Try.func20 (by kernel_rfl) rfl (N := Try.f20.ntmps) rfl (res := [.tmp 0]) rfl rfl [(4, [.eq 1 (.row 41 3 exG.length (rowsG exG)), .eq 2 (.row 34 4 exS.length (rowsS exS))])] ?_
  have hl : exE.length < 1000000 := by decide
  have hl2 : exE.length < 2 ^ 62 := by decide
  have hg : exG.length < 2 ^ 62 := by decide
  have vS : stays (evs exE) exE.length = exS := by decide
  have v1 : Memb (evs exE) 1 (cut exE 3) = [7, 8] := by decide
  have v2 : Memb (evs exE) 1 (cut exE 4) = [8] := by decide
  have v3 : Memb (evs exE) 1 (cut exE 99) = [7] := by decide
  have v4 : Memb (evs exE) 1 (cut exE (-1)) = [] := by decide
  have v5 : RightsG exG exE 1 3 6 = 9 := by decide
  have v6 : RightsG exG exE 1 3 7 = 5 := by decide
  have cS : Ctr Try.prog 22 [.rs 12 7 exRow] [.row 34 4 exS.length (rowsS exS)] (.so 0) := by
    have h := Stays_fn exE hl
    rw [vS] at h
    exact Ctr.of_w (args := [.rs 12 exE.length (rowsE exE)]) ⟨exW, trivial⟩ h
  have cM : ∀ t m, Memb (evs exE) 1 (cut exE t) = m → Ctr Try.prog 25 [.rs 12 7 exRow, .i .i64 1, .i .i64 t] [.row 3 1 m.length (rowsI m)] (.so 0) := fun t m h => by
    have h2 := Members_fn exE hl exE_wf 1 t
    rw [h] at h2
    exact Ctr.of_w (args := [.rs 12 exE.length (rowsE exE), .i .i64 1, .i .i64 t]) ⟨exW, AVW.refl _, AVW.refl _, trivial⟩ h2
  have cR : ∀ t, Ctr Try.prog 27 [.rs 3 exG.length (rowsG exG), .rs 12 7 exRow, .i .i64 1, .i .i64 3, .i .i64 t] [] (.i .i64 (RightsG exG exE 1 3 t)) := fun t =>
    Ctr.of_w (args := [.rs 3 exG.length (rowsG exG), .rs 12 exE.length (rowsE exE), .i .i64 1, .i .i64 3, .i .i64 t]) ⟨AVW.refl _, exW, AVW.refl _, AVW.refl _, AVW.refl _, trivial⟩ (Rights_fn exG hg exE hl2 1 3 t)
  have i1 : Ctr Try.prog 24 [.rs 1 2 (rowsI [7, 8]), .rs 1 2 (rowOf 1 [.i .i64 7, .i .i64 8])] [] (.b true) :=
    Ctr.of_eq (args := [.rs 1 2 (rowsI [7, 8]), .rs 1 2 (rowsI [7, 8])]) ⟨AVEq.refl _, ⟨rfl, rfl, twoP rfl rfl⟩⟩ (intsG_fn [7, 8] [7, 8] (by decide) (by decide))
  have i2 : Ctr Try.prog 24 [.rs 1 1 (rowsI [8]), .rs 1 1 (rowOf 1 [.i .i64 8])] [] (.b true) :=
    Ctr.of_eq (args := [.rs 1 1 (rowsI [8]), .rs 1 1 (rowsI [8])]) ⟨AVEq.refl _, ⟨rfl, rfl, oneP rfl⟩⟩ (intsG_fn [8] [8] (by decide) (by decide))
  have i3 : Ctr Try.prog 24 [.rs 1 1 (rowsI [7]), .rs 1 1 (rowOf 1 [.i .i64 7])] [] (.b true) :=
    Ctr.of_eq (args := [.rs 1 1 (rowsI [7]), .rs 1 1 (rowsI [7])]) ⟨AVEq.refl _, ⟨rfl, rfl, oneP rfl⟩⟩ (intsG_fn [7] [7] (by decide) (by decide))
  have c6 := cR 6
  have c7 := cR 7
  rw [v5] at c6
  rw [v6] at c7
  refine .inl ⟨_, _, sample_fn, ?_⟩
  refine ⟨⟨rfl, rfl, rfl, threeP rfl rfl rfl⟩, ⟨rfl, rfl, rfl, threeP rfl rfl rfl⟩, ?_⟩
  refine .inl ⟨_, _, cS, .inl ⟨[], _, sameS_fn exS exS (by decide) (by decide), ?_⟩⟩
  refine .inl ⟨_, _, fun _ => cM 3 _ v1, .inl ⟨[], _, fun _ => i1, ?_⟩⟩
  refine .inl ⟨_, _, fun _ => cM 4 _ v2, .inl ⟨[], _, fun _ => i2, ?_⟩⟩
  refine .inl ⟨_, _, fun _ => cM 99 _ v3, .inl ⟨[], _, fun _ => i3, ?_⟩⟩
  refine .inl ⟨[], _, fun _ => c6, .inl ⟨[], _, fun _ => c7, .inl ⟨_, _, fun _ => cM (-1) _ v4, ?_⟩⟩⟩
  refine RetIs.b ?_
  decide

set_option maxRecDepth 20000 in
set_option maxHeartbeats 2000000 in
theorem groupTells_fn (l : List Ev) (hwf : ∀ x ∈ l, (Lit.int .i64 x.who).wf = true) (gl : List Gra) (g p t : Int) :
    Ctr Try.prog 3 [.rs 12 l.length (rowsE l), .rs 3 gl.length (rowsG gl), .i .i64 g, .i .i64 p, .i .i64 t] [] (.b true) := by
  refine fn_of_exec tabOk Try.func3 (by kernel_rfl) rfl (N := Try.f3.ntmps) rfl (res := [.tmp 10]) rfl rfl [] ?_
  refine .inl ⟨[], _, smallG_fn, ?_⟩
  repeat refine Or.inl ?_
  refine ⟨fun hf => RetIs.b rfl, fun hf => ?_⟩
  have hf : (decide ((l.length : Int) > 60) || decide ((gl.length : Int) > 60)) = false := hf
  simp only [Bool.or_eq_false_iff, decide_eq_false_iff_not] at hf
  have hl : l.length < 1000000 := by omega
  have hl2 : l.length < 2 ^ 62 := by omega
  have hg : gl.length < 2 ^ 62 := by omega
  have hs := stays_len (evs l) l.length
  have hm := Memb_len (evs l) g (cut l t)
  have hc := cut_le l t
  refine .inl ⟨_, _, fun _ => Stays_fn l hl, .inl ⟨_, _, fun _ => rStays_fn l hl, .inl ⟨[], _, fun _ => sameS_fn _ _ (by omega) (by omega), ?_⟩⟩⟩
  refine .inl ⟨_, _, fun _ => Members_fn l hl hwf g t, .inl ⟨_, _, fun _ => rMembers_fn l hl g t, .inl ⟨[], _, fun _ => intsG_fn _ _ (by omega) (by omega), ?_⟩⟩⟩
  refine .inl ⟨[], _, fun _ => Rights_fn gl hg l hl2 g p t, .inl ⟨[], _, fun _ => rRights_fn gl hg l hl2 g p t, ?_⟩⟩
  refine RetIs.b ?_
  simp
end Go.Proofs.Ytklmfkejgjhneaa
