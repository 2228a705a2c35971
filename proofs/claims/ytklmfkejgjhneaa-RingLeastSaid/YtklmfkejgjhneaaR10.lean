/-
  Bridges: the small examples, RingTells.
-/
import Derived.Test.YtklmfkejgjhneaaR9
namespace Go.Proofs.Ytklmfkejgjhneaa
open Go.Eng

theorem CtrM.of_eqs {P : Program} {f : FuncId} {al : Bool} {ins : List AO} {args args' : List AV} {Y : Type} {spec : Y → Prop} {outs os : Y → List AO} {r : Y → AV} (he : AVsEq args args')
    (h : CtrM P f al ins args spec outs os r) : CtrM P f al ins args' spec outs os r :=
  ⟨h.1, fun F w β vs h1 h2 h3 h4 h5 h6 h7 => h.2 F w β vs h1 h2 h3 h4 h5 (he.get.1.trans h6) fun j g1 g2 => (he.get.2 j g1 (by rw [← he.get.1]; exact g1)).rep (h7 j (by rw [← he.get.1]; exact g1) g2)⟩
theorem fourP4 {p : Nat → Prop} (h0 : p 0) (h1 : p 1) (h2 : p 2) (h3 : p 3) : ∀ k, k < 4 → p k := by
  intro k hk
  match k, hk with
  | 0, _ => exact h0
  | 1, _ => exact h1
  | 2, _ => exact h2
  | 3, _ => exact h3
theorem fourP3 {p : Nat → Prop} (h0 : p 0) (h1 : p 1) (h2 : p 2) : ∀ k, k < 3 → p k := by
  intro k hk
  match k, hk with
  | 0, _ => exact h0
  | 1, _ => exact h1
  | 2, _ => exact h2
theorem fourP2 {p : Nat → Prop} (h0 : p 0) (h1 : p 1) : ∀ k, k < 2 → p k := by
  intro k hk
  match k, hk with
  | 0, _ => exact h0
  | 1, _ => exact h1
theorem fourP1 {p : Nat → Prop} (h0 : p 0) : ∀ k, k < 1 → p k := by
  intro k hk
  match k, hk with
  | 0, _ => exact h0
def fourB : List Bri := [⟨0, 1, false⟩, ⟨1, 2, true⟩, ⟨2, 0, true⟩, ⟨1, 0, false⟩]
def threeB : List Bri := [⟨0, 1, false⟩, ⟨1, 2, true⟩, ⟨2, 0, true⟩]
theorem cut_three : cutY threeB 3 = ([2], [0, 1, 2], 0) := by decide +kernel
theorem cho_three : chosenB threeB ≠ none := by decide +kernel
theorem cho_four : chosenB fourB = none := by decide +kernel
theorem val_four : validB fourB 3 = true := by decide +kernel
theorem chk_three : checkV threeB 3 [2] [0, 1, 2] = 0 := by decide +kernel
theorem rou_three : RoundsL threeB [2] 1 = [1, 2] := by decide +kernel
set_option maxRecDepth 20000 in
theorem four_fn : Ctr Try.prog 88 [] [.row 83 3 4 (rowsB fourB)] (.so 0) := by
  refine fn_of_exec tabOk Try.func88 (by kernel_rfl) rfl (N := Try.f88.ntmps) rfl (res := [.tmp 0]) rfl rfl [] ?_
  exact RetIs.so rfl rfl (fourP4 rfl rfl rfl rfl) (fun _ _ => rfl)
set_option maxRecDepth 20000 in
set_option maxHeartbeats 2000000 in
theorem smallR_fn : Ctr Try.prog 55 [] [] (.b true) := by
  refine fn_of_exec tabOk Try.func55 (by kernel_rfl) rfl (N := Try.f55.ntmps) rfl (res := [.tmp 0]) rfl rfl [] ?_
  have i1 : Ctr Try.prog 58 [.rs 1 1 (rowsI [2]), .rs 1 1 (rowOf 1 [.i .i64 2])] [] (.b true) :=
    Ctr.of_eq (args := [.rs 1 1 (rowsI [2]), .rs 1 1 (rowsI [2])]) ⟨AVEq.refl _, ⟨rfl, rfl, fourP1 rfl⟩⟩ (sameR_fn [2] [2] (by decide) (by decide))
  have i2 : Ctr Try.prog 58 [.rs 1 3 (rowsI [0, 1, 2]), .rs 1 3 (rowOf 1 [.i .i64 0, .i .i64 1, .i .i64 2])] [] (.b true) :=
    Ctr.of_eq (args := [.rs 1 3 (rowsI [0, 1, 2]), .rs 1 3 (rowsI [0, 1, 2])]) ⟨AVEq.refl _, ⟨rfl, rfl, fourP3 rfl rfl rfl⟩⟩ (sameR_fn [0, 1, 2] [0, 1, 2] (by decide) (by decide))
  have i3 : Ctr Try.prog 58 [.rs 1 2 (rowsI [1, 2]), .rs 1 2 (rowOf 1 [.i .i64 1, .i .i64 2])] [] (.b true) :=
    Ctr.of_eq (args := [.rs 1 2 (rowsI [1, 2]), .rs 1 2 (rowsI [1, 2])]) ⟨AVEq.refl _, ⟨rfl, rfl, fourP2 rfl rfl⟩⟩ (sameR_fn [1, 2] [1, 2] (by decide) (by decide))
  have hv : AVEq (.rs 3 3 (rowsB threeB)) (.rs 3 3 (fun q => rowsB fourB (0 + q))) := ⟨rfl, rfl, fourP3 rfl rfl rfl⟩
  have c1 : CtrM Try.prog 56 false [] [.rs 3 3 (fun q => rowsB fourB (0 + q)), .i .i64 3] (fun y : List Int × List Int × Int => CutS threeB 3 y) (fun _ => []) (fun y => [.row 3 1 y.1.length (rowsI y.1), .row 3 1 y.2.1.length (rowsI y.2.1)]) (fun y => .tup [.so 0, .so 1, .i .i64 y.2.2]) :=
    CtrM.of_eqs (args := [.rs 3 threeB.length (rowsB threeB), .i .i64 3]) ⟨hv, AVEq.refl _⟩ (Cut_fn threeB (by decide) 3)
  have c3 : Ctr Try.prog 60 [.rs 3 3 (fun q => rowsB fourB (0 + q)), .i .i64 3, .rs 1 1 (rowsI [2]), .rs 1 3 (rowsI [0, 1, 2])] [] (.i .i64 0) := by
    have h := Check_fn threeB (by decide) 3 [2] (by decide) [0, 1, 2] (by decide)
    rw [chk_three] at h
    exact Ctr.of_eq (args := [.rs 3 3 (rowsB threeB), .i .i64 3, .rs 1 1 (rowsI [2]), .rs 1 3 (rowsI [0, 1, 2])]) ⟨hv, AVEq.refl _, AVEq.refl _, AVEq.refl _⟩ h
  have c4 : Ctr Try.prog 62 [.rs 3 3 (fun q => rowsB fourB (0 + q)), .rs 1 1 (rowOf 1 [.i .i64 2]), .i .i64 1] [.row 3 1 2 (rowsI [1, 2])] (.so 0) := by
    have h := Rounds_fn threeB (by decide) [2] (by decide) 1
    rw [rou_three] at h
    exact Ctr.of_eq (args := [.rs 3 3 (rowsB threeB), .rs 1 1 (rowsI [2]), .i .i64 1]) ⟨hv, ⟨rfl, rfl, fourP1 rfl⟩, AVEq.refl _⟩ h
  refine .inl ⟨_, _, four_fn, ?_⟩
  refine ⟨⟨by decide, by decide, by decide⟩, ?_⟩
  refine .inr (.inr ⟨false, [], rfl, List Int × List Int × Int, _, _, _, _, c1, fun y hy => ?_⟩)
  have hy := hy.el fun _ => cho_three
  rw [cut_three] at hy
  subst hy
  refine .inl ⟨_, _, four_fn, ?_⟩
  refine .inr (.inr ⟨false, [], rfl, List Int × List Int × Int, _, _, _, _, Cut_fn fourB (by decide) 3, fun y hy => ?_⟩)
  obtain ⟨h1, h2⟩ := hy.bad val_four cho_four
  obtain ⟨a, b, v⟩ := y
  dsimp only at h1 h2
  cases h1
  refine .inl ⟨[], _, i1, ?_⟩
  refine .inl ⟨[], _, fun _ => i2, ?_⟩
  refine .inl ⟨_, _, fun _ => four_fn, ?_⟩
  refine ⟨fun _ => ⟨by decide, by decide, by decide⟩, ?_⟩
  refine .inl ⟨[], _, fun _ => c3, ?_⟩
  refine .inl ⟨_, _, fun _ => four_fn, ?_⟩
  refine .inl ⟨[], _, fun _ => Around_fn fourB (by decide) a (by have h4 := hy.len; dsimp only at h4; omega), ?_⟩
  refine .inl ⟨_, _, fun _ => four_fn, ?_⟩
  refine ⟨fun _ => ⟨by decide, by decide, by decide⟩, ?_⟩
  refine .inl ⟨_, _, fun _ => c4, ?_⟩
  refine .inl ⟨[], _, fun _ => i3, ?_⟩
  refine RetIs.b ?_
  rw [h2]
  rfl
end Go.Proofs.Ytklmfkejgjhneaa
