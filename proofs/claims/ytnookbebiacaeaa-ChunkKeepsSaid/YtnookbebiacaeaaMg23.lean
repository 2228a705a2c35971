/-
  Several texts in one: Cky, Ckz, Cl2.
-/
import Derived.Shelf.SlMaps.Clone
import Derived.Test.YtnookbebiacaeaaMg22

section
namespace Go.Eng
open Go.RowKit
theorem clone_ctr {P : Program} {f : FuncId} (hc : Callable P f)
  (h : ∀ (b : Nat) (es : Array MapEntry) (clock : Nat) (w : World), w.heap[b]? = some (.map es clock) → Calls P f #[.map (some b)] w fun e w' => e = .returned (.map (some w.heap.size)) ∧ w' = w.alloc (.map es clock))
  (n : Nat) (key val : Nat → AV) (born : Nat → Nat) (clock : Nat) :
  CtrM P f true [.mp n key val born clock] [.mo 0] (fun _ : Unit => True) (fun _ => [.mp n key val born clock]) (fun _ => [.mp n key val born clock]) (fun _ => .mo 1) := by
 refine ⟨hc, fun F w β vs hOF hFl hFal hobj hdist hl hr => ?_⟩
 obtain ⟨v0, rfl⟩ : ∃ v0, vs = [v0] := by
  match vs, hl with
  | [v0], _ => exact ⟨v0, rfl⟩
 have hv0 := hr 0 (by simp) (by simp)
 simp only [List.getElem_cons_zero] at hv0
 obtain ⟨_, rfl⟩ := hv0.mo_inv
 have ho0 := hobj 0 _ rfl
 obtain ⟨es, hb, hn, hok, hcm⟩ := ho0
 refine (h (β.blk 0) es clock w hb).mono ?_
 rintro e w' ⟨rfl, rfl⟩
 have hlt : β.blk 0 < w.heap.size := (Array.getElem?_eq_some_iff.1 hb).1
 have hB : Below w.heap.size w (w.alloc (.map es clock)) := (Below.refl _ w).alloc (Nat.le_refl _) _
 have hag : agree 1 β (β.blkAt 1 w.heap.size) := agree_blkAt _ _ _
 have hb1 : (β.blkAt 1 w.heap.size).blk 1 = w.heap.size := by simp [Bd.blkAt]
 have hb0 : (β.blkAt 1 w.heap.size).blk 0 = β.blk 0 := by simp [Bd.blkAt]
 let o : AO := .mp n key val born clock
 have hown : ∀ j o' g, ([o] ++ [o])[j]? = some o' → ownB (β.blkAt 1 w.heap.size) j o' g → (j = 0 ∧ g = β.blk 0) ∨ (j = 1 ∧ g = w.heap.size) := by
  intro j o' g hj hg
  match j with
  | 0 =>
   simp [o] at hj
   subst hj
   have hg : (β.blkAt 1 w.heap.size).blk 0 = g := hg
   exact .inl ⟨rfl, by rw [← hg, hb0]⟩
  | 1 =>
   simp [o] at hj
   subst hj
   have hg : (β.blkAt 1 w.heap.size).blk 1 = g := hg
   exact .inr ⟨rfl, by rw [← hg, hb1]⟩
  | j + 2 => simp [o] at hj
 have hFF : ∀ g, g < w.heap.size → ¬ F g → ¬ Fres true F w (β.blkAt 1 w.heap.size) ([o] ++ [o]) g := fun g hg hn hf => by
  rcases hf with (⟨h1, _⟩ | h1) | ⟨j, o', hj, h1⟩
  ·cases h1
  ·exact hn h1
  ·rcases hown j o' g hj h1 with ⟨_, e⟩ | ⟨_, e⟩
   ·exact hn (hOF g ⟨0, _, rfl, e.symm⟩)
   ·omega
 have hFr0 : ∀ g, g < w.heap.size → ¬ F g → (w.alloc (.map es clock)).heap[g]? = w.heap[g]? := fun g hg _ => hB.block g hg
 refine ⟨_, β.blkAt 1 w.heap.size, (), rfl, trivial, ⟨hag, ⟨hB.os, hB.tape, hB.output, hB.size, fun k hk' _ => hB.block k hk', hB.drawn⟩, rfl, ?_, ?_, ?_, ?_⟩⟩
 ·intro j o' hj
  match j with
  | 0 =>
   simp at hj
   subst hj
   exact (hobj 0 _ rfl).stable (by simp) (by simp) (fun i hi => hag i hi) hFF hFr0 hB.size (fun g hg => hB.block g ((hobj 0 _ rfl).lt hg))
  | 1 =>
   simp at hj
   subst hj
   have hs := (hobj 0 _ rfl).stable (β' := β.blkAt 1 w.heap.size) (n' := 2) (F' := Fres true F w (β.blkAt 1 w.heap.size) ([o] ++ [o])) (w' := w.alloc (.map es clock)) (by simp) (by simp) (fun i hi => hag i hi) hFF hFr0 hB.size (fun g hg => hB.block g ((hobj 0 _ rfl).lt hg))
   obtain ⟨es2, hb2, hn2, hok2, hcm2⟩ := hs
   have e0 : (w.alloc (.map es clock)).heap[β.blk 0]? = some (.map es clock) := (hB.block _ hlt).trans hb
   rw [hb0, e0] at hb2
   cases hb2
   exact ⟨es, by rw [hb1]; exact (MapKept.heap_alloc w _).1, hn2, hok2, hcm2⟩
  | j + 2 => simp at hj
 ·rintro g ⟨j, o', hj, hg⟩
  rcases hown j o' g hj hg with ⟨_, e⟩ | ⟨_, e⟩
  ·exact .inl ⟨0, _, rfl, e.symm⟩
  ·exact .inr (by omega)
 ·intro j j' o1 o2 g h1 h2 g1 g2
  rcases hown j o1 g h1 g1 with ⟨a, ea⟩ | ⟨a, ea⟩ <;> rcases hown j' o2 g h2 g2 with ⟨b, eb⟩ | ⟨b, eb⟩
  ·rw [a, b]
  ·omega
  ·omega
  ·rw [a, b]
 ·have := Rep.mo (β := β.blkAt 1 w.heap.size) (n := 2) (F := Fres true F w (β.blkAt 1 w.heap.size) ([o] ++ [o])) (w := w.alloc (.map es clock)) 1 (by omega)
  rw [hb1] at this
  exact this
end Go.Eng
namespace Go.Proofs.Ytnookbebiacaeaa
open Go.Eng
def stC2 (st : St) : List AV := [.mo 15, .mo 16, .i .i64 (st.nx 0), .mo 17, .i .i64 (st.nx 1), .mo 18, .i .i64 (st.nx 2), .mo 19, .i .i64 (st.nx 3), .mo 20, .i .i64 (st.nx 4), .mo 21, .i .i64 (st.nx 5), .mo 22, .i .i64 (st.nx 6), .mo 23, .i .i64 (st.nx 7), .mo 24, .i .i64 (st.nx 8), .mo 25, .i .i64 (st.nx 9), .mo 26, .i .i64 (st.nx 10), .mo 27, .i .i64 (st.nx 11)]
end Go.Proofs.Ytnookbebiacaeaa
end

section
namespace Go.Proofs.Ytnookbebiacaeaa
open Go.Eng Go.RowKit Go.Shelf
def cloneU_ren : Go.Shelf.Ren := ⟨fun | 5 => 133 | 7 => 177 | n => n, fun | 23 => 145 | 25 => 172 | 3 => 3 | 4 => 4 | 20 => 20 | n => n, fun | n => n⟩
theorem cloneU : Go.Proofs.SlLaysW.n5 Try.prog cloneU_ren := {
  mixed := by kernel_rfl,
  f5 := ⟨Try.f133.name, by decide, Try.func133.trans (congrArg some (by kernel_rfl))⟩,
  f7 := Try.func177.trans (congrArg some (by kernel_rfl)),
  t4 := Try.underlying4,
  a4 := Try.isAgg4,
  z4 := Try.sizeOf4,
  v4 := Try.zeroValue4,
  t20 := Try.underlying20,
  a20 := Try.isAgg20,
  z20 := Try.sizeOf20,
  v20 := Try.zeroValue20,
  t23 := Try.underlying145,
  a23 := Try.isAgg145,
  z23 := Try.sizeOf145,
  v23 := Try.zeroValue145 }
def cloneF_ren : Go.Shelf.Ren := ⟨fun | 5 => 134 | 7 => 177 | n => n, fun | 23 => 146 | 25 => 3 | 3 => 159 | 4 => 4 | 20 => 20 | n => n, fun | n => n⟩
theorem cloneF : Go.Proofs.SlLaysW.n5 Try.prog cloneF_ren := {
  mixed := by kernel_rfl,
  f5 := ⟨Try.f134.name, by decide, Try.func134.trans (congrArg some (by kernel_rfl))⟩,
  f7 := Try.func177.trans (congrArg some (by kernel_rfl)),
  t4 := Try.underlying4,
  a4 := Try.isAgg4,
  z4 := Try.sizeOf4,
  v4 := Try.zeroValue4,
  t20 := Try.underlying20,
  a20 := Try.isAgg20,
  z20 := Try.sizeOf20,
  v20 := Try.zeroValue20,
  t23 := Try.underlying146,
  a23 := Try.isAgg146,
  z23 := Try.sizeOf146,
  v23 := Try.zeroValue146 }
theorem cloneU_fn (n : Nat) (key val : Nat → AV) (born : Nat → Nat) (clock : Nat) : CtrM Try.prog 133 true [.mp n key val born clock] [.mo 0] (fun _ : Unit => True) (fun _ => [.mp n key val born clock]) (fun _ => [.mp n key val born clock]) (fun _ => .mo 1) :=
 clone_ctr ⟨_, Try.func133, by kernel_rfl, rfl⟩ (fun b es clock w hb => AnyW.maps_Clone cloneU b es clock w hb) n key val born clock
theorem cloneF_fn (n : Nat) (key val : Nat → AV) (born : Nat → Nat) (clock : Nat) : CtrM Try.prog 134 true [.mp n key val born clock] [.mo 0] (fun _ : Unit => True) (fun _ => [.mp n key val born clock]) (fun _ => [.mp n key val born clock]) (fun _ => .mo 1) :=
 clone_ctr ⟨_, Try.func134, by kernel_rfl, rfl⟩ (fun b es clock w hb => AnyW.maps_Clone cloneF b es clock w hb) n key val born clock
def cpC (st : St) : Nat → List AV
 | 0 => [.mo 14, .mo 2, .i .i64 (st.nx 0), .mo 3, .i .i64 (st.nx 1), .mo 4, .i .i64 (st.nx 2), .mo 5, .i .i64 (st.nx 3), .mo 6, .i .i64 (st.nx 4), .mo 7, .i .i64 (st.nx 5), .mo 8, .i .i64 (st.nx 6), .mo 9, .i .i64 (st.nx 7), .mo 10, .i .i64 (st.nx 8), .mo 11, .i .i64 (st.nx 9), .mo 12, .i .i64 (st.nx 10), .mo 13, .i .i64 (st.nx 11)]
 | 1 => [.mo 14, .mo 16, .i .i64 (st.nx 0), .mo 3, .i .i64 (st.nx 1), .mo 4, .i .i64 (st.nx 2), .mo 5, .i .i64 (st.nx 3), .mo 6, .i .i64 (st.nx 4), .mo 7, .i .i64 (st.nx 5), .mo 8, .i .i64 (st.nx 6), .mo 9, .i .i64 (st.nx 7), .mo 10, .i .i64 (st.nx 8), .mo 11, .i .i64 (st.nx 9), .mo 12, .i .i64 (st.nx 10), .mo 13, .i .i64 (st.nx 11)]
 | 2 => [.mo 14, .mo 16, .i .i64 (st.nx 0), .mo 17, .i .i64 (st.nx 1), .mo 4, .i .i64 (st.nx 2), .mo 5, .i .i64 (st.nx 3), .mo 6, .i .i64 (st.nx 4), .mo 7, .i .i64 (st.nx 5), .mo 8, .i .i64 (st.nx 6), .mo 9, .i .i64 (st.nx 7), .mo 10, .i .i64 (st.nx 8), .mo 11, .i .i64 (st.nx 9), .mo 12, .i .i64 (st.nx 10), .mo 13, .i .i64 (st.nx 11)]
 | 3 => [.mo 14, .mo 16, .i .i64 (st.nx 0), .mo 17, .i .i64 (st.nx 1), .mo 18, .i .i64 (st.nx 2), .mo 5, .i .i64 (st.nx 3), .mo 6, .i .i64 (st.nx 4), .mo 7, .i .i64 (st.nx 5), .mo 8, .i .i64 (st.nx 6), .mo 9, .i .i64 (st.nx 7), .mo 10, .i .i64 (st.nx 8), .mo 11, .i .i64 (st.nx 9), .mo 12, .i .i64 (st.nx 10), .mo 13, .i .i64 (st.nx 11)]
 | 4 => [.mo 14, .mo 16, .i .i64 (st.nx 0), .mo 17, .i .i64 (st.nx 1), .mo 18, .i .i64 (st.nx 2), .mo 19, .i .i64 (st.nx 3), .mo 6, .i .i64 (st.nx 4), .mo 7, .i .i64 (st.nx 5), .mo 8, .i .i64 (st.nx 6), .mo 9, .i .i64 (st.nx 7), .mo 10, .i .i64 (st.nx 8), .mo 11, .i .i64 (st.nx 9), .mo 12, .i .i64 (st.nx 10), .mo 13, .i .i64 (st.nx 11)]
 | 5 => [.mo 14, .mo 16, .i .i64 (st.nx 0), .mo 17, .i .i64 (st.nx 1), .mo 18, .i .i64 (st.nx 2), .mo 19, .i .i64 (st.nx 3), .mo 20, .i .i64 (st.nx 4), .mo 7, .i .i64 (st.nx 5), .mo 8, .i .i64 (st.nx 6), .mo 9, .i .i64 (st.nx 7), .mo 10, .i .i64 (st.nx 8), .mo 11, .i .i64 (st.nx 9), .mo 12, .i .i64 (st.nx 10), .mo 13, .i .i64 (st.nx 11)]
 | 6 => [.mo 14, .mo 16, .i .i64 (st.nx 0), .mo 17, .i .i64 (st.nx 1), .mo 18, .i .i64 (st.nx 2), .mo 19, .i .i64 (st.nx 3), .mo 20, .i .i64 (st.nx 4), .mo 21, .i .i64 (st.nx 5), .mo 8, .i .i64 (st.nx 6), .mo 9, .i .i64 (st.nx 7), .mo 10, .i .i64 (st.nx 8), .mo 11, .i .i64 (st.nx 9), .mo 12, .i .i64 (st.nx 10), .mo 13, .i .i64 (st.nx 11)]
 | 7 => [.mo 14, .mo 16, .i .i64 (st.nx 0), .mo 17, .i .i64 (st.nx 1), .mo 18, .i .i64 (st.nx 2), .mo 19, .i .i64 (st.nx 3), .mo 20, .i .i64 (st.nx 4), .mo 21, .i .i64 (st.nx 5), .mo 22, .i .i64 (st.nx 6), .mo 9, .i .i64 (st.nx 7), .mo 10, .i .i64 (st.nx 8), .mo 11, .i .i64 (st.nx 9), .mo 12, .i .i64 (st.nx 10), .mo 13, .i .i64 (st.nx 11)]
 | 8 => [.mo 14, .mo 16, .i .i64 (st.nx 0), .mo 17, .i .i64 (st.nx 1), .mo 18, .i .i64 (st.nx 2), .mo 19, .i .i64 (st.nx 3), .mo 20, .i .i64 (st.nx 4), .mo 21, .i .i64 (st.nx 5), .mo 22, .i .i64 (st.nx 6), .mo 23, .i .i64 (st.nx 7), .mo 10, .i .i64 (st.nx 8), .mo 11, .i .i64 (st.nx 9), .mo 12, .i .i64 (st.nx 10), .mo 13, .i .i64 (st.nx 11)]
 | 9 => [.mo 14, .mo 16, .i .i64 (st.nx 0), .mo 17, .i .i64 (st.nx 1), .mo 18, .i .i64 (st.nx 2), .mo 19, .i .i64 (st.nx 3), .mo 20, .i .i64 (st.nx 4), .mo 21, .i .i64 (st.nx 5), .mo 22, .i .i64 (st.nx 6), .mo 23, .i .i64 (st.nx 7), .mo 24, .i .i64 (st.nx 8), .mo 11, .i .i64 (st.nx 9), .mo 12, .i .i64 (st.nx 10), .mo 13, .i .i64 (st.nx 11)]
 | 10 => [.mo 14, .mo 16, .i .i64 (st.nx 0), .mo 17, .i .i64 (st.nx 1), .mo 18, .i .i64 (st.nx 2), .mo 19, .i .i64 (st.nx 3), .mo 20, .i .i64 (st.nx 4), .mo 21, .i .i64 (st.nx 5), .mo 22, .i .i64 (st.nx 6), .mo 23, .i .i64 (st.nx 7), .mo 24, .i .i64 (st.nx 8), .mo 25, .i .i64 (st.nx 9), .mo 12, .i .i64 (st.nx 10), .mo 13, .i .i64 (st.nx 11)]
 | 11 => [.mo 14, .mo 16, .i .i64 (st.nx 0), .mo 17, .i .i64 (st.nx 1), .mo 18, .i .i64 (st.nx 2), .mo 19, .i .i64 (st.nx 3), .mo 20, .i .i64 (st.nx 4), .mo 21, .i .i64 (st.nx 5), .mo 22, .i .i64 (st.nx 6), .mo 23, .i .i64 (st.nx 7), .mo 24, .i .i64 (st.nx 8), .mo 25, .i .i64 (st.nx 9), .mo 26, .i .i64 (st.nx 10), .mo 13, .i .i64 (st.nx 11)]
 | _ => [.mo 14, .mo 16, .i .i64 (st.nx 0), .mo 17, .i .i64 (st.nx 1), .mo 18, .i .i64 (st.nx 2), .mo 19, .i .i64 (st.nx 3), .mo 20, .i .i64 (st.nx 4), .mo 21, .i .i64 (st.nx 5), .mo 22, .i .i64 (st.nx 6), .mo 23, .i .i64 (st.nx 7), .mo 24, .i .i64 (st.nx 8), .mo 25, .i .i64 (st.nx 9), .mo 26, .i .i64 (st.nx 10), .mo 27, .i .i64 (st.nx 11)]
def cpM (st : St) (B : Bn) (k j : Nat) : AO := match Nat.blt j k with
 | true => filO st B j
 | false => .dead
def cpO (st : St) (B : Bn) (k : Nat) : List OE := [⟨2, [], filO st B 0⟩, ⟨3, [], filO st B 1⟩, ⟨4, [], filO st B 2⟩, ⟨5, [], filO st B 3⟩, ⟨6, [], filO st B 4⟩, ⟨7, [], filO st B 5⟩, ⟨8, [], filO st B 6⟩, ⟨9, [], filO st B 7⟩, ⟨10, [], filO st B 8⟩, ⟨11, [], filO st B 9⟩, ⟨12, [], filO st B 10⟩, ⟨13, [], filO st B 11⟩, ⟨15, [], .cells 151 (cpC st k)⟩, ⟨16, [], cpM st B k 0⟩, ⟨17, [], cpM st B k 1⟩, ⟨18, [], cpM st B k 2⟩, ⟨19, [], cpM st B k 3⟩, ⟨20, [], cpM st B k 4⟩, ⟨21, [], cpM st B k 5⟩, ⟨22, [], cpM st B k 6⟩, ⟨23, [], cpM st B k 7⟩, ⟨24, [], cpM st B k 8⟩, ⟨25, [], cpM st B k 9⟩, ⟨26, [], cpM st B k 10⟩, ⟨27, [], cpM st B k 11⟩]
def copyO (st : St) (B : Bn) : List AO := [.cells 151 (stC2 st), usO st B, filO st B 0, filO st B 1, filO st B 2, filO st B 3, filO st B 4, filO st B 5, filO st B 6, filO st B 7, filO st B 8, filO st B 9, filO st B 10, filO st B 11]
theorem cases13c {t : Nat} (h : t ≤ 12) : t = 0 ∨ t = 1 ∨ t = 2 ∨ t = 3 ∨ t = 4 ∨ t = 5 ∨ t = 6 ∨ t = 7 ∨ t = 8 ∨ t = 9 ∨ t = 10 ∨ t = 11 ∨ t = 12 := by omega
set_option maxRecDepth 20000 in
set_option maxHeartbeats 8000000 in
theorem copy70_fn (st : St) (B : Bn) : CtrM Try.prog 70 true (storeO st B) [.p 0 0] (fun _ : Unit => True) (fun _ => storeO st B) (fun _ => copyO st B) (fun _ => .p 14 0) := by
 refine fn_of_execM tabOk Try.func70 (by kernel_rfl) rfl (N := Try.f70.ntmps) rfl (res := [.tmp 2]) rfl true false (storeO st B) _ _ _ _ rfl (fun h => by cases h) [(2000001, [.frz 0 [0]]), (1000001, [.nw, .nw, .nw, .nw, .nw, .nw, .nw, .nw, .nw, .nw, .nw, .nw]), (2000005, [.frz 0 [0]])] ?_
 repeat refine Or.inl ?_
 refine ⟨rfl, [(0, true), (5, true), (1, true), (2, true), (6, true), (7, true), (3, true), (8, true), (4, false), (9, false), (10, false), (11, false)], [0, 1, 3, 7, 15, 0, 32, 96, 224, 511, 1023, 2047], by decide, ?_⟩
 refine Or.inr (Or.inr ?_)
 refine ⟨true, [1], rfl, Unit, _, _, _, _, cloneU_fn _ _ _ _ _, fun _ _ => ?_⟩
 repeat refine Or.inl ?_
 refine ⟨[], Nat, fun k => k ≤ 12, fun k => [⟨16, [], .i .i64 k⟩], cpO st B, fun k => 12 - k,
  ⟨0, [], Nat.zero_le _, rfl, rfl, rfl, rfl, rfl, ⟨rfl, rfl⟩, ?_⟩, ?_⟩
 ·exact ⟨AOEq.refl _, AOEq.refl _, AOEq.refl _, AOEq.refl _, AOEq.refl _, AOEq.refl _, AOEq.refl _, AOEq.refl _, AOEq.refl _, AOEq.refl _, AOEq.refl _, AOEq.refl _, ⟨rfl, AVsEq.refl _⟩, trivial, trivial, trivial, trivial, trivial, trivial, trivial, trivial, trivial, trivial, trivial, trivial⟩
 intro k hk
 have hk : k ≤ 12 := hk
 rcases cases13c hk with rfl | rfl | rfl | rfl | rfl | rfl | rfl | rfl | rfl | rfl | rfl | rfl | rfl
 ·refine .inl ⟨fun _ => ?_, fun hc => (by cases hc)⟩
  repeat refine Or.inl ?_
  refine ⟨rfl, [(0, true), (1, true), (2, true), (3, true), (4, true), (5, true), (6, true), (7, true), (10, true), (11, true), (12, true), (13, true), (8, true), (9, false), (14, false)], [0, 0, 0, 0, 4, 20, 60, 124, 252, 508, 1, 1025, 4095, 8191, 16383], by decide, ?_⟩
  refine ⟨⟨by decide, by decide⟩, ?_⟩
  refine ⟨⟨by decide, by decide⟩, ?_⟩
  refine Or.inr (Or.inr ?_)
  refine ⟨true, [2], rfl, Unit, _, _, _, _, cloneF_fn _ _ _ _ _, fun _ _ => ?_⟩
  refine ⟨1, [(16, 28)], (by decide), (by decide), rfl, rfl, rfl, rfl, rfl, ⟨rfl, rfl⟩, ⟨AOEq.refl _, AOEq.refl _, AOEq.refl _, AOEq.refl _, AOEq.refl _, AOEq.refl _, AOEq.refl _, AOEq.refl _, AOEq.refl _, AOEq.refl _, AOEq.refl _, AOEq.refl _, ⟨rfl, AVsEq.refl _⟩, AOEq.refl _, trivial, trivial, trivial, trivial, trivial, trivial, trivial, trivial, trivial, trivial, trivial⟩⟩
 ·refine .inl ⟨fun _ => ?_, fun hc => (by cases hc)⟩
  repeat refine Or.inl ?_
  refine ⟨rfl, [(0, true), (1, true), (2, true), (3, true), (4, true), (5, true), (6, true), (7, true), (10, true), (11, true), (12, true), (13, true), (8, true), (9, false), (14, false)], [0, 0, 0, 0, 4, 20, 60, 124, 252, 508, 1, 1025, 4095, 8191, 16383], by decide, ?_⟩
  refine ⟨⟨by decide, by decide⟩, ?_⟩
  refine ⟨⟨by decide, by decide⟩, ?_⟩
  refine Or.inr (Or.inr ?_)
  refine ⟨true, [3], rfl, Unit, _, _, _, _, cloneF_fn _ _ _ _ _, fun _ _ => ?_⟩
  refine ⟨2, [(17, 28)], (by decide), (by decide), rfl, rfl, rfl, rfl, rfl, ⟨rfl, rfl⟩, ⟨AOEq.refl _, AOEq.refl _, AOEq.refl _, AOEq.refl _, AOEq.refl _, AOEq.refl _, AOEq.refl _, AOEq.refl _, AOEq.refl _, AOEq.refl _, AOEq.refl _, AOEq.refl _, ⟨rfl, AVsEq.refl _⟩, AOEq.refl _, AOEq.refl _, trivial, trivial, trivial, trivial, trivial, trivial, trivial, trivial, trivial, trivial⟩⟩
 ·refine .inl ⟨fun _ => ?_, fun hc => (by cases hc)⟩
  repeat refine Or.inl ?_
  refine ⟨rfl, [(0, true), (1, true), (2, true), (3, true), (4, true), (5, true), (6, true), (7, true), (10, true), (11, true), (12, true), (13, true), (8, true), (9, false), (14, false)], [0, 0, 0, 0, 4, 20, 60, 124, 252, 508, 1, 1025, 4095, 8191, 16383], by decide, ?_⟩
  refine ⟨⟨by decide, by decide⟩, ?_⟩
  refine ⟨⟨by decide, by decide⟩, ?_⟩
  refine Or.inr (Or.inr ?_)
  refine ⟨true, [4], rfl, Unit, _, _, _, _, cloneF_fn _ _ _ _ _, fun _ _ => ?_⟩
  refine ⟨3, [(18, 28)], (by decide), (by decide), rfl, rfl, rfl, rfl, rfl, ⟨rfl, rfl⟩, ⟨AOEq.refl _, AOEq.refl _, AOEq.refl _, AOEq.refl _, AOEq.refl _, AOEq.refl _, AOEq.refl _, AOEq.refl _, AOEq.refl _, AOEq.refl _, AOEq.refl _, AOEq.refl _, ⟨rfl, AVsEq.refl _⟩, AOEq.refl _, AOEq.refl _, AOEq.refl _, trivial, trivial, trivial, trivial, trivial, trivial, trivial, trivial, trivial⟩⟩
 ·refine .inl ⟨fun _ => ?_, fun hc => (by cases hc)⟩
  repeat refine Or.inl ?_
  refine ⟨rfl, [(0, true), (1, true), (2, true), (3, true), (4, true), (5, true), (6, true), (7, true), (10, true), (11, true), (12, true), (13, true), (8, true), (9, false), (14, false)], [0, 0, 0, 0, 4, 20, 60, 124, 252, 508, 1, 1025, 4095, 8191, 16383], by decide, ?_⟩
  refine ⟨⟨by decide, by decide⟩, ?_⟩
  refine ⟨⟨by decide, by decide⟩, ?_⟩
  refine Or.inr (Or.inr ?_)
  refine ⟨true, [5], rfl, Unit, _, _, _, _, cloneF_fn _ _ _ _ _, fun _ _ => ?_⟩
  refine ⟨4, [(19, 28)], (by decide), (by decide), rfl, rfl, rfl, rfl, rfl, ⟨rfl, rfl⟩, ⟨AOEq.refl _, AOEq.refl _, AOEq.refl _, AOEq.refl _, AOEq.refl _, AOEq.refl _, AOEq.refl _, AOEq.refl _, AOEq.refl _, AOEq.refl _, AOEq.refl _, AOEq.refl _, ⟨rfl, AVsEq.refl _⟩, AOEq.refl _, AOEq.refl _, AOEq.refl _, AOEq.refl _, trivial, trivial, trivial, trivial, trivial, trivial, trivial, trivial⟩⟩
 ·refine .inl ⟨fun _ => ?_, fun hc => (by cases hc)⟩
  repeat refine Or.inl ?_
  refine ⟨rfl, [(0, true), (1, true), (2, true), (3, true), (4, true), (5, true), (6, true), (7, true), (10, true), (11, true), (12, true), (13, true), (8, true), (9, false), (14, false)], [0, 0, 0, 0, 4, 20, 60, 124, 252, 508, 1, 1025, 4095, 8191, 16383], by decide, ?_⟩
  refine ⟨⟨by decide, by decide⟩, ?_⟩
  refine ⟨⟨by decide, by decide⟩, ?_⟩
  refine Or.inr (Or.inr ?_)
  refine ⟨true, [6], rfl, Unit, _, _, _, _, cloneF_fn _ _ _ _ _, fun _ _ => ?_⟩
  refine ⟨5, [(20, 28)], (by decide), (by decide), rfl, rfl, rfl, rfl, rfl, ⟨rfl, rfl⟩, ⟨AOEq.refl _, AOEq.refl _, AOEq.refl _, AOEq.refl _, AOEq.refl _, AOEq.refl _, AOEq.refl _, AOEq.refl _, AOEq.refl _, AOEq.refl _, AOEq.refl _, AOEq.refl _, ⟨rfl, AVsEq.refl _⟩, AOEq.refl _, AOEq.refl _, AOEq.refl _, AOEq.refl _, AOEq.refl _, trivial, trivial, trivial, trivial, trivial, trivial, trivial⟩⟩
 ·refine .inl ⟨fun _ => ?_, fun hc => (by cases hc)⟩
  repeat refine Or.inl ?_
  refine ⟨rfl, [(0, true), (1, true), (2, true), (3, true), (4, true), (5, true), (6, true), (7, true), (10, true), (11, true), (12, true), (13, true), (8, true), (9, false), (14, false)], [0, 0, 0, 0, 4, 20, 60, 124, 252, 508, 1, 1025, 4095, 8191, 16383], by decide, ?_⟩
  refine ⟨⟨by decide, by decide⟩, ?_⟩
  refine ⟨⟨by decide, by decide⟩, ?_⟩
  refine Or.inr (Or.inr ?_)
  refine ⟨true, [7], rfl, Unit, _, _, _, _, cloneF_fn _ _ _ _ _, fun _ _ => ?_⟩
  refine ⟨6, [(21, 28)], (by decide), (by decide), rfl, rfl, rfl, rfl, rfl, ⟨rfl, rfl⟩, ⟨AOEq.refl _, AOEq.refl _, AOEq.refl _, AOEq.refl _, AOEq.refl _, AOEq.refl _, AOEq.refl _, AOEq.refl _, AOEq.refl _, AOEq.refl _, AOEq.refl _, AOEq.refl _, ⟨rfl, AVsEq.refl _⟩, AOEq.refl _, AOEq.refl _, AOEq.refl _, AOEq.refl _, AOEq.refl _, AOEq.refl _, trivial, trivial, trivial, trivial, trivial, trivial⟩⟩
 ·refine .inl ⟨fun _ => ?_, fun hc => (by cases hc)⟩
  repeat refine Or.inl ?_
  refine ⟨rfl, [(0, true), (1, true), (2, true), (3, true), (4, true), (5, true), (6, true), (7, true), (10, true), (11, true), (12, true), (13, true), (8, true), (9, false), (14, false)], [0, 0, 0, 0, 4, 20, 60, 124, 252, 508, 1, 1025, 4095, 8191, 16383], by decide, ?_⟩
  refine ⟨⟨by decide, by decide⟩, ?_⟩
  refine ⟨⟨by decide, by decide⟩, ?_⟩
  refine Or.inr (Or.inr ?_)
  refine ⟨true, [8], rfl, Unit, _, _, _, _, cloneF_fn _ _ _ _ _, fun _ _ => ?_⟩
  refine ⟨7, [(22, 28)], (by decide), (by decide), rfl, rfl, rfl, rfl, rfl, ⟨rfl, rfl⟩, ⟨AOEq.refl _, AOEq.refl _, AOEq.refl _, AOEq.refl _, AOEq.refl _, AOEq.refl _, AOEq.refl _, AOEq.refl _, AOEq.refl _, AOEq.refl _, AOEq.refl _, AOEq.refl _, ⟨rfl, AVsEq.refl _⟩, AOEq.refl _, AOEq.refl _, AOEq.refl _, AOEq.refl _, AOEq.refl _, AOEq.refl _, AOEq.refl _, trivial, trivial, trivial, trivial, trivial⟩⟩
 ·refine .inl ⟨fun _ => ?_, fun hc => (by cases hc)⟩
  repeat refine Or.inl ?_
  refine ⟨rfl, [(0, true), (1, true), (2, true), (3, true), (4, true), (5, true), (6, true), (7, true), (10, true), (11, true), (12, true), (13, true), (8, true), (9, false), (14, false)], [0, 0, 0, 0, 4, 20, 60, 124, 252, 508, 1, 1025, 4095, 8191, 16383], by decide, ?_⟩
  refine ⟨⟨by decide, by decide⟩, ?_⟩
  refine ⟨⟨by decide, by decide⟩, ?_⟩
  refine Or.inr (Or.inr ?_)
  refine ⟨true, [9], rfl, Unit, _, _, _, _, cloneF_fn _ _ _ _ _, fun _ _ => ?_⟩
  refine ⟨8, [(23, 28)], (by decide), (by decide), rfl, rfl, rfl, rfl, rfl, ⟨rfl, rfl⟩, ⟨AOEq.refl _, AOEq.refl _, AOEq.refl _, AOEq.refl _, AOEq.refl _, AOEq.refl _, AOEq.refl _, AOEq.refl _, AOEq.refl _, AOEq.refl _, AOEq.refl _, AOEq.refl _, ⟨rfl, AVsEq.refl _⟩, AOEq.refl _, AOEq.refl _, AOEq.refl _, AOEq.refl _, AOEq.refl _, AOEq.refl _, AOEq.refl _, AOEq.refl _, trivial, trivial, trivial, trivial⟩⟩
 ·refine .inl ⟨fun _ => ?_, fun hc => (by cases hc)⟩
  repeat refine Or.inl ?_
  refine ⟨rfl, [(0, true), (1, true), (2, true), (3, true), (4, true), (5, true), (6, true), (7, true), (10, true), (11, true), (12, true), (13, true), (8, true), (9, false), (14, false)], [0, 0, 0, 0, 4, 20, 60, 124, 252, 508, 1, 1025, 4095, 8191, 16383], by decide, ?_⟩
  refine ⟨⟨by decide, by decide⟩, ?_⟩
  refine ⟨⟨by decide, by decide⟩, ?_⟩
  refine Or.inr (Or.inr ?_)
  refine ⟨true, [10], rfl, Unit, _, _, _, _, cloneF_fn _ _ _ _ _, fun _ _ => ?_⟩
  refine ⟨9, [(24, 28)], (by decide), (by decide), rfl, rfl, rfl, rfl, rfl, ⟨rfl, rfl⟩, ⟨AOEq.refl _, AOEq.refl _, AOEq.refl _, AOEq.refl _, AOEq.refl _, AOEq.refl _, AOEq.refl _, AOEq.refl _, AOEq.refl _, AOEq.refl _, AOEq.refl _, AOEq.refl _, ⟨rfl, AVsEq.refl _⟩, AOEq.refl _, AOEq.refl _, AOEq.refl _, AOEq.refl _, AOEq.refl _, AOEq.refl _, AOEq.refl _, AOEq.refl _, AOEq.refl _, trivial, trivial, trivial⟩⟩
 ·refine .inl ⟨fun _ => ?_, fun hc => (by cases hc)⟩
  repeat refine Or.inl ?_
  refine ⟨rfl, [(0, true), (1, true), (2, true), (3, true), (4, true), (5, true), (6, true), (7, true), (10, true), (11, true), (12, true), (13, true), (8, true), (9, false), (14, false)], [0, 0, 0, 0, 4, 20, 60, 124, 252, 508, 1, 1025, 4095, 8191, 16383], by decide, ?_⟩
  refine ⟨⟨by decide, by decide⟩, ?_⟩
  refine ⟨⟨by decide, by decide⟩, ?_⟩
  refine Or.inr (Or.inr ?_)
  refine ⟨true, [11], rfl, Unit, _, _, _, _, cloneF_fn _ _ _ _ _, fun _ _ => ?_⟩
  refine ⟨10, [(25, 28)], (by decide), (by decide), rfl, rfl, rfl, rfl, rfl, ⟨rfl, rfl⟩, ⟨AOEq.refl _, AOEq.refl _, AOEq.refl _, AOEq.refl _, AOEq.refl _, AOEq.refl _, AOEq.refl _, AOEq.refl _, AOEq.refl _, AOEq.refl _, AOEq.refl _, AOEq.refl _, ⟨rfl, AVsEq.refl _⟩, AOEq.refl _, AOEq.refl _, AOEq.refl _, AOEq.refl _, AOEq.refl _, AOEq.refl _, AOEq.refl _, AOEq.refl _, AOEq.refl _, AOEq.refl _, trivial, trivial⟩⟩
 ·refine .inl ⟨fun _ => ?_, fun hc => (by cases hc)⟩
  repeat refine Or.inl ?_
  refine ⟨rfl, [(0, true), (1, true), (2, true), (3, true), (4, true), (5, true), (6, true), (7, true), (10, true), (11, true), (12, true), (13, true), (8, true), (9, false), (14, false)], [0, 0, 0, 0, 4, 20, 60, 124, 252, 508, 1, 1025, 4095, 8191, 16383], by decide, ?_⟩
  refine ⟨⟨by decide, by decide⟩, ?_⟩
  refine ⟨⟨by decide, by decide⟩, ?_⟩
  refine Or.inr (Or.inr ?_)
  refine ⟨true, [12], rfl, Unit, _, _, _, _, cloneF_fn _ _ _ _ _, fun _ _ => ?_⟩
  refine ⟨11, [(26, 28)], (by decide), (by decide), rfl, rfl, rfl, rfl, rfl, ⟨rfl, rfl⟩, ⟨AOEq.refl _, AOEq.refl _, AOEq.refl _, AOEq.refl _, AOEq.refl _, AOEq.refl _, AOEq.refl _, AOEq.refl _, AOEq.refl _, AOEq.refl _, AOEq.refl _, AOEq.refl _, ⟨rfl, AVsEq.refl _⟩, AOEq.refl _, AOEq.refl _, AOEq.refl _, AOEq.refl _, AOEq.refl _, AOEq.refl _, AOEq.refl _, AOEq.refl _, AOEq.refl _, AOEq.refl _, AOEq.refl _, trivial⟩⟩
 ·refine .inl ⟨fun _ => ?_, fun hc => (by cases hc)⟩
  repeat refine Or.inl ?_
  refine ⟨rfl, [(0, true), (1, true), (2, true), (3, true), (4, true), (5, true), (6, true), (7, true), (10, true), (11, true), (12, true), (13, true), (8, true), (9, false), (14, false)], [0, 0, 0, 0, 4, 20, 60, 124, 252, 508, 1, 1025, 4095, 8191, 16383], by decide, ?_⟩
  refine ⟨⟨by decide, by decide⟩, ?_⟩
  refine ⟨⟨by decide, by decide⟩, ?_⟩
  refine Or.inr (Or.inr ?_)
  refine ⟨true, [13], rfl, Unit, _, _, _, _, cloneF_fn _ _ _ _ _, fun _ _ => ?_⟩
  have ao : AOEq (filO st B 11) (filO st B 11) := AOEq.refl _
  refine ⟨12, [(27, 28)], (by decide), (by decide), rfl, rfl, rfl, rfl, rfl, ⟨rfl, rfl⟩, ⟨AOEq.refl _, AOEq.refl _, AOEq.refl _, AOEq.refl _, AOEq.refl _, AOEq.refl _, AOEq.refl _, AOEq.refl _, AOEq.refl _, AOEq.refl _, AOEq.refl _, AOEq.refl _, ⟨rfl, AVsEq.refl _⟩, AOEq.refl _, AOEq.refl _, AOEq.refl _, AOEq.refl _, AOEq.refl _, AOEq.refl _, AOEq.refl _, AOEq.refl _, AOEq.refl _, AOEq.refl _, AOEq.refl _, ao⟩⟩
 ·refine .inl ⟨fun hc => (by cases hc), fun _ => ?_⟩
  repeat refine Or.inl ?_
  exact ⟨(), [(14, 15), (15, 14)], trivial, ⟨⟨⟨rfl, rfl, AVEq.refl _⟩, trivial⟩, ⟨⟨rfl, rfl, rfl, ⟨rfl, AVsEq.refl _⟩⟩, ⟨rfl, rfl, trivial, AOEq.refl _⟩, ⟨rfl, rfl, trivial, AOEq.refl _⟩, ⟨rfl, rfl, trivial, AOEq.refl _⟩, ⟨rfl, rfl, trivial, AOEq.refl _⟩, ⟨rfl, rfl, trivial, AOEq.refl _⟩, ⟨rfl, rfl, trivial, AOEq.refl _⟩, ⟨rfl, rfl, trivial, AOEq.refl _⟩, ⟨rfl, rfl, trivial, AOEq.refl _⟩, ⟨rfl, rfl, trivial, AOEq.refl _⟩, ⟨rfl, rfl, trivial, AOEq.refl _⟩, ⟨rfl, rfl, trivial, AOEq.refl _⟩, ⟨rfl, rfl, trivial, AOEq.refl _⟩, ⟨rfl, rfl, trivial, AOEq.refl _⟩, ⟨rfl, rfl, rfl, ⟨rfl, AVsEq.refl _⟩⟩, ⟨rfl, rfl, trivial, AOEq.refl _⟩, ⟨rfl, rfl, trivial, AOEq.refl _⟩, ⟨rfl, rfl, trivial, AOEq.refl _⟩, ⟨rfl, rfl, trivial, AOEq.refl _⟩, ⟨rfl, rfl, trivial, AOEq.refl _⟩, ⟨rfl, rfl, trivial, AOEq.refl _⟩, ⟨rfl, rfl, trivial, AOEq.refl _⟩, ⟨rfl, rfl, trivial, AOEq.refl _⟩, ⟨rfl, rfl, trivial, AOEq.refl _⟩, ⟨rfl, rfl, trivial, AOEq.refl _⟩, ⟨rfl, rfl, trivial, AOEq.refl _⟩, ⟨rfl, rfl, trivial, AOEq.refl _⟩, ⟨rfl, rfl, trivial, AOEq.refl _⟩, trivial⟩, rfl⟩, rfl, fun h => (by cases h)⟩
end Go.Proofs.Ytnookbebiacaeaa
end

section
namespace Go.Proofs.Ytnookbebiacaeaa
open Go.Eng Go.RowKit
set_option maxRecDepth 20000 in
set_option maxHeartbeats 8000000 in
theorem chunkKeeps (l more : List Opn) (hl : l.length < 2 ^ 63) (hm : more.length < 2 ^ 63) : Ctr Try.prog 15 [.rs 4 l.length (rOp l), .rs 4 more.length (rOp more)] [] (.b true) := by
 refine fn_of_exec tabOk Try.func15 (by kernel_rfl) rfl (N := Try.f15.ntmps) rfl (res := [.tmp 4]) rfl rfl [(1000025, [.nl 18 73 3]), (1000032, [.frz 18 [28]]), (2000035, [.nw])] ?_
 repeat refine Or.inl ?_
 refine ⟨_, _, small53_fn, ?_⟩
 repeat refine Or.inl ?_
 refine ⟨_, _, few_fn l 40 hl, ?_⟩
 repeat refine Or.inl ?_
 refine ⟨_, _, fun _ => few_fn more 15 hm, ?_⟩
 refine ⟨fun _ => RetIs.b rfl, fun hf => ?_⟩
 have hf : ((!fewL l 40) || !fewL more 15) = false := hf
 rw [Bool.or_eq_false_iff, Bool.not_eq_false', Bool.not_eq_false'] at hf
 obtain ⟨hf1, hf2⟩ := hf
 unfold fewL at hf1 hf2
 rw [Bool.and_eq_true, decide_eq_true_eq, List.all_eq_true] at hf1 hf2
 obtain ⟨hl40, hz⟩ := hf1
 obtain ⟨hm15, hzm⟩ := hf2
 have hz : ∀ o ∈ l, o.x.size ≤ 200 := fun o ho => by simpa using hz o ho
 have hzm : ∀ o ∈ more, o.x.size ≤ 200 := fun o ho => by simpa using hzm o ho
 refine Or.inr (Or.inr ?_)
 refine ⟨true, [], rfl, Unit, _, _, _, _, new55_fn, fun _ _ => ?_⟩
 repeat refine Or.inl ?_
 refine ⟨fun hc => (by cases hc), fun _ => ?_⟩
 repeat refine Or.inl ?_
 refine ⟨[], Nat × (Bn × St), fun p => p.1 ≤ l.length ∧ BOk p.2.2 p.2.1 ∧ Good p.2.2 p.1, fun p => [⟨7, [], .i .i64 p.1⟩], fun p => [⟨0, [], .cells 151 (stC p.2.2)⟩, ⟨1, [], usO p.2.2 p.2.1⟩, ⟨2, [], filO p.2.2 p.2.1 0⟩, ⟨3, [], filO p.2.2 p.2.1 1⟩, ⟨4, [], filO p.2.2 p.2.1 2⟩, ⟨5, [], filO p.2.2 p.2.1 3⟩, ⟨6, [], filO p.2.2 p.2.1 4⟩, ⟨7, [], filO p.2.2 p.2.1 5⟩, ⟨8, [], filO p.2.2 p.2.1 6⟩, ⟨9, [], filO p.2.2 p.2.1 7⟩, ⟨10, [], filO p.2.2 p.2.1 8⟩, ⟨11, [], filO p.2.2 p.2.1 9⟩, ⟨12, [], filO p.2.2 p.2.1 10⟩, ⟨13, [], filO p.2.2 p.2.1 11⟩], fun p => l.length - p.1,
  ⟨(0, b0, st0), [], ⟨Nat.zero_le _, b0_ok, Good.start⟩, rfl, rfl, rfl, rfl, rfl, ⟨rfl, rfl⟩, ?_⟩, ?_⟩
 ·exact ⟨⟨rfl, AVsEq.refl _⟩, AOEq.refl _, AOEq.refl _, AOEq.refl _, AOEq.refl _, AOEq.refl _, AOEq.refl _, AOEq.refl _, AOEq.refl _, AOEq.refl _, AOEq.refl _, AOEq.refl _, AOEq.refl _, (show AOEq (filO st0 b0 11) (filO st0 b0 11) from AOEq.refl _)⟩
 rintro ⟨k, B, s⟩ ⟨hk, hB, hgs⟩
 have hk : k ≤ l.length := hk
 have hB : BOk s B := hB
 have hgs : Good s k := hgs
 refine .inl ⟨fun hc => ?_, fun hc => ?_⟩
 ·have hc := dlt hc
  have hc : (k : Int) < l.length := hc
  have ek : ((k : Nat) : Int).toNat = k := Int.toNat_natCast k
  have hxk := hz _ (getD_memD dOp (show k < l.length by omega))
  have hsok := hgs.sok (by omega)
  have hg2 := hgs.step (l.getD k dOp) hxk
  obtain ⟨o, ho⟩ : ∃ o, o = l.getD ((k : Nat) : Int).toNat dOp := ⟨_, rfl⟩
  have ho2 : l.getD k dOp = o := by rw [ho, ek]
  rw [ho2] at hxk hg2
  obtain ⟨F, hF⟩ : ∃ F, F = sDo s o := ⟨_, rfl⟩
  rw [← hF] at hg2
  have c57 := do_fn s B o k hsok (by omega) hB hxk F hF
  have hsok2 := hg2.sok (by omega)
  repeat refine Or.inl ?_
  refine ⟨⟨by omega, by omega⟩, ?_⟩
  refine Or.inr (Or.inr ?_)
  rw [ho] at c57
  refine ⟨true, [0, 1, 2, 3, 4, 5, 6, 7, 8, 9, 10, 11, 12, 13], rfl, Bn, _, _, _, _, c57, fun B2 hB2 => ?_⟩
  repeat refine Or.inl ?_
  refine ⟨fun hd => ?_, fun hd => ?_⟩
  ·have hd : (((l.getD ((k : Nat) : Int).toNat dOp).d == 0) && (F.2.2.2 == 0)) = true := hd
   rw [← ho, Bool.and_eq_true, beq_iff_eq, beq_iff_eq] at hd
   have hg3 := hg2
   rw [hF] at hg3
   obtain ⟨t, ht, hot, hmg, hpa⟩ := put_again hg3 (by omega) hd.1 (by rw [← hF]; exact hd.2)
   rw [← hF] at hmg hpa
   have c66 := get_fn F.1 B2 t F.2.1 ht (fun p hp => Nat.le_trans ((hsok2.t t ht).sz p hp) (by decide))
   rw [hmg, ← hot, ho] at c66
   have c69 := put_o F.1 B2 o.t o.x (k + 1) hsok2 (by omega) hB2 hxk (F.1, (F.2.1, noB, 0)) hpa
   rw [ho] at c69
   refine Or.inr (Or.inr ?_)
   refine ⟨true, [0, 1, 2, 3, 4, 5, 6, 7, 8, 9, 10, 11, 12, 13], rfl, Unit, _, _, _, _, c66, fun _ _ => ?_⟩
   refine Or.inr (Or.inr ?_)
   refine ⟨true, [0, 1, 2, 3, 4, 5, 6, 7, 8, 9, 10, 11, 12, 13], rfl, Bn, _, _, _, _, c69, fun B3 hB3 => ?_⟩
   refine ⟨fun h => ?_, fun _ => ?_⟩
   ·have h : (((((0 : Int) != 0) || !bytesEq (l.getD ((k : Nat) : Int).toNat dOp).x (l.getD ((k : Nat) : Int).toNat dOp).x) || ((0 : Int) != 0)) || (F.2.1 != F.2.1)) = true := h
    have e : bytesEq (l.getD ((k : Nat) : Int).toNat dOp).x (l.getD ((k : Nat) : Int).toNat dOp).x = true := bytes_eq.2 rfl
    rw [e] at h
    simp at h
   repeat refine Or.inl ?_
   refine ⟨fun h => ?_, fun _ => ?_⟩
   ·have h : (((l.getD ((k : Nat) : Int).toNat dOp).d == 2) && (F.2.2.2 == 0)) = true := h
    rw [← ho, hd.1] at h
    cases h
   refine ⟨(k + 1, B3, F.1), [], ⟨(by show k + 1 ≤ l.length; omega), hB3, hg2⟩, by dsimp only; omega, rfl, rfl, rfl, rfl, rfl, ⟨rfl, wr (by omega) (by omega)⟩, ⟨⟨rfl, AVsEq.refl _⟩, AOEq.refl _, AOEq.refl _, AOEq.refl _, AOEq.refl _, AOEq.refl _, AOEq.refl _, AOEq.refl _, AOEq.refl _, AOEq.refl _, AOEq.refl _, AOEq.refl _, AOEq.refl _, (show AOEq (filO F.1 B3 11) (filO F.1 B3 11) from AOEq.refl _)⟩⟩
  ·repeat refine Or.inl ?_
   refine ⟨fun hd2 => ?_, fun _ => ?_⟩
   ·have hd2 : (((l.getD ((k : Nat) : Int).toNat dOp).d == 2) && (F.2.2.2 == 0)) = true := hd2
    rw [← ho, Bool.and_eq_true, beq_iff_eq, beq_iff_eq] at hd2
    obtain ⟨t, ht, hot, hmg⟩ := drop_again hgs (by omega) hd2.1 (by rw [← hF]; exact hd2.2)
    rw [← hF] at hmg
    have c66 := get_fn F.1 B2 t o.n ht (fun p hp => Nat.le_trans ((hsok2.t t ht).sz p hp) (by decide))
    rw [hmg, ← hot, ho] at c66
    have c68 := drop_no F.1 B2 t o.n ht hmg
    rw [← hot, ho] at c68
    refine Or.inr (Or.inr ?_)
    refine ⟨true, [0, 1, 2, 3, 4, 5, 6, 7, 8, 9, 10, 11, 12, 13], rfl, Unit, _, _, _, _, c66, fun _ _ => ?_⟩
    refine Or.inr (Or.inl ⟨⟨⟨rfl, rfl⟩, trivial⟩, ?_⟩)
    refine Or.inr (Or.inr ?_)
    refine ⟨true, [0, 1, 2, 3, 4, 5, 6, 7, 8, 9, 10, 11, 12, 13], rfl, Unit, _, _, _, _, c68, fun _ _ => ?_⟩
    refine ⟨fun h => ?_, fun _ => ?_⟩
    ·cases h
    refine ⟨(k + 1, B2, F.1), [], ⟨(by show k + 1 ≤ l.length; omega), hB2, hg2⟩, by dsimp only; omega, rfl, rfl, rfl, rfl, rfl, ⟨rfl, wr (by omega) (by omega)⟩, ⟨⟨rfl, AVsEq.refl _⟩, AOEq.refl _, AOEq.refl _, AOEq.refl _, AOEq.refl _, AOEq.refl _, AOEq.refl _, AOEq.refl _, AOEq.refl _, AOEq.refl _, AOEq.refl _, AOEq.refl _, AOEq.refl _, (show AOEq (filO F.1 B2 11) (filO F.1 B2 11) from AOEq.refl _)⟩⟩
   ·refine ⟨(k + 1, B2, F.1), [], ⟨(by show k + 1 ≤ l.length; omega), hB2, hg2⟩, by dsimp only; omega, rfl, rfl, rfl, rfl, rfl, ⟨rfl, wr (by omega) (by omega)⟩, ⟨⟨rfl, AVsEq.refl _⟩, AOEq.refl _, AOEq.refl _, AOEq.refl _, AOEq.refl _, AOEq.refl _, AOEq.refl _, AOEq.refl _, AOEq.refl _, AOEq.refl _, AOEq.refl _, AOEq.refl _, AOEq.refl _, (show AOEq (filO F.1 B2 11) (filO F.1 B2 11) from AOEq.refl _)⟩⟩
 clear hc
 have hgs : Good s 40 := by
  have : ∀ j, k + j ≤ 40 → Good s (k + j) := by
   intro j
   induction j with
   | zero => intro _; exact hgs
   | succ j ih => intro hj; exact (ih (by omega)).more
  have := this (40 - k) (by omega)
  rwa [show k + (40 - k) = 40 by omega] at this
 clear hk
 have hrun := runS_good hgs hzm
 refine Or.inr (Or.inr ?_)
 refine ⟨true, [0, 1, 2, 3, 4, 5, 6, 7, 8, 9, 10, 11, 12, 13], rfl, Unit, _, _, _, _, copy70_fn s B, fun _ _ => ?_⟩
 repeat refine Or.inl ?_
 refine ⟨fun hc => (by cases hc), fun _ => ?_⟩
 refine Or.inr (Or.inr ?_)
 refine ⟨true, [0, 1, 2, 3, 4, 5, 6, 7, 8, 9, 10, 11, 12, 13], rfl, Unit, _, _, _, _, chunks_fn s B, fun _ _ => ?_⟩
 repeat refine Or.inl ?_
 refine ⟨[], Nat × Bn, fun p => p.1 ≤ more.length ∧ BOk (runS s more p.1) p.2, fun p => [⟨19, [], .i .i64 p.1⟩, ⟨18, [], .so 28⟩], fun p => [⟨14, [], .cells 151 (stC2 (runS s more p.1))⟩, ⟨15, [], usO (runS s more p.1) p.2⟩, ⟨16, [], filO (runS s more p.1) p.2 0⟩, ⟨17, [], filO (runS s more p.1) p.2 1⟩, ⟨18, [], filO (runS s more p.1) p.2 2⟩, ⟨19, [], filO (runS s more p.1) p.2 3⟩, ⟨20, [], filO (runS s more p.1) p.2 4⟩, ⟨21, [], filO (runS s more p.1) p.2 5⟩, ⟨22, [], filO (runS s more p.1) p.2 6⟩, ⟨23, [], filO (runS s more p.1) p.2 7⟩, ⟨24, [], filO (runS s more p.1) p.2 8⟩, ⟨25, [], filO (runS s more p.1) p.2 9⟩, ⟨26, [], filO (runS s more p.1) p.2 10⟩, ⟨27, [], filO (runS s more p.1) p.2 11⟩, ⟨28, [], .row 73 3 p.1 (rD (ansS s more))⟩], fun p => more.length - p.1,
  ⟨(0, B), [], ⟨Nat.zero_le _, hB⟩, rfl, rfl, rfl, rfl, rfl, ⟨⟨rfl, rfl⟩, rfl⟩, ?_⟩, ?_⟩
 ·exact ⟨⟨rfl, AVsEq.refl _⟩, AOEq.refl _, AOEq.refl _, AOEq.refl _, AOEq.refl _, AOEq.refl _, AOEq.refl _, AOEq.refl _, AOEq.refl _, AOEq.refl _, AOEq.refl _, AOEq.refl _, AOEq.refl _, AOEq.refl _, ⟨rfl, rfl, rfl, fun k hk => absurd hk (Nat.not_lt_zero k)⟩⟩
 rintro ⟨k, Bc⟩ ⟨hk, hBc⟩
 have hk : k ≤ more.length := hk
 have hBc : BOk (runS s more k) Bc := hBc
 refine .inl ⟨fun hc => ?_, fun hc => ?_⟩
 ·have hc := dlt hc
  have hc : (k : Int) < more.length := hc
  have ek : ((k : Nat) : Int).toNat = k := Int.toNat_natCast k
  have hxk := hzm _ (getD_memD dOp (show k < more.length by omega))
  have hgk := hrun k (by omega)
  have c57 := do_fn (runS s more k) Bc (more.getD k dOp) (40 + k) (hgk.sok (by omega)) (by omega) hBc hxk (runS s more (k + 1), ansS s more k) rfl
  rw [← ek] at c57
  rw [ek] at c57
  rw [show more.getD k dOp = more.getD ((k : Nat) : Int).toNat dOp by rw [ek]] at c57
  repeat refine Or.inl ?_
  refine ⟨⟨by omega, by omega⟩, ?_⟩
  refine Or.inr (Or.inr ?_)
  refine ⟨true, [14, 15, 16, 17, 18, 19, 20, 21, 22, 23, 24, 25, 26, 27], rfl, Bn, _, _, _, _, c57, fun B2 hB2 => ?_⟩
  repeat refine Or.inl ?_
  refine ⟨fits (by omega), ?_⟩
  refine ⟨(k + 1, B2), [(28, 30)], ⟨(by show k + 1 ≤ more.length; omega), hB2⟩, by dsimp only; omega, rfl, rfl, rfl, rfl, rfl, ⟨⟨rfl, wr (by omega) (by omega)⟩, rfl⟩, ⟨⟨rfl, AVsEq.refl _⟩, AOEq.refl _, AOEq.refl _, AOEq.refl _, AOEq.refl _, AOEq.refl _, AOEq.refl _, AOEq.refl _, AOEq.refl _, AOEq.refl _, AOEq.refl _, AOEq.refl _, AOEq.refl _, AOEq.refl _, snocD_row _ _⟩⟩
 have hc := dnlt hc
 have hc : (more.length : Int) ≤ (k : Nat) := hc
 have ek : k = more.length := by omega
 subst ek
 refine Or.inl (Or.inr (Or.inr ?_))
 refine ⟨true, [0, 1, 2, 3, 4, 5, 6, 7, 8, 9, 10, 11, 12, 13], rfl, Unit, _, _, _, _, chunks_fn s B, fun _ _ => ?_⟩
 refine ⟨fun h => ?_, fun _ => ?_⟩
 ·have h : ((s.us.length : Int) != (s.us.length : Int)) = true := h
  simp at h
 repeat refine Or.inl ?_
 refine ⟨[], Nat × Bn, fun p => p.1 ≤ more.length ∧ BOk (runS s more p.1) p.2, fun p => [⟨20, [], .i .i64 p.1⟩], fun p => [⟨0, [], .cells 151 (stC (runS s more p.1))⟩, ⟨1, [], usO (runS s more p.1) p.2⟩, ⟨2, [], filO (runS s more p.1) p.2 0⟩, ⟨3, [], filO (runS s more p.1) p.2 1⟩, ⟨4, [], filO (runS s more p.1) p.2 2⟩, ⟨5, [], filO (runS s more p.1) p.2 3⟩, ⟨6, [], filO (runS s more p.1) p.2 4⟩, ⟨7, [], filO (runS s more p.1) p.2 5⟩, ⟨8, [], filO (runS s more p.1) p.2 6⟩, ⟨9, [], filO (runS s more p.1) p.2 7⟩, ⟨10, [], filO (runS s more p.1) p.2 8⟩, ⟨11, [], filO (runS s more p.1) p.2 9⟩, ⟨12, [], filO (runS s more p.1) p.2 10⟩, ⟨13, [], filO (runS s more p.1) p.2 11⟩], fun p => more.length - p.1,
  ⟨(0, B), [], ⟨Nat.zero_le _, hB⟩, rfl, rfl, rfl, rfl, rfl, ⟨rfl, rfl⟩, ?_⟩, ?_⟩
 ·exact ⟨⟨rfl, AVsEq.refl _⟩, AOEq.refl _, AOEq.refl _, AOEq.refl _, AOEq.refl _, AOEq.refl _, AOEq.refl _, AOEq.refl _, AOEq.refl _, AOEq.refl _, AOEq.refl _, AOEq.refl _, AOEq.refl _, (show AOEq (filO s B 11) (filO s B 11) from AOEq.refl _)⟩
 clear hc hk hB
 rintro ⟨k, B⟩ ⟨hk, hB⟩
 have hk : k ≤ more.length := hk
 have hB : BOk (runS s more k) B := hB
 refine .inl ⟨fun hc => ?_, fun hc => ?_⟩
 ·have hc := dlt hc
  have hc : (k : Int) < more.length := hc
  have ek : ((k : Nat) : Int).toNat = k := Int.toNat_natCast k
  have hxk := hzm _ (getD_memD dOp (show k < more.length by omega))
  have hgk := hrun k (by omega)
  have c57 := do_fn (runS s more k) B (more.getD k dOp) (40 + k) (hgk.sok (by omega)) (by omega) hB hxk (runS s more (k + 1), ansS s more k) rfl
  rw [show more.getD k dOp = more.getD ((k : Nat) : Int).toNat dOp by rw [ek]] at c57
  repeat refine Or.inl ?_
  refine ⟨[(0, true), (1, true), (2, true), (3, true), (4, true), (6, true), (7, true), (8, true), (9, true), (5, false), (10, false)], [0, 0, 0, 6, 14, 31, 0, 0, 192, 448, 1023], by decide, ?_⟩
  refine ⟨⟨by omega, by omega⟩, ?_⟩
  refine ⟨⟨by omega, by omega⟩, ?_⟩
  refine Or.inr (Or.inr ?_)
  refine ⟨true, [0, 1, 2, 3, 4, 5, 6, 7, 8, 9, 10, 11, 12, 13], rfl, Bn, _, _, _, _, c57, fun B2 hB2 => ?_⟩
  refine ⟨fun h => ?_, fun _ => ?_⟩
  ·have h : (!eqAVs (dnA (ansS s more k)) (dnA (ansS s more ((k : Nat) : Int).toNat))) = true := h
   rw [ek, dn_eq] at h
   cases h
  refine ⟨(k + 1, B2), [], ⟨(by show k + 1 ≤ more.length; omega), hB2⟩, by dsimp only; omega, rfl, rfl, rfl, rfl, rfl, ⟨rfl, wr (by omega) (by omega)⟩, ⟨⟨rfl, AVsEq.refl _⟩, AOEq.refl _, AOEq.refl _, AOEq.refl _, AOEq.refl _, AOEq.refl _, AOEq.refl _, AOEq.refl _, AOEq.refl _, AOEq.refl _, AOEq.refl _, AOEq.refl _, AOEq.refl _, (show AOEq (filO (runS s more (k + 1)) B2 11) (filO (runS s more (k + 1)) B2 11) from AOEq.refl _)⟩⟩
 have hc := dnlt hc
 have hc : (more.length : Int) ≤ (k : Nat) := hc
 have ek : k = more.length := by omega
 subst ek
 refine Or.inr (Or.inl ⟨⟨⟨rfl, rfl⟩, trivial⟩, ?_⟩)
 refine Or.inr (Or.inr ?_)
 refine ⟨true, [0, 1, 2, 3, 4, 5, 6, 7, 8, 9, 10, 11, 12, 13], rfl, Unit, _, _, _, _, chunks_fn (runS s more more.length) B, fun _ _ => ?_⟩
 refine Or.inr (Or.inl ⟨⟨⟨rfl, rfl⟩, trivial⟩, ?_⟩)
 refine Or.inr (Or.inr ?_)
 refine ⟨true, [14, 15, 16, 17, 18, 19, 20, 21, 22, 23, 24, 25, 26, 27], rfl, Unit, _, _, _, _, chunks_fn (runS s more more.length) Bc, fun _ _ => ?_⟩
 refine RetIs.b ?_
 show (((runS s more more.length).us.length : Int) == ((runS s more more.length).us.length : Int)) = true
 simp
end Go.Proofs.Ytnookbebiacaeaa
end
