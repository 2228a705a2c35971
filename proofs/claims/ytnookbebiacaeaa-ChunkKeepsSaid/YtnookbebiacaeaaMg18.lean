/-
  Several texts in one: Ck6, Ck7, Ck8, Ck9, Cka.
-/
import Derived.Shelf.SlIterI.Nil
import Derived.Test.YtnookbebiacaeaaMg17

section
namespace Go.Proofs.Ytnookbebiacaeaa
open Go.Eng Go.RowKit Go.Maps Go.Sort Go.Shelf
def keysC_ren : Go.Shelf.Ren := ⟨fun | 7 => 127 | 10 => 174 | n => n, fun | 23 => 146 | 26 => 3 | 3 => 159 | 28 => 164 | 0 => 0 | 27 => 163 | 33 => 187 | 4 => 4 | n => n, fun | n => n⟩
theorem keysC : Go.Proofs.SlLaysZI.n7 Try.prog keysC_ren := {
  mixed := by kernel_rfl,
  f7 := ⟨Try.f127.name, by decide, Try.func127.trans (congrArg some (by kernel_rfl))⟩,
  f10 := ⟨Try.f174.name, by decide, Try.func174.trans (congrArg some (by kernel_rfl))⟩,
  t0 := Try.underlying0,
  a0 := Try.isAgg0,
  z0 := Try.sizeOf0,
  v0 := Try.zeroValue0,
  t4 := Try.underlying4,
  a4 := Try.isAgg4,
  z4 := Try.sizeOf4,
  v4 := Try.zeroValue4,
  t23 := Try.underlying146,
  a23 := Try.isAgg146,
  z23 := Try.sizeOf146,
  v23 := Try.zeroValue146,
  t26 := Try.underlying3,
  a26 := Try.isAgg3,
  z26 := Try.sizeOf3,
  v26 := Try.zeroValue3,
  t27 := Try.underlying163,
  a27 := Try.isAgg163,
  z27 := Try.sizeOf163,
  v27 := Try.zeroValue163,
  t28 := Try.underlying164,
  a28 := Try.isAgg164,
  z28 := Try.sizeOf164,
  v28 := Try.zeroValue164,
  t33 := Try.underlying187,
  a33 := Try.isAgg187,
  z33 := Try.sizeOf187,
  v33 := Try.zeroValue187 }
def sortedC_ren : Go.Shelf.Ren := ⟨fun | 6 => 126 | 8 => 173 | 9 => 146 | 11 => 205 | 13 => 158 | 12 => 185 | 23 => 198 | 24 => 199 | 14 => 208 | 15 => 209 | 16 => 210 | 17 => 211 | 18 => 212 | 19 => 213 | 20 => 214 | 21 => 215 | 22 => 216 | 25 => 233 | 26 => 219 | 27 => 220 | 28 => 234 | 29 => 235 | 30 => 159 | 31 => 241 | n => n, fun | 26 => 3 | 28 => 164 | 24 => 36 | 0 => 0 | 3 => 3 | 37 => 192 | 48 => 227 | 50 => 229 | 4 => 4 | 40 => 220 | 39 => 219 | 45 => 224 | 5 => 5 | 9 => 9 | 51 => 243 | 55 => 247 | 57 => 259 | 58 => 140 | 33 => 187 | n => n, fun | n => n⟩
theorem sortedC : Go.Proofs.SlLaysZI.n6 Try.prog sortedC_ren := {
  mixed := by kernel_rfl,
  f6 := ⟨Try.f126.name, by decide, Try.func126.trans (congrArg some (by kernel_rfl))⟩,
  f8 := ⟨Try.f173.name, by decide, Try.func173.trans (congrArg some (by kernel_rfl))⟩,
  f11 := ⟨Try.f205.name, by decide, Try.func205.trans (congrArg some (by kernel_rfl))⟩,
  t0 := Try.underlying0,
  a0 := Try.isAgg0,
  z0 := Try.sizeOf0,
  v0 := Try.zeroValue0,
  t24 := Try.underlying36,
  a24 := Try.isAgg36,
  z24 := Try.sizeOf36,
  v24 := Try.zeroValue36,
  t26 := Try.underlying3,
  a26 := Try.isAgg3,
  z26 := Try.sizeOf3,
  v26 := Try.zeroValue3,
  t28 := Try.underlying164,
  a28 := Try.isAgg164,
  z28 := Try.sizeOf164,
  v28 := Try.zeroValue164,
  i26 := by kernel_rfl }
theorem sortsC (m : Nat) : AnyZI.SortsIn Try.prog sortedC_ren Fence.wide m :=
  ⟨fun blk off cap ss W hH hblk hsz => callsIn_wide.2 (AnyM.slices_Sort_int sortA blk off cap ss W hH hblk hsz),
   fun p cap W => callsIn_wide.2 (AnyM.slices_Sort_int_none sortA p cap W)⟩
theorem sortsKeysC : SortsKeys Try.prog 126 174 3 := by
 refine ⟨⟨_, Try.func126, by kernel_rfl, rfl⟩, fun w g b n D hg hm hown hmax hbytes => ?_⟩
 refine (callsIn_wide (n := 6)).1 ?_
 have hseq : SeqGives Fence.wide 3 Try.prog 174 #[.pointer (some ⟨g, 0, none⟩)] encZ (fun ss => ss.Perm (intKeys D)) (Maps.size D) w :=
  AnyZI.keys_gives (ρ := keysC_ren) { keysC with } Fence.wide _ trivial rfl (by omega) g b n D w hg hm hown
 have cS := AnyZI.sorted_in sortedC Fence.wide 6 trivial trivial trivial trivial rfl (by omega) (sortsC _) (enters_of Try.func146 (by kernel_rfl) rfl) 174 #[.pointer (some ⟨g, 0, none⟩)] trivial (enters_of Try.func174 (by kernel_rfl) rfl) _ _ hmax hbytes _ hseq
 change CallsIn _ _ Try.prog 126 _ _ _ at cS
 refine cS.mono ?_
 rintro e w' ⟨v, ss, rfl, hS, hrow, _, hb⟩
 exact ⟨v, ss, rfl, hS, hrow, ⟨hb, Nat.le_refl _⟩⟩
structure St where
 fs : Nat → List (Int × ByteArray)
 nx : Nat → Int
 us : List (Chk × Int)
structure Bn where
 ub : Nat → Nat
 uc : Nat
 fb : Nat → Nat → Nat
 fc : Nat → Nat
def dFl : Int × ByteArray := (0, noB)
def filV (x : ByteArray) : AV := .rs 33 (divL x).length (rK (divL x))
def usO (st : St) (B : Bn) : AO := mpB (fun c => .ag (ckA c)) (fun n => .i .i64 n) (dCk, 0) st.us B.ub B.uc
def filO (st : St) (B : Bn) (t : Nat) : AO := mpB (fun n => .i .i64 n) filV dFl (st.fs t) (B.fb t) (B.fc t)
def stC (st : St) : List AV := [.mo 1, .mo 2, .i .i64 (st.nx 0), .mo 3, .i .i64 (st.nx 1), .mo 4, .i .i64 (st.nx 2), .mo 5, .i .i64 (st.nx 3), .mo 6, .i .i64 (st.nx 4), .mo 7, .i .i64 (st.nx 5), .mo 8, .i .i64 (st.nx 6), .mo 9, .i .i64 (st.nx 7), .mo 10, .i .i64 (st.nx 8), .mo 11, .i .i64 (st.nx 9), .mo 12, .i .i64 (st.nx 10), .mo 13, .i .i64 (st.nx 11)]
def storeO (st : St) (B : Bn) : List AO := [.cells 151 (stC st), usO st B, filO st B 0, filO st B 1, filO st B 2, filO st B 3, filO st B 4, filO st B 5, filO st B 6, filO st B 7, filO st B 8, filO st B 9, filO st B 10, filO st B 11]
theorem cases12 {t : Nat} (h : t < 12) : t = 0 ∨ t = 1 ∨ t = 2 ∨ t = 3 ∨ t = 4 ∨ t = 5 ∨ t = 6 ∨ t = 7 ∨ t = 8 ∨ t = 9 ∨ t = 10 ∨ t = 11 := by omega
set_option maxRecDepth 20000 in
set_option maxHeartbeats 4000000 in
theorem of_fn (st : St) (B : Bn) (t : Nat) (h : t < 12) : CtrM Try.prog 124 true (storeO st B) [.p 0 0, .i .i64 t] (fun _ : Unit => True) (fun _ => storeO st B) (fun _ => []) (fun _ => .tup [.p 0 (1 + 2 * t), .b true]) := by
 refine fn_of_execM tabOk Try.func124 (by kernel_rfl) rfl (N := Try.f124.ntmps) rfl (res := [.tmp 4, .tmp 5]) rfl true false (storeO st B) _ _ _ _ rfl (fun h => by cases h) [] ?_
 rcases cases12 h with rfl | rfl | rfl | rfl | rfl | rfl | rfl | rfl | rfl | rfl | rfl | rfl
 all_goals
  repeat refine Or.inl ?_
  refine ⟨fun hc => ?_, fun _ => ?_⟩
  ·simp at hc
  ·refine ⟨⟨by decide, by decide⟩, ?_⟩
   exact ⟨(), [], trivial, ⟨⟨⟨rfl, rfl, AVEq.refl _⟩, trivial⟩, ⟨⟨rfl, rfl, rfl, ⟨rfl, AVsEq.refl _⟩⟩, ⟨rfl, rfl, trivial, AOEq.refl _⟩, ⟨rfl, rfl, trivial, AOEq.refl _⟩, ⟨rfl, rfl, trivial, AOEq.refl _⟩, ⟨rfl, rfl, trivial, AOEq.refl _⟩, ⟨rfl, rfl, trivial, AOEq.refl _⟩, ⟨rfl, rfl, trivial, AOEq.refl _⟩, ⟨rfl, rfl, trivial, AOEq.refl _⟩, ⟨rfl, rfl, trivial, AOEq.refl _⟩, ⟨rfl, rfl, trivial, AOEq.refl _⟩, ⟨rfl, rfl, trivial, AOEq.refl _⟩, ⟨rfl, rfl, trivial, AOEq.refl _⟩, ⟨rfl, rfl, trivial, AOEq.refl _⟩, ⟨rfl, rfl, trivial, AOEq.refl _⟩, trivial⟩, rfl⟩, rfl, fun h => by cases h⟩
end Go.Proofs.Ytnookbebiacaeaa
end

section
namespace Go.Proofs.Ytnookbebiacaeaa
open Go.Eng Go.RowKit Go.Maps Go.Sort Go.Shelf
set_option maxRecDepth 20000 in
set_option maxHeartbeats 8000000 in
theorem of_none (st : St) (B : Bn) (t : Int) (h : ¬ (0 ≤ t ∧ t < 12)) : CtrM Try.prog 124 true (storeO st B) [.p 0 0, .i .i64 t] (fun _ : Unit => True) (fun _ => storeO st B) (fun _ => []) (fun _ => .tup [.val (.pointer none), .b false]) := by
 refine fn_of_execM tabOk Try.func124 (by kernel_rfl) rfl (N := Try.f124.ntmps) rfl (res := [.tmp 4, .tmp 5]) rfl true false (storeO st B) _ _ _ _ rfl (fun h => by cases h) [] ?_
 repeat refine Or.inl ?_
 refine ⟨fun _ => ?_, fun hc => ?_⟩
 ·exact ⟨(), [], trivial, ⟨⟨⟨rfl, rfl, AVEq.refl _⟩, trivial⟩, ⟨⟨rfl, rfl, rfl, ⟨rfl, AVsEq.refl _⟩⟩, ⟨rfl, rfl, trivial, AOEq.refl _⟩, ⟨rfl, rfl, trivial, AOEq.refl _⟩, ⟨rfl, rfl, trivial, AOEq.refl _⟩, ⟨rfl, rfl, trivial, AOEq.refl _⟩, ⟨rfl, rfl, trivial, AOEq.refl _⟩, ⟨rfl, rfl, trivial, AOEq.refl _⟩, ⟨rfl, rfl, trivial, AOEq.refl _⟩, ⟨rfl, rfl, trivial, AOEq.refl _⟩, ⟨rfl, rfl, trivial, AOEq.refl _⟩, ⟨rfl, rfl, trivial, AOEq.refl _⟩, ⟨rfl, rfl, trivial, AOEq.refl _⟩, ⟨rfl, rfl, trivial, AOEq.refl _⟩, ⟨rfl, rfl, trivial, AOEq.refl _⟩, trivial⟩, rfl⟩, rfl, fun h => by cases h⟩
 ·exfalso
  have hc : (decide (t < 0) || decide (t ≥ 12)) = false := hc
  simp at hc
  omega
set_option maxRecDepth 20000 in
set_option maxHeartbeats 8000000 in
theorem chunks_fn (st : St) (B : Bn) : CtrM Try.prog 61 true (storeO st B) [.p 0 0] (fun _ : Unit => True) (fun _ => storeO st B) (fun _ => []) (fun _ => .i .i64 st.us.length) := by
 refine fn_of_execM tabOk Try.func61 (by kernel_rfl) rfl (N := Try.f61.ntmps) rfl (res := [.tmp 2]) rfl true false (storeO st B) _ _ _ _ rfl (fun h => by cases h) [] ?_
 repeat refine Or.inl ?_
 exact ⟨(), [], trivial, ⟨⟨⟨rfl, rfl, AVEq.refl _⟩, trivial⟩, ⟨⟨rfl, rfl, rfl, ⟨rfl, AVsEq.refl _⟩⟩, ⟨rfl, rfl, trivial, AOEq.refl _⟩, ⟨rfl, rfl, trivial, AOEq.refl _⟩, ⟨rfl, rfl, trivial, AOEq.refl _⟩, ⟨rfl, rfl, trivial, AOEq.refl _⟩, ⟨rfl, rfl, trivial, AOEq.refl _⟩, ⟨rfl, rfl, trivial, AOEq.refl _⟩, ⟨rfl, rfl, trivial, AOEq.refl _⟩, ⟨rfl, rfl, trivial, AOEq.refl _⟩, ⟨rfl, rfl, trivial, AOEq.refl _⟩, ⟨rfl, rfl, trivial, AOEq.refl _⟩, ⟨rfl, rfl, trivial, AOEq.refl _⟩, ⟨rfl, rfl, trivial, AOEq.refl _⟩, ⟨rfl, rfl, trivial, AOEq.refl _⟩, trivial⟩, rfl⟩, rfl, fun h => by cases h⟩
theorem keys127_fn (n : Nat) (key val : Nat → AV) (born : Nat → Nat) (clock : Nat) : CtrM Try.prog 127 true [.mp n key val born clock] [.mo 0] (fun _ : Unit => True) (fun _ => [.mp n key val born clock]) (fun _ => [.cells 146 [.mo 0]]) (fun _ => .fn 174 [.p 1 0]) := by
 refine fn_of_execM tabOk Try.func127 (by kernel_rfl) rfl (N := Try.f127.ntmps) rfl (res := [.tmp 2]) rfl true false [.mp n key val born clock] _ _ _ _ rfl (fun h => by cases h) [] ?_
 exact ⟨(), [], trivial, ⟨⟨⟨rfl, rfl, rfl⟩, trivial⟩, ⟨⟨rfl, rfl, trivial, AOEq.refl _⟩, ⟨⟨rfl, rfl, rfl, ⟨rfl, rfl⟩⟩, trivial⟩⟩, rfl⟩, rfl, fun h => by cases h⟩
theorem mkeys_getD (L : List (Int × ByteArray)) (i : Nat) : (mkeys L).getD i 0 = (L.getD i dFl).1 := by
 simp only [mkeys, List.getD, List.getElem?_map]
 cases L[i]? <;> rfl
theorem sorted126_fn (L : List (Int × ByteArray)) (born : Nat → Nat) (clock : Nat) (hwf : ∀ k ∈ mkeys L, (Lit.int .i64 k).wf = true) (hb : L.length ≤ 1000000) :
  CtrM Try.prog 126 true [.cells 146 [.mo 1], mpB (fun n => .i .i64 n) filV dFl L born clock] [.fn 174 [.p 0 0]] (fun _ : Unit => True) (fun _ => [.cells 146 [.mo 1], mpB (fun n => .i .i64 n) filV dFl L born clock])
   (fun _ => [.row 3 1 L.length (rI (sortI (mkeys L)))]) (fun _ => .so 2) := by
 have hl : (mkeys L).length = L.length := by simp [mkeys]
 have h := sorts_ctrA (mt := 146) sortsKeysC Try.underlying3 (mkeys L) (fun i => .i .i64 (L.getD i dFl).1) (fun i => filV (L.getD i dFl).2) born clock (fun i hi => by rw [mkeys_getD]) hwf (fits (by rw [hl]; exact hb))
 rw [hl] at h
 exact h
set_option maxRecDepth 20000 in
set_option maxHeartbeats 8000000 in
theorem names_fn (st : St) (B : Bn) (t : Nat) (h : t < 12) (hwf : ∀ k ∈ mkeys (st.fs t), (Lit.int .i64 k).wf = true) (hb : (st.fs t).length ≤ 1000000) :
  CtrM Try.prog 64 true (storeO st B) [.p 0 0, .i .i64 t] (fun _ : Unit => True) (fun _ => storeO st B) (fun _ => [.row 3 1 (st.fs t).length (rI (sortI (mkeys (st.fs t))))]) (fun _ => .so 14) := by
 refine fn_of_execM tabOk Try.func64 (by kernel_rfl) rfl (N := Try.f64.ntmps) rfl (res := [.tmp 4]) rfl true false (storeO st B) _ _ _ _ rfl (fun h => by cases h) [] ?_
 rcases cases12 h with rfl | rfl | rfl | rfl | rfl | rfl | rfl | rfl | rfl | rfl | rfl | rfl
 ·refine Or.inr (Or.inr ?_)
  refine ⟨true, [0, 1, 2, 3, 4, 5, 6, 7, 8, 9, 10, 11, 12, 13], rfl, Unit, _, _, _, _, of_fn st B 0 (by decide), fun _ _ => ?_⟩
  repeat refine Or.inl ?_
  refine ⟨fun hc => (by cases hc), fun _ => ?_⟩
  refine Or.inr (Or.inr ?_)
  refine ⟨true, [2], rfl, Unit, _, _, _, _, keys127_fn _ _ _ _ _, fun _ _ => ?_⟩
  refine Or.inr (Or.inr ?_)
  refine ⟨true, [14, 2], rfl, Unit, _, _, _, _, sorted126_fn (st.fs 0) _ _ hwf hb, fun _ _ => ?_⟩
  repeat refine Or.inl ?_
  exact ⟨(), [(14, 15)], trivial, ⟨⟨⟨rfl, rfl, AVEq.refl _⟩, trivial⟩, ⟨⟨rfl, rfl, rfl, ⟨rfl, AVsEq.refl _⟩⟩, ⟨rfl, rfl, trivial, AOEq.refl _⟩, ⟨rfl, rfl, trivial, AOEq.refl _⟩, ⟨rfl, rfl, trivial, AOEq.refl _⟩, ⟨rfl, rfl, trivial, AOEq.refl _⟩, ⟨rfl, rfl, trivial, AOEq.refl _⟩, ⟨rfl, rfl, trivial, AOEq.refl _⟩, ⟨rfl, rfl, trivial, AOEq.refl _⟩, ⟨rfl, rfl, trivial, AOEq.refl _⟩, ⟨rfl, rfl, trivial, AOEq.refl _⟩, ⟨rfl, rfl, trivial, AOEq.refl _⟩, ⟨rfl, rfl, trivial, AOEq.refl _⟩, ⟨rfl, rfl, trivial, AOEq.refl _⟩, ⟨rfl, rfl, trivial, AOEq.refl _⟩, ⟨rfl, rfl, trivial, AOEq.refl _⟩, trivial⟩, rfl⟩, rfl, fun h => by cases h⟩
 ·refine Or.inr (Or.inr ?_)
  refine ⟨true, [0, 1, 2, 3, 4, 5, 6, 7, 8, 9, 10, 11, 12, 13], rfl, Unit, _, _, _, _, of_fn st B 1 (by decide), fun _ _ => ?_⟩
  repeat refine Or.inl ?_
  refine ⟨fun hc => (by cases hc), fun _ => ?_⟩
  refine Or.inr (Or.inr ?_)
  refine ⟨true, [3], rfl, Unit, _, _, _, _, keys127_fn _ _ _ _ _, fun _ _ => ?_⟩
  refine Or.inr (Or.inr ?_)
  refine ⟨true, [14, 3], rfl, Unit, _, _, _, _, sorted126_fn (st.fs 1) _ _ hwf hb, fun _ _ => ?_⟩
  repeat refine Or.inl ?_
  exact ⟨(), [(14, 15)], trivial, ⟨⟨⟨rfl, rfl, AVEq.refl _⟩, trivial⟩, ⟨⟨rfl, rfl, rfl, ⟨rfl, AVsEq.refl _⟩⟩, ⟨rfl, rfl, trivial, AOEq.refl _⟩, ⟨rfl, rfl, trivial, AOEq.refl _⟩, ⟨rfl, rfl, trivial, AOEq.refl _⟩, ⟨rfl, rfl, trivial, AOEq.refl _⟩, ⟨rfl, rfl, trivial, AOEq.refl _⟩, ⟨rfl, rfl, trivial, AOEq.refl _⟩, ⟨rfl, rfl, trivial, AOEq.refl _⟩, ⟨rfl, rfl, trivial, AOEq.refl _⟩, ⟨rfl, rfl, trivial, AOEq.refl _⟩, ⟨rfl, rfl, trivial, AOEq.refl _⟩, ⟨rfl, rfl, trivial, AOEq.refl _⟩, ⟨rfl, rfl, trivial, AOEq.refl _⟩, ⟨rfl, rfl, trivial, AOEq.refl _⟩, ⟨rfl, rfl, trivial, AOEq.refl _⟩, trivial⟩, rfl⟩, rfl, fun h => by cases h⟩
 ·refine Or.inr (Or.inr ?_)
  refine ⟨true, [0, 1, 2, 3, 4, 5, 6, 7, 8, 9, 10, 11, 12, 13], rfl, Unit, _, _, _, _, of_fn st B 2 (by decide), fun _ _ => ?_⟩
  repeat refine Or.inl ?_
  refine ⟨fun hc => (by cases hc), fun _ => ?_⟩
  refine Or.inr (Or.inr ?_)
  refine ⟨true, [4], rfl, Unit, _, _, _, _, keys127_fn _ _ _ _ _, fun _ _ => ?_⟩
  refine Or.inr (Or.inr ?_)
  refine ⟨true, [14, 4], rfl, Unit, _, _, _, _, sorted126_fn (st.fs 2) _ _ hwf hb, fun _ _ => ?_⟩
  repeat refine Or.inl ?_
  exact ⟨(), [(14, 15)], trivial, ⟨⟨⟨rfl, rfl, AVEq.refl _⟩, trivial⟩, ⟨⟨rfl, rfl, rfl, ⟨rfl, AVsEq.refl _⟩⟩, ⟨rfl, rfl, trivial, AOEq.refl _⟩, ⟨rfl, rfl, trivial, AOEq.refl _⟩, ⟨rfl, rfl, trivial, AOEq.refl _⟩, ⟨rfl, rfl, trivial, AOEq.refl _⟩, ⟨rfl, rfl, trivial, AOEq.refl _⟩, ⟨rfl, rfl, trivial, AOEq.refl _⟩, ⟨rfl, rfl, trivial, AOEq.refl _⟩, ⟨rfl, rfl, trivial, AOEq.refl _⟩, ⟨rfl, rfl, trivial, AOEq.refl _⟩, ⟨rfl, rfl, trivial, AOEq.refl _⟩, ⟨rfl, rfl, trivial, AOEq.refl _⟩, ⟨rfl, rfl, trivial, AOEq.refl _⟩, ⟨rfl, rfl, trivial, AOEq.refl _⟩, ⟨rfl, rfl, trivial, AOEq.refl _⟩, trivial⟩, rfl⟩, rfl, fun h => by cases h⟩
 ·refine Or.inr (Or.inr ?_)
  refine ⟨true, [0, 1, 2, 3, 4, 5, 6, 7, 8, 9, 10, 11, 12, 13], rfl, Unit, _, _, _, _, of_fn st B 3 (by decide), fun _ _ => ?_⟩
  repeat refine Or.inl ?_
  refine ⟨fun hc => (by cases hc), fun _ => ?_⟩
  refine Or.inr (Or.inr ?_)
  refine ⟨true, [5], rfl, Unit, _, _, _, _, keys127_fn _ _ _ _ _, fun _ _ => ?_⟩
  refine Or.inr (Or.inr ?_)
  refine ⟨true, [14, 5], rfl, Unit, _, _, _, _, sorted126_fn (st.fs 3) _ _ hwf hb, fun _ _ => ?_⟩
  repeat refine Or.inl ?_
  exact ⟨(), [(14, 15)], trivial, ⟨⟨⟨rfl, rfl, AVEq.refl _⟩, trivial⟩, ⟨⟨rfl, rfl, rfl, ⟨rfl, AVsEq.refl _⟩⟩, ⟨rfl, rfl, trivial, AOEq.refl _⟩, ⟨rfl, rfl, trivial, AOEq.refl _⟩, ⟨rfl, rfl, trivial, AOEq.refl _⟩, ⟨rfl, rfl, trivial, AOEq.refl _⟩, ⟨rfl, rfl, trivial, AOEq.refl _⟩, ⟨rfl, rfl, trivial, AOEq.refl _⟩, ⟨rfl, rfl, trivial, AOEq.refl _⟩, ⟨rfl, rfl, trivial, AOEq.refl _⟩, ⟨rfl, rfl, trivial, AOEq.refl _⟩, ⟨rfl, rfl, trivial, AOEq.refl _⟩, ⟨rfl, rfl, trivial, AOEq.refl _⟩, ⟨rfl, rfl, trivial, AOEq.refl _⟩, ⟨rfl, rfl, trivial, AOEq.refl _⟩, ⟨rfl, rfl, trivial, AOEq.refl _⟩, trivial⟩, rfl⟩, rfl, fun h => by cases h⟩
 ·refine Or.inr (Or.inr ?_)
  refine ⟨true, [0, 1, 2, 3, 4, 5, 6, 7, 8, 9, 10, 11, 12, 13], rfl, Unit, _, _, _, _, of_fn st B 4 (by decide), fun _ _ => ?_⟩
  repeat refine Or.inl ?_
  refine ⟨fun hc => (by cases hc), fun _ => ?_⟩
  refine Or.inr (Or.inr ?_)
  refine ⟨true, [6], rfl, Unit, _, _, _, _, keys127_fn _ _ _ _ _, fun _ _ => ?_⟩
  refine Or.inr (Or.inr ?_)
  refine ⟨true, [14, 6], rfl, Unit, _, _, _, _, sorted126_fn (st.fs 4) _ _ hwf hb, fun _ _ => ?_⟩
  repeat refine Or.inl ?_
  exact ⟨(), [(14, 15)], trivial, ⟨⟨⟨rfl, rfl, AVEq.refl _⟩, trivial⟩, ⟨⟨rfl, rfl, rfl, ⟨rfl, AVsEq.refl _⟩⟩, ⟨rfl, rfl, trivial, AOEq.refl _⟩, ⟨rfl, rfl, trivial, AOEq.refl _⟩, ⟨rfl, rfl, trivial, AOEq.refl _⟩, ⟨rfl, rfl, trivial, AOEq.refl _⟩, ⟨rfl, rfl, trivial, AOEq.refl _⟩, ⟨rfl, rfl, trivial, AOEq.refl _⟩, ⟨rfl, rfl, trivial, AOEq.refl _⟩, ⟨rfl, rfl, trivial, AOEq.refl _⟩, ⟨rfl, rfl, trivial, AOEq.refl _⟩, ⟨rfl, rfl, trivial, AOEq.refl _⟩, ⟨rfl, rfl, trivial, AOEq.refl _⟩, ⟨rfl, rfl, trivial, AOEq.refl _⟩, ⟨rfl, rfl, trivial, AOEq.refl _⟩, ⟨rfl, rfl, trivial, AOEq.refl _⟩, trivial⟩, rfl⟩, rfl, fun h => by cases h⟩
 ·refine Or.inr (Or.inr ?_)
  refine ⟨true, [0, 1, 2, 3, 4, 5, 6, 7, 8, 9, 10, 11, 12, 13], rfl, Unit, _, _, _, _, of_fn st B 5 (by decide), fun _ _ => ?_⟩
  repeat refine Or.inl ?_
  refine ⟨fun hc => (by cases hc), fun _ => ?_⟩
  refine Or.inr (Or.inr ?_)
  refine ⟨true, [7], rfl, Unit, _, _, _, _, keys127_fn _ _ _ _ _, fun _ _ => ?_⟩
  refine Or.inr (Or.inr ?_)
  refine ⟨true, [14, 7], rfl, Unit, _, _, _, _, sorted126_fn (st.fs 5) _ _ hwf hb, fun _ _ => ?_⟩
  repeat refine Or.inl ?_
  exact ⟨(), [(14, 15)], trivial, ⟨⟨⟨rfl, rfl, AVEq.refl _⟩, trivial⟩, ⟨⟨rfl, rfl, rfl, ⟨rfl, AVsEq.refl _⟩⟩, ⟨rfl, rfl, trivial, AOEq.refl _⟩, ⟨rfl, rfl, trivial, AOEq.refl _⟩, ⟨rfl, rfl, trivial, AOEq.refl _⟩, ⟨rfl, rfl, trivial, AOEq.refl _⟩, ⟨rfl, rfl, trivial, AOEq.refl _⟩, ⟨rfl, rfl, trivial, AOEq.refl _⟩, ⟨rfl, rfl, trivial, AOEq.refl _⟩, ⟨rfl, rfl, trivial, AOEq.refl _⟩, ⟨rfl, rfl, trivial, AOEq.refl _⟩, ⟨rfl, rfl, trivial, AOEq.refl _⟩, ⟨rfl, rfl, trivial, AOEq.refl _⟩, ⟨rfl, rfl, trivial, AOEq.refl _⟩, ⟨rfl, rfl, trivial, AOEq.refl _⟩, ⟨rfl, rfl, trivial, AOEq.refl _⟩, trivial⟩, rfl⟩, rfl, fun h => by cases h⟩
 ·refine Or.inr (Or.inr ?_)
  refine ⟨true, [0, 1, 2, 3, 4, 5, 6, 7, 8, 9, 10, 11, 12, 13], rfl, Unit, _, _, _, _, of_fn st B 6 (by decide), fun _ _ => ?_⟩
  repeat refine Or.inl ?_
  refine ⟨fun hc => (by cases hc), fun _ => ?_⟩
  refine Or.inr (Or.inr ?_)
  refine ⟨true, [8], rfl, Unit, _, _, _, _, keys127_fn _ _ _ _ _, fun _ _ => ?_⟩
  refine Or.inr (Or.inr ?_)
  refine ⟨true, [14, 8], rfl, Unit, _, _, _, _, sorted126_fn (st.fs 6) _ _ hwf hb, fun _ _ => ?_⟩
  repeat refine Or.inl ?_
  exact ⟨(), [(14, 15)], trivial, ⟨⟨⟨rfl, rfl, AVEq.refl _⟩, trivial⟩, ⟨⟨rfl, rfl, rfl, ⟨rfl, AVsEq.refl _⟩⟩, ⟨rfl, rfl, trivial, AOEq.refl _⟩, ⟨rfl, rfl, trivial, AOEq.refl _⟩, ⟨rfl, rfl, trivial, AOEq.refl _⟩, ⟨rfl, rfl, trivial, AOEq.refl _⟩, ⟨rfl, rfl, trivial, AOEq.refl _⟩, ⟨rfl, rfl, trivial, AOEq.refl _⟩, ⟨rfl, rfl, trivial, AOEq.refl _⟩, ⟨rfl, rfl, trivial, AOEq.refl _⟩, ⟨rfl, rfl, trivial, AOEq.refl _⟩, ⟨rfl, rfl, trivial, AOEq.refl _⟩, ⟨rfl, rfl, trivial, AOEq.refl _⟩, ⟨rfl, rfl, trivial, AOEq.refl _⟩, ⟨rfl, rfl, trivial, AOEq.refl _⟩, ⟨rfl, rfl, trivial, AOEq.refl _⟩, trivial⟩, rfl⟩, rfl, fun h => by cases h⟩
 ·refine Or.inr (Or.inr ?_)
  refine ⟨true, [0, 1, 2, 3, 4, 5, 6, 7, 8, 9, 10, 11, 12, 13], rfl, Unit, _, _, _, _, of_fn st B 7 (by decide), fun _ _ => ?_⟩
  repeat refine Or.inl ?_
  refine ⟨fun hc => (by cases hc), fun _ => ?_⟩
  refine Or.inr (Or.inr ?_)
  refine ⟨true, [9], rfl, Unit, _, _, _, _, keys127_fn _ _ _ _ _, fun _ _ => ?_⟩
  refine Or.inr (Or.inr ?_)
  refine ⟨true, [14, 9], rfl, Unit, _, _, _, _, sorted126_fn (st.fs 7) _ _ hwf hb, fun _ _ => ?_⟩
  repeat refine Or.inl ?_
  exact ⟨(), [(14, 15)], trivial, ⟨⟨⟨rfl, rfl, AVEq.refl _⟩, trivial⟩, ⟨⟨rfl, rfl, rfl, ⟨rfl, AVsEq.refl _⟩⟩, ⟨rfl, rfl, trivial, AOEq.refl _⟩, ⟨rfl, rfl, trivial, AOEq.refl _⟩, ⟨rfl, rfl, trivial, AOEq.refl _⟩, ⟨rfl, rfl, trivial, AOEq.refl _⟩, ⟨rfl, rfl, trivial, AOEq.refl _⟩, ⟨rfl, rfl, trivial, AOEq.refl _⟩, ⟨rfl, rfl, trivial, AOEq.refl _⟩, ⟨rfl, rfl, trivial, AOEq.refl _⟩, ⟨rfl, rfl, trivial, AOEq.refl _⟩, ⟨rfl, rfl, trivial, AOEq.refl _⟩, ⟨rfl, rfl, trivial, AOEq.refl _⟩, ⟨rfl, rfl, trivial, AOEq.refl _⟩, ⟨rfl, rfl, trivial, AOEq.refl _⟩, ⟨rfl, rfl, trivial, AOEq.refl _⟩, trivial⟩, rfl⟩, rfl, fun h => by cases h⟩
 ·refine Or.inr (Or.inr ?_)
  refine ⟨true, [0, 1, 2, 3, 4, 5, 6, 7, 8, 9, 10, 11, 12, 13], rfl, Unit, _, _, _, _, of_fn st B 8 (by decide), fun _ _ => ?_⟩
  repeat refine Or.inl ?_
  refine ⟨fun hc => (by cases hc), fun _ => ?_⟩
  refine Or.inr (Or.inr ?_)
  refine ⟨true, [10], rfl, Unit, _, _, _, _, keys127_fn _ _ _ _ _, fun _ _ => ?_⟩
  refine Or.inr (Or.inr ?_)
  refine ⟨true, [14, 10], rfl, Unit, _, _, _, _, sorted126_fn (st.fs 8) _ _ hwf hb, fun _ _ => ?_⟩
  repeat refine Or.inl ?_
  exact ⟨(), [(14, 15)], trivial, ⟨⟨⟨rfl, rfl, AVEq.refl _⟩, trivial⟩, ⟨⟨rfl, rfl, rfl, ⟨rfl, AVsEq.refl _⟩⟩, ⟨rfl, rfl, trivial, AOEq.refl _⟩, ⟨rfl, rfl, trivial, AOEq.refl _⟩, ⟨rfl, rfl, trivial, AOEq.refl _⟩, ⟨rfl, rfl, trivial, AOEq.refl _⟩, ⟨rfl, rfl, trivial, AOEq.refl _⟩, ⟨rfl, rfl, trivial, AOEq.refl _⟩, ⟨rfl, rfl, trivial, AOEq.refl _⟩, ⟨rfl, rfl, trivial, AOEq.refl _⟩, ⟨rfl, rfl, trivial, AOEq.refl _⟩, ⟨rfl, rfl, trivial, AOEq.refl _⟩, ⟨rfl, rfl, trivial, AOEq.refl _⟩, ⟨rfl, rfl, trivial, AOEq.refl _⟩, ⟨rfl, rfl, trivial, AOEq.refl _⟩, ⟨rfl, rfl, trivial, AOEq.refl _⟩, trivial⟩, rfl⟩, rfl, fun h => by cases h⟩
 ·refine Or.inr (Or.inr ?_)
  refine ⟨true, [0, 1, 2, 3, 4, 5, 6, 7, 8, 9, 10, 11, 12, 13], rfl, Unit, _, _, _, _, of_fn st B 9 (by decide), fun _ _ => ?_⟩
  repeat refine Or.inl ?_
  refine ⟨fun hc => (by cases hc), fun _ => ?_⟩
  refine Or.inr (Or.inr ?_)
  refine ⟨true, [11], rfl, Unit, _, _, _, _, keys127_fn _ _ _ _ _, fun _ _ => ?_⟩
  refine Or.inr (Or.inr ?_)
  refine ⟨true, [14, 11], rfl, Unit, _, _, _, _, sorted126_fn (st.fs 9) _ _ hwf hb, fun _ _ => ?_⟩
  repeat refine Or.inl ?_
  exact ⟨(), [(14, 15)], trivial, ⟨⟨⟨rfl, rfl, AVEq.refl _⟩, trivial⟩, ⟨⟨rfl, rfl, rfl, ⟨rfl, AVsEq.refl _⟩⟩, ⟨rfl, rfl, trivial, AOEq.refl _⟩, ⟨rfl, rfl, trivial, AOEq.refl _⟩, ⟨rfl, rfl, trivial, AOEq.refl _⟩, ⟨rfl, rfl, trivial, AOEq.refl _⟩, ⟨rfl, rfl, trivial, AOEq.refl _⟩, ⟨rfl, rfl, trivial, AOEq.refl _⟩, ⟨rfl, rfl, trivial, AOEq.refl _⟩, ⟨rfl, rfl, trivial, AOEq.refl _⟩, ⟨rfl, rfl, trivial, AOEq.refl _⟩, ⟨rfl, rfl, trivial, AOEq.refl _⟩, ⟨rfl, rfl, trivial, AOEq.refl _⟩, ⟨rfl, rfl, trivial, AOEq.refl _⟩, ⟨rfl, rfl, trivial, AOEq.refl _⟩, ⟨rfl, rfl, trivial, AOEq.refl _⟩, trivial⟩, rfl⟩, rfl, fun h => by cases h⟩
 ·refine Or.inr (Or.inr ?_)
  refine ⟨true, [0, 1, 2, 3, 4, 5, 6, 7, 8, 9, 10, 11, 12, 13], rfl, Unit, _, _, _, _, of_fn st B 10 (by decide), fun _ _ => ?_⟩
  repeat refine Or.inl ?_
  refine ⟨fun hc => (by cases hc), fun _ => ?_⟩
  refine Or.inr (Or.inr ?_)
  refine ⟨true, [12], rfl, Unit, _, _, _, _, keys127_fn _ _ _ _ _, fun _ _ => ?_⟩
  refine Or.inr (Or.inr ?_)
  refine ⟨true, [14, 12], rfl, Unit, _, _, _, _, sorted126_fn (st.fs 10) _ _ hwf hb, fun _ _ => ?_⟩
  repeat refine Or.inl ?_
  exact ⟨(), [(14, 15)], trivial, ⟨⟨⟨rfl, rfl, AVEq.refl _⟩, trivial⟩, ⟨⟨rfl, rfl, rfl, ⟨rfl, AVsEq.refl _⟩⟩, ⟨rfl, rfl, trivial, AOEq.refl _⟩, ⟨rfl, rfl, trivial, AOEq.refl _⟩, ⟨rfl, rfl, trivial, AOEq.refl _⟩, ⟨rfl, rfl, trivial, AOEq.refl _⟩, ⟨rfl, rfl, trivial, AOEq.refl _⟩, ⟨rfl, rfl, trivial, AOEq.refl _⟩, ⟨rfl, rfl, trivial, AOEq.refl _⟩, ⟨rfl, rfl, trivial, AOEq.refl _⟩, ⟨rfl, rfl, trivial, AOEq.refl _⟩, ⟨rfl, rfl, trivial, AOEq.refl _⟩, ⟨rfl, rfl, trivial, AOEq.refl _⟩, ⟨rfl, rfl, trivial, AOEq.refl _⟩, ⟨rfl, rfl, trivial, AOEq.refl _⟩, ⟨rfl, rfl, trivial, AOEq.refl _⟩, trivial⟩, rfl⟩, rfl, fun h => by cases h⟩
 ·refine Or.inr (Or.inr ?_)
  refine ⟨true, [0, 1, 2, 3, 4, 5, 6, 7, 8, 9, 10, 11, 12, 13], rfl, Unit, _, _, _, _, of_fn st B 11 (by decide), fun _ _ => ?_⟩
  repeat refine Or.inl ?_
  refine ⟨fun hc => (by cases hc), fun _ => ?_⟩
  refine Or.inr (Or.inr ?_)
  refine ⟨true, [13], rfl, Unit, _, _, _, _, keys127_fn _ _ _ _ _, fun _ _ => ?_⟩
  refine Or.inr (Or.inr ?_)
  refine ⟨true, [14, 13], rfl, Unit, _, _, _, _, sorted126_fn (st.fs 11) _ _ hwf hb, fun _ _ => ?_⟩
  repeat refine Or.inl ?_
  exact ⟨(), [(14, 15)], trivial, ⟨⟨⟨rfl, rfl, AVEq.refl _⟩, trivial⟩, ⟨⟨rfl, rfl, rfl, ⟨rfl, AVsEq.refl _⟩⟩, ⟨rfl, rfl, trivial, AOEq.refl _⟩, ⟨rfl, rfl, trivial, AOEq.refl _⟩, ⟨rfl, rfl, trivial, AOEq.refl _⟩, ⟨rfl, rfl, trivial, AOEq.refl _⟩, ⟨rfl, rfl, trivial, AOEq.refl _⟩, ⟨rfl, rfl, trivial, AOEq.refl _⟩, ⟨rfl, rfl, trivial, AOEq.refl _⟩, ⟨rfl, rfl, trivial, AOEq.refl _⟩, ⟨rfl, rfl, trivial, AOEq.refl _⟩, ⟨rfl, rfl, trivial, AOEq.refl _⟩, ⟨rfl, rfl, trivial, AOEq.refl _⟩, ⟨rfl, rfl, trivial, AOEq.refl _⟩, ⟨rfl, rfl, trivial, AOEq.refl _⟩, ⟨rfl, rfl, trivial, AOEq.refl _⟩, trivial⟩, rfl⟩, rfl, fun h => by cases h⟩
end Go.Proofs.Ytnookbebiacaeaa
end

section
namespace Go.Proofs.Ytnookbebiacaeaa
open Go.Eng Go.RowKit
def BI (n : Nat) (born : Nat → Nat) (clock : Nat) : Prop := (∀ i, i < n → born i < clock) ∧ ∀ i j, i < n → j < n → born i = born j → i = j
def usedL (L : List (Int × ByteArray)) : Nat := (L.map fun p => p.2.size).sum
def sumS (L : List (Int × ByteArray)) (S : List Nat) : Nat := (S.map fun i => (L.getD i dFl).2.size).sum
theorem sumS_snoc (L : List (Int × ByteArray)) (S : List Nat) (i : Nat) : sumS L (S ++ [i]) = sumS L S + (L.getD i dFl).2.size := by
 unfold sumS
 rw [List.map_append, List.sum_append_nat]
 simp
theorem sumS_bd {L : List (Int × ByteArray)} {m : Nat} (h : ∀ p ∈ L, p.2.size ≤ m) : ∀ S : List Nat, sumS L S ≤ m * S.length
 | [] => by simp [sumS]
 | i :: r => by
  have ih := sumS_bd h r
  have h1 : sumS L (i :: r) = (L.getD i dFl).2.size + sumS L r := by simp [sumS]
  have h2 : (L.getD i dFl).2.size ≤ m := by
   by_cases hi : i < L.length
   ·exact h _ (getD_memD dFl hi)
   ·have : L.getD i dFl = dFl := by simp [List.getD, Nat.le_of_not_lt hi]
    rw [this]
    exact Nat.zero_le _
  rw [h1, List.length_cons, Nat.mul_succ]
  omega
theorem nodup_le : ∀ {n : Nat} {S : List Nat}, S.Nodup → (∀ i ∈ S, i < n) → S.length ≤ n
 | 0, S, _, hr => by
  cases S with
  | nil => exact Nat.le_refl _
  | cons a r => exact absurd (hr a (by simp)) (Nat.not_lt_zero a)
 | n + 1, S, hn, hr => by
  have ih := nodup_le (n := n) (S := S.erase n) (hn.erase n) fun i hi => by
   have h1 := (hn.mem_erase_iff).1 hi
   have h2 := hr i h1.2
   have := h1.1
   omega
  by_cases h : n ∈ S
  ·rw [List.length_erase_of_mem h] at ih
   omega
  ·rw [List.erase_of_not_mem h] at ih
   omega
theorem sumS_all {L : List (Int × ByteArray)} {S : List Nat} (hn : S.Nodup) (hr : ∀ i ∈ S, i < L.length) (hall : ∀ i, i < L.length → i ∈ S) : sumS L S = usedL L := by
 have hp : S.Perm (List.range L.length) := (List.perm_ext_iff_of_nodup hn List.nodup_range).2 fun i => ⟨fun h => List.mem_range.2 (hr i h), fun h => hall i (List.mem_range.1 h)⟩
 unfold sumS usedL
 rw [(hp.map _).sum_nat]
 congr 1
 refine List.ext_getElem (by simp) fun i h1 h2 => ?_
 have hi : i < L.length := by simpa using h2
 simp [List.getD, hi]
theorem born_in {n : Nat} {born : Nat → Nat} {clock : Nat} (hb : BI n born clock) {S : List Nat} (hr : ∀ i ∈ S, i < n) {i : Nat} (hi : i < n) (h : born i ∈ S.map born) : i ∈ S := by
 obtain ⟨j, hj, e⟩ := List.mem_map.1 h
 rw [hb.2 i j hi (hr j hj) e.symm]
 exact hj
set_option maxRecDepth 20000 in
set_option maxHeartbeats 8000000 in
theorem used_none (st : St) (B : Bn) (t : Int) (h : ¬ (0 ≤ t ∧ t < 12)) : CtrM Try.prog 59 true (storeO st B) [.p 0 0, .i .i64 t] (fun _ : Unit => True) (fun _ => storeO st B) (fun _ => []) (fun _ => .i .i64 0) := by
 refine fn_of_execM tabOk Try.func59 (by kernel_rfl) rfl (N := Try.f59.ntmps) rfl (res := [.tmp 4]) rfl true false (storeO st B) _ _ _ _ rfl (fun h => by cases h) [] ?_
 refine Or.inl (Or.inr (Or.inr ?_))
 refine ⟨true, [0, 1, 2, 3, 4, 5, 6, 7, 8, 9, 10, 11, 12, 13], rfl, Unit, _, _, _, _, of_none st B t h, fun _ _ => ?_⟩
 repeat refine Or.inl ?_
 refine ⟨fun hc => (by cases hc), fun _ => ?_⟩
 exact ⟨(), [], trivial, ⟨⟨⟨rfl, rfl, AVEq.refl _⟩, trivial⟩, ⟨⟨rfl, rfl, rfl, ⟨rfl, AVsEq.refl _⟩⟩, ⟨rfl, rfl, trivial, AOEq.refl _⟩, ⟨rfl, rfl, trivial, AOEq.refl _⟩, ⟨rfl, rfl, trivial, AOEq.refl _⟩, ⟨rfl, rfl, trivial, AOEq.refl _⟩, ⟨rfl, rfl, trivial, AOEq.refl _⟩, ⟨rfl, rfl, trivial, AOEq.refl _⟩, ⟨rfl, rfl, trivial, AOEq.refl _⟩, ⟨rfl, rfl, trivial, AOEq.refl _⟩, ⟨rfl, rfl, trivial, AOEq.refl _⟩, ⟨rfl, rfl, trivial, AOEq.refl _⟩, ⟨rfl, rfl, trivial, AOEq.refl _⟩, ⟨rfl, rfl, trivial, AOEq.refl _⟩, ⟨rfl, rfl, trivial, AOEq.refl _⟩, trivial⟩, rfl⟩, rfl, fun h => by cases h⟩
set_option maxRecDepth 20000 in
set_option maxHeartbeats 8000000 in
theorem used_fn (st : St) (B : Bn) (t : Nat) (h : t < 12) (hb : (st.fs t).length ≤ 10000) (hz : ∀ p ∈ st.fs t, p.2.size ≤ 65536) (hB : BI (st.fs t).length (B.fb t) (B.fc t)) :
  CtrM Try.prog 59 true (storeO st B) [.p 0 0, .i .i64 t] (fun _ : Unit => True) (fun _ => storeO st B) (fun _ => []) (fun _ => .i .i64 (usedL (st.fs t))) := by
 refine fn_of_execM tabOk Try.func59 (by kernel_rfl) rfl (N := Try.f59.ntmps) rfl (res := [.tmp 4]) rfl true false (storeO st B) _ _ _ _ rfl (fun h => by cases h) [] ?_
 rcases cases12 h with rfl | rfl | rfl | rfl | rfl | rfl | rfl | rfl | rfl | rfl | rfl | rfl
 ·refine Or.inl (Or.inr (Or.inr ?_))
  refine ⟨true, [0, 1, 2, 3, 4, 5, 6, 7, 8, 9, 10, 11, 12, 13], rfl, Unit, _, _, _, _, of_fn st B 0 (by decide), fun _ _ => ?_⟩
  repeat refine Or.inl ?_
  refine ⟨fun _ => ?_, fun hc => (by cases hc)⟩
  repeat refine Or.inl ?_
  refine ⟨[], List Nat, fun S => S.Nodup ∧ ∀ i ∈ S, i < (st.fs 0).length, fun S => [⟨5, [], .i .i64 (sumS (st.fs 0) S)⟩], fun S => [⟨14, [], .it 2 (B.fc 0) (S.map (B.fb 0))⟩], fun S => (st.fs 0).length - S.length,
   ⟨[], [], ⟨by simp, by simp⟩, rfl, rfl, rfl, rfl, rfl, ⟨rfl, rfl⟩, ⟨rfl, rfl, rfl⟩⟩, ?_⟩
  rintro S ⟨hSn, hSr⟩
  refine ⟨rfl, fun i hi hns => ?_, fun hall => ?_⟩
  ·refine .inl ⟨fun _ => ?_, fun h => by cases h⟩
   refine ⟨i, ⟨hi, by simp, rfl⟩, ?_⟩
   have hi : i < (st.fs 0).length := hi
   have hni : i ∉ S := fun hm => hns (List.mem_map.2 ⟨i, hm, rfl⟩)
   have hsi : ((st.fs 0).getD i dFl).2.size ≤ 65536 := hz _ (getD_memD dFl hi)
   have hdl := div_len ((st.fs 0).getD i dFl).2
   refine Or.inl ⟨_, _, size_fn (divL ((st.fs 0).getD i dFl).2) (by omega), ?_⟩
   have hsz : sizL (divL ((st.fs 0).getD i dFl).2) = ((st.fs 0).getD i dFl).2.size := by
    unfold sizL
    rw [text_div, byL_len]
   have hbd := sumS_bd hz S
   have hSl := nodup_le hSn hSr
   refine ⟨S ++ [i], [], ⟨?_, ?_⟩, ?_, rfl, rfl, rfl, rfl, rfl, ⟨rfl, ?_⟩, ⟨rfl, rfl, ?_⟩⟩
   ·rw [List.nodup_append]
    exact ⟨hSn, by simp, fun a ha b hb2 e => hni (by rw [List.mem_singleton.1 hb2] at e; rw [← e]; exact ha)⟩
   ·intro j hj
    rcases List.mem_append.1 hj with hj | hj
    ·exact hSr j hj
    ·rw [List.mem_singleton.1 hj]; exact hi
   ·have h1 : (S ++ [i]).length ≤ (st.fs 0).length := nodup_le (by
     rw [List.nodup_append]
     exact ⟨hSn, by simp, fun a ha b hb2 e => hni (by rw [List.mem_singleton.1 hb2] at e; rw [← e]; exact ha)⟩) (fun j hj => by
     rcases List.mem_append.1 hj with hj | hj
     ·exact hSr j hj
     ·rw [List.mem_singleton.1 hj]; exact hi)
    rw [List.length_append, List.length_singleton] at h1
    show (st.fs 0).length - (S ++ [i]).length < (st.fs 0).length - S.length
    rw [List.length_append, List.length_singleton]
    omega
   ·rw [sumS_snoc, hsz, wr (by omega) (by omega)]
    omega
   ·rw [List.map_append]; rfl
  ·refine .inl ⟨fun h => (by cases h), fun _ => ?_⟩
   have he : sumS (st.fs 0) S = usedL (st.fs 0) := sumS_all hSn hSr fun i hi => born_in hB hSr hi (hall i hi)
   exact ⟨(), [], trivial, ⟨⟨⟨rfl, rfl, by rw [← he]; exact AVEq.refl _⟩, trivial⟩, ⟨⟨rfl, rfl, rfl, ⟨rfl, AVsEq.refl _⟩⟩, ⟨rfl, rfl, trivial, AOEq.refl _⟩, ⟨rfl, rfl, trivial, AOEq.refl _⟩, ⟨rfl, rfl, trivial, AOEq.refl _⟩, ⟨rfl, rfl, trivial, AOEq.refl _⟩, ⟨rfl, rfl, trivial, AOEq.refl _⟩, ⟨rfl, rfl, trivial, AOEq.refl _⟩, ⟨rfl, rfl, trivial, AOEq.refl _⟩, ⟨rfl, rfl, trivial, AOEq.refl _⟩, ⟨rfl, rfl, trivial, AOEq.refl _⟩, ⟨rfl, rfl, trivial, AOEq.refl _⟩, ⟨rfl, rfl, trivial, AOEq.refl _⟩, ⟨rfl, rfl, trivial, AOEq.refl _⟩, ⟨rfl, rfl, trivial, AOEq.refl _⟩, trivial⟩, rfl⟩, rfl, fun h => by cases h⟩
 ·refine Or.inl (Or.inr (Or.inr ?_))
  refine ⟨true, [0, 1, 2, 3, 4, 5, 6, 7, 8, 9, 10, 11, 12, 13], rfl, Unit, _, _, _, _, of_fn st B 1 (by decide), fun _ _ => ?_⟩
  repeat refine Or.inl ?_
  refine ⟨fun _ => ?_, fun hc => (by cases hc)⟩
  repeat refine Or.inl ?_
  refine ⟨[], List Nat, fun S => S.Nodup ∧ ∀ i ∈ S, i < (st.fs 1).length, fun S => [⟨5, [], .i .i64 (sumS (st.fs 1) S)⟩], fun S => [⟨14, [], .it 3 (B.fc 1) (S.map (B.fb 1))⟩], fun S => (st.fs 1).length - S.length,
   ⟨[], [], ⟨by simp, by simp⟩, rfl, rfl, rfl, rfl, rfl, ⟨rfl, rfl⟩, ⟨rfl, rfl, rfl⟩⟩, ?_⟩
  rintro S ⟨hSn, hSr⟩
  refine ⟨rfl, fun i hi hns => ?_, fun hall => ?_⟩
  ·refine .inl ⟨fun _ => ?_, fun h => by cases h⟩
   refine ⟨i, ⟨hi, by simp, rfl⟩, ?_⟩
   have hi : i < (st.fs 1).length := hi
   have hni : i ∉ S := fun hm => hns (List.mem_map.2 ⟨i, hm, rfl⟩)
   have hsi : ((st.fs 1).getD i dFl).2.size ≤ 65536 := hz _ (getD_memD dFl hi)
   have hdl := div_len ((st.fs 1).getD i dFl).2
   refine Or.inl ⟨_, _, size_fn (divL ((st.fs 1).getD i dFl).2) (by omega), ?_⟩
   have hsz : sizL (divL ((st.fs 1).getD i dFl).2) = ((st.fs 1).getD i dFl).2.size := by
    unfold sizL
    rw [text_div, byL_len]
   have hbd := sumS_bd hz S
   have hSl := nodup_le hSn hSr
   refine ⟨S ++ [i], [], ⟨?_, ?_⟩, ?_, rfl, rfl, rfl, rfl, rfl, ⟨rfl, ?_⟩, ⟨rfl, rfl, ?_⟩⟩
   ·rw [List.nodup_append]
    exact ⟨hSn, by simp, fun a ha b hb2 e => hni (by rw [List.mem_singleton.1 hb2] at e; rw [← e]; exact ha)⟩
   ·intro j hj
    rcases List.mem_append.1 hj with hj | hj
    ·exact hSr j hj
    ·rw [List.mem_singleton.1 hj]; exact hi
   ·have h1 : (S ++ [i]).length ≤ (st.fs 1).length := nodup_le (by
     rw [List.nodup_append]
     exact ⟨hSn, by simp, fun a ha b hb2 e => hni (by rw [List.mem_singleton.1 hb2] at e; rw [← e]; exact ha)⟩) (fun j hj => by
     rcases List.mem_append.1 hj with hj | hj
     ·exact hSr j hj
     ·rw [List.mem_singleton.1 hj]; exact hi)
    rw [List.length_append, List.length_singleton] at h1
    show (st.fs 1).length - (S ++ [i]).length < (st.fs 1).length - S.length
    rw [List.length_append, List.length_singleton]
    omega
   ·rw [sumS_snoc, hsz, wr (by omega) (by omega)]
    omega
   ·rw [List.map_append]; rfl
  ·refine .inl ⟨fun h => (by cases h), fun _ => ?_⟩
   have he : sumS (st.fs 1) S = usedL (st.fs 1) := sumS_all hSn hSr fun i hi => born_in hB hSr hi (hall i hi)
   exact ⟨(), [], trivial, ⟨⟨⟨rfl, rfl, by rw [← he]; exact AVEq.refl _⟩, trivial⟩, ⟨⟨rfl, rfl, rfl, ⟨rfl, AVsEq.refl _⟩⟩, ⟨rfl, rfl, trivial, AOEq.refl _⟩, ⟨rfl, rfl, trivial, AOEq.refl _⟩, ⟨rfl, rfl, trivial, AOEq.refl _⟩, ⟨rfl, rfl, trivial, AOEq.refl _⟩, ⟨rfl, rfl, trivial, AOEq.refl _⟩, ⟨rfl, rfl, trivial, AOEq.refl _⟩, ⟨rfl, rfl, trivial, AOEq.refl _⟩, ⟨rfl, rfl, trivial, AOEq.refl _⟩, ⟨rfl, rfl, trivial, AOEq.refl _⟩, ⟨rfl, rfl, trivial, AOEq.refl _⟩, ⟨rfl, rfl, trivial, AOEq.refl _⟩, ⟨rfl, rfl, trivial, AOEq.refl _⟩, ⟨rfl, rfl, trivial, AOEq.refl _⟩, trivial⟩, rfl⟩, rfl, fun h => by cases h⟩
 ·refine Or.inl (Or.inr (Or.inr ?_))
  refine ⟨true, [0, 1, 2, 3, 4, 5, 6, 7, 8, 9, 10, 11, 12, 13], rfl, Unit, _, _, _, _, of_fn st B 2 (by decide), fun _ _ => ?_⟩
  repeat refine Or.inl ?_
  refine ⟨fun _ => ?_, fun hc => (by cases hc)⟩
  repeat refine Or.inl ?_
  refine ⟨[], List Nat, fun S => S.Nodup ∧ ∀ i ∈ S, i < (st.fs 2).length, fun S => [⟨5, [], .i .i64 (sumS (st.fs 2) S)⟩], fun S => [⟨14, [], .it 4 (B.fc 2) (S.map (B.fb 2))⟩], fun S => (st.fs 2).length - S.length,
   ⟨[], [], ⟨by simp, by simp⟩, rfl, rfl, rfl, rfl, rfl, ⟨rfl, rfl⟩, ⟨rfl, rfl, rfl⟩⟩, ?_⟩
  rintro S ⟨hSn, hSr⟩
  refine ⟨rfl, fun i hi hns => ?_, fun hall => ?_⟩
  ·refine .inl ⟨fun _ => ?_, fun h => by cases h⟩
   refine ⟨i, ⟨hi, by simp, rfl⟩, ?_⟩
   have hi : i < (st.fs 2).length := hi
   have hni : i ∉ S := fun hm => hns (List.mem_map.2 ⟨i, hm, rfl⟩)
   have hsi : ((st.fs 2).getD i dFl).2.size ≤ 65536 := hz _ (getD_memD dFl hi)
   have hdl := div_len ((st.fs 2).getD i dFl).2
   refine Or.inl ⟨_, _, size_fn (divL ((st.fs 2).getD i dFl).2) (by omega), ?_⟩
   have hsz : sizL (divL ((st.fs 2).getD i dFl).2) = ((st.fs 2).getD i dFl).2.size := by
    unfold sizL
    rw [text_div, byL_len]
   have hbd := sumS_bd hz S
   have hSl := nodup_le hSn hSr
   refine ⟨S ++ [i], [], ⟨?_, ?_⟩, ?_, rfl, rfl, rfl, rfl, rfl, ⟨rfl, ?_⟩, ⟨rfl, rfl, ?_⟩⟩
   ·rw [List.nodup_append]
    exact ⟨hSn, by simp, fun a ha b hb2 e => hni (by rw [List.mem_singleton.1 hb2] at e; rw [← e]; exact ha)⟩
   ·intro j hj
    rcases List.mem_append.1 hj with hj | hj
    ·exact hSr j hj
    ·rw [List.mem_singleton.1 hj]; exact hi
   ·have h1 : (S ++ [i]).length ≤ (st.fs 2).length := nodup_le (by
     rw [List.nodup_append]
     exact ⟨hSn, by simp, fun a ha b hb2 e => hni (by rw [List.mem_singleton.1 hb2] at e; rw [← e]; exact ha)⟩) (fun j hj => by
     rcases List.mem_append.1 hj with hj | hj
     ·exact hSr j hj
     ·rw [List.mem_singleton.1 hj]; exact hi)
    rw [List.length_append, List.length_singleton] at h1
    show (st.fs 2).length - (S ++ [i]).length < (st.fs 2).length - S.length
    rw [List.length_append, List.length_singleton]
    omega
   ·rw [sumS_snoc, hsz, wr (by omega) (by omega)]
    omega
   ·rw [List.map_append]; rfl
  ·refine .inl ⟨fun h => (by cases h), fun _ => ?_⟩
   have he : sumS (st.fs 2) S = usedL (st.fs 2) := sumS_all hSn hSr fun i hi => born_in hB hSr hi (hall i hi)
   exact ⟨(), [], trivial, ⟨⟨⟨rfl, rfl, by rw [← he]; exact AVEq.refl _⟩, trivial⟩, ⟨⟨rfl, rfl, rfl, ⟨rfl, AVsEq.refl _⟩⟩, ⟨rfl, rfl, trivial, AOEq.refl _⟩, ⟨rfl, rfl, trivial, AOEq.refl _⟩, ⟨rfl, rfl, trivial, AOEq.refl _⟩, ⟨rfl, rfl, trivial, AOEq.refl _⟩, ⟨rfl, rfl, trivial, AOEq.refl _⟩, ⟨rfl, rfl, trivial, AOEq.refl _⟩, ⟨rfl, rfl, trivial, AOEq.refl _⟩, ⟨rfl, rfl, trivial, AOEq.refl _⟩, ⟨rfl, rfl, trivial, AOEq.refl _⟩, ⟨rfl, rfl, trivial, AOEq.refl _⟩, ⟨rfl, rfl, trivial, AOEq.refl _⟩, ⟨rfl, rfl, trivial, AOEq.refl _⟩, ⟨rfl, rfl, trivial, AOEq.refl _⟩, trivial⟩, rfl⟩, rfl, fun h => by cases h⟩
 ·refine Or.inl (Or.inr (Or.inr ?_))
  refine ⟨true, [0, 1, 2, 3, 4, 5, 6, 7, 8, 9, 10, 11, 12, 13], rfl, Unit, _, _, _, _, of_fn st B 3 (by decide), fun _ _ => ?_⟩
  repeat refine Or.inl ?_
  refine ⟨fun _ => ?_, fun hc => (by cases hc)⟩
  repeat refine Or.inl ?_
  refine ⟨[], List Nat, fun S => S.Nodup ∧ ∀ i ∈ S, i < (st.fs 3).length, fun S => [⟨5, [], .i .i64 (sumS (st.fs 3) S)⟩], fun S => [⟨14, [], .it 5 (B.fc 3) (S.map (B.fb 3))⟩], fun S => (st.fs 3).length - S.length,
   ⟨[], [], ⟨by simp, by simp⟩, rfl, rfl, rfl, rfl, rfl, ⟨rfl, rfl⟩, ⟨rfl, rfl, rfl⟩⟩, ?_⟩
  rintro S ⟨hSn, hSr⟩
  refine ⟨rfl, fun i hi hns => ?_, fun hall => ?_⟩
  ·refine .inl ⟨fun _ => ?_, fun h => by cases h⟩
   refine ⟨i, ⟨hi, by simp, rfl⟩, ?_⟩
   have hi : i < (st.fs 3).length := hi
   have hni : i ∉ S := fun hm => hns (List.mem_map.2 ⟨i, hm, rfl⟩)
   have hsi : ((st.fs 3).getD i dFl).2.size ≤ 65536 := hz _ (getD_memD dFl hi)
   have hdl := div_len ((st.fs 3).getD i dFl).2
   refine Or.inl ⟨_, _, size_fn (divL ((st.fs 3).getD i dFl).2) (by omega), ?_⟩
   have hsz : sizL (divL ((st.fs 3).getD i dFl).2) = ((st.fs 3).getD i dFl).2.size := by
    unfold sizL
    rw [text_div, byL_len]
   have hbd := sumS_bd hz S
   have hSl := nodup_le hSn hSr
   refine ⟨S ++ [i], [], ⟨?_, ?_⟩, ?_, rfl, rfl, rfl, rfl, rfl, ⟨rfl, ?_⟩, ⟨rfl, rfl, ?_⟩⟩
   ·rw [List.nodup_append]
    exact ⟨hSn, by simp, fun a ha b hb2 e => hni (by rw [List.mem_singleton.1 hb2] at e; rw [← e]; exact ha)⟩
   ·intro j hj
    rcases List.mem_append.1 hj with hj | hj
    ·exact hSr j hj
    ·rw [List.mem_singleton.1 hj]; exact hi
   ·have h1 : (S ++ [i]).length ≤ (st.fs 3).length := nodup_le (by
     rw [List.nodup_append]
     exact ⟨hSn, by simp, fun a ha b hb2 e => hni (by rw [List.mem_singleton.1 hb2] at e; rw [← e]; exact ha)⟩) (fun j hj => by
     rcases List.mem_append.1 hj with hj | hj
     ·exact hSr j hj
     ·rw [List.mem_singleton.1 hj]; exact hi)
    rw [List.length_append, List.length_singleton] at h1
    show (st.fs 3).length - (S ++ [i]).length < (st.fs 3).length - S.length
    rw [List.length_append, List.length_singleton]
    omega
   ·rw [sumS_snoc, hsz, wr (by omega) (by omega)]
    omega
   ·rw [List.map_append]; rfl
  ·refine .inl ⟨fun h => (by cases h), fun _ => ?_⟩
   have he : sumS (st.fs 3) S = usedL (st.fs 3) := sumS_all hSn hSr fun i hi => born_in hB hSr hi (hall i hi)
   exact ⟨(), [], trivial, ⟨⟨⟨rfl, rfl, by rw [← he]; exact AVEq.refl _⟩, trivial⟩, ⟨⟨rfl, rfl, rfl, ⟨rfl, AVsEq.refl _⟩⟩, ⟨rfl, rfl, trivial, AOEq.refl _⟩, ⟨rfl, rfl, trivial, AOEq.refl _⟩, ⟨rfl, rfl, trivial, AOEq.refl _⟩, ⟨rfl, rfl, trivial, AOEq.refl _⟩, ⟨rfl, rfl, trivial, AOEq.refl _⟩, ⟨rfl, rfl, trivial, AOEq.refl _⟩, ⟨rfl, rfl, trivial, AOEq.refl _⟩, ⟨rfl, rfl, trivial, AOEq.refl _⟩, ⟨rfl, rfl, trivial, AOEq.refl _⟩, ⟨rfl, rfl, trivial, AOEq.refl _⟩, ⟨rfl, rfl, trivial, AOEq.refl _⟩, ⟨rfl, rfl, trivial, AOEq.refl _⟩, ⟨rfl, rfl, trivial, AOEq.refl _⟩, trivial⟩, rfl⟩, rfl, fun h => by cases h⟩
 ·refine Or.inl (Or.inr (Or.inr ?_))
  refine ⟨true, [0, 1, 2, 3, 4, 5, 6, 7, 8, 9, 10, 11, 12, 13], rfl, Unit, _, _, _, _, of_fn st B 4 (by decide), fun _ _ => ?_⟩
  repeat refine Or.inl ?_
  refine ⟨fun _ => ?_, fun hc => (by cases hc)⟩
  repeat refine Or.inl ?_
  refine ⟨[], List Nat, fun S => S.Nodup ∧ ∀ i ∈ S, i < (st.fs 4).length, fun S => [⟨5, [], .i .i64 (sumS (st.fs 4) S)⟩], fun S => [⟨14, [], .it 6 (B.fc 4) (S.map (B.fb 4))⟩], fun S => (st.fs 4).length - S.length,
   ⟨[], [], ⟨by simp, by simp⟩, rfl, rfl, rfl, rfl, rfl, ⟨rfl, rfl⟩, ⟨rfl, rfl, rfl⟩⟩, ?_⟩
  rintro S ⟨hSn, hSr⟩
  refine ⟨rfl, fun i hi hns => ?_, fun hall => ?_⟩
  ·refine .inl ⟨fun _ => ?_, fun h => by cases h⟩
   refine ⟨i, ⟨hi, by simp, rfl⟩, ?_⟩
   have hi : i < (st.fs 4).length := hi
   have hni : i ∉ S := fun hm => hns (List.mem_map.2 ⟨i, hm, rfl⟩)
   have hsi : ((st.fs 4).getD i dFl).2.size ≤ 65536 := hz _ (getD_memD dFl hi)
   have hdl := div_len ((st.fs 4).getD i dFl).2
   refine Or.inl ⟨_, _, size_fn (divL ((st.fs 4).getD i dFl).2) (by omega), ?_⟩
   have hsz : sizL (divL ((st.fs 4).getD i dFl).2) = ((st.fs 4).getD i dFl).2.size := by
    unfold sizL
    rw [text_div, byL_len]
   have hbd := sumS_bd hz S
   have hSl := nodup_le hSn hSr
   refine ⟨S ++ [i], [], ⟨?_, ?_⟩, ?_, rfl, rfl, rfl, rfl, rfl, ⟨rfl, ?_⟩, ⟨rfl, rfl, ?_⟩⟩
   ·rw [List.nodup_append]
    exact ⟨hSn, by simp, fun a ha b hb2 e => hni (by rw [List.mem_singleton.1 hb2] at e; rw [← e]; exact ha)⟩
   ·intro j hj
    rcases List.mem_append.1 hj with hj | hj
    ·exact hSr j hj
    ·rw [List.mem_singleton.1 hj]; exact hi
   ·have h1 : (S ++ [i]).length ≤ (st.fs 4).length := nodup_le (by
     rw [List.nodup_append]
     exact ⟨hSn, by simp, fun a ha b hb2 e => hni (by rw [List.mem_singleton.1 hb2] at e; rw [← e]; exact ha)⟩) (fun j hj => by
     rcases List.mem_append.1 hj with hj | hj
     ·exact hSr j hj
     ·rw [List.mem_singleton.1 hj]; exact hi)
    rw [List.length_append, List.length_singleton] at h1
    show (st.fs 4).length - (S ++ [i]).length < (st.fs 4).length - S.length
    rw [List.length_append, List.length_singleton]
    omega
   ·rw [sumS_snoc, hsz, wr (by omega) (by omega)]
    omega
   ·rw [List.map_append]; rfl
  ·refine .inl ⟨fun h => (by cases h), fun _ => ?_⟩
   have he : sumS (st.fs 4) S = usedL (st.fs 4) := sumS_all hSn hSr fun i hi => born_in hB hSr hi (hall i hi)
   exact ⟨(), [], trivial, ⟨⟨⟨rfl, rfl, by rw [← he]; exact AVEq.refl _⟩, trivial⟩, ⟨⟨rfl, rfl, rfl, ⟨rfl, AVsEq.refl _⟩⟩, ⟨rfl, rfl, trivial, AOEq.refl _⟩, ⟨rfl, rfl, trivial, AOEq.refl _⟩, ⟨rfl, rfl, trivial, AOEq.refl _⟩, ⟨rfl, rfl, trivial, AOEq.refl _⟩, ⟨rfl, rfl, trivial, AOEq.refl _⟩, ⟨rfl, rfl, trivial, AOEq.refl _⟩, ⟨rfl, rfl, trivial, AOEq.refl _⟩, ⟨rfl, rfl, trivial, AOEq.refl _⟩, ⟨rfl, rfl, trivial, AOEq.refl _⟩, ⟨rfl, rfl, trivial, AOEq.refl _⟩, ⟨rfl, rfl, trivial, AOEq.refl _⟩, ⟨rfl, rfl, trivial, AOEq.refl _⟩, ⟨rfl, rfl, trivial, AOEq.refl _⟩, trivial⟩, rfl⟩, rfl, fun h => by cases h⟩
 ·refine Or.inl (Or.inr (Or.inr ?_))
  refine ⟨true, [0, 1, 2, 3, 4, 5, 6, 7, 8, 9, 10, 11, 12, 13], rfl, Unit, _, _, _, _, of_fn st B 5 (by decide), fun _ _ => ?_⟩
  repeat refine Or.inl ?_
  refine ⟨fun _ => ?_, fun hc => (by cases hc)⟩
  repeat refine Or.inl ?_
  refine ⟨[], List Nat, fun S => S.Nodup ∧ ∀ i ∈ S, i < (st.fs 5).length, fun S => [⟨5, [], .i .i64 (sumS (st.fs 5) S)⟩], fun S => [⟨14, [], .it 7 (B.fc 5) (S.map (B.fb 5))⟩], fun S => (st.fs 5).length - S.length,
   ⟨[], [], ⟨by simp, by simp⟩, rfl, rfl, rfl, rfl, rfl, ⟨rfl, rfl⟩, ⟨rfl, rfl, rfl⟩⟩, ?_⟩
  rintro S ⟨hSn, hSr⟩
  refine ⟨rfl, fun i hi hns => ?_, fun hall => ?_⟩
  ·refine .inl ⟨fun _ => ?_, fun h => by cases h⟩
   refine ⟨i, ⟨hi, by simp, rfl⟩, ?_⟩
   have hi : i < (st.fs 5).length := hi
   have hni : i ∉ S := fun hm => hns (List.mem_map.2 ⟨i, hm, rfl⟩)
   have hsi : ((st.fs 5).getD i dFl).2.size ≤ 65536 := hz _ (getD_memD dFl hi)
   have hdl := div_len ((st.fs 5).getD i dFl).2
   refine Or.inl ⟨_, _, size_fn (divL ((st.fs 5).getD i dFl).2) (by omega), ?_⟩
   have hsz : sizL (divL ((st.fs 5).getD i dFl).2) = ((st.fs 5).getD i dFl).2.size := by
    unfold sizL
    rw [text_div, byL_len]
   have hbd := sumS_bd hz S
   have hSl := nodup_le hSn hSr
   refine ⟨S ++ [i], [], ⟨?_, ?_⟩, ?_, rfl, rfl, rfl, rfl, rfl, ⟨rfl, ?_⟩, ⟨rfl, rfl, ?_⟩⟩
   ·rw [List.nodup_append]
    exact ⟨hSn, by simp, fun a ha b hb2 e => hni (by rw [List.mem_singleton.1 hb2] at e; rw [← e]; exact ha)⟩
   ·intro j hj
    rcases List.mem_append.1 hj with hj | hj
    ·exact hSr j hj
    ·rw [List.mem_singleton.1 hj]; exact hi
   ·have h1 : (S ++ [i]).length ≤ (st.fs 5).length := nodup_le (by
     rw [List.nodup_append]
     exact ⟨hSn, by simp, fun a ha b hb2 e => hni (by rw [List.mem_singleton.1 hb2] at e; rw [← e]; exact ha)⟩) (fun j hj => by
     rcases List.mem_append.1 hj with hj | hj
     ·exact hSr j hj
     ·rw [List.mem_singleton.1 hj]; exact hi)
    rw [List.length_append, List.length_singleton] at h1
    show (st.fs 5).length - (S ++ [i]).length < (st.fs 5).length - S.length
    rw [List.length_append, List.length_singleton]
    omega
   ·rw [sumS_snoc, hsz, wr (by omega) (by omega)]
    omega
   ·rw [List.map_append]; rfl
  ·refine .inl ⟨fun h => (by cases h), fun _ => ?_⟩
   have he : sumS (st.fs 5) S = usedL (st.fs 5) := sumS_all hSn hSr fun i hi => born_in hB hSr hi (hall i hi)
   exact ⟨(), [], trivial, ⟨⟨⟨rfl, rfl, by rw [← he]; exact AVEq.refl _⟩, trivial⟩, ⟨⟨rfl, rfl, rfl, ⟨rfl, AVsEq.refl _⟩⟩, ⟨rfl, rfl, trivial, AOEq.refl _⟩, ⟨rfl, rfl, trivial, AOEq.refl _⟩, ⟨rfl, rfl, trivial, AOEq.refl _⟩, ⟨rfl, rfl, trivial, AOEq.refl _⟩, ⟨rfl, rfl, trivial, AOEq.refl _⟩, ⟨rfl, rfl, trivial, AOEq.refl _⟩, ⟨rfl, rfl, trivial, AOEq.refl _⟩, ⟨rfl, rfl, trivial, AOEq.refl _⟩, ⟨rfl, rfl, trivial, AOEq.refl _⟩, ⟨rfl, rfl, trivial, AOEq.refl _⟩, ⟨rfl, rfl, trivial, AOEq.refl _⟩, ⟨rfl, rfl, trivial, AOEq.refl _⟩, ⟨rfl, rfl, trivial, AOEq.refl _⟩, trivial⟩, rfl⟩, rfl, fun h => by cases h⟩
 ·refine Or.inl (Or.inr (Or.inr ?_))
  refine ⟨true, [0, 1, 2, 3, 4, 5, 6, 7, 8, 9, 10, 11, 12, 13], rfl, Unit, _, _, _, _, of_fn st B 6 (by decide), fun _ _ => ?_⟩
  repeat refine Or.inl ?_
  refine ⟨fun _ => ?_, fun hc => (by cases hc)⟩
  repeat refine Or.inl ?_
  refine ⟨[], List Nat, fun S => S.Nodup ∧ ∀ i ∈ S, i < (st.fs 6).length, fun S => [⟨5, [], .i .i64 (sumS (st.fs 6) S)⟩], fun S => [⟨14, [], .it 8 (B.fc 6) (S.map (B.fb 6))⟩], fun S => (st.fs 6).length - S.length,
   ⟨[], [], ⟨by simp, by simp⟩, rfl, rfl, rfl, rfl, rfl, ⟨rfl, rfl⟩, ⟨rfl, rfl, rfl⟩⟩, ?_⟩
  rintro S ⟨hSn, hSr⟩
  refine ⟨rfl, fun i hi hns => ?_, fun hall => ?_⟩
  ·refine .inl ⟨fun _ => ?_, fun h => by cases h⟩
   refine ⟨i, ⟨hi, by simp, rfl⟩, ?_⟩
   have hi : i < (st.fs 6).length := hi
   have hni : i ∉ S := fun hm => hns (List.mem_map.2 ⟨i, hm, rfl⟩)
   have hsi : ((st.fs 6).getD i dFl).2.size ≤ 65536 := hz _ (getD_memD dFl hi)
   have hdl := div_len ((st.fs 6).getD i dFl).2
   refine Or.inl ⟨_, _, size_fn (divL ((st.fs 6).getD i dFl).2) (by omega), ?_⟩
   have hsz : sizL (divL ((st.fs 6).getD i dFl).2) = ((st.fs 6).getD i dFl).2.size := by
    unfold sizL
    rw [text_div, byL_len]
   have hbd := sumS_bd hz S
   have hSl := nodup_le hSn hSr
   refine ⟨S ++ [i], [], ⟨?_, ?_⟩, ?_, rfl, rfl, rfl, rfl, rfl, ⟨rfl, ?_⟩, ⟨rfl, rfl, ?_⟩⟩
   ·rw [List.nodup_append]
    exact ⟨hSn, by simp, fun a ha b hb2 e => hni (by rw [List.mem_singleton.1 hb2] at e; rw [← e]; exact ha)⟩
   ·intro j hj
    rcases List.mem_append.1 hj with hj | hj
    ·exact hSr j hj
    ·rw [List.mem_singleton.1 hj]; exact hi
   ·have h1 : (S ++ [i]).length ≤ (st.fs 6).length := nodup_le (by
     rw [List.nodup_append]
     exact ⟨hSn, by simp, fun a ha b hb2 e => hni (by rw [List.mem_singleton.1 hb2] at e; rw [← e]; exact ha)⟩) (fun j hj => by
     rcases List.mem_append.1 hj with hj | hj
     ·exact hSr j hj
     ·rw [List.mem_singleton.1 hj]; exact hi)
    rw [List.length_append, List.length_singleton] at h1
    show (st.fs 6).length - (S ++ [i]).length < (st.fs 6).length - S.length
    rw [List.length_append, List.length_singleton]
    omega
   ·rw [sumS_snoc, hsz, wr (by omega) (by omega)]
    omega
   ·rw [List.map_append]; rfl
  ·refine .inl ⟨fun h => (by cases h), fun _ => ?_⟩
   have he : sumS (st.fs 6) S = usedL (st.fs 6) := sumS_all hSn hSr fun i hi => born_in hB hSr hi (hall i hi)
   exact ⟨(), [], trivial, ⟨⟨⟨rfl, rfl, by rw [← he]; exact AVEq.refl _⟩, trivial⟩, ⟨⟨rfl, rfl, rfl, ⟨rfl, AVsEq.refl _⟩⟩, ⟨rfl, rfl, trivial, AOEq.refl _⟩, ⟨rfl, rfl, trivial, AOEq.refl _⟩, ⟨rfl, rfl, trivial, AOEq.refl _⟩, ⟨rfl, rfl, trivial, AOEq.refl _⟩, ⟨rfl, rfl, trivial, AOEq.refl _⟩, ⟨rfl, rfl, trivial, AOEq.refl _⟩, ⟨rfl, rfl, trivial, AOEq.refl _⟩, ⟨rfl, rfl, trivial, AOEq.refl _⟩, ⟨rfl, rfl, trivial, AOEq.refl _⟩, ⟨rfl, rfl, trivial, AOEq.refl _⟩, ⟨rfl, rfl, trivial, AOEq.refl _⟩, ⟨rfl, rfl, trivial, AOEq.refl _⟩, ⟨rfl, rfl, trivial, AOEq.refl _⟩, trivial⟩, rfl⟩, rfl, fun h => by cases h⟩
 ·refine Or.inl (Or.inr (Or.inr ?_))
  refine ⟨true, [0, 1, 2, 3, 4, 5, 6, 7, 8, 9, 10, 11, 12, 13], rfl, Unit, _, _, _, _, of_fn st B 7 (by decide), fun _ _ => ?_⟩
  repeat refine Or.inl ?_
  refine ⟨fun _ => ?_, fun hc => (by cases hc)⟩
  repeat refine Or.inl ?_
  refine ⟨[], List Nat, fun S => S.Nodup ∧ ∀ i ∈ S, i < (st.fs 7).length, fun S => [⟨5, [], .i .i64 (sumS (st.fs 7) S)⟩], fun S => [⟨14, [], .it 9 (B.fc 7) (S.map (B.fb 7))⟩], fun S => (st.fs 7).length - S.length,
   ⟨[], [], ⟨by simp, by simp⟩, rfl, rfl, rfl, rfl, rfl, ⟨rfl, rfl⟩, ⟨rfl, rfl, rfl⟩⟩, ?_⟩
  rintro S ⟨hSn, hSr⟩
  refine ⟨rfl, fun i hi hns => ?_, fun hall => ?_⟩
  ·refine .inl ⟨fun _ => ?_, fun h => by cases h⟩
   refine ⟨i, ⟨hi, by simp, rfl⟩, ?_⟩
   have hi : i < (st.fs 7).length := hi
   have hni : i ∉ S := fun hm => hns (List.mem_map.2 ⟨i, hm, rfl⟩)
   have hsi : ((st.fs 7).getD i dFl).2.size ≤ 65536 := hz _ (getD_memD dFl hi)
   have hdl := div_len ((st.fs 7).getD i dFl).2
   refine Or.inl ⟨_, _, size_fn (divL ((st.fs 7).getD i dFl).2) (by omega), ?_⟩
   have hsz : sizL (divL ((st.fs 7).getD i dFl).2) = ((st.fs 7).getD i dFl).2.size := by
    unfold sizL
    rw [text_div, byL_len]
   have hbd := sumS_bd hz S
   have hSl := nodup_le hSn hSr
   refine ⟨S ++ [i], [], ⟨?_, ?_⟩, ?_, rfl, rfl, rfl, rfl, rfl, ⟨rfl, ?_⟩, ⟨rfl, rfl, ?_⟩⟩
   ·rw [List.nodup_append]
    exact ⟨hSn, by simp, fun a ha b hb2 e => hni (by rw [List.mem_singleton.1 hb2] at e; rw [← e]; exact ha)⟩
   ·intro j hj
    rcases List.mem_append.1 hj with hj | hj
    ·exact hSr j hj
    ·rw [List.mem_singleton.1 hj]; exact hi
   ·have h1 : (S ++ [i]).length ≤ (st.fs 7).length := nodup_le (by
     rw [List.nodup_append]
     exact ⟨hSn, by simp, fun a ha b hb2 e => hni (by rw [List.mem_singleton.1 hb2] at e; rw [← e]; exact ha)⟩) (fun j hj => by
     rcases List.mem_append.1 hj with hj | hj
     ·exact hSr j hj
     ·rw [List.mem_singleton.1 hj]; exact hi)
    rw [List.length_append, List.length_singleton] at h1
    show (st.fs 7).length - (S ++ [i]).length < (st.fs 7).length - S.length
    rw [List.length_append, List.length_singleton]
    omega
   ·rw [sumS_snoc, hsz, wr (by omega) (by omega)]
    omega
   ·rw [List.map_append]; rfl
  ·refine .inl ⟨fun h => (by cases h), fun _ => ?_⟩
   have he : sumS (st.fs 7) S = usedL (st.fs 7) := sumS_all hSn hSr fun i hi => born_in hB hSr hi (hall i hi)
   exact ⟨(), [], trivial, ⟨⟨⟨rfl, rfl, by rw [← he]; exact AVEq.refl _⟩, trivial⟩, ⟨⟨rfl, rfl, rfl, ⟨rfl, AVsEq.refl _⟩⟩, ⟨rfl, rfl, trivial, AOEq.refl _⟩, ⟨rfl, rfl, trivial, AOEq.refl _⟩, ⟨rfl, rfl, trivial, AOEq.refl _⟩, ⟨rfl, rfl, trivial, AOEq.refl _⟩, ⟨rfl, rfl, trivial, AOEq.refl _⟩, ⟨rfl, rfl, trivial, AOEq.refl _⟩, ⟨rfl, rfl, trivial, AOEq.refl _⟩, ⟨rfl, rfl, trivial, AOEq.refl _⟩, ⟨rfl, rfl, trivial, AOEq.refl _⟩, ⟨rfl, rfl, trivial, AOEq.refl _⟩, ⟨rfl, rfl, trivial, AOEq.refl _⟩, ⟨rfl, rfl, trivial, AOEq.refl _⟩, ⟨rfl, rfl, trivial, AOEq.refl _⟩, trivial⟩, rfl⟩, rfl, fun h => by cases h⟩
 ·refine Or.inl (Or.inr (Or.inr ?_))
  refine ⟨true, [0, 1, 2, 3, 4, 5, 6, 7, 8, 9, 10, 11, 12, 13], rfl, Unit, _, _, _, _, of_fn st B 8 (by decide), fun _ _ => ?_⟩
  repeat refine Or.inl ?_
  refine ⟨fun _ => ?_, fun hc => (by cases hc)⟩
  repeat refine Or.inl ?_
  refine ⟨[], List Nat, fun S => S.Nodup ∧ ∀ i ∈ S, i < (st.fs 8).length, fun S => [⟨5, [], .i .i64 (sumS (st.fs 8) S)⟩], fun S => [⟨14, [], .it 10 (B.fc 8) (S.map (B.fb 8))⟩], fun S => (st.fs 8).length - S.length,
   ⟨[], [], ⟨by simp, by simp⟩, rfl, rfl, rfl, rfl, rfl, ⟨rfl, rfl⟩, ⟨rfl, rfl, rfl⟩⟩, ?_⟩
  rintro S ⟨hSn, hSr⟩
  refine ⟨rfl, fun i hi hns => ?_, fun hall => ?_⟩
  ·refine .inl ⟨fun _ => ?_, fun h => by cases h⟩
   refine ⟨i, ⟨hi, by simp, rfl⟩, ?_⟩
   have hi : i < (st.fs 8).length := hi
   have hni : i ∉ S := fun hm => hns (List.mem_map.2 ⟨i, hm, rfl⟩)
   have hsi : ((st.fs 8).getD i dFl).2.size ≤ 65536 := hz _ (getD_memD dFl hi)
   have hdl := div_len ((st.fs 8).getD i dFl).2
   refine Or.inl ⟨_, _, size_fn (divL ((st.fs 8).getD i dFl).2) (by omega), ?_⟩
   have hsz : sizL (divL ((st.fs 8).getD i dFl).2) = ((st.fs 8).getD i dFl).2.size := by
    unfold sizL
    rw [text_div, byL_len]
   have hbd := sumS_bd hz S
   have hSl := nodup_le hSn hSr
   refine ⟨S ++ [i], [], ⟨?_, ?_⟩, ?_, rfl, rfl, rfl, rfl, rfl, ⟨rfl, ?_⟩, ⟨rfl, rfl, ?_⟩⟩
   ·rw [List.nodup_append]
    exact ⟨hSn, by simp, fun a ha b hb2 e => hni (by rw [List.mem_singleton.1 hb2] at e; rw [← e]; exact ha)⟩
   ·intro j hj
    rcases List.mem_append.1 hj with hj | hj
    ·exact hSr j hj
    ·rw [List.mem_singleton.1 hj]; exact hi
   ·have h1 : (S ++ [i]).length ≤ (st.fs 8).length := nodup_le (by
     rw [List.nodup_append]
     exact ⟨hSn, by simp, fun a ha b hb2 e => hni (by rw [List.mem_singleton.1 hb2] at e; rw [← e]; exact ha)⟩) (fun j hj => by
     rcases List.mem_append.1 hj with hj | hj
     ·exact hSr j hj
     ·rw [List.mem_singleton.1 hj]; exact hi)
    rw [List.length_append, List.length_singleton] at h1
    show (st.fs 8).length - (S ++ [i]).length < (st.fs 8).length - S.length
    rw [List.length_append, List.length_singleton]
    omega
   ·rw [sumS_snoc, hsz, wr (by omega) (by omega)]
    omega
   ·rw [List.map_append]; rfl
  ·refine .inl ⟨fun h => (by cases h), fun _ => ?_⟩
   have he : sumS (st.fs 8) S = usedL (st.fs 8) := sumS_all hSn hSr fun i hi => born_in hB hSr hi (hall i hi)
   exact ⟨(), [], trivial, ⟨⟨⟨rfl, rfl, by rw [← he]; exact AVEq.refl _⟩, trivial⟩, ⟨⟨rfl, rfl, rfl, ⟨rfl, AVsEq.refl _⟩⟩, ⟨rfl, rfl, trivial, AOEq.refl _⟩, ⟨rfl, rfl, trivial, AOEq.refl _⟩, ⟨rfl, rfl, trivial, AOEq.refl _⟩, ⟨rfl, rfl, trivial, AOEq.refl _⟩, ⟨rfl, rfl, trivial, AOEq.refl _⟩, ⟨rfl, rfl, trivial, AOEq.refl _⟩, ⟨rfl, rfl, trivial, AOEq.refl _⟩, ⟨rfl, rfl, trivial, AOEq.refl _⟩, ⟨rfl, rfl, trivial, AOEq.refl _⟩, ⟨rfl, rfl, trivial, AOEq.refl _⟩, ⟨rfl, rfl, trivial, AOEq.refl _⟩, ⟨rfl, rfl, trivial, AOEq.refl _⟩, ⟨rfl, rfl, trivial, AOEq.refl _⟩, trivial⟩, rfl⟩, rfl, fun h => by cases h⟩
 ·refine Or.inl (Or.inr (Or.inr ?_))
  refine ⟨true, [0, 1, 2, 3, 4, 5, 6, 7, 8, 9, 10, 11, 12, 13], rfl, Unit, _, _, _, _, of_fn st B 9 (by decide), fun _ _ => ?_⟩
  repeat refine Or.inl ?_
  refine ⟨fun _ => ?_, fun hc => (by cases hc)⟩
  repeat refine Or.inl ?_
  refine ⟨[], List Nat, fun S => S.Nodup ∧ ∀ i ∈ S, i < (st.fs 9).length, fun S => [⟨5, [], .i .i64 (sumS (st.fs 9) S)⟩], fun S => [⟨14, [], .it 11 (B.fc 9) (S.map (B.fb 9))⟩], fun S => (st.fs 9).length - S.length,
   ⟨[], [], ⟨by simp, by simp⟩, rfl, rfl, rfl, rfl, rfl, ⟨rfl, rfl⟩, ⟨rfl, rfl, rfl⟩⟩, ?_⟩
  rintro S ⟨hSn, hSr⟩
  refine ⟨rfl, fun i hi hns => ?_, fun hall => ?_⟩
  ·refine .inl ⟨fun _ => ?_, fun h => by cases h⟩
   refine ⟨i, ⟨hi, by simp, rfl⟩, ?_⟩
   have hi : i < (st.fs 9).length := hi
   have hni : i ∉ S := fun hm => hns (List.mem_map.2 ⟨i, hm, rfl⟩)
   have hsi : ((st.fs 9).getD i dFl).2.size ≤ 65536 := hz _ (getD_memD dFl hi)
   have hdl := div_len ((st.fs 9).getD i dFl).2
   refine Or.inl ⟨_, _, size_fn (divL ((st.fs 9).getD i dFl).2) (by omega), ?_⟩
   have hsz : sizL (divL ((st.fs 9).getD i dFl).2) = ((st.fs 9).getD i dFl).2.size := by
    unfold sizL
    rw [text_div, byL_len]
   have hbd := sumS_bd hz S
   have hSl := nodup_le hSn hSr
   refine ⟨S ++ [i], [], ⟨?_, ?_⟩, ?_, rfl, rfl, rfl, rfl, rfl, ⟨rfl, ?_⟩, ⟨rfl, rfl, ?_⟩⟩
   ·rw [List.nodup_append]
    exact ⟨hSn, by simp, fun a ha b hb2 e => hni (by rw [List.mem_singleton.1 hb2] at e; rw [← e]; exact ha)⟩
   ·intro j hj
    rcases List.mem_append.1 hj with hj | hj
    ·exact hSr j hj
    ·rw [List.mem_singleton.1 hj]; exact hi
   ·have h1 : (S ++ [i]).length ≤ (st.fs 9).length := nodup_le (by
     rw [List.nodup_append]
     exact ⟨hSn, by simp, fun a ha b hb2 e => hni (by rw [List.mem_singleton.1 hb2] at e; rw [← e]; exact ha)⟩) (fun j hj => by
     rcases List.mem_append.1 hj with hj | hj
     ·exact hSr j hj
     ·rw [List.mem_singleton.1 hj]; exact hi)
    rw [List.length_append, List.length_singleton] at h1
    show (st.fs 9).length - (S ++ [i]).length < (st.fs 9).length - S.length
    rw [List.length_append, List.length_singleton]
    omega
   ·rw [sumS_snoc, hsz, wr (by omega) (by omega)]
    omega
   ·rw [List.map_append]; rfl
  ·refine .inl ⟨fun h => (by cases h), fun _ => ?_⟩
   have he : sumS (st.fs 9) S = usedL (st.fs 9) := sumS_all hSn hSr fun i hi => born_in hB hSr hi (hall i hi)
   exact ⟨(), [], trivial, ⟨⟨⟨rfl, rfl, by rw [← he]; exact AVEq.refl _⟩, trivial⟩, ⟨⟨rfl, rfl, rfl, ⟨rfl, AVsEq.refl _⟩⟩, ⟨rfl, rfl, trivial, AOEq.refl _⟩, ⟨rfl, rfl, trivial, AOEq.refl _⟩, ⟨rfl, rfl, trivial, AOEq.refl _⟩, ⟨rfl, rfl, trivial, AOEq.refl _⟩, ⟨rfl, rfl, trivial, AOEq.refl _⟩, ⟨rfl, rfl, trivial, AOEq.refl _⟩, ⟨rfl, rfl, trivial, AOEq.refl _⟩, ⟨rfl, rfl, trivial, AOEq.refl _⟩, ⟨rfl, rfl, trivial, AOEq.refl _⟩, ⟨rfl, rfl, trivial, AOEq.refl _⟩, ⟨rfl, rfl, trivial, AOEq.refl _⟩, ⟨rfl, rfl, trivial, AOEq.refl _⟩, ⟨rfl, rfl, trivial, AOEq.refl _⟩, trivial⟩, rfl⟩, rfl, fun h => by cases h⟩
 ·refine Or.inl (Or.inr (Or.inr ?_))
  refine ⟨true, [0, 1, 2, 3, 4, 5, 6, 7, 8, 9, 10, 11, 12, 13], rfl, Unit, _, _, _, _, of_fn st B 10 (by decide), fun _ _ => ?_⟩
  repeat refine Or.inl ?_
  refine ⟨fun _ => ?_, fun hc => (by cases hc)⟩
  repeat refine Or.inl ?_
  refine ⟨[], List Nat, fun S => S.Nodup ∧ ∀ i ∈ S, i < (st.fs 10).length, fun S => [⟨5, [], .i .i64 (sumS (st.fs 10) S)⟩], fun S => [⟨14, [], .it 12 (B.fc 10) (S.map (B.fb 10))⟩], fun S => (st.fs 10).length - S.length,
   ⟨[], [], ⟨by simp, by simp⟩, rfl, rfl, rfl, rfl, rfl, ⟨rfl, rfl⟩, ⟨rfl, rfl, rfl⟩⟩, ?_⟩
  rintro S ⟨hSn, hSr⟩
  refine ⟨rfl, fun i hi hns => ?_, fun hall => ?_⟩
  ·refine .inl ⟨fun _ => ?_, fun h => by cases h⟩
   refine ⟨i, ⟨hi, by simp, rfl⟩, ?_⟩
   have hi : i < (st.fs 10).length := hi
   have hni : i ∉ S := fun hm => hns (List.mem_map.2 ⟨i, hm, rfl⟩)
   have hsi : ((st.fs 10).getD i dFl).2.size ≤ 65536 := hz _ (getD_memD dFl hi)
   have hdl := div_len ((st.fs 10).getD i dFl).2
   refine Or.inl ⟨_, _, size_fn (divL ((st.fs 10).getD i dFl).2) (by omega), ?_⟩
   have hsz : sizL (divL ((st.fs 10).getD i dFl).2) = ((st.fs 10).getD i dFl).2.size := by
    unfold sizL
    rw [text_div, byL_len]
   have hbd := sumS_bd hz S
   have hSl := nodup_le hSn hSr
   refine ⟨S ++ [i], [], ⟨?_, ?_⟩, ?_, rfl, rfl, rfl, rfl, rfl, ⟨rfl, ?_⟩, ⟨rfl, rfl, ?_⟩⟩
   ·rw [List.nodup_append]
    exact ⟨hSn, by simp, fun a ha b hb2 e => hni (by rw [List.mem_singleton.1 hb2] at e; rw [← e]; exact ha)⟩
   ·intro j hj
    rcases List.mem_append.1 hj with hj | hj
    ·exact hSr j hj
    ·rw [List.mem_singleton.1 hj]; exact hi
   ·have h1 : (S ++ [i]).length ≤ (st.fs 10).length := nodup_le (by
     rw [List.nodup_append]
     exact ⟨hSn, by simp, fun a ha b hb2 e => hni (by rw [List.mem_singleton.1 hb2] at e; rw [← e]; exact ha)⟩) (fun j hj => by
     rcases List.mem_append.1 hj with hj | hj
     ·exact hSr j hj
     ·rw [List.mem_singleton.1 hj]; exact hi)
    rw [List.length_append, List.length_singleton] at h1
    show (st.fs 10).length - (S ++ [i]).length < (st.fs 10).length - S.length
    rw [List.length_append, List.length_singleton]
    omega
   ·rw [sumS_snoc, hsz, wr (by omega) (by omega)]
    omega
   ·rw [List.map_append]; rfl
  ·refine .inl ⟨fun h => (by cases h), fun _ => ?_⟩
   have he : sumS (st.fs 10) S = usedL (st.fs 10) := sumS_all hSn hSr fun i hi => born_in hB hSr hi (hall i hi)
   exact ⟨(), [], trivial, ⟨⟨⟨rfl, rfl, by rw [← he]; exact AVEq.refl _⟩, trivial⟩, ⟨⟨rfl, rfl, rfl, ⟨rfl, AVsEq.refl _⟩⟩, ⟨rfl, rfl, trivial, AOEq.refl _⟩, ⟨rfl, rfl, trivial, AOEq.refl _⟩, ⟨rfl, rfl, trivial, AOEq.refl _⟩, ⟨rfl, rfl, trivial, AOEq.refl _⟩, ⟨rfl, rfl, trivial, AOEq.refl _⟩, ⟨rfl, rfl, trivial, AOEq.refl _⟩, ⟨rfl, rfl, trivial, AOEq.refl _⟩, ⟨rfl, rfl, trivial, AOEq.refl _⟩, ⟨rfl, rfl, trivial, AOEq.refl _⟩, ⟨rfl, rfl, trivial, AOEq.refl _⟩, ⟨rfl, rfl, trivial, AOEq.refl _⟩, ⟨rfl, rfl, trivial, AOEq.refl _⟩, ⟨rfl, rfl, trivial, AOEq.refl _⟩, trivial⟩, rfl⟩, rfl, fun h => by cases h⟩
 ·refine Or.inl (Or.inr (Or.inr ?_))
  refine ⟨true, [0, 1, 2, 3, 4, 5, 6, 7, 8, 9, 10, 11, 12, 13], rfl, Unit, _, _, _, _, of_fn st B 11 (by decide), fun _ _ => ?_⟩
  repeat refine Or.inl ?_
  refine ⟨fun _ => ?_, fun hc => (by cases hc)⟩
  repeat refine Or.inl ?_
  refine ⟨[], List Nat, fun S => S.Nodup ∧ ∀ i ∈ S, i < (st.fs 11).length, fun S => [⟨5, [], .i .i64 (sumS (st.fs 11) S)⟩], fun S => [⟨14, [], .it 13 (B.fc 11) (S.map (B.fb 11))⟩], fun S => (st.fs 11).length - S.length,
   ⟨[], [], ⟨by simp, by simp⟩, rfl, rfl, rfl, rfl, rfl, ⟨rfl, rfl⟩, ⟨rfl, rfl, rfl⟩⟩, ?_⟩
  rintro S ⟨hSn, hSr⟩
  refine ⟨rfl, fun i hi hns => ?_, fun hall => ?_⟩
  ·refine .inl ⟨fun _ => ?_, fun h => by cases h⟩
   refine ⟨i, ⟨hi, by simp, rfl⟩, ?_⟩
   have hi : i < (st.fs 11).length := hi
   have hni : i ∉ S := fun hm => hns (List.mem_map.2 ⟨i, hm, rfl⟩)
   have hsi : ((st.fs 11).getD i dFl).2.size ≤ 65536 := hz _ (getD_memD dFl hi)
   have hdl := div_len ((st.fs 11).getD i dFl).2
   refine Or.inl ⟨_, _, size_fn (divL ((st.fs 11).getD i dFl).2) (by omega), ?_⟩
   have hsz : sizL (divL ((st.fs 11).getD i dFl).2) = ((st.fs 11).getD i dFl).2.size := by
    unfold sizL
    rw [text_div, byL_len]
   have hbd := sumS_bd hz S
   have hSl := nodup_le hSn hSr
   refine ⟨S ++ [i], [], ⟨?_, ?_⟩, ?_, rfl, rfl, rfl, rfl, rfl, ⟨rfl, ?_⟩, ⟨rfl, rfl, ?_⟩⟩
   ·rw [List.nodup_append]
    exact ⟨hSn, by simp, fun a ha b hb2 e => hni (by rw [List.mem_singleton.1 hb2] at e; rw [← e]; exact ha)⟩
   ·intro j hj
    rcases List.mem_append.1 hj with hj | hj
    ·exact hSr j hj
    ·rw [List.mem_singleton.1 hj]; exact hi
   ·have h1 : (S ++ [i]).length ≤ (st.fs 11).length := nodup_le (by
     rw [List.nodup_append]
     exact ⟨hSn, by simp, fun a ha b hb2 e => hni (by rw [List.mem_singleton.1 hb2] at e; rw [← e]; exact ha)⟩) (fun j hj => by
     rcases List.mem_append.1 hj with hj | hj
     ·exact hSr j hj
     ·rw [List.mem_singleton.1 hj]; exact hi)
    rw [List.length_append, List.length_singleton] at h1
    show (st.fs 11).length - (S ++ [i]).length < (st.fs 11).length - S.length
    rw [List.length_append, List.length_singleton]
    omega
   ·rw [sumS_snoc, hsz, wr (by omega) (by omega)]
    omega
   ·rw [List.map_append]; rfl
  ·refine .inl ⟨fun h => (by cases h), fun _ => ?_⟩
   have he : sumS (st.fs 11) S = usedL (st.fs 11) := sumS_all hSn hSr fun i hi => born_in hB hSr hi (hall i hi)
   exact ⟨(), [], trivial, ⟨⟨⟨rfl, rfl, by rw [← he]; exact AVEq.refl _⟩, trivial⟩, ⟨⟨rfl, rfl, rfl, ⟨rfl, AVsEq.refl _⟩⟩, ⟨rfl, rfl, trivial, AOEq.refl _⟩, ⟨rfl, rfl, trivial, AOEq.refl _⟩, ⟨rfl, rfl, trivial, AOEq.refl _⟩, ⟨rfl, rfl, trivial, AOEq.refl _⟩, ⟨rfl, rfl, trivial, AOEq.refl _⟩, ⟨rfl, rfl, trivial, AOEq.refl _⟩, ⟨rfl, rfl, trivial, AOEq.refl _⟩, ⟨rfl, rfl, trivial, AOEq.refl _⟩, ⟨rfl, rfl, trivial, AOEq.refl _⟩, ⟨rfl, rfl, trivial, AOEq.refl _⟩, ⟨rfl, rfl, trivial, AOEq.refl _⟩, ⟨rfl, rfl, trivial, AOEq.refl _⟩, ⟨rfl, rfl, trivial, AOEq.refl _⟩, trivial⟩, rfl⟩, rfl, fun h => by cases h⟩
end Go.Proofs.Ytnookbebiacaeaa
end

section
namespace Go.Proofs.Ytnookbebiacaeaa
open Go.Eng Go.RowKit
section
variable {α γ : Type} [DecidableEq α]
theorem lookM {kf : α → AV} {vf : γ → AV} {d : α × γ} {L : List (α × γ)} (hk : ∀ a b, kf a = kf b → a = b) (k : α) (z : γ) {zv : AV} (hz : AVEq (vf z) zv) :
  LookOk L.length (fun i => kf (L.getD i d).1) (fun i => vf (L.getD i d).2) (kf k) (vf ((mget L k).getD z)) zv (mget L k).isSome := by
 cases h : mget L k with
 | none => exact ⟨fun h => (by cases h), fun _ => ⟨fun i hi he => mget_none h d i hi (hk _ _ he), hz⟩⟩
 | some v =>
  obtain ⟨i, h1, h2, h3⟩ := mget_some h d
  refine ⟨fun _ => ⟨i, h1, congrArg kf h2, ?_⟩, fun h => (by cases h)⟩
  have e : vf ((some v).getD z) = vf (L.getD i d).2 := congrArg vf h3.symm
  rw [e]
  exact AVEq.refl _
end
theorem i64I (a b : Int) (h : AV.i .i64 a = AV.i .i64 b) : a = b := by simpa using h
theorem keysFile (L : List (Int × ByteArray)) : KeysFit T 3 L.length (fun i => .i .i64 (L.getD i dFl).1) := fun _ _ => rfl
theorem lookF (L : List (Int × ByteArray)) (n : Int) : LookOk L.length (fun i => .i .i64 (L.getD i dFl).1) (fun i => filV (L.getD i dFl).2) (.i .i64 n) (filV ((mget L n).getD noB)) (.val (.slice none 0 0)) (mget L n).isSome :=
 lookM (kf := fun a => .i .i64 a) (vf := filV) (d := dFl) i64I n noB (show AVEq (filV noB) (.val (.slice none 0 0)) from ⟨rfl, rfl⟩)
def getR : Option ByteArray → AV
 | some x => .tup [.s x, .i .i64 0]
 | none => .tup [.s noB, .i .i64 4]
set_option maxRecDepth 20000 in
set_option maxHeartbeats 8000000 in
theorem get_none (st : St) (B : Bn) (t n : Int) (h : ¬ (0 ≤ t ∧ t < 12)) : CtrM Try.prog 66 true (storeO st B) [.p 0 0, .i .i64 t, .i .i64 n] (fun _ : Unit => True) (fun _ => storeO st B) (fun _ => []) (fun _ => getR none) := by
 refine fn_of_execM tabOk Try.func66 (by kernel_rfl) rfl (N := Try.f66.ntmps) rfl (res := [.tmp 6, .tmp 7]) rfl true false (storeO st B) _ _ _ _ rfl (fun h => by cases h) [] ?_
 refine Or.inl (Or.inr (Or.inr ?_))
 refine ⟨true, [0, 1, 2, 3, 4, 5, 6, 7, 8, 9, 10, 11, 12, 13], rfl, Unit, _, _, _, _, of_none st B t h, fun _ _ => ?_⟩
 repeat refine Or.inl ?_
 refine ⟨fun hc => (by cases hc), fun _ => ?_⟩
 exact ⟨(), [], trivial, ⟨⟨⟨rfl, rfl, AVEq.refl _⟩, trivial⟩, ⟨⟨rfl, rfl, rfl, ⟨rfl, AVsEq.refl _⟩⟩, ⟨rfl, rfl, trivial, AOEq.refl _⟩, ⟨rfl, rfl, trivial, AOEq.refl _⟩, ⟨rfl, rfl, trivial, AOEq.refl _⟩, ⟨rfl, rfl, trivial, AOEq.refl _⟩, ⟨rfl, rfl, trivial, AOEq.refl _⟩, ⟨rfl, rfl, trivial, AOEq.refl _⟩, ⟨rfl, rfl, trivial, AOEq.refl _⟩, ⟨rfl, rfl, trivial, AOEq.refl _⟩, ⟨rfl, rfl, trivial, AOEq.refl _⟩, ⟨rfl, rfl, trivial, AOEq.refl _⟩, ⟨rfl, rfl, trivial, AOEq.refl _⟩, ⟨rfl, rfl, trivial, AOEq.refl _⟩, ⟨rfl, rfl, trivial, AOEq.refl _⟩, trivial⟩, rfl⟩, rfl, fun h => by cases h⟩
set_option maxRecDepth 20000 in
set_option maxHeartbeats 8000000 in
theorem get_fn (st : St) (B : Bn) (t : Nat) (n : Int) (h : t < 12) (hz : ∀ p ∈ st.fs t, p.2.size ≤ 10000) :
  CtrM Try.prog 66 true (storeO st B) [.p 0 0, .i .i64 t, .i .i64 n] (fun _ : Unit => True) (fun _ => storeO st B) (fun _ => []) (fun _ => getR (mget (st.fs t) n)) := by
 refine fn_of_execM tabOk Try.func66 (by kernel_rfl) rfl (N := Try.f66.ntmps) rfl (res := [.tmp 6, .tmp 7]) rfl true false (storeO st B) _ _ _ _ rfl (fun h => by cases h) [] ?_
 have hk := keysFile (st.fs t)
 have hl := lookF (st.fs t) n
 cases hm : mget (st.fs t) n with
 | none =>
  rw [hm] at hl
  rcases cases12 h with rfl | rfl | rfl | rfl | rfl | rfl | rfl | rfl | rfl | rfl | rfl | rfl
  all_goals
   refine Or.inl (Or.inr (Or.inr ?_))
   refine ⟨true, [0, 1, 2, 3, 4, 5, 6, 7, 8, 9, 10, 11, 12, 13], rfl, Unit, _, _, _, _, of_fn st B _ (by decide), fun _ _ => ?_⟩
   repeat refine Or.inl ?_
   refine ⟨fun _ => ?_, fun hc => (by cases hc)⟩
   repeat refine Or.inl ?_
   refine ⟨_, _, ⟨hk, rfl, hl⟩, ?_⟩
   repeat refine Or.inl ?_
   refine ⟨fun hc => (by cases hc), fun _ => ?_⟩
   exact ⟨(), [], trivial, ⟨⟨⟨rfl, rfl, AVEq.refl _⟩, trivial⟩, ⟨⟨rfl, rfl, rfl, ⟨rfl, AVsEq.refl _⟩⟩, ⟨rfl, rfl, trivial, AOEq.refl _⟩, ⟨rfl, rfl, trivial, AOEq.refl _⟩, ⟨rfl, rfl, trivial, AOEq.refl _⟩, ⟨rfl, rfl, trivial, AOEq.refl _⟩, ⟨rfl, rfl, trivial, AOEq.refl _⟩, ⟨rfl, rfl, trivial, AOEq.refl _⟩, ⟨rfl, rfl, trivial, AOEq.refl _⟩, ⟨rfl, rfl, trivial, AOEq.refl _⟩, ⟨rfl, rfl, trivial, AOEq.refl _⟩, ⟨rfl, rfl, trivial, AOEq.refl _⟩, ⟨rfl, rfl, trivial, AOEq.refl _⟩, ⟨rfl, rfl, trivial, AOEq.refl _⟩, ⟨rfl, rfl, trivial, AOEq.refl _⟩, trivial⟩, rfl⟩, rfl, fun h => by cases h⟩
 | some x =>
  rw [hm] at hl
  have hx : x.size ≤ 10000 := by
   obtain ⟨i, h1, h2, h3⟩ := mget_some hm dFl
   rw [← h3]
   exact hz _ (getD_memD dFl h1)
  rcases cases12 h with rfl | rfl | rfl | rfl | rfl | rfl | rfl | rfl | rfl | rfl | rfl | rfl
  all_goals
   refine Or.inl (Or.inr (Or.inr ?_))
   refine ⟨true, [0, 1, 2, 3, 4, 5, 6, 7, 8, 9, 10, 11, 12, 13], rfl, Unit, _, _, _, _, of_fn st B _ (by decide), fun _ _ => ?_⟩
   repeat refine Or.inl ?_
   refine ⟨fun _ => ?_, fun hc => (by cases hc)⟩
   repeat refine Or.inl ?_
   refine ⟨_, _, ⟨hk, rfl, hl⟩, ?_⟩
   repeat refine Or.inl ?_
   refine ⟨fun _ => ?_, fun hc => (by cases hc)⟩
   refine Or.inl ⟨_, _, text_fn x hx, ?_⟩
   exact ⟨(), [], trivial, ⟨⟨⟨rfl, rfl, AVEq.refl _⟩, trivial⟩, ⟨⟨rfl, rfl, rfl, ⟨rfl, AVsEq.refl _⟩⟩, ⟨rfl, rfl, trivial, AOEq.refl _⟩, ⟨rfl, rfl, trivial, AOEq.refl _⟩, ⟨rfl, rfl, trivial, AOEq.refl _⟩, ⟨rfl, rfl, trivial, AOEq.refl _⟩, ⟨rfl, rfl, trivial, AOEq.refl _⟩, ⟨rfl, rfl, trivial, AOEq.refl _⟩, ⟨rfl, rfl, trivial, AOEq.refl _⟩, ⟨rfl, rfl, trivial, AOEq.refl _⟩, ⟨rfl, rfl, trivial, AOEq.refl _⟩, ⟨rfl, rfl, trivial, AOEq.refl _⟩, ⟨rfl, rfl, trivial, AOEq.refl _⟩, ⟨rfl, rfl, trivial, AOEq.refl _⟩, ⟨rfl, rfl, trivial, AOEq.refl _⟩, trivial⟩, rfl⟩, rfl, fun h => by cases h⟩
end Go.Proofs.Ytnookbebiacaeaa
end

section
namespace Go.Proofs.Ytnookbebiacaeaa
open Go.Eng Go.RowKit
section
variable {α γ : Type} [DecidableEq α]
theorem updM {kf : α → AV} {vf : γ → AV} {d : α × γ} {L : List (α × γ)} {born : Nat → Nat} {clock : Nat} (hk : ∀ a b, kf a = kf b → a = b) (k : α) (v : γ) :
  UpdOk L.length (fun i => kf (L.getD i d).1) (fun i => vf (L.getD i d).2) born clock (kf k) (vf v) (mset L k v).length (fun i => kf ((mset L k v).getD i d).1) (fun i => vf ((mset L k v).getD i d).2)
   (fun j => if j < L.length then born j else clock) (if (mget L k).isSome = true then clock else clock + 1) := by
 cases hm : mget L k with
 | none =>
  have := updOk_new (kf := kf) (vf := vf) (d := d) (born := born) (clock := clock) hk hm v
  simpa using this
 | some w =>
  rcases mset_upd (L := L) (k := k) (v := v) d with ⟨i, h1, h2, h3, h4⟩ | ⟨h1, _⟩
  ·refine .inl ⟨i, h1, congrArg kf h2, h3, by simp, fun j hj => ?_⟩
   obtain ⟨e1, e2⟩ := h4 j hj
   refine ⟨congrArg kf e1, by dsimp only; rw [if_pos hj], ?_⟩
   dsimp only
   rw [e2]
   split <;> rfl
  ·obtain ⟨i, g1, g2, _⟩ := mget_some hm d
   exact absurd g2 (h1 i g1)
theorem delM {kf : α → AV} {vf : γ → AV} {d : α × γ} {L : List (α × γ)} {born : Nat → Nat} {clock : Nat} {k : α} (h : (mget L k).isSome = true) :
  ∃ born', DelOk L.length (fun i => kf (L.getD i d).1) (fun i => vf (L.getD i d).2) born (kf k) (mdel L k).length (fun i => kf ((mdel L k).getD i d).1) (fun i => vf ((mdel L k).getD i d).2) born' ∧ (BI L.length born clock → BI (mdel L k).length born' clock) := by
 obtain ⟨i, h1, h2, h3, h4⟩ := mdel_at h d
 refine ⟨fun j => born (if j < i then j else j + 1), .inl ⟨i, h1, congrArg kf h2, h3, fun j hj => ?_⟩, fun hb => ⟨fun j hj => hb.1 _ (by split <;> omega), fun j l hj hl he => ?_⟩⟩
 ·have := h4 j hj
  exact ⟨congrArg (fun p => kf p.1) this, rfl, congrArg (fun p => vf p.2) this⟩
 ·have := hb.2 _ _ (by split <;> omega) (by split <;> omega) he
  split at this <;> split at this <;> omega
theorem biNew {n : Nat} {born : Nat → Nat} {clock : Nat} (h : BI n born clock) : BI (n + 1) (fun j => if j < n then born j else clock) (clock + 1) := by
 refine ⟨fun i hi => ?_, fun i j hi hj he => ?_⟩
 ·dsimp only
  split
  ·rename_i h1
   have := h.1 i h1
   omega
  ·omega
 ·dsimp only at he
  split at he <;> split at he
  ·rename_i h1 h2
   exact h.2 i j h1 h2 he
  ·rename_i h1 h2
   have := h.1 i h1
   omega
  ·rename_i h1 h2
   have := h.1 j h2
   omega
  ·omega
end
theorem keysU (L : List (Chk × Int)) : KeysFit T 172 L.length (fun i => .ag (ckA (L.getD i (dCk, 0)).1)) := fun _ _ => rfl
theorem lookU (L : List (Chk × Int)) (c : Chk) : LookOk L.length (fun i => .ag (ckA (L.getD i (dCk, 0)).1)) (fun i => .i .i64 (L.getD i (dCk, 0)).2) (.ag (ckA c)) (.i .i64 ((mget L c).getD 0)) (.i .i64 0) (mget L c).isSome :=
 lookM (kf := fun c => .ag (ckA c)) (vf := fun n : Int => .i .i64 n) (d := (dCk, 0)) ck_ag_inj c 0 (AVEq.refl _)
theorem updU (L : List (Chk × Int)) (born : Nat → Nat) (clock : Nat) (c : Chk) (v : Int) : UpdOk L.length (fun i => .ag (ckA (L.getD i (dCk, 0)).1)) (fun i => .i .i64 (L.getD i (dCk, 0)).2) born clock (.ag (ckA c)) (.i .i64 v) (mset L c v).length
  (fun i => .ag (ckA ((mset L c v).getD i (dCk, 0)).1)) (fun i => .i .i64 ((mset L c v).getD i (dCk, 0)).2) (fun j => if j < L.length then born j else clock) (if (mget L c).isSome = true then clock else clock + 1) :=
 updM (kf := fun c => .ag (ckA c)) (vf := fun n : Int => .i .i64 n) (d := (dCk, 0)) ck_ag_inj c v
def cntU (L : List (Chk × Int)) (c : Chk) : Int := (mget L c).getD 0
def incU (L : List (Chk × Int)) (c : Chk) : List (Chk × Int) := mset L c (cntU L c + 1)
def decU (L : List (Chk × Int)) (c : Chk) : List (Chk × Int) := if cntU L c - 1 = 0 then mdel (mset L c (cntU L c - 1)) c else mset L c (cntU L c - 1)
def UB (L : List (Chk × Int)) (m : Int) : Prop := (mkeys L).Nodup ∧ ∀ c, -m ≤ cntU L c ∧ cntU L c ≤ m
theorem cnt_mset (L : List (Chk × Int)) (c d : Chk) (v : Int) : cntU (mset L c v) d = if d = c then v else cntU L d := by
 unfold cntU
 rw [mget_mset]
 by_cases h : d = c
 ·rw [if_pos h, if_pos h]; rfl
 ·rw [if_neg h, if_neg h]
theorem cnt_incU (L : List (Chk × Int)) (c d : Chk) : cntU (incU L c) d = if d = c then cntU L d + 1 else cntU L d := by
 unfold incU
 rw [cnt_mset]
 by_cases h : d = c
 ·rw [if_pos h, if_pos h, h]
 ·rw [if_neg h, if_neg h]
theorem cnt_decU {L : List (Chk × Int)} (hn : (mkeys L).Nodup) (c d : Chk) : cntU (decU L c) d = if d = c then cntU L d - 1 else cntU L d := by
 unfold decU
 by_cases h0 : cntU L c - 1 = 0
 ·rw [if_pos h0]
  have e : cntU (mdel (mset L c (cntU L c - 1)) c) d = if d = c then 0 else cntU (mset L c (cntU L c - 1)) d := by
   unfold cntU
   rw [mget_mdel (nodup_mset hn _ _)]
   by_cases h : d = c
   ·rw [if_pos h, if_pos h]; rfl
   ·rw [if_neg h, if_neg h]
  rw [e, cnt_mset]
  by_cases h : d = c
  ·rw [if_pos h, if_pos h, h]; omega
  ·rw [if_neg h, if_neg h, if_neg h]
 ·rw [if_neg h0, cnt_mset]
  by_cases h : d = c
  ·rw [if_pos h, if_pos h, h]
  ·rw [if_neg h, if_neg h]
theorem nodup_incU {L : List (Chk × Int)} (hn : (mkeys L).Nodup) (c : Chk) : (mkeys (incU L c)).Nodup := nodup_mset hn _ _
theorem nodup_decU {L : List (Chk × Int)} (hn : (mkeys L).Nodup) (c : Chk) : (mkeys (decU L c)).Nodup := by
 unfold decU
 split
 ·exact nodup_mdel (nodup_mset hn _ _) _
 ·exact nodup_mset hn _ _
theorem UB.inc {L : List (Chk × Int)} {m : Int} (h : UB L m) (c : Chk) : UB (incU L c) (m + 1) := by
 refine ⟨nodup_incU h.1 c, fun d => ?_⟩
 have := h.2 d
 rw [cnt_incU]
 split <;> omega
theorem UB.dec {L : List (Chk × Int)} {m : Int} (h : UB L m) (c : Chk) : UB (decU L c) (m + 1) := by
 refine ⟨nodup_decU h.1 c, fun d => ?_⟩
 have := h.2 d
 rw [cnt_decU h.1]
 split <;> omega
def decs (L : List (Chk × Int)) (l : List Chk) : List (Chk × Int) := l.foldl decU L
def incs (L : List (Chk × Int)) (l : List Chk) : List (Chk × Int) := l.foldl incU L
theorem decs_snoc {L : List (Chk × Int)} {l : List Chk} {k : Nat} (h : k < l.length) : decs L (l.take (k + 1)) = decU (decs L (l.take k)) (l.getD k dCk) := by
 rw [take_snocD dCk h]
 unfold decs
 rw [List.foldl_append]
 rfl
theorem incs_snoc {L : List (Chk × Int)} {l : List Chk} {k : Nat} (h : k < l.length) : incs L (l.take (k + 1)) = incU (incs L (l.take k)) (l.getD k dCk) := by
 rw [take_snocD dCk h]
 unfold incs
 rw [List.foldl_append]
 rfl
theorem UB.decs {L : List (Chk × Int)} {m : Int} (h : UB L m) (l : List Chk) : ∀ k, k ≤ l.length → UB (decs L (l.take k)) (m + k)
 | 0, _ => by
  show UB L (m + (0 : Nat))
  simpa using h
 | k + 1, hk => by
  rw [decs_snoc (by omega)]
  have := (UB.decs h l k (by omega)).dec (l.getD k dCk)
  have e : m + ((k + 1 : Nat) : Int) = m + (k : Nat) + 1 := by omega
  rw [e]
  exact this
theorem UB.incs {L : List (Chk × Int)} {m : Int} (h : UB L m) (l : List Chk) : ∀ k, k ≤ l.length → UB (incs L (l.take k)) (m + k)
 | 0, _ => by
  show UB L (m + (0 : Nat))
  simpa using h
 | k + 1, hk => by
  rw [incs_snoc (by omega)]
  have := (UB.incs h l k (by omega)).inc (l.getD k dCk)
  have e : m + ((k + 1 : Nat) : Int) = m + (k : Nat) + 1 := by omega
  rw [e]
  exact this
def upd {α : Type} (f : Nat → α) (t : Nat) (v : α) (j : Nat) : α := if j = t then v else f j
def BOk (st : St) (B : Bn) : Prop := ∀ t, t < 12 → BI (st.fs t).length (B.fb t) (B.fc t)
def dropS (st : St) (t : Nat) (n : Int) (x : ByteArray) : St := ⟨upd st.fs t (mdel (st.fs t) n), st.nx, decs st.us (divL x)⟩
def putS (st : St) (t : Nat) (x : ByteArray) : St := ⟨upd st.fs t (st.fs t ++ [(st.nx t, x)]), upd st.nx t (st.nx t + 1), incs st.us (divL x)⟩
end Go.Proofs.Ytnookbebiacaeaa
end
