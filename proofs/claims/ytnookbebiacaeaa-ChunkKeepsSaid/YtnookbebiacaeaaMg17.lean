/-
  Several texts in one: Ck1, Ck2, Ck3, Ck4, Ck5.
-/
import Derived.Shelf.Strings.BuilderK
import Derived.Test.YtnookbebiacaeaaMg16

section
namespace Go.Proofs.Ytnookbebiacaeaa
open Go.Eng Go.RowKit Go.Shelf Go.Proofs
def ccN_ren : Go.Shelf.Ren := ⟨fun | 240 => 206 | 276 => 232 | n => n, fun | 70 => 204 | 9 => 9 | 0 => 0 | 4 => 4 | 72 => 207 | 37 => 205 | 127 => 235 | 164 => 255 | 3 => 3 | 5 => 5 | n => n, fun | n => n⟩
theorem ccN : Go.Proofs.Lays.n240 Try.prog ccN_ren := {
  mixed := by kernel_rfl,
  f240 := Try.func206.trans (congrArg some (by kernel_rfl)),
  f276 := Try.func232.trans (congrArg some (by kernel_rfl)),
  t4 := Try.underlying4,
  a4 := Try.isAgg4,
  z4 := Try.sizeOf4,
  v4 := Try.zeroValue4,
  t9 := Try.underlying9,
  a9 := Try.isAgg9,
  z9 := Try.sizeOf9,
  v9 := Try.zeroValue9,
  t70 := Try.underlying204,
  a70 := Try.isAgg204,
  z70 := Try.sizeOf204,
  v70 := Try.zeroValue204,
  t72 := Try.underlying207,
  a72 := Try.isAgg207,
  z72 := Try.sizeOf207,
  v72 := Try.zeroValue207,
  t164 := Try.underlying255,
  a164 := Try.isAgg255,
  z164 := Try.sizeOf255,
  v164 := Try.zeroValue255,
  t0 := Try.underlying0,
  a0 := Try.isAgg0,
  z0 := Try.sizeOf0,
  v0 := Try.zeroValue0,
  t20 := Try.underlying20,
  a20 := Try.isAgg20,
  z20 := Try.sizeOf20,
  v20 := Try.zeroValue20 }
def strN_ren : Go.Shelf.Ren := ⟨fun | 169 => 176 | n => n, fun | 70 => 204 | 9 => 9 | 0 => 0 | 72 => 207 | 37 => 205 | 127 => 235 | 3 => 3 | 5 => 5 | n => n, fun | n => n⟩
theorem strN : Go.Proofs.Lays.n169 Try.prog strN_ren := {
  mixed := by kernel_rfl,
  f169 := Try.func176.trans (congrArg some (by kernel_rfl)),
  t0 := Try.underlying0,
  a0 := Try.isAgg0,
  z0 := Try.sizeOf0,
  v0 := Try.zeroValue0,
  t3 := Try.underlying3,
  a3 := Try.isAgg3,
  z3 := Try.sizeOf3,
  v3 := Try.zeroValue3,
  t9 := Try.underlying9,
  a9 := Try.isAgg9,
  z9 := Try.sizeOf9,
  v9 := Try.zeroValue9,
  t37 := Try.underlying205,
  a37 := Try.isAgg205,
  z37 := Try.sizeOf205,
  v37 := Try.zeroValue205,
  t70 := Try.underlying204,
  a70 := Try.isAgg204,
  z70 := Try.sizeOf204,
  v70 := Try.zeroValue204,
  t72 := Try.underlying207,
  a72 := Try.isAgg207,
  z72 := Try.sizeOf207,
  v72 := Try.zeroValue207,
  t127 := Try.underlying235,
  a127 := Try.isAgg235,
  z127 := Try.sizeOf235,
  v127 := Try.zeroValue235 }
theorem bldX : Go.Proofs.Builder.X72 Try.prog ccN_ren := { sizeBuilder := by kernel_rfl, liesBuilder := by kernel_rfl }
theorem bldE : Go.Proofs.Builder.Extra Try.prog strN_ren := { sizeBuilder := by kernel_rfl, liesBuilder := by kernel_rfl, t5 := Try.underlying5, a5 := Try.isAgg5, z5 := Try.sizeOf5, v5 := Try.zeroValue5, infoByte := by kernel_rfl, cellsByte := by kernel_rfl, sizeByte := by kernel_rfl, neB5 := by decide }
theorem call206 : Callable Try.prog 206 := ⟨Try.f206, Try.func206, by kernel_rfl, by kernel_rfl⟩
theorem call176 : Callable Try.prog 176 := ⟨Try.f176, Try.func176, by kernel_rfl, by kernel_rfl⟩
theorem two_own {β : Bd} {e : TypeId} {cs : List AV} {n sz : Nat} {t : TypeId} {get : Nat → List AV} (hd : DistO β [.cells e cs, .row t sz n get]) {g : Nat} (h : blkOf (β.val 1) = some g) : g ≠ β.blk 0 := fun e1 => by
 have := hd 0 1 _ _ g rfl rfl e1.symm h
 cases this
theorem frame_set {β : Bd} {ins : List AO} {w : World} {o : AO} (h0 : ins[0]? = some o) (hw : ownB β 0 o = fun g => β.blk 0 = g) (i : Nat) (v : Value) : Go.Eng.Frame (OwnOf β ins) w (w.setCell ⟨β.blk 0, i, none⟩ v) :=
 ⟨rfl, rfl, rfl, by simp [World.setCell], fun k _ hk => heap_setCell_other w ⟨β.blk 0, i, none⟩ k v (fun e => hk ⟨0, o, h0, by rw [hw]; exact e.symm⟩), Nat.le_refl _⟩
theorem cc_fresh_fn (n : Nat) (get : Nat → List AV) : CtrM Try.prog 206 true [.cells 207 [.val (.pointer none), .so 1], .row 5 1 n get] [.p 0 0] (fun _ : Unit => True) (fun _ => [.cells 207 [.p 0 0, .so 1], .row 5 1 n get]) (fun _ => []) (fun _ => .tup []) := by
 refine CtrM.of_true rfl call206 fun F w β vs hOF hFl hobj hdist hl hr => ?_
 obtain ⟨v0, rfl⟩ : ∃ v0, vs = [v0] := by
  match vs, hl with
  | [v0], _ => exact ⟨v0, rfl⟩
 have hv0 := hr 0 (by simp) (by simp)
 simp only [List.getElem_cons_zero] at hv0
 obtain ⟨_, rfl⟩ := hv0.p_inv
 obtain ⟨cs, hh, hlen, hc⟩ := hobj 0 _ rfl
 obtain ⟨a, b, rfl⟩ : ∃ a b, cs = [a, b] := by
  match cs, hlen with
  | [a, b], _ => exact ⟨a, b, rfl⟩
 have ha := (hc 0 (by simp) (by simp)).1
 have hb := hc 1 (by simp) (by simp)
 simp only [List.getElem_cons_zero, List.getElem_cons_succ] at ha hb
 have ha := ha.val_inv
 subst ha
 have h1 := hobj 1 _ rfl
 refine (Go.Proofs.Any.Builder_copyCheck_fresh ccN bldX (β.blk 0) w (by rw [Go.Lib.cell_of_heap hh]; rfl) (by simp [World.shape?, hh]; rfl) (Go.Lib.frozen_of_heap hh 0)).mono ?_
 rintro e w' ⟨rfl, rfl⟩
 have hfr : Go.Eng.Frame (OwnOf β [AO.cells 207 [.val (.pointer none), .so 1], .row 5 1 n get]) w (w.setCell ⟨β.blk 0, 0, none⟩ (.pointer (some ⟨β.blk 0, 0, none⟩))) := frame_set rfl rfl 0 _
 have hold : ∀ g, g < w.heap.size → ¬ F g → (w.setCell ⟨β.blk 0, 0, none⟩ (.pointer (some ⟨β.blk 0, 0, none⟩))).heap[g]? = w.heap[g]? := fun g hg hn => hfr.block g hg fun ho => hn (hOF g ho)
 refine ⟨_, rfl, hfr, fun j o hj => ?_, fun j o o' g hj hj' hg => ?_, ?_⟩
 ·match j, hj with
  | 0, hj =>
   cases hj
   refine ⟨[.pointer (some ⟨β.blk 0, 0, none⟩), b], heap_setCell_same w (β.blk 0) 0 #[.pointer none, b] 207 _ hh, rfl, fun j h1 h2 => ?_⟩
   match j, h1 with
   | 0, _ => exact ⟨.p 0 0 (by show 0 < 2; omega), rfl⟩
   | 1, _ => exact ⟨hb.1.stable (fun _ _ hn => hn) hold hfr.size, hb.2⟩
  | 1, hj =>
   cases hj
   exact h1.stable (by show 1 < 2; omega) (Nat.le_refl _) (fun _ _ => ⟨rfl, rfl⟩) (fun _ _ hn => hn) hold hfr.size fun g hg => heap_setCell_other w _ g _ (two_own hdist hg)
  | j + 2, hj => simp at hj
 ·match j, hj, hj' with
  | 0, hj, hj' => cases hj; cases hj'; exact hg
  | 1, hj, hj' => cases hj; cases hj'; exact hg
  | j + 2, hj, _ => simp at hj
 ·exact .pure _ _ (.tup [] [] rfl fun j h1 _ => by simp at h1)
theorem cc_used_fn (n : Nat) (get : Nat → List AV) : CtrM Try.prog 206 true [.cells 207 [.p 0 0, .so 1], .row 5 1 n get] [.p 0 0] (fun _ : Unit => True) (fun _ => [.cells 207 [.p 0 0, .so 1], .row 5 1 n get]) (fun _ => []) (fun _ => .tup []) := by
 refine CtrM.of_true rfl call206 fun F w β vs hOF hFl hobj hdist hl hr => ?_
 obtain ⟨v0, rfl⟩ : ∃ v0, vs = [v0] := by
  match vs, hl with
  | [v0], _ => exact ⟨v0, rfl⟩
 have hv0 := hr 0 (by simp) (by simp)
 simp only [List.getElem_cons_zero] at hv0
 obtain ⟨_, rfl⟩ := hv0.p_inv
 obtain ⟨cs, hh, hlen, hc⟩ := hobj 0 _ rfl
 obtain ⟨a, b, rfl⟩ : ∃ a b, cs = [a, b] := by
  match cs, hlen with
  | [a, b], _ => exact ⟨a, b, rfl⟩
 have ha := (hc 0 (by simp) (by simp)).1
 simp only [List.getElem_cons_zero] at ha
 obtain ⟨_, rfl⟩ := ha.p_inv
 refine (Go.Proofs.Any.Builder_copyCheck_used ccN bldX (β.blk 0) w (by rw [Go.Lib.cell_of_heap hh]; rfl)).mono ?_
 rintro e w' ⟨rfl, rfl⟩
 exact ⟨_, rfl, Go.Eng.Frame.refl _ _, hobj, fun j o o' g hj hj' hg => by rw [hj] at hj'; cases hj'; exact hg, .pure _ _ (.tup [] [] rfl fun j h1 _ => by simp at h1)⟩
end Go.Proofs.Ytnookbebiacaeaa
end

section
set_option linter.unusedVariables false
namespace Go.Proofs
open Go.Shelf Go.RowKit
section
variable {P : Program} {ρ : Ren}
theorem liesAt_off {e : TypeId} (hc : P.cellsOf e = 1) (count off n : Nat) (hn : off + n ≤ count) : liesAt P P.depth e count off e n = true := by
 have hd : P.depth = (2 * (P.types.size + Made.depth) + 1) + 1 := rfl
 rw [hd]
 simp only [liesAt, Bool.or_eq_true]
 left
 rw [hd]
 simp [rowAt, hc, hn, sameLayout, Nat.mod_one]
theorem run_unsafeString_off (w : World) (pt it ty e : TypeId) (hp : P.underlying pt = some (.pointer e)) (hc : P.cellsOf e = 1) (g off cells : Nat) (hsh : w.shape? g = some (e, cells)) (l : List UInt8) (h0 : l ≠ []) (hn : off + l.length ≤ cells) (h63 : l.length ≤ 9223372036854775807)
  (hcell : ∀ j x, l[j]? = some x → w.cell? ((⟨g, off, none⟩ : Addr).add j) = some (.int .u8 x.toNat)) :
  (Builtin.unsafeString_ #[pt, it] ty #[.pointer (some ⟨g, off, none⟩), .int .i64 l.length]).run P w = .ok (.string ⟨l.toArray⟩) (w.freeze ⟨g, off, none⟩ l.length) := by
 have hl : l.length ≠ 0 := by simpa using h0
 have hlb := Lib.run_loadBytes (P := P) w l ⟨g, off, none⟩ .empty hcell
 have hlies := liesAt_off (P := P) hc (cells / P.cellsOf e) off l.length (by rw [hc]; simpa using hn)
 have h63' : ¬ (9223372036854775807 : Int) < (l.length : Int) := by omega
 have hdef : Builtin.unsafeString_ #[pt, it] ty #[.pointer (some ⟨g, off, none⟩), .int .i64 l.length] =
   (do
    let n ← asInt (.int .i64 l.length)
    if n < 0 then runtimePanic (.error "unsafe.String: len out of range")
    if n > IntKind.i64.max then unsupported (.unsafePointer "String: a length above the largest int")
    if n = 0 then pure (.string .empty)
    else if ← variablesAt ⟨g, off, none⟩ (← elemOf pt) n.toNat then do
     let s ← loadBytes ⟨g, off, none⟩ .empty n.toNat
     freeze ⟨g, off, none⟩ n.toNat
     pure (.string s)
    else unsupported (.unsafePointer "String: not so many bytes at ptr")) := rfl
 rw [hdef]
 have hmax : IntKind.i64.max = 9223372036854775807 := rfl
 have hneg : ¬ (l.length : Int) < 0 := by omega
 simp [asInt, asIntOf, hmax, h63', hneg, hl, variablesAt, hsh, elemOf, run_underlying hp, hlies, hlb]
set_option maxHeartbeats 2000000 in
set_option maxRecDepth 100000 in
theorem Any.Builder_String_exact (L : Lays.n169 P ρ) (X : Builder.Extra P ρ) (b g off cap : Nat) (p : Value) (cur : Array Value) (l : List UInt8) (w : World) (hbk : w.heap[b]? = some (.cells #[p, .slice (some ⟨g, off, none⟩) l.length (cap + 1)] (ρ.t 72) (0, 0)))
  (hg : w.heap[g]? = some (.cells cur (ρ.t 5) (0, 0))) (h0 : l ≠ []) (hfit : off + l.length ≤ cur.size) (hm : l.length ≤ 9223372036854775807)
  (hcell : ∀ j x, l[j]? = some x → w.cell? ((⟨g, off, none⟩ : Addr).add j) = some (.int .u8 x.toNat)) :
  Calls P (ρ.f 169) #[.pointer (some ⟨b, 0, none⟩)] w fun e w' => e = .returned (.string ⟨l.toArray⟩) ∧ w' = w.drew.freeze ⟨g, off, none⟩ l.length := by
 have hl0 : l.length ≠ 0 := by simpa using h0
 have c1 : w.drew.cell? ⟨b, 1, none⟩ = some (.slice (some ⟨g, off, none⟩) l.length (cap + 1)) := by
  have : w.drew.heap[b]? = some (.cells #[p, .slice (some ⟨g, off, none⟩) l.length (cap + 1)] (ρ.t 72) (0, 0)) := hbk
  rw [Lib.cell_of_heap this]; rfl
 have hSD : (Builtin.unsafeSliceData_ #[(ρ.t 37)] (ρ.t 127) #[.slice (some ⟨g, off, none⟩) l.length (cap + 1)]).run P w.drew = .ok (.pointer (some ⟨g, off, none⟩)) w.drew :=
  Lib.run_unsafeSliceData_row _ _ _ _ _ _ (by omega)
 have hUS : (Builtin.unsafeString_ #[(ρ.t 127), (ρ.t 3)] (ρ.t 9) #[.pointer (some ⟨g, off, none⟩), .int .i64 l.length]).run P w.drew = .ok (.string ⟨l.toArray⟩) (w.drew.freeze ⟨g, off, none⟩ l.length) :=
  run_unsafeString_off w.drew (ρ.t 127) (ρ.t 3) (ρ.t 9) (ρ.t 5) L.t127 X.cellsByte g off cur.size (by have hg' : w.drew.heap[g]? = some (.cells cur (ρ.t 5) (0, 0)) := hg; simp [World.shape?, hg']) l h0 hfit hm hcell
 have mixed := L.mixed
 have t72 := L.t72; have a72 := L.a72; have z72 := L.z72; have v72 := L.v72; have u72 := run_underlying L.t72
 have t70 := L.t70; have a70 := L.a70; have z70 := L.z70; have v70 := L.v70; have u70 := run_underlying L.t70
 have t37 := L.t37; have a37 := L.a37; have z37 := L.z37; have v37 := L.v37; have u37 := run_underlying L.t37
 have t127 := L.t127; have a127 := L.a127; have z127 := L.z127; have v127 := L.v127; have u127 := run_underlying L.t127
 have t3 := L.t3; have a3 := L.a3; have z3 := L.z3; have v3 := L.v3; have u3 := run_underlying L.t3
 have t9 := L.t9; have a9 := L.a9; have z9 := L.z9; have v9 := L.v9; have u9 := run_underlying L.t9
 have t5 := X.t5; have a5 := X.a5; have z5 := X.z5; have v5 := X.v5; have u5 := run_underlying X.t5
 go_enter L.f169, Body.n169_ntmps ρ
 go_wp2
 go_region_o
 all_goals (go_wp2; go_ret; exact ⟨rfl, rfl⟩)
set_option maxHeartbeats 2000000 in
set_option maxRecDepth 100000 in
theorem Any.Builder_String_none (L : Lays.n169 P ρ) (X : Builder.Extra P ρ) (b : Nat) (p : Value) (w : World) (hbk : w.heap[b]? = some (.cells #[p, .slice none 0 0] (ρ.t 72) (0, 0))) :
  Calls P (ρ.f 169) #[.pointer (some ⟨b, 0, none⟩)] w fun e w' => e = .returned (.string ⟨#[]⟩) ∧ w' = w.drew := by
 have hUS := Any.unsafeString_none L X
 have c1 : w.drew.cell? ⟨b, 1, none⟩ = some (.slice none 0 0) := by
  have : w.drew.heap[b]? = some (.cells #[p, .slice none 0 0] (ρ.t 72) (0, 0)) := hbk
  rw [Lib.cell_of_heap this]; rfl
 have hSD : (Builtin.unsafeSliceData_ #[(ρ.t 37)] (ρ.t 127) #[.slice none 0 0]).run P w.drew = .ok (.pointer none) w.drew := rfl
 have mixed := L.mixed
 have t72 := L.t72; have a72 := L.a72; have z72 := L.z72; have v72 := L.v72; have u72 := run_underlying L.t72
 have t70 := L.t70; have a70 := L.a70; have z70 := L.z70; have v70 := L.v70; have u70 := run_underlying L.t70
 have t37 := L.t37; have a37 := L.a37; have z37 := L.z37; have v37 := L.v37; have u37 := run_underlying L.t37
 have t127 := L.t127; have a127 := L.a127; have z127 := L.z127; have v127 := L.v127; have u127 := run_underlying L.t127
 have t3 := L.t3; have a3 := L.a3; have z3 := L.z3; have v3 := L.v3; have u3 := run_underlying L.t3
 have t9 := L.t9; have a9 := L.a9; have z9 := L.z9; have v9 := L.v9; have u9 := run_underlying L.t9
 have t5 := X.t5; have a5 := X.a5; have z5 := X.z5; have v5 := X.v5; have u5 := run_underlying X.t5
 go_enter L.f169, Body.n169_ntmps ρ
 go_wp2
 go_region_o
 all_goals (go_wp2; go_ret; exact ⟨rfl, rfl⟩)
end
end Go.Proofs
namespace Go.Proofs.Ytnookbebiacaeaa
open Go.Eng Go.RowKit Go.Shelf Go.Proofs
theorem freeze_heap {w : World} {g : Nat} {off n : Nat} (k : Nat) (hk : k ≠ g) : (w.freeze ⟨g, off, none⟩ n).heap[k]? = w.heap[k]? := by
 unfold World.freeze
 split
 ·rfl
 ·simp only [Array.getElem?_modify]
  rw [if_neg (fun e => hk e.symm)]
theorem freeze_size {w : World} {a : Addr} {n : Nat} : (w.freeze a n).heap.size = w.heap.size ∧ (w.freeze a n).os = w.os ∧ (w.freeze a n).tape = w.tape ∧ (w.freeze a n).output = w.output ∧ (w.freeze a n).drawn = w.drawn := by
 unfold World.freeze
 split <;> simp
def byG (l : List UInt8) (k : Nat) : List AV := [.i .u8 ((l.getD k 0).toNat : Int)]
theorem str_fn (l : List UInt8) (h0 : l ≠ []) (a : AV) : CtrM Try.prog 176 true [.cells 207 [a, .so 1], .row 5 1 l.length (byG l)] [.p 0 0] (fun _ : Unit => True) (fun _ => [.dead, .dead]) (fun _ => []) (fun _ => .s ⟨l.toArray⟩) := by
 refine CtrM.of_true rfl call176 fun F w β vs hOF hFl hobj hdist hl hr => ?_
 obtain ⟨v0, rfl⟩ : ∃ v0, vs = [v0] := by
  match vs, hl with
  | [v0], _ => exact ⟨v0, rfl⟩
 have hv0 := hr 0 (by simp) (by simp)
 simp only [List.getElem_cons_zero] at hv0
 obtain ⟨_, rfl⟩ := hv0.p_inv
 obtain ⟨cs, hh, hlen, hc⟩ := hobj 0 _ rfl
 obtain ⟨x, y, rfl⟩ : ∃ x y, cs = [x, y] := by
  match cs, hlen with
  | [x, y], _ => exact ⟨x, y, rfl⟩
 have hy := (hc 1 (by simp) (by simp)).1
 simp only [List.getElem_cons_succ, List.getElem_cons_zero] at hy
 obtain ⟨_, rfl⟩ := hy.so_inv
 obtain ⟨xs, hx, hlen1, hcx⟩ := hobj 1 _ rfl
 have hpos : 0 < l.length := List.length_pos_iff.2 h0
 obtain ⟨g, off, cap, cur, hval, hg, hnc, hcm, hcs, htake, hcell⟩ := hx.cells (by rw [hx.1]; omega)
 have hgb : g ≠ β.blk 0 := two_own hdist (by rw [hval]; rfl)
 rw [hval] at hh
 refine (Any.Builder_String_exact strN bldE (β.blk 0) g off cap x cur l w hh hg h0 (by omega) (by unfold maxLen at hcm; omega) fun j z hz => ?_).mono ?_
 ·have hj : j < l.length := (List.getElem?_eq_some_iff.1 hz).1
  have hjx : j < xs.length := by rw [hx.1]; omega
  have h1 := hcx j 0 hj (by show 0 < 1; omega) (by omega)
  have h2 : Rep0 F w (.i .u8 ((l.getD j 0).toNat : Int)) (xs[j * 1 + 0]'(by omega)) := h1.1
  have h3 : xs[j]'hjx = .int .u8 ((l.getD j 0).toNat : Int) := by
   have e : xs[j * 1 + 0]'(by omega) = xs[j]'hjx := by congr 1; omega
   rw [← e]
   generalize xs[j * 1 + 0]'(by omega) = q at h2
   cases h2
   rfl
  have h4 := hcell j _ (by rw [List.getElem?_eq_getElem hjx, h3])
  have h5 : l.getD j 0 = z := by simp [List.getD, hz]
  rw [h5] at h4
  rw [show ((⟨g, off, none⟩ : Addr).add j) = ⟨g, off + j, none⟩ by unfold Addr.add; split <;> simp_all]
  exact h4
 ·rintro e w' ⟨rfl, rfl⟩
  obtain ⟨s1, s2, s3, s4, s5⟩ := freeze_size (w := w.drew) (a := ⟨g, off, none⟩) (n := l.length)
  refine ⟨_, rfl, ⟨s2, s3, s4, by rw [s1]; exact Nat.le_refl _, fun k _ hk => ?_, Nat.le_refl 0⟩, fun j o hj => ?_, fun j o o' g hj hj' hg => ?_, .pure _ _ (.s _)⟩
  ·refine freeze_heap k fun e => hk ⟨1, _, rfl, ?_⟩
   show blkOf (β.val 1) = some k
   rw [hval, e]
   rfl
  ·match j, hj with
   | 0, hj => cases hj; trivial
   | 1, hj => cases hj; trivial
   | j + 2, hj => simp at hj
  ·match j, hj' with
   | 0, hj' => cases hj'; exact hg.elim
   | 1, hj' => cases hj'; exact hg.elim
   | j + 2, hj' => simp at hj'
theorem str_nil_fn (a : AV) : CtrM Try.prog 176 true [.cells 207 [a, .val (.slice none 0 0)]] [.p 0 0] (fun _ : Unit => True) (fun _ => [.dead]) (fun _ => []) (fun _ => .s ⟨#[]⟩) := by
 refine CtrM.of_true rfl call176 fun F w β vs hOF hFl hobj hdist hl hr => ?_
 obtain ⟨v0, rfl⟩ : ∃ v0, vs = [v0] := by
  match vs, hl with
  | [v0], _ => exact ⟨v0, rfl⟩
 have hv0 := hr 0 (by simp) (by simp)
 simp only [List.getElem_cons_zero] at hv0
 obtain ⟨_, rfl⟩ := hv0.p_inv
 obtain ⟨cs, hh, hlen, hc⟩ := hobj 0 _ rfl
 obtain ⟨x, y, rfl⟩ : ∃ x y, cs = [x, y] := by
  match cs, hlen with
  | [x, y], _ => exact ⟨x, y, rfl⟩
 have hy := (hc 1 (by simp) (by simp)).1
 simp only [List.getElem_cons_succ, List.getElem_cons_zero] at hy
 have hy := hy.val_inv
 subst hy
 refine (Any.Builder_String_none strN bldE (β.blk 0) x w hh).mono ?_
 rintro e w' ⟨rfl, rfl⟩
 refine ⟨_, rfl, ⟨rfl, rfl, rfl, Nat.le_refl _, fun k _ _ => rfl, Nat.le_refl 0⟩, fun j o hj => ?_, fun j o o' g hj hj' hg => ?_, .pure _ _ (.s _)⟩
 ·match j, hj with
  | 0, hj => cases hj; trivial
  | j + 1, hj => simp at hj
 ·match j, hj' with
  | 0, hj' => cases hj'; exact hg.elim
  | j + 1, hj' => simp at hj'
end Go.Proofs.Ytnookbebiacaeaa
end

section
namespace Go.Proofs.Ytnookbebiacaeaa
open Go.Eng
def noB : ByteArray := ⟨#[]⟩
theorem gdI {α : Type} {l : List α} {d : α} {k : Nat} (h : k < l.length) : l.getD k d = l[k] := by simp [List.getD, h]
theorem take_snocD {α : Type} (d : α) {l : List α} {k : Nat} (h : k < l.length) : l.take (k + 1) = l.take k ++ [l.getD k d] := by rw [List.take_succ_eq_append_getElem h, gdI h]
def rI (l : List Int) (k : Nat) : List AV := [.i .i64 (l.getD k 0)]
abbrev Chk := {c : ByteArray // c.size ≤ 32}
def dCk : Chk := ⟨noB, by decide⟩
def bA (x : ByteArray) (j : Nat) : Int := bAt x j 0
def ckC (n : Int) (b : Nat → Int) : List AV := [.i .i64 n, .i .u8 (b 0), .i .u8 (b 1), .i .u8 (b 2), .i .u8 (b 3), .i .u8 (b 4), .i .u8 (b 5), .i .u8 (b 6), .i .u8 (b 7), .i .u8 (b 8), .i .u8 (b 9), .i .u8 (b 10), .i .u8 (b 11), .i .u8 (b 12), .i .u8 (b 13), .i .u8 (b 14), .i .u8 (b 15), .i .u8 (b 16), .i .u8 (b 17), .i .u8 (b 18), .i .u8 (b 19), .i .u8 (b 20), .i .u8 (b 21), .i .u8 (b 22), .i .u8 (b 23), .i .u8 (b 24), .i .u8 (b 25), .i .u8 (b 26), .i .u8 (b 27), .i .u8 (b 28), .i .u8 (b 29), .i .u8 (b 30), .i .u8 (b 31)]
def ckA (c : Chk) : List AV := ckC c.1.size (bA c.1)
def rK (l : List Chk) (k : Nat) : List AV := ckA (l.getD k dCk)
theorem ckC_eq (n : Int) (b : Nat → Int) : ckC n b = .i .i64 n :: (List.range 32).map fun j => .i .u8 (b j) := rfl
theorem ckC_congr {n n' : Int} {b b' : Nat → Int} (hn : n = n') (hb : ∀ j, j < 32 → b j = b' j) : ckC n b = ckC n' b' := by
 rw [ckC_eq, ckC_eq, hn]
 congr 1
 exact List.map_congr_left fun j hj => by rw [hb j (List.mem_range.1 hj)]
theorem ckC_inj {n n' : Int} {b b' : Nat → Int} (h : ckC n b = ckC n' b') : n = n' ∧ ∀ j, j < 32 → b j = b' j := by
 rw [ckC_eq, ckC_eq, List.cons.injEq] at h
 refine ⟨by have := h.1; simpa using this, fun j hj => ?_⟩
 have h2 := congrArg (fun l => l[j]?) h.2
 simp only [List.getElem?_map, List.getElem?_range hj, Option.map_some, Option.some.injEq, AV.i.injEq, true_and] at h2
 exact h2
def byL (x : ByteArray) : List UInt8 := x.data.toList
theorem byL_len (x : ByteArray) : (byL x).length = x.size := by unfold byL; rw [Array.length_toList]; rfl
theorem byL_ext {x y : ByteArray} (h : byL x = byL y) : x = y := by
 apply ByteArray.ext
 exact Array.ext' h
theorem bA_lt {x : ByteArray} {j : Nat} (h : j < x.size) : bA x j = ((byL x).getD j 0).toNat := by unfold bA bAt; rw [if_pos h]; rfl
theorem bA_ge {x : ByteArray} {j : Nat} (h : ¬ j < x.size) : bA x j = 0 := by unfold bA bAt; rw [if_neg h]
theorem byL_extract (x : ByteArray) (a b : Nat) : byL (x.extract a b) = ((byL x).drop a).take (b - a) := by
 unfold byL
 rw [ByteArray.data_extract, Array.toList_extract]
theorem ck_inj {a b : Chk} (h : ckA a = ckA b) : a = b := by
 obtain ⟨h1, h2⟩ := ckC_inj h
 have hs : a.1.size = b.1.size := by omega
 apply Subtype.ext
 apply byL_ext
 refine List.ext_getElem (by rw [byL_len, byL_len, hs]) fun j h3 h4 => ?_
 rw [byL_len] at h3 h4
 have := h2 j (by have := a.2; omega)
 rw [bA_lt h3, bA_lt h4] at this
 have e1 : (byL a.1).getD j 0 = (byL a.1)[j]'(by rw [byL_len]; exact h3) := gdI _
 have e2 : (byL b.1).getD j 0 = (byL b.1)[j]'(by rw [byL_len]; exact h4) := gdI _
 rw [e1, e2] at this
 exact UInt8.toNat.inj (by omega)
theorem ck_ag_inj (a b : Chk) (h : AV.ag (ckA a) = AV.ag (ckA b)) : a = b := ck_inj (AV.ag.inj h)
def headC (x : ByteArray) : Chk := ⟨x.extract 0 (min 32 x.size), by rw [ByteArray.size_extract]; omega⟩
def restC (x : ByteArray) : ByteArray := x.extract (min 32 x.size) x.size
theorem restC_size (x : ByteArray) : (restC x).size = x.size - min 32 x.size := by unfold restC; rw [ByteArray.size_extract]; omega
theorem headC_size (x : ByteArray) : (headC x).1.size = min 32 x.size := by unfold headC; rw [ByteArray.size_extract]; omega
theorem head_cells (x : ByteArray) : ckA (headC x) = ckC (min (32 : Int) x.size) (bA x) := by
 unfold ckA
 have hs := headC_size x
 refine ckC_congr (by rw [hs]; omega) fun j hj => ?_
 by_cases h : j < (headC x).1.size
 ·rw [bA_lt h, bA_lt (x := x) (by omega)]
  congr 2
  unfold headC
  rw [byL_extract, List.drop_zero, Nat.sub_zero]
  simp only [List.getD, List.getElem?_take]
  rw [if_pos (by omega)]
 ·rw [bA_ge h, bA_ge (by omega)]
def divF : Nat → ByteArray → List Chk
 | 0, _ => []
 | n + 1, x => if x.size = 0 then [] else headC x :: divF n (restC x)
def divL (x : ByteArray) : List Chk := divF x.size x
theorem divF_more : ∀ (n m : Nat) (x : ByteArray), x.size ≤ n → x.size ≤ m → divF n x = divF m x
 | 0, 0, _, _, _ => rfl
 | 0, m + 1, x, h, _ => by unfold divF; rw [if_pos (by omega)]
 | n + 1, 0, x, _, h => by unfold divF; rw [if_pos (by omega)]
 | n + 1, m + 1, x, h1, h2 => by
  unfold divF
  by_cases h : x.size = 0
  ·rw [if_pos h, if_pos h]
  ·rw [if_neg h, if_neg h]
   have := restC_size x
   rw [divF_more n m (restC x) (by omega) (by omega)]
theorem divL_nil {x : ByteArray} (h : x.size = 0) : divL x = [] := by unfold divL; rw [h]; rfl
theorem divL_cons {x : ByteArray} (h : x.size ≠ 0) : divL x = headC x :: divL (restC x) := by
 unfold divL
 obtain ⟨n, hn⟩ : ∃ n, x.size = n + 1 := ⟨x.size - 1, by omega⟩
 conv => lhs; rw [hn]; unfold divF
 rw [if_neg h]
 have := restC_size x
 rw [divF_more n (restC x).size (restC x) (by omega) (Nat.le_refl _)]
def textL (l : List Chk) : List UInt8 := l.flatMap fun c => byL c.1
def sizL (l : List Chk) : Nat := (textL l).length
theorem size_ind {p : ByteArray → Prop} (h0 : ∀ x, x.size = 0 → p x) (h1 : ∀ x, x.size ≠ 0 → p (restC x) → p x) (x : ByteArray) : p x := by
 have key : ∀ n, ∀ x : ByteArray, x.size ≤ n → p x := by
  intro n
  induction n with
  | zero => exact fun x hx => h0 x (by omega)
  | succ n ih =>
   intro x hx
   by_cases h : x.size = 0
   ·exact h0 x h
   ·exact h1 x h (ih _ (by rw [restC_size]; omega))
 exact key x.size x (Nat.le_refl _)
theorem text_div (x : ByteArray) : textL (divL x) = byL x := by
 refine size_ind (p := fun x => textL (divL x) = byL x) (fun x h => ?_) (fun x h ih => ?_) x
 ·rw [divL_nil h]
  have : (byL x).length = 0 := by rw [byL_len, h]
  rw [List.length_eq_zero_iff.1 this]
  rfl
 ·rw [divL_cons h]
  show byL (headC x).1 ++ textL (divL (restC x)) = _
  rw [ih]
  unfold headC restC
  rw [byL_extract, byL_extract, List.drop_zero, Nat.sub_zero]
  have : ((byL x).drop (min 32 x.size)).take (x.size - min 32 x.size) = (byL x).drop (min 32 x.size) := List.take_of_length_le (by rw [List.length_drop, byL_len]; exact Nat.le_refl _)
  rw [this, List.take_append_drop]
theorem div_inj {x y : ByteArray} (h : divL x = divL y) : x = y := byL_ext (by rw [← text_div, h, text_div])
theorem div_pos {x : ByteArray} : ∀ c ∈ divL x, 0 < c.1.size := by
 refine size_ind (p := fun x => ∀ c ∈ divL x, 0 < c.1.size) (fun x h => ?_) (fun x h ih => ?_) x
 ·rw [divL_nil h]; intro c hc; cases hc
 ·rw [divL_cons h]
  intro c hc
  rcases List.mem_cons.1 hc with rfl | hc
  ·rw [headC_size]; omega
  ·exact ih c hc
theorem div_len (x : ByteArray) : (divL x).length ≤ x.size := by
 refine size_ind (p := fun x => (divL x).length ≤ x.size) (fun x h => ?_) (fun x h ih => ?_) x
 ·rw [divL_nil h]; simp
 ·rw [divL_cons h, List.length_cons]
  have := restC_size x
  omega
end Go.Proofs.Ytnookbebiacaeaa
end

section
namespace Go.Proofs.Ytnookbebiacaeaa
open Go.Eng
theorem snocK_row (l : List Chk) (c : Chk) (cells : List AV) (h : cells = ckA c) : AOEq (.row 172 33 (l ++ [c]).length (rK (l ++ [c]))) (.row 172 33 (l.length + 1) (catG l.length (rK l) (rowOf 33 cells))) := by
 subst h
 refine ⟨rfl, rfl, by simp, fun k hk => ?_⟩
 unfold catG rK
 by_cases h : k < l.length
 ·rw [if_pos h, getD_snoc, if_pos h]
 ·have : k = l.length := by
   rw [List.length_append, List.length_singleton] at hk
   omega
  subst this
  rw [if_neg h, getD_snoc, if_neg h, if_pos rfl]
  simp
  rfl
theorem bytes_nil (x : ByteArray) : bytesEq x ⟨#[]⟩ = decide (x.size = 0) := by
 rw [Bool.eq_iff_iff, bytes_eq, decide_eq_true_eq]
 constructor
 ·rintro rfl; rfl
 ·intro h
  apply byL_ext
  have : (byL x).length = 0 := by rw [byL_len, h]
  rw [List.length_eq_zero_iff.1 this]
  rfl
set_option maxRecDepth 20000 in
set_option maxHeartbeats 8000000 in
theorem divided_fn (x : ByteArray) (hx : x.size ≤ 65536) : Ctr Try.prog 131 [.s x] [.row 172 33 (divL x).length (rK (divL x))] (.so 0) := by
 refine fn_of_exec tabOk Try.func131 (by kernel_rfl) rfl (N := Try.f131.ntmps) rfl (res := [.tmp 2]) rfl rfl [(1000001, [.nl 3 172 33])] ?_
 have hdl := div_len x
 repeat refine Or.inl ?_
 refine ⟨[], List Chk × ByteArray, fun p => p.1 ++ divL p.2 = divL x ∧ p.2.size ≤ x.size, fun p => [⟨0, [], .s p.2⟩, ⟨3, [], .so 0⟩], fun p => [⟨0, [], .row 172 33 p.1.length (rK p.1)⟩], fun p => p.2.size,
  ⟨([], x), [], ⟨rfl, Nat.le_refl _⟩, rfl, rfl, rfl, rfl, rfl, ⟨rfl, rfl⟩, ⟨rfl, rfl, rfl, fun k hk => absurd hk (Nat.not_lt_zero k)⟩⟩, ?_⟩
 rintro ⟨L, r⟩ ⟨hI, hr⟩
 have hI : L ++ divL r = divL x := hI
 have hr : r.size ≤ x.size := hr
 have hLl : L.length ≤ x.size := by
  have := congrArg List.length hI
  rw [List.length_append] at this
  omega
 refine .inl ⟨fun hc => ?_, fun hc => ?_⟩
 ·have hc : (!bytesEq r ⟨#[]⟩) = true := hc
  rw [bytes_nil, Bool.not_eq_true', decide_eq_false_iff_not] at hc
  have hdc := divL_cons hc
  have hrs := restC_size r
  have e32 : (min (32 : Int) r.size).toNat = min 32 r.size := by omega
  repeat refine Or.inl ?_
  refine ⟨⟨by decide, by decide⟩, ?_⟩
  repeat refine Or.inl ?_
  refine ⟨fits (by dsimp only; omega), ?_⟩
  repeat refine Or.inl ?_
  refine ⟨⟨by dsimp only; omega, by dsimp only; omega, by dsimp only; omega⟩, ?_⟩
  have hc1 : ckC (min (32 : Int) r.size) (bA r) = ckA (headC r) := (head_cells r).symm
  have ao := snocK_row L (headC r) (ckC (min (32 : Int) r.size) (bA r)) hc1
  have hrest : r.extract (min (32 : Int) r.size).toNat (r.size : Int).toNat = restC r := by
   unfold restC
   rw [e32, Int.toNat_natCast]
  refine ⟨(L ++ [headC r], restC r), [(0, 3)], ⟨?_, by dsimp only; omega⟩, by dsimp only; omega, rfl, rfl, rfl, rfl, rfl, ⟨congrArg AV.s hrest, rfl⟩, ao⟩
  show (L ++ [headC r]) ++ divL (restC r) = divL x
  rw [List.append_assoc, List.singleton_append, ← hdc, hI]
 ·have hc : (!bytesEq r ⟨#[]⟩) = false := hc
  rw [bytes_nil, Bool.not_eq_false', decide_eq_true_eq] at hc
  rw [divL_nil hc, List.append_nil] at hI
  rw [← hI]
  exact RetIs.so rfl rfl (fun _ _ => rfl) (fun _ _ => rfl)
set_option maxRecDepth 20000 in
set_option maxHeartbeats 8000000 in
theorem size_fn (l : List Chk) (hl : l.length ≤ 100000) : Ctr Try.prog 125 [.rs 33 l.length (rK l)] [] (.i .i64 (sizL l)) := by
 refine fn_of_exec tabOk Try.func125 (by kernel_rfl) rfl (N := Try.f125.ntmps) rfl (res := [.tmp 2]) rfl rfl [] ?_
 have hb : ∀ k, k ≤ l.length → sizL (l.take k) ≤ 32 * k := by
  intro k
  induction k with
  | zero => intro _; show ([] : List UInt8).length ≤ _; simp
  | succ k ih =>
   intro hk
   rw [take_snocD dCk (by omega)]
   unfold sizL textL at ih ⊢
   rw [List.flatMap_append, List.length_append]
   have := ih (by omega)
   have h2 : (List.flatMap (fun c : Chk => byL c.1) [l.getD k dCk]).length ≤ 32 := by
    simp only [List.flatMap_cons, List.flatMap_nil, List.append_nil, byL_len]
    exact (l.getD k dCk).2
   omega
 repeat refine Or.inl ?_
 refine ⟨[], Nat, fun k => k ≤ l.length, fun k => [⟨8, [], .i .i64 k⟩, ⟨3, [], .i .i64 (sizL (l.take k))⟩], fun _ => [], fun k => l.length - k,
  ⟨0, [], Nat.zero_le _, rfl, rfl, rfl, rfl, rfl, ⟨⟨rfl, rfl⟩, ⟨rfl, rfl⟩⟩, trivial⟩, ?_⟩
 intro k hk
 have hk : k ≤ l.length := hk
 have hbk := hb k hk
 refine .inl ⟨fun hc => ?_, fun hc => ?_⟩
 ·have hc := dlt hc
  have hc : (k : Int) < l.length := hc
  have ek : (k : Int).toNat = k := Int.toNat_natCast k
  repeat refine Or.inl ?_
  refine ⟨⟨by omega, by omega⟩, ?_⟩
  have hs : sizL (l.take (k + 1)) = sizL (l.take k) + (l.getD (k : Int).toNat dCk).1.size := by
   rw [take_snocD dCk (by omega), ek]
   unfold sizL textL
   rw [List.flatMap_append, List.length_append]
   simp only [List.flatMap_cons, List.flatMap_nil, List.append_nil, byL_len]
  have hlt := (l.getD (k : Int).toNat dCk).2
  refine ⟨k + 1, [], (by show k + 1 ≤ l.length; omega), by dsimp only; omega, rfl, rfl, rfl, rfl, rfl, ⟨⟨rfl, wr (by omega) (by omega)⟩, ⟨rfl, ?_⟩⟩, trivial⟩
  rw [hs, wr (by omega) (by omega)]
  omega
 ·have hc := dnlt hc
  have hc : (l.length : Int) ≤ k := hc
  refine RetIs.i ?_
  rw [List.take_of_length_le (by omega)]
theorem eqAV_u8 (a b : List Int) : a.length = b.length → a ≠ [] → eqAVs (a.map (AV.i .u8)) (b.map (AV.i .u8)) = decide (a = b) := by
 induction a generalizing b with
 | nil => intro _ h; exact absurd rfl h
 | cons x a ih =>
  intro hl _
  cases b with
  | nil => simp at hl
  | cons y b =>
   cases a with
   | nil =>
    cases b with
    | nil =>
     show (x == y) = _
     rw [Bool.eq_iff_iff]
     simp
    | cons => simp at hl
   | cons x' a =>
    cases b with
    | nil => simp at hl
    | cons y' b =>
     show ((x == y) && eqAVs ((x' :: a).map (AV.i .u8)) ((y' :: b).map (AV.i .u8))) = _
     rw [ih (y' :: b) (by simpa using hl) (by simp), Bool.eq_iff_iff]
     simp
theorem eqAV_ck (a b : Chk) : eqAVs (ckA a) (ckA b) = decide (a = b) := by
 have h1 : ∀ c : Chk, ckA c = .i .i64 c.1.size :: ((List.range 32).map (bA c.1)).map (AV.i .u8) := fun c => by
  unfold ckA
  rw [ckC_eq, List.map_map]
  rfl
 have e : eqAVs (ckA a) (ckA b) = (((a.1.size : Int) == b.1.size) && eqAVs (((List.range 32).map (bA a.1)).map (AV.i .u8)) (((List.range 32).map (bA b.1)).map (AV.i .u8))) := by
  rw [h1, h1]
  rfl
 rw [e, eqAV_u8 _ _ (by simp) (by simp), Bool.eq_iff_iff, Bool.and_eq_true, beq_iff_eq, decide_eq_true_eq, decide_eq_true_eq]
 constructor
 ·rintro ⟨h2, h3⟩
  apply ck_inj
  unfold ckA
  exact ckC_congr h2 fun j hj => by
   have := congrArg (fun l => l[j]?) h3
   simpa [List.getElem?_range hj] using this
 ·rintro rfl
  exact ⟨rfl, rfl⟩
set_option maxRecDepth 20000 in
set_option maxHeartbeats 8000000 in
theorem equal_fn (l m : List Chk) (hl : l.length ≤ 100000) (hm : m.length ≤ 100000) : Ctr Try.prog 132 [.rs 33 l.length (rK l), .rs 33 m.length (rK m)] [] (.b (decide (l = m))) := by
 refine fn_of_exec tabOk Try.func132 (by kernel_rfl) rfl (N := Try.f132.ntmps) rfl (res := [.tmp 4]) rfl rfl [] ?_
 repeat refine Or.inl ?_
 refine ⟨fun h => ?_, fun h => ?_⟩
 ·have h : ((l.length : Int) != m.length) = true := h
  rw [bne_iff_ne] at h
  refine RetIs.b ?_
  symm
  rw [decide_eq_false_iff_not]
  rintro rfl
  exact h rfl
 have h : ((l.length : Int) != m.length) = false := h
 rw [bne_eq_false_iff_eq] at h
 repeat refine Or.inl ?_
 refine ⟨[], Nat, fun k => k ≤ l.length ∧ ∀ j, j < k → l.getD j dCk = m.getD j dCk, fun k => [⟨13, [], .i .i64 k⟩], fun _ => [], fun k => l.length - k,
  ⟨0, [], ⟨Nat.zero_le _, fun j hj => by omega⟩, rfl, rfl, rfl, rfl, rfl, ⟨rfl, rfl⟩, trivial⟩, ?_⟩
 rintro k ⟨hk, hno⟩
 have hk : k ≤ l.length := hk
 refine .inl ⟨fun hc => ?_, fun hc => ?_⟩
 ·have hc := dlt hc
  have hc : (k : Int) < l.length := hc
  have ek : (k : Int).toNat = k := Int.toNat_natCast k
  repeat refine Or.inl ?_
  refine ⟨⟨by omega, by omega⟩, ?_⟩
  refine ⟨⟨by omega, by omega⟩, ?_⟩
  refine ⟨fun h2 => ?_, fun h2 => ?_⟩
  ·have h2 : (!eqAVs (ckA (l.getD (k : Int).toNat dCk)) (ckA (m.getD (k : Int).toNat dCk))) = true := h2
   rw [eqAV_ck, ek, Bool.not_eq_true', decide_eq_false_iff_not] at h2
   refine RetIs.b ?_
   symm
   rw [decide_eq_false_iff_not]
   rintro rfl
   exact h2 rfl
  ·have h2 : (!eqAVs (ckA (l.getD (k : Int).toNat dCk)) (ckA (m.getD (k : Int).toNat dCk))) = false := h2
   rw [eqAV_ck, ek, Bool.not_eq_false', decide_eq_true_eq] at h2
   refine ⟨k + 1, [], ⟨by omega, fun j hj => ?_⟩, by dsimp only; omega, rfl, rfl, rfl, rfl, rfl, ⟨rfl, wr (by omega) (by omega)⟩, trivial⟩
   by_cases hjk : j = k
   ·rw [hjk]; exact h2
   ·exact hno j (by omega)
 ·have hc := dnlt hc
  have hc : (l.length : Int) ≤ k := hc
  refine RetIs.b ?_
  symm
  rw [decide_eq_true_eq]
  refine List.ext_getElem (by omega) fun j h1 h2 => ?_
  rw [← gdI (d := dCk) h1, ← gdI (d := dCk) h2]
  exact hno j (by omega)
end Go.Proofs.Ytnookbebiacaeaa
end

section
namespace Go.Proofs.Ytnookbebiacaeaa
open Go.Eng
theorem RetIs.s {c d : ByteArray} {O : List OE} {nid : Nat} (h : d = c) : RetIs [] (.s c) (.s d) O nid := ⟨[], ⟨⟨⟨rfl, rfl, by subst h; exact AVEq.refl (.s d)⟩, trivial⟩, trivial, rfl⟩, rfl, trivial⟩
theorem byG_cat (l q : List UInt8) : AOEq (.row 5 1 (l ++ q).length (byG (l ++ q))) (.row 5 1 (l.length + q.length) (catG l.length (byG l) (byG q))) := by
 refine ⟨rfl, rfl, by simp, fun k hk => ?_⟩
 unfold catG byG
 by_cases h : k < l.length
 ·rw [if_pos h, getD_append_lt 0 l q k h]
 ·rw [if_neg h, getD_append_ge 0 l q k (by omega)]
set_option maxRecDepth 20000 in
set_option maxHeartbeats 4000000 in
theorem write1_fn (l q : List UInt8) (hl : l.length + q.length ≤ 1000000) : CtrM Try.prog 175 false [.cells 207 [.val (.pointer none), .so 1], .row 5 1 l.length (byG l)] [.p 0 0, .rs 1 q.length (byG q)] (fun _ : Unit => True)
  (fun _ => [.cells 207 [.p 0 0, .so 2], .dead]) (fun _ => [.row 5 1 (l ++ q).length (byG (l ++ q))]) (fun _ => .tup [.i .i64 q.length, .val .nilIface]) := by
 refine fn_of_execM tabOk Try.func175 (by kernel_rfl) rfl (N := Try.f175.ntmps) rfl (res := [.tmp 4, .tmp 5]) rfl false false [.cells 207 [.val (.pointer none), .so 1], .row 5 1 l.length (byG l)] _ _ _ _ rfl (fun h => by cases h) [] ?_
 refine Or.inr (Or.inr ?_)
 refine ⟨true, [0, 1], rfl, Unit, _, _, _, _, cc_fresh_fn l.length (byG l), fun _ _ => ?_⟩
 repeat refine Or.inl ?_
 refine ⟨fits (by omega), ?_⟩
 refine ⟨⟨(), [], trivial, ⟨⟨⟨rfl, rfl, AVEq.refl _⟩, trivial⟩, ⟨⟨rfl, rfl, rfl, ⟨rfl, AVsEq.refl _⟩⟩, ⟨rfl, rfl, trivial, trivial⟩, ⟨rfl, rfl, trivial, byG_cat l q⟩, trivial⟩, rfl⟩, rfl, fun _ => ⟨rfl, rfl, trivial, fun _ _ => rfl⟩⟩⟩
set_option maxRecDepth 20000 in
set_option maxHeartbeats 4000000 in
theorem write2_fn (l q : List UInt8) (hl : l.length + q.length ≤ 1000000) : CtrM Try.prog 175 false [.cells 207 [.p 0 0, .so 1], .row 5 1 l.length (byG l)] [.p 0 0, .rs 1 q.length (byG q)] (fun _ : Unit => True)
  (fun _ => [.cells 207 [.p 0 0, .so 2], .dead]) (fun _ => [.row 5 1 (l ++ q).length (byG (l ++ q))]) (fun _ => .tup [.i .i64 q.length, .val .nilIface]) := by
 refine fn_of_execM tabOk Try.func175 (by kernel_rfl) rfl (N := Try.f175.ntmps) rfl (res := [.tmp 4, .tmp 5]) rfl false false [.cells 207 [.p 0 0, .so 1], .row 5 1 l.length (byG l)] _ _ _ _ rfl (fun h => by cases h) [] ?_
 refine Or.inr (Or.inr ?_)
 refine ⟨true, [0, 1], rfl, Unit, _, _, _, _, cc_used_fn l.length (byG l), fun _ _ => ?_⟩
 repeat refine Or.inl ?_
 refine ⟨fits (by omega), ?_⟩
 refine ⟨⟨(), [], trivial, ⟨⟨⟨rfl, rfl, AVEq.refl _⟩, trivial⟩, ⟨⟨rfl, rfl, rfl, ⟨rfl, AVsEq.refl _⟩⟩, ⟨rfl, rfl, trivial, trivial⟩, ⟨rfl, rfl, trivial, byG_cat l q⟩, trivial⟩, rfl⟩, rfl, fun _ => ⟨rfl, rfl, trivial, fun _ _ => rfl⟩⟩⟩
theorem CtrM.of_eqs {P : Program} {f : FuncId} {al : Bool} {ins : List AO} {args args' : List AV} {Y : Type} {spec : Y → Prop} {outs os : Y → List AO} {r : Y → AV} (he : AVsEq args args')
  (h : CtrM P f al ins args spec outs os r) : CtrM P f al ins args' spec outs os r :=
 ⟨h.1, fun F w β vs h1 h2 h3 h4 h5 h6 h7 => h.2 F w β vs h1 h2 h3 h4 h5 (he.get.1.trans h6) fun j g1 g2 => (he.get.2 j g1 (by rw [← he.get.1]; exact g1)).rep (h7 j (by rw [← he.get.1]; exact g1) g2)⟩
theorem ck_view (c : Chk) (h : Int) (hh : h = c.1.size) (g : Nat → List AV) (hg : ∀ k, k < 32 → g k = [.i .u8 (bA c.1 k)]) : AVsEq [.p 0 0, .rs 1 (byL c.1).length (byG (byL c.1))] [.p 0 0, .rs 1 h.toNat g] := by
 have hc := c.2
 refine ⟨rfl, rfl, by rw [byL_len]; omega, fun k hk => ?_⟩
 have hk : k < (byL c.1).length := hk
 rw [byL_len] at hk
 rw [hg k (by omega), bA_lt hk]
 rfl
theorem ck_get (b : Nat → Int) (k : Nat) (hk : k < 32) : [((List.range 32).map fun j => AV.i .u8 (b j)).getD k .u] = [AV.i .u8 (b k)] := by
 simp [List.getD, List.getElem?_range hk]
def txO (l : List Chk) : Nat → List OE
 | 0 => [⟨0, [], .cells 207 [.val (.pointer none), .so 1]⟩, ⟨1, [], .row 5 1 (textL (l.take 0)).length (byG (textL (l.take 0)))⟩]
 | k + 1 => [⟨0, [], .cells 207 [.p 0 0, .so 1]⟩, ⟨1, [], .row 5 1 (textL (l.take (k + 1))).length (byG (textL (l.take (k + 1))))⟩]
theorem text_snoc {l : List Chk} {k : Nat} (h : k < l.length) : textL (l.take (k + 1)) = textL (l.take k) ++ byL (l.getD k dCk).1 := by
 rw [take_snocD dCk h]
 unfold textL
 rw [List.flatMap_append]
 simp
theorem text_bd (l : List Chk) : ∀ k, (textL (l.take k)).length ≤ 32 * k := by
 intro k
 induction k with
 | zero => simp [textL]
 | succ k ih =>
  by_cases h : k < l.length
  ·rw [text_snoc h, List.length_append, byL_len]
   have := (l.getD k dCk).2
   omega
  ·rw [List.take_of_length_le (by omega)]
   rw [List.take_of_length_le (by omega)] at ih
   omega
set_option maxRecDepth 20000 in
set_option maxHeartbeats 8000000 in
theorem text_cons_fn (l : List Chk) (hl : l.length ≤ 10000) (h0 : l ≠ []) (hp : ∀ c ∈ l, 0 < c.1.size) : Ctr Try.prog 128 [.rs 33 l.length (rK l)] [] (.s ⟨(textL l).toArray⟩) := by
 have hpos : 0 < l.length := List.length_pos_iff.2 h0
 refine fn_of_exec tabOk Try.func128 (by kernel_rfl) rfl (N := Try.f128.ntmps) rfl (res := [.tmp 2]) rfl rfl [(1000001, [.nlc 0 1 5 1])] ?_
 repeat refine Or.inl ?_
 refine ⟨[], Nat, fun k => k ≤ l.length, fun k => [⟨8, [], .i .i64 k⟩], txO l, fun k => l.length - k,
  ⟨0, [], Nat.zero_le _, rfl, rfl, rfl, rfl, rfl, ⟨rfl, rfl⟩, ⟨AOEq.refl _, ⟨rfl, rfl, rfl, fun k hk => absurd hk (Nat.not_lt_zero k)⟩⟩⟩, ?_⟩
 intro k hk
 have hk : k ≤ l.length := hk
 have htb := text_bd l k
 match k, hk, htb with
 | 0, hk, htb =>
  refine .inl ⟨fun hc => ?_, fun hc => ?_⟩
  ·repeat refine Or.inl ?_
   refine ⟨⟨by decide, by omega⟩, ?_⟩
   have hlt := (l.getD ((0 : Nat) : Int).toNat dCk).2
   have hsn := text_snoc (l := l) (k := 0) hpos
   have hb1 : (byL (l.getD 0 dCk).1).length = (l.getD 0 dCk).1.size := byL_len _
   repeat refine Or.inl ?_
   refine ⟨⟨by omega, by omega⟩, ?_⟩
   refine Or.inr (Or.inr ?_)
   refine ⟨false, [0, 1], rfl, Unit, _, _, _, _, CtrM.of_eqs (ck_view (l.getD ((0 : Nat) : Int).toNat dCk) _ rfl _ (fun k hk => ck_get (bA (l.getD ((0 : Nat) : Int).toNat dCk).1) k hk)) (write1_fn (textL (l.take 0)) (byL (l.getD ((0 : Nat) : Int).toNat dCk).1) (by rw [byL_len]; omega)), fun _ _ => ?_⟩
   have ao : AOEq (.row 5 1 (textL (l.take (0 + 1))).length (byG (textL (l.take (0 + 1))))) (.row 5 1 (textL (l.take 0) ++ byL (l.getD ((0 : Nat) : Int).toNat dCk).1).length (byG (textL (l.take 0) ++ byL (l.getD ((0 : Nat) : Int).toNat dCk).1))) := by
    rw [hsn]
    exact AOEq.refl _
   refine ⟨1, [(1, 3)], (by show 1 ≤ l.length; omega), by dsimp only; omega, rfl, rfl, rfl, rfl, rfl, ⟨rfl, wr (by omega) (by omega)⟩, ⟨AOEq.refl _, ao⟩⟩
  ·have hc := dnlt hc
   have hc : (l.length : Int) ≤ (0 : Nat) := hc
   omega
 | k + 1, hk, htb =>
  refine .inl ⟨fun hc => ?_, fun hc => ?_⟩
  ·have hc := dlt hc
   have hc : ((k + 1 : Nat) : Int) < l.length := hc
   have ek : ((k + 1 : Nat) : Int).toNat = k + 1 := Int.toNat_natCast _
   repeat refine Or.inl ?_
   refine ⟨⟨by omega, by omega⟩, ?_⟩
   have hlt := (l.getD ((k + 1 : Nat) : Int).toNat dCk).2
   have hsn := text_snoc (l := l) (k := k + 1) (by omega)
   repeat refine Or.inl ?_
   refine ⟨⟨by omega, by omega⟩, ?_⟩
   refine Or.inr (Or.inr ?_)
   refine ⟨false, [0, 1], rfl, Unit, _, _, _, _, CtrM.of_eqs (ck_view (l.getD ((k + 1 : Nat) : Int).toNat dCk) _ rfl _ (fun j hj => ck_get (bA (l.getD ((k + 1 : Nat) : Int).toNat dCk).1) j hj)) (write2_fn (textL (l.take (k + 1))) (byL (l.getD ((k + 1 : Nat) : Int).toNat dCk).1) (by rw [byL_len]; omega)), fun _ _ => ?_⟩
   have ao : AOEq (.row 5 1 (textL (l.take (k + 1 + 1))).length (byG (textL (l.take (k + 1 + 1))))) (.row 5 1 (textL (l.take (k + 1)) ++ byL (l.getD ((k + 1 : Nat) : Int).toNat dCk).1).length (byG (textL (l.take (k + 1)) ++ byL (l.getD ((k + 1 : Nat) : Int).toNat dCk).1))) := by
    rw [hsn, ek]
    exact AOEq.refl _
   refine ⟨k + 1 + 1, [(1, 3)], (by show k + 1 + 1 ≤ l.length; omega), by dsimp only; omega, rfl, rfl, rfl, rfl, rfl, ⟨rfl, wr (by omega) (by omega)⟩, ⟨AOEq.refl _, ao⟩⟩
  ·have hc := dnlt hc
   have hc : (l.length : Int) ≤ (k + 1 : Nat) := hc
   have hte : l.take (k + 1) = l := List.take_of_length_le (by omega)
   have hne : textL (l.take (k + 1)) ≠ [] := by
    rw [hte]
    intro h
    obtain ⟨c, r, rfl⟩ : ∃ c r, l = c :: r := by
     cases l with
     | nil => exact absurd rfl h0
     | cons c r => exact ⟨c, r, rfl⟩
    have h2 := congrArg List.length h
    have h3 : (textL (c :: r)).length = (byL c.1).length + (textL r).length := by
     unfold textL
     rw [List.flatMap_cons, List.length_append]
    rw [h3, byL_len] at h2
    have := hp c (by simp)
    rw [List.length_nil] at h2
    omega
   refine Or.inr (Or.inr ?_)
   refine ⟨true, [0, 1], rfl, Unit, _, _, _, _, str_fn (textL (l.take (k + 1))) hne (.p 0 0), fun _ _ => ?_⟩
   rw [hte]
   exact RetIs.s rfl
set_option maxRecDepth 20000 in
theorem text_nil_fn (g : Nat → List AV) : Ctr Try.prog 128 [.rs 33 0 g] [] (.s ⟨#[]⟩) := by
 refine fn_of_exec tabOk Try.func128 (by kernel_rfl) rfl (N := Try.f128.ntmps) rfl (res := [.tmp 2]) rfl rfl [] ?_
 repeat refine Or.inl ?_
 refine ⟨[], Nat, fun k => k = 0, fun k => [⟨8, [], .i .i64 k⟩], fun _ => [], fun k => 0,
  ⟨0, [], rfl, rfl, rfl, rfl, rfl, rfl, ⟨rfl, rfl⟩, trivial⟩, ?_⟩
 rintro k rfl
 refine .inl ⟨fun hc => ?_, fun hc => ?_⟩
 ·have hc := dlt hc
  have hc : ((0 : Nat) : Int) < ((0 : Nat) : Int) := hc
  omega
 ·refine Or.inr (Or.inr ?_)
  refine ⟨true, [0], rfl, Unit, _, _, _, _, str_nil_fn (.val (.pointer none)), fun _ _ => ?_⟩
  exact RetIs.s rfl
theorem text_fn (x : ByteArray) (hx : x.size ≤ 10000) : Ctr Try.prog 128 [.rs 33 (divL x).length (rK (divL x))] [] (.s x) := by
 have hl := div_len x
 by_cases h : x.size = 0
 ·have he : x = ⟨#[]⟩ := by
   apply byL_ext
   have : (byL x).length = 0 := by rw [byL_len, h]
   rw [List.length_eq_zero_iff.1 this]
   rfl
  have := text_nil_fn (rK [])
  rw [divL_nil h]
  rw [he]
  exact this
 ·have h1 := text_cons_fn (divL x) (by omega) (by rw [divL_cons h]; simp) div_pos
  rw [text_div] at h1
  exact h1
end Go.Proofs.Ytnookbebiacaeaa
end
