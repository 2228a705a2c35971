/-
  Several texts in one: EngE, EngB.
-/
import Derived.WideKeyEntry
import Derived.Test.YtnookbebiacaeaaMg8

section
namespace Go.Eng
open Go.RowKit Go.WideElems
section
variable {P : Program} {β : Bd} {nid : Nat} {F : Nat → Prop} {w : World} {lk : Nat → Option AO}
theorem ent_map (E : Env β nid F w lk) {T : List (Nat × TI)} (hT : TabOk P T) {t kt et id n : Nat} {ti te : TI} {key val : Nat → AV} {born : Nat → Nat} {clock : Nat} {kx : AV} {u v : Value} {x x' : Int} {c : Bool} {n' : Nat} {key' val' : Nat → AV} {born' : Nat → Nat} {clock' : Nat}
  (h1 : tget t T = some ti) (h2 : mapD ti.desc = some (kt, et)) (h3 : tget et T = some te) (hlk : lk id = some (.mp n key val born clock)) (hf : KeysFit T kt n key) (hk : keyFit T kt kx = true)
  (hl : LookOk n key val kx (.i .i64 x) (avOf te.zero) c) (hupd : UpdOk n key val born clock kx (.i .i64 x') n' key' val' born' clock') (hu : Rep β nid F w (.mo id) u) (hv : Rep β nid F w kx v) :
  ∃ (va st : Value) (w1 w3 : World), (Instr.lookup t u v false).run P w = .ok (.int .i64 x) w ∧ (Instr.mapEntry t u v).run P w = .ok (.tuple #[va, st]) w1 ∧ (Instr.lookup t u v false).run P w1 = .ok (.int .i64 x) w1 ∧
   (Instr.entryStore t u st (.int .i64 x')).run P w1 = .ok () w3 ∧ EffPost β β nid F lk w w3 undef (.set id (.mp n' key' val' born' clock') .u) := by
 obtain ⟨w3, hrun3, eff, β', heff, hpost⟩ := updateA0_sound (gc := none) (P := P) (k := fun e => e = .set id (.mp n' key' val' born' clock') .u) (fun _ h => by cases h) E hT hu hv (Rep.pure (.i .i64 x') (.int .i64 x') (.i _ _)) (t := t) (by
  unfold updateA0
  rw [h1]
  dsimp only
  rw [h2, hlk]
  dsimp only
  exact ⟨n', key', val', born', clock', ⟨hf, hk, hupd⟩, rfl⟩)
 rw [heff] at hpost
 have hβ : β' = β := hpost.1
 rw [hβ] at hpost
 obtain ⟨z, hrunL, r, hr, hrz⟩ := lookupA0_sound (gc := none) (P := P) (k := fun e => e = .ext [] (.i .i64 x)) (ok := false) (fun _ h => by cases h) E hT hu hv (t := t) (by
  unfold lookupA0
  rw [h1]
  dsimp only
  rw [h2]
  dsimp only
  rw [h3]
  unfold mapK
  dsimp only
  rw [hlk]
  exact ⟨c, .i .i64 x, ⟨hf, hk, hl⟩, rfl⟩)
 obtain rfl : r = .i .i64 x := by injection hr
 obtain rfl := hrz.i_inv
 have hv0 := hv.toPure (keyFit_lt hk)
 have hkv := keyFit_KV hT hk hv0
 obtain ⟨hut, _⟩ := hT.get h1
 cases hd : ti.desc <;> simp [mapD, hd] at h2
 rename_i kt' et'
 obtain ⟨rfl, rfl⟩ := h2
 rw [hd] at hut
 obtain ⟨hid, rfl⟩ := hu.mo_inv
 obtain ⟨_, es, hh, hn, ho, hc⟩ := E.obj id _ hlk
 have hlt := (Array.getElem?_eq_some_iff.1 hh).1
 have hall := keys_KV hT hf hn (fun i h1 h2 => (hc i h1 h2).1)
 obtain ⟨_, _, i, hi, _, _, hz⟩ := hT.get h3
 have hzero : ∀ w : World, (zeroValue et').run P w = .ok te.zero w := fun w => by simp [zeroValue, typeInfo, hi, hz]
 have hnd : (es.toList.map (·.born)).Nodup := by
  rw [List.nodup_iff_pairwise_ne, List.pairwise_map, List.pairwise_iff_getElem]
  intro i j h1 h2 hij
  have := ho.asc i j hij (by simpa using h1) (by simpa using h2)
  simp only [Array.getElem_toList]
  omega
 rcases run_find_KV (w := w) hkv es.toList hall with ⟨hfind, hno⟩ | ⟨j, e, hfind, he, hek⟩
 ·have hb1 : ({ w with heap := w.heap.setIfInBounds (β.blk id) (.map (es.push { key := v, val := te.zero, born := clock }) (clock + 1)) } : World).heap[β.blk id]? = some (.map (es.push { key := v, val := te.zero, born := clock }) (clock + 1)) := setMap_new w _ _ hlt
  have hL0 : (Instr.lookup t (.map (some (β.blk id))) v false).run P w = .ok te.zero w := by
   simp [Instr.lookup, run_underlying hut, Go.MapKept.run_getObj_map hh, run_check_KV es.isEmpty hkv, hfind, hzero]
  rw [hL0] at hrunL
  injection hrunL with hzx _
  have hU : (Instr.mapUpdate t (.map (some (β.blk id))) v (.int .i64 x')).run P w = .ok () { w with heap := w.heap.setIfInBounds (β.blk id) (.map (es.push { key := v, val := .int .i64 x', born := clock }) (clock + 1)) } := by
   simp [Instr.mapUpdate, run_underlying hut, Go.MapKept.run_getObj_map hh, run_check_KV false hkv, hfind, Go.MapKept.run_setObj_map _ hh]
  rw [hU] at hrun3
  injection hrun3 with _ hw3
  have hall1 : ∀ y ∈ (es.push { key := v, val := te.zero, born := clock }).toList, KV P kt' y.key := by
   intro y hy
   rw [Array.toList_push] at hy
   rcases List.mem_append.1 hy with hy | hy
   ·exact hall y hy
   ·rw [List.mem_singleton.1 hy]
    exact hkv
  refine ⟨te.zero, goInt clock, { w with heap := w.heap.setIfInBounds (β.blk id) (.map (es.push { key := v, val := te.zero, born := clock }) (clock + 1)) }, w3, by rw [← hzx]; exact hL0, ?_, ?_, ?_, hpost⟩
  ·simp [Instr.mapEntry, run_underlying hut, Go.MapKept.run_getObj_map hh, run_check_KV false hkv, hfind, hzero, Go.MapKept.run_setObj_map _ hh, Result.andThen]
  ·have hfl : (Instr.findKey kt' v (es.push { key := v, val := te.zero, born := clock }).toList).run P { w with heap := w.heap.setIfInBounds (β.blk id) (.map (es.push { key := v, val := te.zero, born := clock }) (clock + 1)) } = .ok (some (es.size, te.zero)) { w with heap := w.heap.setIfInBounds (β.blk id) (.map (es.push { key := v, val := te.zero, born := clock }) (clock + 1)) } := by
    rcases run_find_KV (w := { w with heap := w.heap.setIfInBounds (β.blk id) (.map (es.push { key := v, val := te.zero, born := clock }) (clock + 1)) }) hkv (es.push { key := v, val := te.zero, born := clock }).toList hall1 with ⟨_, h4⟩ | ⟨j, e, h4, h5, h6⟩
    ·exact absurd rfl (h4 ⟨v, te.zero, clock⟩ (by simp))
    ·rw [h4]
     rw [Array.toList_push] at h5
     rcases Nat.lt_trichotomy j es.toList.length with hj | hj | hj
     ·rw [List.getElem?_append_left hj] at h5
      exact absurd h6 (hno e (List.mem_of_getElem? h5))
     ·rw [List.getElem?_append_right (by omega), hj, Nat.sub_self] at h5
      simp at h5
      subst h5
      rw [hj]
      simp
     ·rw [List.getElem?_eq_none (by simp at hj ⊢; omega)] at h5
      cases h5
   rw [← hzx]
   rw [Array.toList_push] at hfl
   simp [Instr.lookup, run_underlying hut, Go.MapKept.run_getObj_map hb1, run_check_KV false hkv, hfl]
  ·have hidx : (es.push { key := v, val := te.zero, born := clock }).findIdx? (fun e => ((e.born : Nat) : Int) == ((clock : Nat) : Int)) = some es.size := by
    rw [findIdx_arr]
    have := findIdx_born (l := (es.push ⟨v, te.zero, clock⟩).toList) (j := es.size) (e0 := ⟨v, te.zero, clock⟩) (by
     simp only [Array.toList_push, List.map_append, List.map_cons, List.map_nil]
     refine List.nodup_append.2 ⟨hnd, by simp, fun a ha c hc e1 => ?_⟩
     simp only [List.mem_singleton] at hc
     obtain ⟨y, hy, rfl⟩ := List.mem_map.1 ha
     obtain ⟨q, hq, rfl⟩ := List.getElem_of_mem hy
     have := ho.old q (by simpa using hq)
     simp only [Array.getElem_toList] at e1
     omega) (by simp)
    exact this
   have hmod : (es.push { key := v, val := te.zero, born := clock }).modify es.size (fun e => { e with val := .int .i64 x' }) = es.push { key := v, val := .int .i64 x', born := clock } := by
    apply Array.ext'
    rw [Array.toList_modify, Array.toList_push, Array.toList_push, ← Array.length_toList, modify_last]
   have hst : (Instr.entryStore t (.map (some (β.blk id))) (goInt clock) (.int .i64 x')).run P { w with heap := w.heap.setIfInBounds (β.blk id) (.map (es.push { key := v, val := te.zero, born := clock }) (clock + 1)) } = .ok () { w with heap := (w.heap.setIfInBounds (β.blk id) (.map (es.push { key := v, val := te.zero, born := clock }) (clock + 1))).setIfInBounds (β.blk id) (.map (es.push { key := v, val := .int .i64 x', born := clock }) (clock + 1)) } := by
    simp [Instr.entryStore, Go.MapKept.run_getObj_map hb1, asInt, asIntOf, goInt, hidx, hmod, Go.MapKept.run_setObj_map _ hb1, Result.andThen]
   rw [hst, ← hw3]
   simp [Array.setIfInBounds_setIfInBounds]
 ·have hj2 : j < es.size := by simpa using (List.getElem?_eq_some_iff.1 he).1
  have hje : es[j]? = some e := by simpa using he
  have hsame : es.modify j (fun e' => { e' with key := v }) = es := by
   apply Array.ext'
   rw [Array.toList_modify, Go.ChangeMaps.modify_eq_set _ _ _ _ he]
   have : ({ e with key := v } : MapEntry) = e := by rw [← hek]
   rw [this]
   exact set_self _ _ _ he
  have hw1 : ({ w with heap := w.heap.setIfInBounds (β.blk id) (.map es clock) } : World) = w := by
   have : w.heap.setIfInBounds (β.blk id) (.map es clock) = w.heap := by
    apply Array.ext (by simp)
    intro q h4 h5
    rw [Array.getElem_setIfInBounds h5]
    split
    ·rename_i hq
     subst hq
     have := (Array.getElem?_eq_some_iff.1 hh).2
     exact this.symm
    ·rfl
   rw [this]
  have hE : (Instr.mapEntry t (.map (some (β.blk id))) v).run P w = .ok (.tuple #[e.val, goInt e.born]) w := by
   have : (Instr.mapEntry t (.map (some (β.blk id))) v).run P w = .ok (.tuple #[e.val, goInt e.born]) { w with heap := w.heap.setIfInBounds (β.blk id) (.map es clock) } := by
    simp [Instr.mapEntry, run_underlying hut, Go.MapKept.run_getObj_map hh, run_check_KV false hkv, hfind, hje, hek, Instr.keyThatStays, sameBits_KV hkv, hsame, Go.MapKept.run_setObj_map _ hh, Result.andThen]
   rw [this, hw1]
  have hU : (Instr.mapUpdate t (.map (some (β.blk id))) v (.int .i64 x')).run P w = .ok () { w with heap := w.heap.setIfInBounds (β.blk id) (.map (es.modify j fun e => { e with key := v, val := .int .i64 x' }) clock) } := by
   simp [Instr.mapUpdate, run_underlying hut, Go.MapKept.run_getObj_map hh, run_check_KV false hkv, hfind, hje, hek, Go.MapKept.run_setObj_map _ hh, Instr.keyThatStays, sameBits_KV hkv, Result.andThen]
  rw [hU] at hrun3
  injection hrun3 with _ hw3
  refine ⟨e.val, goInt e.born, w, w3, hrunL, hE, hrunL, ?_, hpost⟩
  have hidx : es.findIdx? (fun e' => ((e'.born : Nat) : Int) == ((e.born : Nat) : Int)) = some j := by
   rw [findIdx_arr]
   exact findIdx_born hnd he
  have hmod : es.modify j (fun e => { e with val := .int .i64 x' }) = es.modify j (fun e' => { e' with key := v, val := .int .i64 x' }) := by
   apply Array.ext'
   rw [Array.toList_modify, Array.toList_modify, Go.ChangeMaps.modify_eq_set _ _ _ _ he, Go.ChangeMaps.modify_eq_set _ _ _ _ he, ← hek]
  rw [← hw3]
  simp [Instr.entryStore, Go.MapKept.run_getObj_map hh, asInt, asIntOf, goInt, hidx, hmod, Go.MapKept.run_setObj_map _ hh, Result.andThen]
end
def upF (f : Nat → Bool) (q : Nat) (j : Nat) : Bool := if j = q then true else f j
theorem put_getD {a : Act} {s : Nat} (h : s < a.tmps.size) (v : Value) (r : Nat) : (a.put (some s) v).tmps.getD r undef = if r = s then v else a.tmps.getD r undef := by
 simp only [Act.put, Array.getD_eq_getD_getElem?, Array.getElem?_setIfInBounds]
 by_cases hr : r = s
 ·subst hr
  simp [h]
 ·simp [hr, Ne.symm hr]
structure EI (a : Act) (w w1 w3 : World) (sL sB sM sX : Nat) (vL vB vM vX : Value) (f : Nat → Bool) (a' : Act) (w' : World) : Prop where
 bl : f 1 = true → f 0 = true
 xm : f 3 = true → f 2 = true
 sb : f 4 = true → f 1 = true
 sx : f 4 = true → f 3 = true
 wd : w' = if f 4 = true then w3 else if f 2 = true then w1 else w
 df : a'.defers = a.defers
 sz : a'.tmps.size = a.tmps.size
 fr : ∀ s, s ≠ sL → s ≠ sB → s ≠ sM → s ≠ sX → a'.tmps.getD s undef = a.tmps.getD s undef
 gL : f 0 = true → a'.tmps.getD sL undef = vL
 gB : f 1 = true → a'.tmps.getD sB undef = vB
 gM : f 2 = true → a'.tmps.getD sM undef = vM
 gX : f 3 = true → a'.tmps.getD sX undef = vX
section
variable {a : Act} {w w1 w3 : World} {sL sB sM sX : Nat} {vL vB vM vX : Value} {f g : Nat → Bool} {a' : Act} {w' : World}
theorem EI.congr (h : EI a w w1 w3 sL sB sM sX vL vB vM vX f a' w') (e : ∀ q, q < 5 → g q = f q) : EI a w w1 w3 sL sB sM sX vL vB vM vX g a' w' := by
  have e0 := e 0 (by decide)
  have e1 := e 1 (by decide)
  have e2 := e 2 (by decide)
  have e3 := e 3 (by decide)
  have e4 := e 4 (by decide)
  exact { bl := by rw [e1, e0]; exact h.bl, xm := by rw [e3, e2]; exact h.xm, sb := by rw [e4, e1]; exact h.sb, sx := by rw [e4, e3]; exact h.sx, wd := by rw [e4, e2]; exact h.wd,
          df := h.df, sz := h.sz, fr := h.fr, gL := by rw [e0]; exact h.gL, gB := by rw [e1]; exact h.gB, gM := by rw [e2]; exact h.gM, gX := by rw [e3]; exact h.gX }
theorem EI.L (h : EI a w w1 w3 sL sB sM sX vL vB vM vX f a' w') (hn : [sL, sB, sM, sX].Nodup) (hs : sL < a.tmps.size) : EI a w w1 w3 sL sB sM sX vL vB vM vX (upF f 0) (a'.put (some sL) vL) w' := by
  have hs' : sL < a'.tmps.size := by rw [h.sz]; exact hs
  simp only [List.nodup_cons, List.mem_cons, not_or, List.not_mem_nil, not_false_eq_true, and_true] at hn
  obtain ⟨⟨n1, n2, n3⟩, ⟨n4, n5⟩, n6, -⟩ := hn
  exact { bl := fun _ => rfl, xm := h.xm, sb := h.sb, sx := h.sx, wd := h.wd, df := h.df, sz := by rw [← h.sz]; simp [Act.put],
          fr := fun s h1 h2 h3 h4 => by rw [put_getD hs', if_neg h1]; exact h.fr s h1 h2 h3 h4,
          gL := fun _ => by rw [put_getD hs', if_pos rfl], gB := fun hh => by rw [put_getD hs', if_neg (Ne.symm n1)]; exact h.gB hh,
          gM := fun hh => by rw [put_getD hs', if_neg (Ne.symm n2)]; exact h.gM hh, gX := fun hh => by rw [put_getD hs', if_neg (Ne.symm n3)]; exact h.gX hh }
theorem EI.B (h : EI a w w1 w3 sL sB sM sX vL vB vM vX f a' w') (hn : [sL, sB, sM, sX].Nodup) (hs : sB < a.tmps.size) (h0 : f 0 = true) : EI a w w1 w3 sL sB sM sX vL vB vM vX (upF f 1) (a'.put (some sB) vB) w' := by
  have hs' : sB < a'.tmps.size := by rw [h.sz]; exact hs
  simp only [List.nodup_cons, List.mem_cons, not_or, List.not_mem_nil, not_false_eq_true, and_true] at hn
  obtain ⟨⟨n1, n2, n3⟩, ⟨n4, n5⟩, n6, -⟩ := hn
  exact { bl := fun _ => h0, xm := h.xm, sb := fun _ => rfl, sx := h.sx, wd := h.wd, df := h.df, sz := by rw [← h.sz]; simp [Act.put],
          fr := fun s h1 h2 h3 h4 => by rw [put_getD hs', if_neg h2]; exact h.fr s h1 h2 h3 h4,
          gB := fun _ => by rw [put_getD hs', if_pos rfl], gL := fun hh => by rw [put_getD hs', if_neg n1]; exact h.gL hh,
          gM := fun hh => by rw [put_getD hs', if_neg (Ne.symm n4)]; exact h.gM hh, gX := fun hh => by rw [put_getD hs', if_neg (Ne.symm n5)]; exact h.gX hh }
theorem EI.M (h : EI a w w1 w3 sL sB sM sX vL vB vM vX f a' w') (hn : [sL, sB, sM, sX].Nodup) (hs : sM < a.tmps.size) (h4 : f 4 = false) : EI a w w1 w3 sL sB sM sX vL vB vM vX (upF f 2) (a'.put (some sM) vM) w1 := by
  have hs' : sM < a'.tmps.size := by rw [h.sz]; exact hs
  simp only [List.nodup_cons, List.mem_cons, not_or, List.not_mem_nil, not_false_eq_true, and_true] at hn
  obtain ⟨⟨n1, n2, n3⟩, ⟨n4, n5⟩, n6, -⟩ := hn
  exact { bl := h.bl, xm := fun _ => rfl, sb := h.sb, sx := h.sx, wd := by show w1 = if f 4 = true then w3 else if true = true then w1 else w; rw [h4]; rfl, df := h.df, sz := by rw [← h.sz]; simp [Act.put],
          fr := fun s h1 h2 h3 h4 => by rw [put_getD hs', if_neg h3]; exact h.fr s h1 h2 h3 h4,
          gM := fun _ => by rw [put_getD hs', if_pos rfl], gL := fun hh => by rw [put_getD hs', if_neg n2]; exact h.gL hh,
          gB := fun hh => by rw [put_getD hs', if_neg n4]; exact h.gB hh, gX := fun hh => by rw [put_getD hs', if_neg (Ne.symm n6)]; exact h.gX hh }
theorem EI.X (h : EI a w w1 w3 sL sB sM sX vL vB vM vX f a' w') (hn : [sL, sB, sM, sX].Nodup) (hs : sX < a.tmps.size) (h2 : f 2 = true) : EI a w w1 w3 sL sB sM sX vL vB vM vX (upF f 3) (a'.put (some sX) vX) w' := by
  have hs' : sX < a'.tmps.size := by rw [h.sz]; exact hs
  simp only [List.nodup_cons, List.mem_cons, not_or, List.not_mem_nil, not_false_eq_true, and_true] at hn
  obtain ⟨⟨n1, n2, n3⟩, ⟨n4, n5⟩, n6, -⟩ := hn
  exact { bl := h.bl, xm := fun _ => h2, sb := h.sb, sx := fun _ => rfl, wd := h.wd, df := h.df, sz := by rw [← h.sz]; simp [Act.put],
          fr := fun s h1 h2 h3 h4 => by rw [put_getD hs', if_neg h4]; exact h.fr s h1 h2 h3 h4,
          gX := fun _ => by rw [put_getD hs', if_pos rfl], gL := fun hh => by rw [put_getD hs', if_neg n3]; exact h.gL hh,
          gB := fun hh => by rw [put_getD hs', if_neg n5]; exact h.gB hh, gM := fun hh => by rw [put_getD hs', if_neg n6]; exact h.gM hh }
theorem EI.S (h : EI a w w1 w3 sL sB sM sX vL vB vM vX f a' w') (h1 : f 1 = true) (h3 : f 3 = true) : EI a w w1 w3 sL sB sM sX vL vB vM vX (upF f 4) a' w3 :=
 { bl := h.bl, xm := h.xm, sb := fun _ => h1, sx := fun _ => h3, wd := rfl, df := h.df, sz := h.sz, fr := h.fr, gL := h.gL, gB := h.gB, gM := h.gM, gX := h.gX }
theorem EI.init : EI a w w1 w3 sL sB sM sX vL vB vM vX (fun _ => false) a w :=
 { bl := fun h => (by cases h), xm := fun h => (by cases h), sb := fun h => (by cases h), sx := fun h => (by cases h), wd := rfl, df := rfl, sz := rfl, fr := fun _ _ _ _ _ => rfl, gL := fun h => (by cases h), gB := fun h => (by cases h), gM := fun h => (by cases h), gX := fun h => (by cases h) }
theorem EI.last (h : EI a w w1 w3 sL sB sM sX vL vB vM vX f a' w') (hf : ∀ q, q < 5 → f q = true) (hn : [sL, sB, sM, sX].Nodup) (hL : sL < a.tmps.size) (hB : sB < a.tmps.size) (hM : sM < a.tmps.size) (hX : sX < a.tmps.size) :
  w' = w3 ∧ a' = (((a.put (some sL) vL).put (some sB) vB).put (some sM) vM).put (some sX) vX := by
 refine ⟨by rw [h.wd, hf 4 (by decide)]; rfl, ?_⟩
 simp only [List.nodup_cons, List.mem_cons, not_or, List.not_mem_nil, not_false_eq_true, and_true] at hn
 obtain ⟨⟨n1, n2, n3⟩, ⟨n4, n5⟩, n6, -⟩ := hn
 have psz : ∀ (b : Act) s v, (b.put (some s) v).tmps.size = b.tmps.size := fun b s v => by simp [Act.put]
 have key : ∀ s, a'.tmps.getD s undef = ((((a.put (some sL) vL).put (some sB) vB).put (some sM) vM).put (some sX) vX).tmps.getD s undef := by
  intro s
  rw [put_getD (by simp only [psz]; exact hX), put_getD (by simp only [psz]; exact hM), put_getD (by simp only [psz]; exact hB), put_getD hL]
  by_cases e4 : s = sX
  ·rw [if_pos e4, e4]; exact h.gX (hf 3 (by decide))
  rw [if_neg e4]
  by_cases e3 : s = sM
  ·rw [if_pos e3, e3]; exact h.gM (hf 2 (by decide))
  rw [if_neg e3]
  by_cases e2 : s = sB
  ·rw [if_pos e2, e2]; exact h.gB (hf 1 (by decide))
  rw [if_neg e2]
  by_cases e1 : s = sL
  ·rw [if_pos e1, e1]; exact h.gL (hf 0 (by decide))
  rw [if_neg e1]
  exact h.fr s e1 e2 e3 e4
 have hsz : a'.tmps.size = ((((a.put (some sL) vL).put (some sB) vB).put (some sM) vM).put (some sX) vX).tmps.size := by simp only [psz]; exact h.sz
 have hdf : a'.defers = ((((a.put (some sL) vL).put (some sB) vB).put (some sM) vM).put (some sX) vX).defers := h.df
 generalize ((((a.put (some sL) vL).put (some sB) vB).put (some sM) vM).put (some sX) vX) = b at key hsz hdf
 obtain ⟨t, d⟩ := a'
 obtain ⟨t', d'⟩ := b
 simp only at key hsz hdf
 subst hdf
 congr 1
 refine Array.ext hsz fun i h1 h2 => ?_
 have := key i
 simpa [h1, h2] using this
end
section
variable {P : Program}
theorem wpOp_run {ops : List Oper} {Q : Exit → Act → World → Prop} {i : Nat} {o : Oper} {next : Act → World → Prop} {a : Act} {w w' : World} {v : Value} (ho : ops[i]? = some o) (hg : o.guard = none)
  (hrun : (execOp a.eval o).run P w = .ok (.value v) w') (h : next (a.put o.dst v) w') : wpOp P ops.toArray Q i next a w := by
 have ho' : ops.toArray[i]? = some o := by simpa using ho
 unfold wpOp
 simp only [ho']
 have hw : Region.wanted o (yielded ops.toArray a.tmps) = true := by simp [Region.wanted, hg]
 rw [if_pos hw]
 refine .inl ?_
 unfold Oper.wp
 rw [hrun]
 exact h
theorem wpOp_skip {ops : List Oper} {Q : Exit → Act → World → Prop} {i : Nat} {o : Oper} {next : Act → World → Prop} {a : Act} {w w' : World} (ho : ops[i]? = some o) (hg : o.guard = none) (hd : o.dst = none)
  (hrun : (execOp a.eval o).run P w = .ok .skip w') (h : next a w') : wpOp P ops.toArray Q i next a w := by
 have ho' : ops.toArray[i]? = some o := by simpa using ho
 unfold wpOp
 simp only [ho']
 have hw : Region.wanted o (yielded ops.toArray a.tmps) = true := by simp [Region.wanted, hg]
 rw [if_pos hw]
 refine .inl ?_
 unfold Oper.wp
 rw [hrun]
 have e : a.put o.dst undef = a := by rw [hd]; rfl
 show next (a.put o.dst undef) w'
 rw [e]
 exact h
theorem ent_loop {ops : List Oper} {p : Nat} {oL oB oM oX oS : Oper} {a : Act} {w w1 w3 : World} {sL sB sM sX : Nat} {vL vB vM vX : Value} {Q : Exit → Act → World → Prop}
  (hlen : ops.length = p + 5) (g0 : ops[p]? = some oL) (g1 : ops[p + 1]? = some oB) (g2 : ops[p + 2]? = some oM) (g3 : ops[p + 3]? = some oX) (g4 : ops[p + 4]? = some oS)
  (hback : ∀ i, (hi : i < ops.length) → ∀ e ∈ ops[i].after.toList, Region.binds .any e = true → e.on < i)
  (eB : ∃ e ∈ oB.after.toList, e.on = p ∧ Region.binds .any e = true) (eX : ∃ e ∈ oX.after.toList, e.on = p + 2 ∧ Region.binds .any e = true)
  (eS1 : ∃ e ∈ oS.after.toList, e.on = p + 1 ∧ Region.binds .any e = true) (eS3 : ∃ e ∈ oS.after.toList, e.on = p + 3 ∧ Region.binds .any e = true)
  (qL : oL.guard = none ∧ oL.dst = some sL) (qB : oB.guard = none ∧ oB.dst = some sB) (qM : oM.guard = none ∧ oM.dst = some sM) (qX : oX.guard = none ∧ oX.dst = some sX) (qS : oS.guard = none ∧ oS.dst = none)
  (hn : [sL, sB, sM, sX].Nodup) (zL : sL < a.tmps.size) (zB : sB < a.tmps.size) (zM : sM < a.tmps.size) (zX : sX < a.tmps.size)
  (hL : ∀ (a' : Act) (w' : World), (∀ s, s ≠ sL → s ≠ sB → s ≠ sM → s ≠ sX → a'.tmps.getD s undef = a.tmps.getD s undef) → (w' = w ∨ w' = w1) → (execOp a'.eval oL).run P w' = .ok (.value vL) w')
  (hB : ∀ (a' : Act) (w' : World), a'.tmps.getD sL undef = vL → (execOp a'.eval oB).run P w' = .ok (.value vB) w')
  (hM : ∀ (a' : Act), (∀ s, s ≠ sL → s ≠ sB → s ≠ sM → s ≠ sX → a'.tmps.getD s undef = a.tmps.getD s undef) → (execOp a'.eval oM).run P w = .ok (.value vM) w1)
  (hX : ∀ (a' : Act) (w' : World), a'.tmps.getD sM undef = vM → (execOp a'.eval oX).run P w' = .ok (.value vX) w')
  (hS : ∀ (a' : Act), (∀ s, s ≠ sL → s ≠ sB → s ≠ sM → s ≠ sX → a'.tmps.getD s undef = a.tmps.getD s undef) → a'.tmps.getD sX undef = vX → a'.tmps.getD sB undef = vB → (execOp a'.eval oS).run P w1 = .ok .skip w3)
  (hq : Q .normal ((((a.put (some sL) vL).put (some sB) vB).put (some sM) vM).put (some sX) vX) w3) :
  ∀ (fuel : Nat) (listed : Array Bool) (a' : Act) (w' : World), listed.size = ops.length → (∀ j, j < p → listed.getD j false = true) → unl listed ops.length ≤ fuel →
   EI a w w1 w3 sL sB sM sX vL vB vM vX (fun q => listed.getD (p + q) false) a' w' → wpAny P .any ops.toArray Q fuel listed a' w' := by
 have fin : ∀ (listed : Array Bool) (a' : Act) (w' : World), (∀ i, i < ops.length → listed.getD i false = true) → EI a w w1 w3 sL sB sM sX vL vB vM vX (fun q => listed.getD (p + q) false) a' w' → Q .normal a' w' := by
  intro listed a' w' hall h
  obtain ⟨rfl, rfl⟩ := h.last (fun q hq => hall (p + q) (by omega)) hn zL zB zM zX
  exact hq
 intro fuel
 induction fuel with
 | zero =>
  intro listed a' w' hsz hpre hu h
  have hall : ∀ i, i < ops.length → listed.getD i false = true := fun i hi => by
   have := unl_zero (listed := listed) (n := ops.length) (by omega) i hi
   rwa [getD_tf (by omega)] at this
  refine ⟨?_, fin listed a' w' hall h⟩
  cases hr : Region.ready .any ops.toArray listed with
  | nil => rfl
  | cons j r =>
   exfalso
   have hmem : j ∈ Region.ready .any ops.toArray listed := by rw [hr]; simp
   obtain ⟨h2, o2, ho2, _⟩ := mem_ready.1 hmem
   have hjl : j < ops.length := by simpa using (Array.getElem?_eq_some_iff.1 ho2).1
   rw [getD_tf (by omega), hall j hjl] at h2
   cases h2
 | succ fuel ih =>
  intro listed a' w' hsz hpre hu h
  refine ⟨fun hr => fin listed a' w' (fun i hi => ready_of_back hsz hr hback (i + 1) i (by omega) hi) h, fun i hi => ?_⟩
  obtain ⟨h1, o', ho, hafter⟩ := mem_ready.1 hi
  have hlt : i < ops.length := by simpa using (Array.getElem?_eq_some_iff.1 ho).1
  have hop : ops[i]? = some o' := by simpa using ho
  have hDi : listed.getD i false = false := by rw [← getD_tf (by omega)]; exact h1
  have hip : p ≤ i := by
   rcases Nat.lt_or_ge i p with hlt2 | hge
   ·rw [hpre i hlt2] at hDi
    cases hDi
   ·exact hge
  have step : ∀ (q : Nat) (a2 : Act) (w2 : World), i = p + q → EI a w w1 w3 sL sB sM sX vL vB vM vX (upF (fun q => listed.getD (p + q) false) q) a2 w2 → wpAny P .any ops.toArray Q fuel (listed.setIfInBounds i true) a2 w2 := by
   intro q a2 w2 hq2 h2
   refine ih _ a2 w2 (by simp [hsz]) (fun j hj => ?_) (by have := unl_set (listed := listed) (i := i) (by omega) h1 (n := ops.length) hlt; omega) (h2.congr fun r hr => ?_)
   ·rw [getD_set (by omega), if_neg (by omega)]
    exact hpre j hj
   ·rw [getD_set (by omega)]
    unfold upF
    by_cases hrq : r = q
    ·rw [if_pos hrq, if_pos (by omega)]
    ·rw [if_neg hrq, if_neg (by omega)]
  have aft : ∀ {o : Oper} {j : Nat}, o' = o → (∃ e ∈ o.after.toList, e.on = j ∧ Region.binds .any e = true) → listed.getD j false = true := by
   rintro o j rfl ⟨e, he, hon, hb⟩
   have := hafter e (by simpa using he) hb
   rwa [hon] at this
  have hcase : i = p ∨ i = p + 1 ∨ i = p + 2 ∨ i = p + 3 ∨ i = p + 4 := by omega
  rcases hcase with hi0 | hi1 | hi2 | hi3 | hi4
  ·have e0 : o' = oL := by
    rw [hi0, g0] at hop
    exact (Option.some.inj hop).symm
   have f0 : listed.getD (p + 0) false = false := by rw [Nat.add_zero, ← hi0]; exact hDi
   have f4 : listed.getD (p + 4) false = false := by
    cases hh : listed.getD (p + 4) false with
    | false => rfl
    | true =>
     have := h.bl (h.sb hh)
     rw [f0] at this
     cases this
   have hw : w' = w ∨ w' = w1 := by
    have := h.wd
    rw [f4] at this
    simp only [Bool.false_eq_true, if_false] at this
    split at this
    ·exact .inr this
    ·exact .inl this
   refine wpOp_run (by rw [hi0]; exact g0) qL.1 (hL a' w' h.fr hw) ?_
   rw [qL.2]
   exact step 0 _ _ hi0 (h.L hn zL)
  ·have e0 : o' = oB := by
    rw [hi1, g1] at hop
    exact (Option.some.inj hop).symm
   have f0 := aft e0 eB
   refine wpOp_run (by rw [hi1]; exact g1) qB.1 (hB a' w' (h.gL f0)) ?_
   rw [qB.2]
   exact step 1 _ _ hi1 (h.B hn zB f0)
  ·have f2 : listed.getD (p + 2) false = false := by rw [← hi2]; exact hDi
   have f4 : listed.getD (p + 4) false = false := by
    cases hh : listed.getD (p + 4) false with
    | false => rfl
    | true =>
     have := h.xm (h.sx hh)
     rw [f2] at this
     cases this
   have hw : w' = w := by
    have := h.wd
    rw [f4, f2] at this
    exact this
   subst hw
   refine wpOp_run (by rw [hi2]; exact g2) qM.1 (hM a' h.fr) ?_
   rw [qM.2]
   exact step 2 _ _ hi2 (h.M hn zM f4)
  ·have e0 : o' = oX := by
    rw [hi3, g3] at hop
    exact (Option.some.inj hop).symm
   have f2 := aft e0 eX
   refine wpOp_run (by rw [hi3]; exact g3) qX.1 (hX a' w' (h.gM f2)) ?_
   rw [qX.2]
   exact step 3 _ _ hi3 (h.X hn zX f2)
  ·have e0 : o' = oS := by
    rw [hi4, g4] at hop
    exact (Option.some.inj hop).symm
   have f1 := aft e0 eS1
   have f3 := aft e0 eS3
   have f4 : listed.getD (p + 4) false = false := by rw [← hi4]; exact hDi
   have hw : w' = w1 := by
    have := h.wd
    rw [f4, h.xm f3] at this
    exact this
   subst hw
   refine wpOp_skip (by rw [hi4]; exact g4) qS.1 qS.2 (hS a' h.fr (h.gX f3) (h.gB f1)) ?_
   exact step 4 _ _ hi4 (h.S f1 f3)
end
structure EP where
 t : TypeId
 m : Nat
 y : Nat
 sL : Nat
 sB : Nat
 sM : Nat
 sX : Nat
 op : BinOp
 c : Int
 eL : List Edge
 eB : List Edge
 eM : List Edge
 eX : List Edge
 eS : List Edge
def isLook : Op → Bool
 | .lookup _ _ _ _ => true
 | _ => false
def frontE : List Oper → List Oper
 | [] => []
 | o :: r => match isLook o.op with
  | true => []
  | false => o :: frontE r
def tailE : List Oper → List Oper
 | [] => []
 | o :: r => match isLook o.op with
  | true => o :: r
  | false => tailE r
theorem front_tailE : ∀ l : List Oper, l = frontE l ++ tailE l
 | [] => rfl
 | o :: r => by
  unfold frontE tailE
  split
  ·rfl
  ·rw [List.cons_append, ← front_tailE r]
def entP : List Oper → Option EP
  | [⟨some sL, .lookup t (.tmp m) (.tmp y) false, _, _, ⟨eL⟩, none⟩, ⟨some sB, .binOp op _ (.tmp a) (.const (.int .i64 c)) _, _, _, ⟨eB⟩, none⟩, ⟨some sM, .mapEntry t2 (.tmp m2) (.tmp y2), _, _, ⟨eM⟩, none⟩,
     ⟨some sX, .extract (.tmp b) 1, _, _, ⟨eX⟩, none⟩, ⟨none, .entryStore t3 (.tmp m3) (.tmp x3) (.tmp b3), _, _, ⟨eS⟩, none⟩] =>
    (match Nat.beq a sL, Nat.beq t2 t, Nat.beq m2 m, Nat.beq y2 y, Nat.beq b sM, Nat.beq t3 t, Nat.beq m3 m, Nat.beq x3 sX, Nat.beq b3 sB with
    | true, true, true, true, true, true, true, true, true => some ⟨t, m, y, sL, sB, sM, sX, op, c, eL, eB, eM, eX, eS⟩
    | _, _, _, _, _, _, _, _, _ => none)
  | _ => none
theorem entP_iff {l : List Oper} {e : EP} (h : entP l = some e) : ∃ a1 b1 c1 d1 a2 b2 a3 b3 a4 b4 a5 b5, l =
    [⟨some e.sL, .lookup e.t (.tmp e.m) (.tmp e.y) false, a1, b1, ⟨e.eL⟩, none⟩, ⟨some e.sB, .binOp e.op c1 (.tmp e.sL) (.const (.int .i64 e.c)) d1, a2, b2, ⟨e.eB⟩, none⟩, ⟨some e.sM, .mapEntry e.t (.tmp e.m) (.tmp e.y), a3, b3, ⟨e.eM⟩, none⟩,
     ⟨some e.sX, .extract (.tmp e.sM) 1, a4, b4, ⟨e.eX⟩, none⟩, ⟨none, .entryStore e.t (.tmp e.m) (.tmp e.sX) (.tmp e.sB), a5, b5, ⟨e.eS⟩, none⟩] := by
  unfold entP at h
  split at h
  · split at h
    · rename_i h1 h2 h3 h4 h5 h6 h7 h8 h9
      obtain rfl := Option.some.inj h
      rw [Nat.eq_of_beq_eq_true h1, Nat.eq_of_beq_eq_true h2, Nat.eq_of_beq_eq_true h3, Nat.eq_of_beq_eq_true h4, Nat.eq_of_beq_eq_true h5, Nat.eq_of_beq_eq_true h6, Nat.eq_of_beq_eq_true h7, Nat.eq_of_beq_eq_true h8, Nat.eq_of_beq_eq_true h9]
      exact ⟨_, _, _, _, _, _, _, _, _, _, _, _, rfl⟩
    · cases h
  · cases h
def thenS (N : Nat) (d : Option Nat) (eff : Eff) (k : St → Prop) (st : St) : Prop :=
 match st with
 | ⟨K, O, nid⟩ => applyS N d [] K O nid eff k
def entA (T : List (Nat × TI)) (N : Nat) (e : EP) (st : St) (k : St → Prop) : Prop :=
 match st with
 | ⟨K, O, nid⟩ => (match find e.m K, find e.y K with
  | some ([], .mo id), some ([], kx) => (match tget e.t T with
   | some ti => (match mapD ti.desc with
    | some (kt, et) => (match tget et T, lkOf O [] id with
     | some te, some (.mp n key val born clock) => ∃ (c : Bool) (x x' : Int) (n' : Nat) (key' val' : Nat → AV) (born' : Nat → Nat) (clock' : Nat),
       (KeysFit T kt n key ∧ keyFit T kt kx = true ∧ LookOk n key val kx (.i .i64 x) (avOf te.zero) c ∧ binI e.op .i64 x e.c = some (.i .i64 x') ∧ UpdOk n key val born clock kx (.i .i64 x') n' key' val' born' clock') ∧
       applyS N none [] K O nid (.set id (.mp n' key' val' born' clock') .u) (thenS N (some e.sL) (.ext [] .u) (thenS N (some e.sB) (.ext [] .u) (thenS N (some e.sM) (.ext [] .u) (thenS N (some e.sX) (.ext [] .u) k))))
     | _, _ => False)
    | none => False)
   | none => False)
  | _, _ => False)
def execDE (P : Program) (T : List (Nat × TI)) (N : Nat) (ops : List Oper) (e : EP) (st : St) (k : St → Prop) : Prop :=
 match st with
 | ⟨K, O, nid⟩ => (match ltK nid K, ltIds nid O, allO (fun j => Nat.blt j nid) O with
  | true, true, true => (match backB (frontE ops).length e.eL, backB ((frontE ops).length + 1) e.eB, backB ((frontE ops).length + 2) e.eM, backB ((frontE ops).length + 3) e.eX, backB ((frontE ops).length + 4) e.eS with
   | true, true, true, true, true => (match hasE (frontE ops).length e.eB, hasE ((frontE ops).length + 2) e.eX, hasE ((frontE ops).length + 1) e.eS, hasE ((frontE ops).length + 3) e.eS, nodupN [e.m, e.y, e.sL, e.sB, e.sM, e.sX] with
    | true, true, true, true, true => execDs P T N ops K O (frontE ops) 0 ⟨K, O, nid⟩ [] fun st' L => edgesK L e.eL [] fun b => edgesK L e.eM [] fun b' => (match allB (frontE ops).length b, allB (frontE ops).length b' with
     | true, true => entA T N e st' k
     | _, _ => False)
    | _, _, _, _, _ => False)
   | _, _, _, _, _ => False)
  | _, _, _ => False)
section
variable {C : Cx} {G : Nat → Prop} {P : Program} {T : List (Nat × TI)} {w0 w : World} {N : Nat} {a : Act}
theorem thenS_sound {d : Option Nat} {k : St → Prop} {st : St} (S : Sim C G w0 N st a w) (v : Value) (h : thenS N d (.ext [] .u) k st) : ∃ st', k st' ∧ Sim C G w0 N st' (a.put d v) w := by
 obtain ⟨K, O, nid⟩ := st
 obtain ⟨β, S, hag⟩ := S
 exact eff_sim S hag (EffPost.id (.pure _ _ (.u _)) (Below.refl _ _)) h
theorem thenS_lt {d : Nat} {k : St → Prop} {st : St} (S : Sim C G w0 N st a w) (h : thenS N (some d) (.ext [] .u) k st) : d < N := by
 obtain ⟨K, O, nid⟩ := st
 obtain ⟨β, S, hag⟩ := S
 have h : applyS N (some d) [] K O nid (.ext [] .u) k := h
 obtain ⟨st', _, _, _, _, _, hd⟩ := applyS_iff (fun id g o h => (S.of id g o h).1) h
 exact (hd d rfl).1
theorem execDE_loop (hT : TabOk P T) {ops : List Oper} {p : Nat} (hlen5 : ops.length = p + 5) {K0 : KF} {O0 : OF} {n0 : Nat} {L : List DR} (hF : Facts P T N ops K0 O0 n0 L) (hlen : L.length = p)
  (hK0 : ∀ s g av, K0 s = some (g, av) → av.lt n0 = true) (hO0 : ∀ id g x, O0 id = some (g, x) → id < n0 ∧ x.all (fun j => Nat.blt j n0) = true)
  (hback : ∀ i, (hi : i < ops.length) → ∀ e ∈ ops[i].after.toList, Region.binds .any e = true → e.on < i)
  (hcov : ∀ i, (hi : i < ops.length) → i = p ∨ i = p + 2 → ∀ D : Nat → Bool, (∀ e ∈ ops[i].after.toList, Region.binds .any e = true → D e.on = true) → (∀ e ∈ L, D e.ix = true → ∀ i, tbL e.bits i = true → D i = true) → ∀ i, i < p → D i = true)
  (hoth : ∀ i, (hi : i < ops.length) → p ≤ i → i ≠ p → i ≠ p + 2 → ∃ e ∈ ops[i].after.toList, p ≤ e.on ∧ Region.binds .any e = true)
  {Q : Exit → Act → World → Prop} (hmid : ∀ a' w' fuel (listed : Array Bool), SimD C G w0 N K0 O0 n0 L (fun _ => true) a' w' → listed.size = ops.length → (∀ j, j < ops.length → listed.getD j false = decide (j < p)) → unl listed ops.length ≤ fuel → wpAny P .any ops.toArray Q fuel listed a' w') :
  ∀ (fuel : Nat) (listed : Array Bool) (a : Act) (w : World), listed.size = ops.length → unl listed ops.length ≤ fuel →
   (∀ j, p ≤ j → listed.getD j false = false) → (∀ e ∈ L, listed.getD e.ix false = true → ∀ i, tbL e.bits i = true → listed.getD i false = true) → SimD C G w0 N K0 O0 n0 L (fun j => listed.getD j false) a w →
   wpAny P .any ops.toArray Q fuel listed a w := by
 intro fuel
 induction fuel with
 | zero =>
  intro listed a w hsz hu hnt hcl S
  exfalso
  have := unl_zero (listed := listed) (n := ops.length) (by omega) p (by omega)
  rw [getD_tf (by omega), hnt p (Nat.le_refl _)] at this
  cases this
 | succ fuel ih =>
  intro listed a w hsz hu hnt hcl S
  refine ⟨fun hr => ?_, fun i hi => ?_⟩
  ·exfalso
   have := ready_of_back hsz hr hback (p + 1) p (by omega) (by omega)
   rw [hnt p (Nat.le_refl _)] at this
   cases this
  obtain ⟨h1, o', ho, hafter⟩ := mem_ready.1 hi
  have hlt : i < ops.length := by simpa using (Array.getElem?_eq_some_iff.1 ho).1
  have hop : ops[i]? = some o' := by simpa using ho
  have hDi : listed.getD i false = false := by rw [← getD_tf (by omega)]; exact h1
  by_cases hil : i < p
  ·have hfun : (fun j => if j = i then true else listed.getD j false) = fun j => (listed.setIfInBounds i true).getD j false := by
    funext j
    rw [getD_set (by omega)]
   have hstep := stepD_sound (C := C) (G := G) (w0 := w0) (a := a) (w := w) (Q := Q) (next := wpAny P .any ops.toArray Q fuel (listed.setIfInBounds i true)) hT hF hK0 hO0 (i := i) (D := fun j => listed.getD j false) (by omega) hDi hcl hop (fun e he hb => hafter e (by simpa using he) hb)
   have hcl' : ∀ e ∈ L, (listed.setIfInBounds i true).getD e.ix false = true → ∀ j, tbL e.bits j = true → (listed.setIfInBounds i true).getD j false = true := by
    intro e he hDe j hj
    rw [getD_set (by omega)] at hDe ⊢
    exact (stepD_sound (Q := Q) (next := fun _ _ => True) hT hF hK0 hO0 (i := i) (D := fun j => listed.getD j false) (by omega) hDi hcl hop (fun e he hb => hafter e (by simpa using he) hb) (fun _ _ _ => trivial) S).2 e he hDe j hj
   have hnext := (hstep (fun a' w' S' => ih (listed.setIfInBounds i true) a' w' (by simp [hsz]) (by have := unl_set (by omega) h1 (n := ops.length) hlt; omega) (fun j hj => by rw [getD_set (by omega), if_neg (by omega)]; exact hnt j hj) hcl' (by rw [← hfun]; exact S')) S).1
   unfold wpOp
   simp only [ho]
   split
   ·rename_i hw
    rw [if_pos hw] at hnext
    exact .inl hnext
   ·rename_i hw
    rw [if_neg hw] at hnext
    exact hnext
  ·have hoi : ops[i] = o' := by
    rw [List.getElem?_eq_getElem hlt] at hop
    exact Option.some.inj hop
   have hii : i = p ∨ i = p + 2 := by
    by_cases h2 : i = p
    ·exact .inl h2
    by_cases h3 : i = p + 2
    ·exact .inr h3
    exfalso
    obtain ⟨e, he, hon, hb⟩ := hoth i hlt (by omega) h2 h3
    rw [hoi] at he
    have := hafter e (by simpa using he) hb
    rw [hnt e.on hon] at this
    cases this
   have hall := hcov i hlt hii (fun j => listed.getD j false) (fun e he hb => hafter e (by rw [hoi] at he; simpa using he) hb) hcl
   have S' : SimD C G w0 N K0 O0 n0 L (fun _ => true) a w := by
    obtain ⟨β, S, hag⟩ := S
    refine ⟨β, ?_, hag⟩
    have hix : ∀ e ∈ L, (fun j => listed.getD j false) e.ix = (fun _ => true) e.ix := fun e he => hall _ (by rw [← hlen]; exact hF.ix_lt e he)
    rw [kD_congr (D := fun j => listed.getD j false) (D' := fun _ => true) hix, oD_congr (D := fun j => listed.getD j false) (D' := fun _ => true) hix] at S
    exact S
   exact (hmid a w (fuel + 1) listed S' hsz (fun j hj => by
    by_cases hjp : j < p
    ·rw [hall j hjp, decide_eq_true hjp]
    ·rw [hnt j (by omega), decide_eq_false hjp]) hu).2 i hi
theorem execDE_sound (hT : TabOk P T) {ops : List Oper} {Q : Exit → Act → World → Prop} {id : Nat} {st : St} {e : EP} {k : St → Prop} (S : Sim C G w0 N st a w) (he : entP (tailE ops) = some e) (h : execDE P T N ops e st k)
  (hq : ∀ st' a' w', k st' → Sim C G w0 N st' a' w' → Q .normal a' w') : (Code.region id ops.toArray true).wp P Q a w := by
 obtain ⟨K, O, nid⟩ := st
 obtain ⟨a1, b1, c1, d1, a2, b2, a3, b3, a4, b4, a5, b5, htl⟩ := entP_iff he
 have hops := front_tailE ops
 rw [htl] at hops
 have hlen5 : ops.length = (frontE ops).length + 5 := by
  have := congrArg List.length hops
  simpa using this
 have hget : ∀ (q : Nat) (o : Oper), [(⟨some e.sL, .lookup e.t (.tmp e.m) (.tmp e.y) false, a1, b1, ⟨e.eL⟩, none⟩ : Oper), ⟨some e.sB, .binOp e.op c1 (.tmp e.sL) (.const (.int .i64 e.c)) d1, a2, b2, ⟨e.eB⟩, none⟩, ⟨some e.sM, .mapEntry e.t (.tmp e.m) (.tmp e.y), a3, b3, ⟨e.eM⟩, none⟩,
   ⟨some e.sX, .extract (.tmp e.sM) 1, a4, b4, ⟨e.eX⟩, none⟩, ⟨none, .entryStore e.t (.tmp e.m) (.tmp e.sX) (.tmp e.sB), a5, b5, ⟨e.eS⟩, none⟩][q]? = some o → ops[(frontE ops).length + q]? = some o := by
  intro q o hq
  have h0 : ∀ (l m : List Oper) (x : Oper), m[q]? = some x → (l ++ m)[l.length + q]? = some x := by
   intro l m x hx
   rw [List.getElem?_append_right (by omega), Nat.add_sub_cancel_left]
   exact hx
  have := h0 (frontE ops) _ o hq
  rwa [← hops] at this
 unfold execDE at h
 dsimp only at h
 split at h
 ·rename_i h1 h2 h3
  split at h
  ·rename_i kL kB kM kX kS
   split at h
   ·rename_i xB xX xS1 xS3 hnd
    obtain ⟨st', L, hk, hlen, hF, hK, hO, hn⟩ := execDs_factT (P := P) (T := T) (N := N) (ops := ops) (K0 := K) (O0 := O) (l := frontE ops) (ix := 0) (st := ⟨K, O, nid⟩) (done := []) (L := []) (n0 := nid) hops rfl (fun id g x hx => ltIds_get h2 id g x hx) rfl rfl rfl rfl trivial h
    obtain ⟨bits, hk, hcovL⟩ := edgesK_iff hk
    obtain ⟨bits', hk, hcovM⟩ := edgesK_iff hk
    split at hk
    ·rename_i hab hab'
     have hab := allB_iff hab
     have hab' := allB_iff hab'
     have hlen : L.length = (frontE ops).length := by simpa using hlen
     have hfive : ∀ i, (hi : i < ops.length) → (frontE ops).length ≤ i → (i = (frontE ops).length + 0 ∧ ops[i].after.toList = e.eL) ∨ (i = (frontE ops).length + 1 ∧ ops[i].after.toList = e.eB) ∨ (i = (frontE ops).length + 2 ∧ ops[i].after.toList = e.eM) ∨ (i = (frontE ops).length + 3 ∧ ops[i].after.toList = e.eX) ∨ (i = (frontE ops).length + 4 ∧ ops[i].after.toList = e.eS) := by
      intro i hi hpi
      have hc : i = (frontE ops).length + 0 ∨ i = (frontE ops).length + 1 ∨ i = (frontE ops).length + 2 ∨ i = (frontE ops).length + 3 ∨ i = (frontE ops).length + 4 := by omega
      have hat : ∀ q o, i = (frontE ops).length + q → ops[(frontE ops).length + q]? = some o → ops[i] = o := by
       intro q o hq ho
       rw [← hq, List.getElem?_eq_getElem hi] at ho
       exact Option.some.inj ho
      rcases hc with hc | hc | hc | hc | hc
      ·exact .inl ⟨hc, by rw [hat _ _ hc (hget 0 _ rfl)]⟩
      ·exact .inr (.inl ⟨hc, by rw [hat _ _ hc (hget 1 _ rfl)]⟩)
      ·exact .inr (.inr (.inl ⟨hc, by rw [hat _ _ hc (hget 2 _ rfl)]⟩))
      ·exact .inr (.inr (.inr (.inl ⟨hc, by rw [hat _ _ hc (hget 3 _ rfl)]⟩)))
      ·exact .inr (.inr (.inr (.inr ⟨hc, by rw [hat _ _ hc (hget 4 _ rfl)]⟩)))
     have hback : ∀ i, (hi : i < ops.length) → ∀ e ∈ ops[i].after.toList, Region.binds .any e = true → e.on < i := by
      intro i hi d hd hb
      by_cases hil : i < (frontE ops).length
      ·exact facts_back hi hd hb hF (by omega)
      ·rcases hfive i hi (by omega) with ⟨hc, hx⟩ | ⟨hc, hx⟩ | ⟨hc, hx⟩ | ⟨hc, hx⟩ | ⟨hc, hx⟩ <;> rw [hx] at hd
       ·have := backB_iff kL d hd hb; omega
       ·have := backB_iff kB d hd hb; omega
       ·have := backB_iff kM d hd hb; omega
       ·have := backB_iff kX d hd hb; omega
       ·have := backB_iff kS d hd hb; omega
     refine wp_region_any hT.mixed ?_
     have hS : SimD C G w0 N (fun s => find s K) (fun id => getO id O) nid L (fun j => (Array.replicate ops.toArray.size false).getD j false) a { w with drawn := w.drawn + 1 } := by
      obtain ⟨β, S, hag⟩ := S
      have hfalse : ∀ e ∈ L, (fun j => (Array.replicate ops.toArray.size false).getD j false) e.ix = (fun _ => false) e.ix := fun e he => by
       simp [Array.getElem?_replicate]
       split <;> rfl
      refine ⟨β, ?_, hag⟩
      rw [kD_congr (D' := fun _ => false) hfalse, oD_congr (D' := fun _ => false) hfalse]
      have e1 : ∀ M : List DR, kD (fun _ => false) M (fun s => find s K) = fun s => find s K := by
       intro M
       induction M with
       | nil => rfl
       | cons d r ih => funext s; simp only [kD, ih]; simp
      have e2 : ∀ M : List DR, oD (fun _ => false) M (fun id => getO id O) = fun id => getO id O := by
       intro M
       induction M with
       | nil => rfl
       | cons d r ih => simp only [oD, ih]; simp
      rw [e1, e2]
      have hstab : ∀ {F : Nat → Prop} {av : AV} {v : Value}, Rep β nid F w av v → Rep β (endN nid L) F { w with drawn := w.drawn + 1 } av v := fun h =>
       (h.stable (w' := { w with drawn := w.drawn + 1 }) (fun _ _ h => h) (fun _ _ _ => rfl) (Nat.le_refl _)).more (n0_le hF)
      refine ⟨S.gold, ⟨S.below.os, S.below.tape, S.below.output, S.below.size, S.below.block, S.below.drawn⟩, S.tsz, S.dfs, fun s g av hs => ⟨fun h => hstab ((S.kf s g av hs).1 h), (S.kf s g av hs).2⟩, fun id g x hx => ⟨Nat.lt_of_lt_of_le (S.of id g x hx).1 (n0_le hF), fun h => ?_⟩, S.allow, S.dist⟩
      exact ((S.of id g x hx).2 h).stable (w' := { w with drawn := w.drawn + 1 }) (S.of id g x hx).1 (n0_le hF) (fun _ _ => ⟨rfl, rfl⟩) (fun _ _ h => h) (fun _ _ _ => rfl) (Nat.le_refl _) (fun _ _ => rfl)
     refine execDE_loop hT hlen5 hF hlen (fun s g av hs => ltK_get h1 s g av hs) (fun id g x hx => ⟨ltIds_get h2 id g x hx, allO_get h3 id g x hx⟩) hback ?_ ?_ ?_ ops.toArray.size _ a _ (by simp) ?_ ?_ ?_ hS
     ·rintro i hi hii D hD1 hD2 j hj
      rcases hfive i hi (by omega) with ⟨hc, hx⟩ | ⟨hc, hx⟩ | ⟨hc, hx⟩ | ⟨hc, hx⟩ | ⟨hc, hx⟩
      ·rw [hx] at hD1
       exact hcovL D hD1 hD2 (fun i hi => by simp [tbL] at hi) j (hab j hj)
      ·omega
      ·rw [hx] at hD1
       exact hcovM D hD1 hD2 (fun i hi => by simp [tbL] at hi) j (hab' j hj)
      ·omega
      ·omega
     ·intro i hi hpi hn0 hn2
      rcases hfive i hi (by omega) with ⟨hc, hx⟩ | ⟨hc, hx⟩ | ⟨hc, hx⟩ | ⟨hc, hx⟩ | ⟨hc, hx⟩
      ·omega
      ·obtain ⟨d, hd, hon, hb⟩ := hasE_iff xB
       exact ⟨d, by rw [hx]; exact hd, by omega, hb⟩
      ·omega
      ·obtain ⟨d, hd, hon, hb⟩ := hasE_iff xX
       exact ⟨d, by rw [hx]; exact hd, by omega, hb⟩
      ·obtain ⟨d, hd, hon, hb⟩ := hasE_iff xS1
       exact ⟨d, by rw [hx]; exact hd, by omega, hb⟩
     ·intro a' w' fuel listed S' hsz hl hu
      obtain ⟨β, S', hag⟩ := S'
      have S2 : Sim C G w0 N st' a' w' := by
       refine ⟨β, ?_, by rw [hn]; exact hag.more (n0_le hF)⟩
       rw [hK, hO, hn]
       exact S'
      obtain ⟨K', O', nid'⟩ := st'
      unfold entA at hk
      dsimp only at hk
      split at hk
      ·rename_i id kx hm hy
       split at hk
       ·rename_i ti hti
        split at hk
        ·rename_i kt et hmd
         split at hk
         ·rename_i te n key val born clock hte hlk
          obtain ⟨c, x, x', n', key', val', born', clock', ⟨hf, hkf, hlook, hbin, hupd⟩, hk⟩ := hk
          obtain ⟨β2, S3, hag2⟩ := S2
          have hnd := nodupN_iff hnd
          simp only [List.nodup_cons, List.mem_cons, not_or, List.not_mem_nil, not_false_eq_true, and_true] at hnd
          obtain ⟨⟨_, m1, m2, m3, m4⟩, ⟨y1, y2, y3, y4⟩, ⟨n1, n2, n3⟩, ⟨n4, n5⟩, n6, _⟩ := hnd
          have hu0 := ((S3.kf e.m [] (.mo id) hm).1 (sat_nil a'))
          have hv0 := ((S3.kf e.y [] kx hy).1 (sat_nil a'))
          obtain ⟨va, sv, w1, w3, r1, r2, r3, r4, hpost⟩ := ent_map (P := P) (S3.env (lkOf_sound (O := O') (sat_nil a'))) hT hti hmd hte hlk hf hkf hlook hupd hu0 hv0
          obtain ⟨st1, hk, S4⟩ := eff_sim S3 hag2 hpost hk
          have z1 := thenS_lt S4 hk
          obtain ⟨st2, hk, S5⟩ := thenS_sound S4 (.int .i64 x) hk
          have z2 := thenS_lt S5 hk
          obtain ⟨st3, hk, S6⟩ := thenS_sound S5 (.int .i64 x') hk
          have z3 := thenS_lt S6 hk
          obtain ⟨st4, hk, S7⟩ := thenS_sound S6 (.tuple #[va, sv]) hk
          have z4 := thenS_lt S7 hk
          obtain ⟨st5, hk, S8⟩ := thenS_sound S7 sv hk
          have hsz0 : a'.tmps.size = N := S3.tsz
          have hb : ∀ w : World, (binRun e.op c1 (.tmp e.sL) (.const (.int .i64 e.c)) (.int .i64 x) (.int .i64 e.c)).run P w = .ok (.int .i64 x') w := by
           intro w
           obtain ⟨z, hz, hrep⟩ := binI_sound (P := P) (w := w) c1 hbin
           have : z = .int .i64 x' := by
            cases hrep
            rfl
           subst this
           unfold binRun
           rw [Sem.run_bind, guard_int]
           exact hz
          refine ent_loop (p := (frontE ops).length) (a := a') (w := w') (w1 := w1) (w3 := w3) (sL := e.sL) (sB := e.sB) (sM := e.sM) (sX := e.sX) (vL := .int .i64 x) (vB := .int .i64 x') (vM := .tuple #[va, sv]) (vX := sv) hlen5 (hget 0 _ rfl) (hget 1 _ rfl) (hget 2 _ rfl) (hget 3 _ rfl) (hget 4 _ rfl) hback
           (hasE_iff xB) (hasE_iff xX) (hasE_iff xS1) (hasE_iff xS3) ⟨rfl, rfl⟩ ⟨rfl, rfl⟩ ⟨rfl, rfl⟩ ⟨rfl, rfl⟩ ⟨rfl, rfl⟩ (by simp [n1, n2, n3, n4, n5, n6]) (by omega) (by omega) (by omega) (by omega) ?_ ?_ ?_ ?_ ?_ (hq _ _ _ hk S8) fuel listed a' w' hsz
           (fun j hj => by rw [hl j (by omega), decide_eq_true hj]) hu (EI.init.congr fun q hq => by rw [hl _ (by omega), decide_eq_false (by omega)])
          ·intro b w2 hfr hw2
           have em : b.eval (.tmp e.m) = a'.tmps.getD e.m undef := hfr _ m1 m2 m3 m4
           have ey : b.eval (.tmp e.y) = a'.tmps.getD e.y undef := hfr _ y1 y2 y3 y4
           simp only [execOp]
           rw [em, ey]
           rcases hw2 with rfl | rfl
           ·exact run_value r1
           ·exact run_value r3
          ·intro b w2 hb2
           have es : b.eval (.tmp e.sL) = .int .i64 x := hb2
           simp only [execOp]
           rw [es]
           exact run_value (hb w2)
          ·intro b hfr
           have em : b.eval (.tmp e.m) = a'.tmps.getD e.m undef := hfr _ m1 m2 m3 m4
           have ey : b.eval (.tmp e.y) = a'.tmps.getD e.y undef := hfr _ y1 y2 y3 y4
           simp only [execOp]
           rw [em, ey]
           exact run_value r2
          ·intro b w2 hb2
           have es : b.eval (.tmp e.sM) = .tuple #[va, sv] := hb2
           simp only [execOp]
           rw [es]
           exact run_value (by simp [Instr.extract])
          ·intro b hfr hx hb2
           have em : b.eval (.tmp e.m) = a'.tmps.getD e.m undef := hfr _ m1 m2 m3 m4
           have ex : b.eval (.tmp e.sX) = sv := hx
           have eb : b.eval (.tmp e.sB) = .int .i64 x' := hb2
           simp only [execOp]
           rw [em, ex, eb, Sem.run_bind, r4]
           rfl
         ·exact hk.elim
        ·exact hk.elim
       ·exact hk.elim
      ·exact hk.elim
     ·have : ∀ (l : Array Bool) n, unl l n ≤ n := by
       intro l n
       induction n with
       | zero => exact Nat.le_refl _
       | succ n ih => simp only [unl]; split <;> omega
      simpa using this _ ops.length
     ·intro j _
      simp [Array.getElem?_replicate]
      split <;> rfl
     ·intro e he hDe
      exfalso
      simp [Array.getElem?_replicate] at hDe
      split at hDe <;> cases hDe
    ·exact hk.elim
   ·exact h.elim
  ·exact h.elim
 ·exact h.elim
end
end Go.Eng
end

section
namespace Go.Eng
open Go.RowKit
theorem ev_congr {a b : Act} {x : Operand} (h : ∀ s ∈ rd1 x [], a.tmps.getD s undef = b.tmps.getD s undef) : a.eval x = b.eval x := by
 cases x with
 | tmp t => exact h t (by simp [rd1])
 | const v => rfl
 | global g => rfl
 | func f => rfl
theorem rd1_mem {x : Operand} {l : List Nat} {s : Nat} : s ∈ rd1 x l ↔ s ∈ rd1 x [] ∨ s ∈ l := by
 cases x <;> simp [rd1]
theorem rdL_get {l : List Operand} {x : Operand} (h : x ∈ l) : ∀ s ∈ rd1 x [], s ∈ rdL l [] := by
 induction l with
 | nil => cases h
 | cons y r ih =>
  intro s hs
  unfold rdL
  rw [rd1_mem]
  rcases List.mem_cons.1 h with rfl | h
  ·exact .inl hs
  ·exact .inr (ih h s hs)
theorem rdP_get {l : List (Nat × Operand)} {p : Nat × Operand} (h : p ∈ l) : ∀ s ∈ rd1 p.2 [], s ∈ rdP l [] := by
 induction l with
 | nil => cases h
 | cons y r ih =>
  intro s hs
  unfold rdP
  rw [rd1_mem]
  rcases List.mem_cons.1 h with rfl | h
  ·exact .inl hs
  ·exact .inr (ih h s hs)
def knownO : Op → Bool
 | .move _ => true
 | .assign _ => true
 | .pick _ _ _ => true
 | .load _ _ => true
 | .nilCheck _ => true
 | .binOp _ _ _ _ _ => true
 | .unOp _ _ _ => true
 | .fieldAddr _ _ _ => true
 | .field _ _ _ => true
 | .indexAddr _ _ _ => true
 | .extract _ _ => true
 | .lookup _ _ _ _ => true
 | .build _ _ => true
 | .buildSlice _ _ _ => true
 | .call ⟨.value _, _, _⟩ => true
 | .call ⟨.builtin _, _, _⟩ => true
 | _ => false
theorem execOp_congr {o : Oper} {a b : Act} (hk : knownO o.op = true) (h : ∀ s ∈ opReads o.op, a.tmps.getD s undef = b.tmps.getD s undef) : execOp a.eval o = execOp b.eval o := by
 obtain ⟨d, op, t, p, af, g⟩ := o
 have e2 : ∀ {x y : Operand}, (∀ s ∈ rd1 x (rd1 y []), a.tmps.getD s undef = b.tmps.getD s undef) → a.eval x = b.eval x ∧ a.eval y = b.eval y := fun {x y} h =>
  ⟨ev_congr fun s hs => h s (rd1_mem.2 (.inl hs)), ev_congr fun s hs => h s (rd1_mem.2 (.inr hs))⟩
 have eL : ∀ {l : List Operand}, (∀ s ∈ rdL l [], a.tmps.getD s undef = b.tmps.getD s undef) → l.map a.eval = l.map b.eval := fun {l} h =>
  List.map_congr_left fun x hx => ev_congr fun s hs => h s (rdL_get hx s hs)
 have eP : ∀ {l : List (Nat × Operand)}, (∀ s ∈ rdP l [], a.tmps.getD s undef = b.tmps.getD s undef) → (l.map fun (i, x) => (i, a.eval x)) = l.map fun (i, x) => (i, b.eval x) := fun {l} h =>
  List.map_congr_left fun x hx => by
   obtain ⟨i, x⟩ := x
   have e : a.eval x = b.eval x := ev_congr fun s hs => h s (rdP_get hx s hs)
   dsimp only
   rw [e]
 cases op <;> simp only [knownO, Bool.false_eq_true] at hk
 case move x => simp only [execOp]; rw [ev_congr h]
 case assign x => simp only [execOp]; rw [ev_congr h]
 case pick c x y =>
  have h1 : a.eval c = b.eval c := ev_congr fun s hs => h s (rd1_mem.2 (.inl hs))
  obtain ⟨h2, h3⟩ := e2 (x := x) (y := y) fun s hs => h s (rd1_mem.2 (.inr hs))
  simp only [execOp]
  rw [h1, h2, h3]
 case load t x => simp only [execOp]; rw [ev_congr h]
 case nilCheck x => simp only [execOp]; rw [ev_congr h]
 case binOp op t x y t' =>
  obtain ⟨h2, h3⟩ := e2 (x := x) (y := y) h
  simp only [execOp]
  rw [h2, h3]
 case unOp op t x => simp only [execOp]; rw [ev_congr h]
 case fieldAddr s x f => simp only [execOp]; rw [ev_congr h]
 case field s x f => simp only [execOp]; rw [ev_congr h]
 case indexAddr t x y =>
  obtain ⟨h2, h3⟩ := e2 (x := x) (y := y) h
  simp only [execOp]
  rw [h2, h3]
 case extract x i => simp only [execOp]; rw [ev_congr h]
 case lookup t x y ok =>
  obtain ⟨h2, h3⟩ := e2 (x := x) (y := y) h
  simp only [execOp]
  rw [h2, h3]
 case build t parts =>
  obtain ⟨parts⟩ := parts
  have := eP (l := parts) h
  simp only [execOp, List.map_toArray]
  rw [this]
 case buildSlice t n parts =>
  obtain ⟨parts⟩ := parts
  have := eP (l := parts) h
  simp only [execOp, List.map_toArray]
  rw [this]
 case call c =>
  obtain ⟨cal, ⟨args⟩, tys⟩ := c
  cases cal with
  | value f =>
   have h1 : a.eval f = b.eval f := ev_congr fun s hs => h s (rd1_mem.2 (.inl hs))
   have h2 := eL (l := args) fun s hs => h s (rd1_mem.2 (.inr hs))
   simp only [execOp, resolve, List.map_toArray]
   rw [h1, h2]
  | builtin c =>
   have h2 := eL (l := args) h
   simp only [execOp, resolve, List.map_toArray]
   rw [h2]
  | invoke r m => cases hk
def gdSlot (ops : List Oper) : Option (Nat × Bool) → List Nat
 | none => []
 | some (j, _) => (match dstOf ops j with
  | some d => [d]
  | none => [])
def lookS (ops : List Oper) (o : Oper) : List Nat := gdSlot ops o.guard ++ opReads o.op
def wantd (ops : List Oper) (o : Oper) (a : Act) : Bool := Region.wanted o (yielded ops.toArray a.tmps)
section
variable {P : Program} {ops : List Oper}
theorem slot_congr {x y : Array Value} (hsz : x.size = y.size) {d : Nat} (e : x.getD d undef = y.getD d undef) : x[d]? = y[d]? := by
 by_cases hl : d < x.size
 ·have hl2 : d < y.size := hsz ▸ hl
  rw [Array.getElem?_eq_getElem hl, Array.getElem?_eq_getElem hl2]
  simpa [hl, hl2] using e
 ·have hl2 : ¬ d < y.size := hsz ▸ hl
  rw [Array.getElem?_eq_none (Nat.le_of_not_lt hl), Array.getElem?_eq_none (Nat.le_of_not_lt hl2)]
theorem dstOf_at : ∀ {ops : List Oper} {j : Nat} {o : Oper}, ops[j]? = some o → dstOf ops j = o.dst
 | [], _, _, h => by simp at h
 | _ :: _, 0, _, h => by
  simp at h
  subst h
  rfl
 | _ :: r, j + 1, o, h => by
  have h : r[j]? = some o := by simpa using h
  exact dstOf_at (ops := r) h
theorem yield_congr {a b : Act} (hsz : a.tmps.size = b.tmps.size) {j : Nat} (h : ∀ d, dstOf ops j = some d → a.tmps.getD d undef = b.tmps.getD d undef) : yielded ops.toArray a.tmps j = yielded ops.toArray b.tmps j := by
 have key : ((ops.toArray[j]?).bind (·.dst)).bind (a.tmps[·]?) = ((ops.toArray[j]?).bind (·.dst)).bind (b.tmps[·]?) := by
  have e1 : ops.toArray[j]? = ops[j]? := by simp
  rw [e1]
  cases ho : ops[j]? with
  | none => rfl
  | some o =>
   cases hd : o.dst with
   | none =>
    show (o.dst).bind (a.tmps[·]?) = (o.dst).bind (b.tmps[·]?)
    rw [hd]
    rfl
   | some d =>
    show (o.dst).bind (a.tmps[·]?) = (o.dst).bind (b.tmps[·]?)
    rw [hd]
    exact slot_congr hsz (h d (by rw [dstOf_at ho, hd]))
 unfold yielded
 rw [key]
theorem wantd_congr {o : Oper} {a b : Act} (hsz : a.tmps.size = b.tmps.size) (h : ∀ s ∈ gdSlot ops o.guard, a.tmps.getD s undef = b.tmps.getD s undef) : wantd ops o a = wantd ops o b := by
 unfold wantd Region.wanted
 cases hg : o.guard with
 | none => rfl
 | some p =>
  obtain ⟨j, w⟩ := p
  dsimp only
  rw [yield_congr hsz fun d hd => h d (by rw [hg]; simp [gdSlot, hd])]
def NoQ : Exit → Act → World → Prop := fun _ _ _ => False
def smW (S : World → Prop) (P : Program) (ops : List Oper) (o : Oper) (K : Act → World → Prop) (a : Act) (w : World) : Prop :=
 if wantd ops o a = true then ∃ v, (∀ w', S w' → (execOp a.eval o).run P w' = .ok (.value v) w') ∧ K (a.put o.dst v) w else K (a.put o.dst undef) w
def bgW (P : Program) (ops : List Oper) (o : Oper) (K : Act → World → Prop) (a : Act) (w : World) : Prop :=
 if wantd ops o a = true then o.wp P a w K NoQ else K (a.put o.dst undef) w
def oneW (S : World → Prop) (P : Program) (ops : List Oper) (o : Oper) (b : Bool) (K : Act → World → Prop) (a : Act) (w : World) : Prop :=
 match b with
 | true => smW S P ops o K a w
 | false => bgW P ops o K a w
def canW (S : World → Prop) (P : Program) (ops : List Oper) (Q : Act → World → Prop) : List (Nat × Bool) → Act → World → Prop
 | [], a, w => S w ∧ Q a w
 | (i, b) :: r, a, w => S w ∧ ∃ o, ops[i]? = some o ∧ oneW S P ops o b (canW S P ops Q r) a w
theorem canW_S {S : World → Prop} {Q : Act → World → Prop} : ∀ {r : List (Nat × Bool)} {a : Act} {w : World}, canW S P ops Q r a w → S w
 | [], _, _, h => h.1
 | (_, _) :: _, _, _, h => h.1
theorem upon_mono {o : Oper} {a a' : Act} {K K' : Act → World → Prop} (hv : ∀ v w, K (a.put o.dst v) w → K' (a'.put o.dst v) w) (hd : ∀ d w, K ({ a with defers := d :: a.defers }.put o.dst undef) w → K' ({ a' with defers := d :: a'.defers }.put o.dst undef) w) {Q : Exit → Act → World → Prop} {res : Result Next}
  (h : o.upon P a K NoQ res) : o.upon P a' K' Q res := by
 unfold Oper.upon at h ⊢
 split at h
 ·exact hv _ _ h
 ·exact hv _ _ h
 ·exact hd _ _ h
 ·refine Calls.mono h ?_
  intro e w' he
  cases e with
  | returned v => exact hv _ _ he
  | panicked c => exact he.elim
  | outgrown =>
   obtain ⟨_, _, hq⟩ := he
   exact hq.elim
 ·exact Rows.mono h fun v w' hk => hv _ _ hk
 ·exact h.elim
 ·exact h.elim
structure Apart (ops : List Oper) (x y : Oper) : Prop where
 kx : knownO x.op = true
 ky : knownO y.op = true
 xy : ∀ d, x.dst = some d → d ∉ lookS ops y
 yx : ∀ d, y.dst = some d → d ∉ lookS ops x
 dd : ∀ d e, x.dst = some d → y.dst = some e → d ≠ e
theorem put_same_of {a : Act} {d : Option Nat} {v : Value} {s : Nat} (h : ∀ e, d = some e → e ≠ s) : (a.put d v).tmps.getD s undef = a.tmps.getD s undef := by
 cases d with
 | none => rfl
 | some d =>
  simp only [Act.put, Array.getD_eq_getD_getElem?, Array.getElem?_setIfInBounds]
  rw [if_neg (h d rfl)]
theorem put_size (a : Act) (d : Option Nat) (v : Value) : (a.put d v).tmps.size = a.tmps.size := by
 cases d <;> simp [Act.put]
theorem put_comm (a : Act) {d e : Option Nat} (v u : Value) (h : ∀ x y, d = some x → e = some y → x ≠ y) : (a.put d v).put e u = (a.put e u).put d v := by
 cases d with
 | none => cases e <;> rfl
 | some x =>
  cases e with
  | none => rfl
  | some y =>
   simp only [Act.put]
   rw [Array.setIfInBounds_comm _ _ (h x y rfl rfl)]
theorem Apart.symm {x y : Oper} (h : Apart ops x y) : Apart ops y x := ⟨h.ky, h.kx, h.yx, h.xy, fun d e h1 h2 => Ne.symm (h.dd e d h2 h1)⟩
theorem Apart.run {x y : Oper} (h : Apart ops x y) (a : Act) (v : Value) : execOp (a.put x.dst v).eval y = execOp a.eval y :=
 execOp_congr h.ky fun s hs => put_same_of fun e he e2 => h.xy e he (by rw [e2]; exact List.mem_append_right _ hs)
theorem Apart.wanted {x y : Oper} (h : Apart ops x y) (a : Act) (v : Value) : wantd ops y (a.put x.dst v) = wantd ops y a :=
 wantd_congr (put_size _ _ _) fun s hs => put_same_of fun e he e2 => h.xy e he (by rw [e2]; exact List.mem_append_left _ hs)
theorem swapW {S : World → Prop} {x y : Oper} (h : Apart ops x y) {b : Bool} {K : Act → World → Prop} (hK : ∀ a w, K a w → S w) {a : Act} {w : World} (_hw : S w)
  (hh : smW S P ops x (fun a w => S w ∧ oneW S P ops y b K a w) a w) : oneW S P ops y b (fun a w => S w ∧ smW S P ops x K a w) a w := by
 have main : ∀ v, (wantd ops x a = true → ∀ w', S w' → (execOp a.eval x).run P w' = .ok (.value v) w') → (wantd ops x a ≠ true → v = undef) → oneW S P ops y b K (a.put x.dst v) w →
   oneW S P ops y b (fun a w => S w ∧ smW S P ops x K a w) a w := by
  intro v hv hu h1
  have back : ∀ u w', K ((a.put x.dst v).put y.dst u) w' → S w' ∧ smW S P ops x K (a.put y.dst u) w' := by
   intro u w' hk
   refine ⟨hK _ _ hk, ?_⟩
   rw [put_comm a v u h.dd] at hk
   unfold smW
   rw [h.symm.wanted a u]
   by_cases hx : wantd ops x a = true
   ·rw [if_pos hx]
    refine ⟨v, fun w2 hw2 => ?_, hk⟩
    rw [h.symm.run a u]
    exact hv hx w2 hw2
   ·rw [if_neg hx]
    rw [hu hx] at hk
    exact hk
  cases b with
  | true =>
   have h1 : smW S P ops y K (a.put x.dst v) w := h1
   show smW S P ops y (fun a w => S w ∧ smW S P ops x K a w) a w
   unfold smW at h1 ⊢
   rw [h.wanted a v] at h1
   by_cases hy : wantd ops y a = true
   ·rw [if_pos hy] at h1 ⊢
    obtain ⟨u, h2, h3⟩ := h1
    rw [h.run a v] at h2
    exact ⟨u, h2, back u w h3⟩
   ·rw [if_neg hy] at h1 ⊢
    exact back undef w h1
  | false =>
   have h1 : bgW P ops y K (a.put x.dst v) w := h1
   show bgW P ops y (fun a w => S w ∧ smW S P ops x K a w) a w
   unfold bgW at h1 ⊢
   rw [h.wanted a v] at h1
   by_cases hy : wantd ops y a = true
   ·rw [if_pos hy] at h1 ⊢
    unfold Oper.wp at h1 ⊢
    rw [h.run a v] at h1
    refine upon_mono (fun u w' hk => back u w' hk) (fun d w' hk => ?_) h1
    have := put_comm { a with defers := d :: a.defers } v undef h.dd
    have e : ({ a.put x.dst v with defers := d :: (a.put x.dst v).defers } : Act) = ({ a with defers := d :: a.defers } : Act).put x.dst v := by
     cases x.dst <;> rfl
    rw [e] at hk
    refine ⟨hK _ _ hk, ?_⟩
    rw [this] at hk
    unfold smW
    have e1 : wantd ops x (({ a with defers := d :: a.defers } : Act).put y.dst undef) = wantd ops x a := (h.symm.wanted { a with defers := d :: a.defers } undef)
    have e2 : execOp (({ a with defers := d :: a.defers } : Act).put y.dst undef).eval x = execOp a.eval x := (h.symm.run { a with defers := d :: a.defers } undef)
    rw [e1, e2]
    by_cases hx : wantd ops x a = true
    ·rw [if_pos hx]
     exact ⟨v, hv hx, hk⟩
    ·rw [if_neg hx]
     rw [hu hx] at hk
     exact hk
   ·rw [if_neg hy] at h1 ⊢
    exact back undef w h1
 unfold smW at hh
 by_cases hx : wantd ops x a = true
 ·rw [if_pos hx] at hh
  obtain ⟨v, h1, _, h2⟩ := hh
  exact main v (fun _ => h1) (fun hn => (hn hx).elim) h2
 ·rw [if_neg hx] at hh
  exact main undef (fun hy => (hx hy).elim) (fun _ => rfl) hh.2
theorem smW_mono {S : World → Prop} {o : Oper} {K K' : Act → World → Prop} (h : ∀ a w, K a w → K' a w) {a : Act} {w : World} (hh : smW S P ops o K a w) : smW S P ops o K' a w := by
 unfold smW at hh ⊢
 split
 ·rename_i hx
  rw [if_pos hx] at hh
  obtain ⟨v, h1, h2⟩ := hh
  exact ⟨v, h1, h _ _ h2⟩
 ·rename_i hx
  rw [if_neg hx] at hh
  exact h _ _ hh
theorem oneW_mono {S : World → Prop} {o : Oper} {b : Bool} {K K' : Act → World → Prop} (h : ∀ a w, K a w → K' a w) {a : Act} {w : World} (hh : oneW S P ops o b K a w) : oneW S P ops o b K' a w := by
 cases b with
 | true => exact smW_mono h hh
 | false =>
  have hh : bgW P ops o K a w := hh
  show bgW P ops o K' a w
  unfold bgW at hh ⊢
  split
  ·rename_i hx
   rw [if_pos hx] at hh
   exact Oper.wp_mono h hh
  ·rename_i hx
   rw [if_neg hx] at hh
   exact h _ _ hh
theorem frontW {S : World → Prop} {Q : Act → World → Prop} {j : Nat} {b : Bool} {oj : Oper} (hoj : ops[j]? = some oj) {r2 : List (Nat × Bool)} : ∀ {r1 : List (Nat × Bool)} {a : Act} {w : World},
  (∀ x ∈ r1, x.2 = true ∧ ∃ ox, ops[x.1]? = some ox ∧ Apart ops ox oj) → canW S P ops Q (r1 ++ (j, b) :: r2) a w → oneW S P ops oj b (canW S P ops Q (r1 ++ r2)) a w
 | [], a, w, _, h => by
  obtain ⟨_, o, ho, h⟩ := h
  rw [hoj] at ho
  obtain rfl := Option.some.inj ho
  exact h
 | (i, c) :: r1, a, w, hr, h => by
  obtain ⟨hc, ox, hox, hap⟩ := hr (i, c) (by simp)
  have hc : c = true := hc
  subst hc
  have hox : ops[i]? = some ox := hox
  obtain ⟨hS, o, ho, h⟩ := h
  rw [hox] at ho
  obtain rfl := Option.some.inj ho
  have h : smW S P ops ox (canW S P ops Q (r1 ++ (j, b) :: r2)) a w := h
  have h2 : smW S P ops ox (fun a w => S w ∧ oneW S P ops oj b (canW S P ops Q (r1 ++ r2)) a w) a w :=
   smW_mono (fun a' w' hk => ⟨canW_S hk, frontW hoj (fun x hx => hr x (List.mem_cons_of_mem _ hx)) hk⟩) h
  have h3 := swapW (K := canW S P ops Q (r1 ++ r2)) hap (fun a' w' hk => canW_S hk) hS h2
  exact oneW_mono (fun a' w' hk => ⟨hk.1, ox, hox, hk.2⟩) h3
def eMask (M : List Nat) : List Edge → Nat
 | [] => 0
 | e :: r => match Region.binds .any e with
  | true => (2 ^ e.on ||| M.getD e.on 0) ||| eMask M r
  | false => eMask M r
def GoodM (ops : List Oper) (M : List Nat) : Prop := ∀ i x, (M.getD i 0).testBit x = true → ∃ o e, ops[i]? = some o ∧ e ∈ o.after.toList ∧ Region.binds .any e = true ∧ (x = e.on ∨ (M.getD e.on 0).testBit x = true)
theorem eMask_iff {M : List Nat} {x : Nat} : ∀ {es : List Edge}, (eMask M es).testBit x = true → ∃ e ∈ es, Region.binds .any e = true ∧ (x = e.on ∨ (M.getD e.on 0).testBit x = true)
 | [], h => by simp [eMask] at h
 | e :: r, h => by
  unfold eMask at h
  split at h
  ·rename_i hb
   rw [Nat.testBit_or, Nat.testBit_or, Bool.or_eq_true, Bool.or_eq_true] at h
   rcases h with (h | h) | h
   ·rw [Nat.testBit_two_pow] at h
    exact ⟨e, by simp, hb, .inl (by simp at h; omega)⟩
   ·exact ⟨e, by simp, hb, .inr h⟩
   ·obtain ⟨d, hd, h2⟩ := eMask_iff h
    exact ⟨d, List.mem_cons_of_mem _ hd, h2⟩
  ·obtain ⟨d, hd, h2⟩ := eMask_iff h
   exact ⟨d, List.mem_cons_of_mem _ hd, h2⟩
theorem closed_mask {M : List Nat} (hM : GoodM ops M) (hback : ∀ i, (hi : i < ops.length) → ∀ e ∈ ops[i].after.toList, Region.binds .any e = true → e.on < i) {listed : Nat → Bool}
  (hcl : ∀ i o, listed i = true → ops[i]? = some o → ∀ e ∈ o.after.toList, Region.binds .any e = true → listed e.on = true) :
  ∀ n i x o, i < n → ops[i]? = some o → (∀ e ∈ o.after.toList, Region.binds .any e = true → listed e.on = true) → (M.getD i 0).testBit x = true → listed x = true := by
 intro n
 induction n with
 | zero => intro i x o hi; omega
 | succ n ih =>
  intro i x o hi ho he hx
  obtain ⟨o2, e, h1, h2, h3, h4⟩ := hM i x hx
  rw [ho] at h1
  obtain rfl := Option.some.inj h1
  rcases h4 with rfl | h4
  ·exact he e h2 h3
  ·obtain ⟨o3, e3, g1, _⟩ := hM e.on x h4
   have hlt := (List.getElem?_eq_some_iff.1 ho).1
   have hoi : ops[i] = o := (List.getElem?_eq_some_iff.1 ho).2
   have := hback i hlt e (by rw [hoi]; exact h2) h3
   exact ih e.on x o3 (by omega) g1 (hcl e.on o3 (he e h2 h3) g1) h4
def PairP (ops : List Oper) (M : List Nat) (x y : Nat × Bool) : Prop := (M.getD y.1 0).testBit x.1 = true ∨ (x.2 = true ∧ ∃ ox oy, ops[x.1]? = some ox ∧ ops[y.1]? = some oy ∧ Apart ops ox oy)
theorem upon_any {o : Oper} {a : Act} {K : Act → World → Prop} {w : World} {Q : Exit → Act → World → Prop} (h : o.wp P a w K NoQ) : o.wp P a w K Q := upon_mono (fun _ _ h => h) (fun _ _ h => h) h
theorem orders {S : World → Prop} {Q : Act → World → Prop} {Q' : Exit → Act → World → Prop} (hq : ∀ a w, Q a w → Q' .normal a w) {M : List Nat} (hM : GoodM ops M)
  (hback : ∀ i, (hi : i < ops.length) → ∀ e ∈ ops[i].after.toList, Region.binds .any e = true → e.on < i) :
  ∀ (fuel : Nat) (r : List (Nat × Bool)) (listed : Array Bool) (a : Act) (w : World), r.Pairwise (PairP ops M) → (r.map (·.1)).Nodup → (∀ i, i < ops.length → (listed.getD i false = false ↔ i ∈ r.map (·.1))) → (∀ x ∈ r, x.1 < ops.length) → listed.size = ops.length →
   (∀ i o, listed.getD i false = true → ops[i]? = some o → ∀ e ∈ o.after.toList, Region.binds .any e = true → listed.getD e.on false = true) → unl listed ops.length ≤ fuel → canW S P ops Q r a w → wpAny P .any ops.toArray Q' fuel listed a w := by
 have fin : ∀ (r : List (Nat × Bool)) (listed : Array Bool) (a : Act) (w : World), (∀ i, i < ops.length → (listed.getD i false = false ↔ i ∈ r.map (·.1))) → (∀ x ∈ r, x.1 < ops.length) → (∀ i, i < ops.length → listed.getD i false = true) → canW S P ops Q r a w → Q' .normal a w := by
  intro r listed a w hiff hlt hall h
  cases r with
  | nil => exact hq a w h.2
  | cons x r =>
   have h1 := hlt x (by simp)
   have h2 := (hiff x.1 h1).2 (by simp)
   rw [hall x.1 h1] at h2
   cases h2
 intro fuel
 induction fuel with
 | zero =>
  intro r listed a w hp hnd hiff hlt hsz hcl hu h
  have hall : ∀ i, i < ops.length → listed.getD i false = true := fun i hi => by
   have := unl_zero (listed := listed) (n := ops.length) (by omega) i hi
   rwa [getD_tf (by omega)] at this
  refine ⟨?_, fin r listed a w hiff hlt hall h⟩
  cases hr : Region.ready .any ops.toArray listed with
  | nil => rfl
  | cons j r' =>
   exfalso
   have hmem : j ∈ Region.ready .any ops.toArray listed := by rw [hr]; simp
   obtain ⟨h2, o2, ho2, _⟩ := mem_ready.1 hmem
   have hjl : j < ops.length := by simpa using (Array.getElem?_eq_some_iff.1 ho2).1
   rw [getD_tf (by omega), hall j hjl] at h2
   cases h2
 | succ fuel ih =>
  intro r listed a w hp hnd hiff hlt hsz hcl hu h
  refine ⟨fun hr => fin r listed a w hiff hlt (fun i hi => ready_of_back hsz hr hback (i + 1) i (by omega) hi) h, fun j hj => ?_⟩
  obtain ⟨h1, o, ho, hafter⟩ := mem_ready.1 hj
  have hjl : j < ops.length := by simpa using (Array.getElem?_eq_some_iff.1 ho).1
  have hop : ops[j]? = some o := by simpa using ho
  have hDj : listed.getD j false = false := by rw [← getD_tf (by omega)]; exact h1
  have hedge : ∀ e ∈ o.after.toList, Region.binds .any e = true → listed.getD e.on false = true := fun e he hb => hafter e (by simpa using he) hb
  obtain ⟨x, hx, hxj⟩ := List.mem_map.1 ((hiff j hjl).1 hDj)
  obtain ⟨j', b⟩ := x
  obtain rfl : j' = j := hxj
  obtain ⟨r1, r2, rfl⟩ := List.append_of_mem hx
  have hsm : ∀ x ∈ r1, x.2 = true ∧ ∃ ox, ops[x.1]? = some ox ∧ Apart ops ox o := by
   intro x hx1
   have hpx := (List.pairwise_append.1 hp).2.2 x hx1 (j', b) (by simp)
   rcases hpx with hd | ⟨hs, ox, oy, e1, e2, hap⟩
   ·exfalso
    have hl := closed_mask hM hback (listed := fun i => listed.getD i false) hcl (j' + 1) j' x.1 o (by omega) hop hedge hd
    have hxl := hlt x (by simp [hx1])
    have := (hiff x.1 hxl).2 (by simp only [List.map_append, List.mem_append]; exact .inl (List.mem_map.2 ⟨x, hx1, rfl⟩))
    rw [this] at hl
    cases hl
   ·have e2 : ops[j']? = some oy := e2
    rw [hop] at e2
    obtain rfl := Option.some.inj e2
    exact ⟨hs, ox, e1, hap⟩
  have hone := frontW hop hsm h
  have hmp : (r1 ++ (j', b) :: r2).map (·.1) = r1.map (·.1) ++ j' :: r2.map (·.1) := by simp
  rw [hmp] at hnd
  have hnd2 : j' ∉ (r1 ++ r2).map (·.1) ∧ ((r1 ++ r2).map (·.1)).Nodup := by
   rw [List.map_append]
   have := List.nodup_append.1 hnd
   obtain ⟨n1, n2, n3⟩ := this
   rw [List.nodup_cons] at n2
   refine ⟨fun hm => ?_, List.nodup_append.2 ⟨n1, n2.2, fun a ha b hb => n3 a ha b (List.mem_cons_of_mem _ hb)⟩⟩
   rcases List.mem_append.1 hm with h3 | h3
   ·exact n3 j' h3 j' (by simp) rfl
   ·exact n2.1 h3
  have next : ∀ a' w', canW S P ops Q (r1 ++ r2) a' w' → wpAny P .any ops.toArray Q' fuel (listed.setIfInBounds j' true) a' w' := by
   intro a' w' hc
   refine ih (r1 ++ r2) _ a' w' ?_ hnd2.2 ?_ ?_ (by simp [hsz]) ?_ (by have := unl_set (listed := listed) (i := j') (by omega) h1 (n := ops.length) hjl; omega) hc
   ·have := List.pairwise_append.1 hp
    exact List.pairwise_append.2 ⟨this.1, (List.pairwise_cons.1 this.2.1).2, fun x hx y hy => this.2.2 x hx y (List.mem_cons_of_mem _ hy)⟩
   ·intro i hi
    rw [getD_set (by omega)]
    by_cases hij : i = j'
    ·rw [if_pos hij]
     refine ⟨fun h => (by cases h), fun hm => ?_⟩
     rw [hij] at hm
     exact (hnd2.1 hm).elim
    ·rw [if_neg hij, hiff i hi, hmp, List.map_append, List.mem_append, List.mem_append, List.mem_cons]
     constructor
     ·rintro (h | h | h)
      ·exact .inl h
      ·exact (hij h).elim
      ·exact .inr h
     ·rintro (h | h)
      ·exact .inl h
      ·exact .inr (.inr h)
   ·intro x hx
    rcases List.mem_append.1 hx with h | h
    ·exact hlt x (List.mem_append_left _ h)
    ·exact hlt x (List.mem_append_right _ (List.mem_cons_of_mem _ h))
   ·intro i o2 hli ho2 e he hb
    rw [getD_set (by omega)] at hli ⊢
    by_cases hij : i = j'
    ·subst hij
     rw [hop] at ho2
     obtain rfl := Option.some.inj ho2
     split
     ·rfl
     ·exact hedge e he hb
    ·rw [if_neg hij] at hli
     split
     ·rfl
     ·exact hcl i o2 hli ho2 e he hb
  unfold wpOp
  simp only [ho]
  cases b with
  | true =>
   have hone : smW S P ops o (canW S P ops Q (r1 ++ r2)) a w := hone
   unfold smW wantd at hone
   split
   ·rename_i hw
    rw [if_pos hw] at hone
    obtain ⟨v, hv, hk⟩ := hone
    refine .inl ?_
    unfold Oper.wp
    rw [hv w (canW_S h)]
    exact next _ _ hk
   ·rename_i hw
    rw [if_neg hw] at hone
    exact next _ _ hone
  | false =>
   have hone : bgW P ops o (canW S P ops Q (r1 ++ r2)) a w := hone
   unfold bgW wantd at hone
   split
   ·rename_i hw
    rw [if_pos hw] at hone
    exact .inl (upon_any (Oper.wp_mono next hone))
   ·rename_i hw
    rw [if_neg hw] at hone
    exact next _ _ hone
end
def nthO : List Oper → Nat → Option Oper
 | [], _ => none
 | o :: _, 0 => some o
 | _ :: r, n + 1 => nthO r n
theorem nthO_iff : ∀ {l : List Oper} {n : Nat} {o : Oper}, nthO l n = some o → l[n]? = some o
 | [], _, _, h => by cases h
 | _ :: _, 0, _, h => by
  have h := Option.some.inj h
  simp [h]
 | _ :: r, n + 1, o, h => by
  have := nthO_iff (l := r) (n := n) h
  simpa using this
def smX (T : List (Nat × TI)) (N : Nat) (ops : List Oper) (pf : Bool) (o : Oper) (st : St) (k : St → Prop) : Prop :=
 match st with
 | ⟨K, O, nid⟩ => (match o.op with
  | .move x => (match tagsOf ops K o.guard with
   | some tg => withA (evalO K tg x) fun a => putS N o.dst tg a K O nid k
   | none => False)
  | .indexAddr t (.tmp x) (.tmp i) => (match o.guard, find x K, find i K, tget t T with
   | none, some ([], .rs sz n get), some ([], .i _ q), some ti => (match sliceD ti.desc with
    | some e => (match tget e T with
     | some te => (match Nat.beq sz te.size with
      | true => (0 ≤ q ∧ q < (n : Int)) ∧ putS N o.dst [] (.rp (get q.toNat)) K O nid k
      | false => False)
     | none => False)
    | none => False)
   | _, _, _, _ => False)
  | .load t (.tmp x) => (match pf, o.guard, find x K, tget t T with
   | true, none, some ([], .rp cs), some ti => dropTakeK 0 ti.size cs fun l => packK ti.agg l fun r => putS N o.dst [] r K O nid k
   | _, _, _, _ => False)
  | _ => False)
def execBs (P : Program) (T : List (Nat × TI)) (N : Nat) (ops : List Oper) : List (Nat × Bool) → Bool → St → (St → Prop) → Prop
 | [], _, st, k => k st
 | (i, b) :: r, pf, st, k => (match nthO ops i with
  | none => False
  | some o => (match b with
   | true => smX T N ops pf o st fun st' => execBs P T N ops r pf st' k
   | false => stepX P T N ops o st fun st' => execBs P T N ops r false st' k))
def dstNot (d : Option Nat) (l : List Nat) : Bool :=
 match d with
 | none => true
 | some d => (match memN d l with
  | true => false
  | false => true)
def dstNe (d e : Option Nat) : Bool :=
 match d, e with
 | some d, some e => (match Nat.beq d e with
  | true => false
  | false => true)
 | _, _ => true
def apartB (ops : List Oper) (x y : Oper) : Bool :=
 match knownO x.op, knownO y.op, dstNot x.dst (lookS ops y), dstNot y.dst (lookS ops x), dstNe x.dst y.dst with
 | true, true, true, true, true => true
 | _, _, _, _, _ => false
def pairB (ops : List Oper) (M : List Nat) (x y : Nat × Bool) : Bool :=
 match Nat.testBit (M.getD y.1 0) x.1 with
 | true => true
 | false => (match x.2, nthO ops x.1, nthO ops y.1 with
  | true, some ox, some oy => apartB ops ox oy
  | _, _, _ => false)
def pairL (ops : List Oper) (M : List Nat) (x : Nat × Bool) : List (Nat × Bool) → Bool
 | [] => true
 | y :: r => match pairB ops M x y with
  | true => pairL ops M x r
  | false => false
def pairsB (ops : List Oper) (M : List Nat) : List (Nat × Bool) → Bool
 | [] => true
 | x :: r => match pairL ops M x r with
  | true => pairsB ops M r
  | false => false
def backsB : List Oper → Nat → Bool
 | [], _ => true
 | o :: r, i => match o.after with
  | ⟨es⟩ => (match backB i es with
   | true => backsB r (i + 1)
   | false => false)
def marksB (M : List Nat) : List Oper → List Nat → Bool
 | [], [] => true
 | o :: r, m :: t => match o.after with
  | ⟨es⟩ => (match Nat.beq m (eMask M es) with
   | true => marksB M r t
   | false => false)
 | _, _ => false
def fsts : List (Nat × Bool) → List Nat
 | [] => []
 | x :: r => x.1 :: fsts r
def covN : Nat → List Nat → Bool
 | 0, _ => true
 | n + 1, l => match memN n l with
  | true => covN n l
  | false => false
def allLt (n : Nat) : List Nat → Bool
 | [] => true
 | x :: r => match Nat.blt x n with
  | true => allLt n r
  | false => false
def checkB (ops : List Oper) (σ : List (Nat × Bool)) (M : List Nat) : Bool :=
 match pairsB ops M σ, backsB ops 0, marksB M ops M, nodupN (fsts σ), covN ops.length (fsts σ), allLt ops.length (fsts σ) with
 | true, true, true, true, true, true => true
 | _, _, _, _, _, _ => false
def execB (P : Program) (T : List (Nat × TI)) (N : Nat) (ops : List Oper) (st : St) (k : St → Prop) : Prop :=
 ∃ (σ : List (Nat × Bool)) (M : List Nat), checkB ops σ M = true ∧ execBs P T N ops σ true st k
theorem memN_iff {d : Nat} : ∀ {l : List Nat}, memN d l = true ↔ d ∈ l
 | [] => by simp [memN]
 | x :: r => by
  unfold memN
  split
  ·rename_i h
   have : d = x := by simpa using h
   simp [this]
  ·rename_i h
   have : d ≠ x := beq_false_ne h
   rw [memN_iff (l := r)]
   simp [this]
theorem fsts_eq : ∀ l : List (Nat × Bool), fsts l = l.map (·.1)
 | [] => rfl
 | x :: r => by simp [fsts, fsts_eq r]
theorem apartB_iff {ops : List Oper} {x y : Oper} (h : apartB ops x y = true) : Apart ops x y := by
 have nn : ∀ {d : Option Nat} {l : List Nat}, dstNot d l = true → ∀ e, d = some e → e ∉ l := by
  intro d l h e he hm
  subst he
  unfold dstNot at h
  dsimp only at h
  rw [memN_iff.2 hm] at h
  cases h
 unfold apartB at h
 split at h
 ·rename_i h1 h2 h3 h4 h5
  refine ⟨h1, h2, fun d hd => nn h3 d hd, fun d hd => nn h4 d hd, fun d e hd he hde => ?_⟩
  rw [hd, he] at h5
  unfold dstNe at h5
  simp [hde] at h5
 ·cases h
theorem pairB_iff {ops : List Oper} {M : List Nat} {x y : Nat × Bool} (h : pairB ops M x y = true) : PairP ops M x y := by
 unfold pairB at h
 split at h
 ·rename_i h1
  exact .inl h1
 ·split at h
  ·rename_i ox oy h1 h2 h3
   exact .inr ⟨h1, ox, oy, nthO_iff h2, nthO_iff h3, apartB_iff h⟩
  ·cases h
theorem pairL_iff {ops : List Oper} {M : List Nat} {x : Nat × Bool} : ∀ {l : List (Nat × Bool)}, pairL ops M x l = true → ∀ y ∈ l, PairP ops M x y
 | [], _, y, hy => by cases hy
 | z :: r, h, y, hy => by
  unfold pairL at h
  split at h
  ·rename_i h1
   rcases List.mem_cons.1 hy with rfl | hy
   ·exact pairB_iff h1
   ·exact pairL_iff h y hy
  ·cases h
theorem pairsB_iff {ops : List Oper} {M : List Nat} : ∀ {l : List (Nat × Bool)}, pairsB ops M l = true → l.Pairwise (PairP ops M)
 | [], _ => List.Pairwise.nil
 | x :: r, h => by
  unfold pairsB at h
  split at h
  ·rename_i h1
   exact List.Pairwise.cons (pairL_iff h1) (pairsB_iff h)
  ·cases h
theorem backsB_iff : ∀ {l : List Oper} {i : Nat}, backsB l i = true → ∀ j, (hj : j < l.length) → ∀ e ∈ l[j].after.toList, Region.binds .any e = true → e.on < i + j
 | [], _, _, j, hj => by simp at hj
 | o :: r, i, h, j, hj => by
  unfold backsB at h
  split at h
  rename_i es he
  split at h
  ·rename_i h1
   cases j with
   | zero =>
    have e0 : (o :: r)[0].after.toList = es := by simp [he]
    rw [e0]
    exact backB_iff h1
   | succ j =>
    have := backsB_iff (l := r) (i := i + 1) h j (by simpa using hj)
    have e1 : i + 1 + j = i + (j + 1) := by omega
    rw [e1] at this
    exact this
  ·cases h
theorem marksB_iff {M : List Nat} : ∀ {l : List Oper} {m : List Nat}, marksB M l m = true → ∀ i x, (m.getD i 0).testBit x = true → ∃ o e, l[i]? = some o ∧ e ∈ o.after.toList ∧ Region.binds .any e = true ∧ (x = e.on ∨ (M.getD e.on 0).testBit x = true)
 | [], [], _, i, x, hx => by simp at hx
 | o :: r, m :: t, h, i, x, hx => by
  unfold marksB at h
  split at h
  rename_i es he
  split at h
  ·rename_i h1
   cases i with
   | zero =>
    have e0 : o.after.toList = es := by simp [he]
    have hx : m.testBit x = true := by simpa using hx
    rw [Nat.eq_of_beq_eq_true h1] at hx
    obtain ⟨e, g1, g2, g3⟩ := eMask_iff hx
    exact ⟨o, e, by simp, by rw [e0]; exact g1, g2, g3⟩
   | succ i =>
    have hx : (t.getD i 0).testBit x = true := by simpa using hx
    obtain ⟨o2, e, g1, g2⟩ := marksB_iff (l := r) (m := t) h i x hx
    exact ⟨o2, e, by simpa using g1, g2⟩
  ·cases h
 | [], _ :: _, h, _, _, _ => by cases h
 | _ :: _, [], h, _, _, _ => by cases h
theorem covN_iff : ∀ {n : Nat} {l : List Nat}, covN n l = true → ∀ i, i < n → i ∈ l
 | 0, _, _, i, hi => by omega
 | n + 1, l, h, i, hi => by
  unfold covN at h
  split at h
  ·rename_i h1
   by_cases hin : i = n
   ·rw [hin]; exact memN_iff.1 h1
   ·exact covN_iff h i (by omega)
  ·cases h
theorem allLt_iff {n : Nat} : ∀ {l : List Nat}, allLt n l = true → ∀ x ∈ l, x < n
 | [], _, x, hx => by cases hx
 | y :: r, h, x, hx => by
  unfold allLt at h
  split at h
  ·rename_i h1
   rcases List.mem_cons.1 hx with rfl | hx
   ·exact blt_lt h1
   ·exact allLt_iff h x hx
  ·cases h
section
variable {C : Cx} {G A' : Nat → Prop} {P : Program} {T : List (Nat × TI)} {w w1 : World} {N : Nat} {a : Act}
def SimP (C : Cx) (G A' : Nat → Prop) (w : World) (N : Nat) (pf : Bool) (st : St) (a : Act) (w1 : World) : Prop :=
 ∃ β, SimF A' G w N (fun s => find s st.K) (fun id => getO id st.O) st.nid β a w1 ∧ Agr C β st.nid ∧ (pf = true → w1 = w ∧ ∀ b, A' b → FO G (fun id => getO id st.O) β a b)
theorem putS_P {d : Option Nat} {tg : Tags} {r : AV} {K : List KE} {O : List OE} {nid : Nat} {k : St → Prop} {pf : Bool} {β : Bd} {v : Value} (S : SimF A' G w N (fun s => find s K) (fun id => getO id O) nid β a w1) (hag : Agr C β nid)
  (hp : pf = true → w1 = w ∧ ∀ b, A' b → FO G (fun id => getO id O) β a b) (h : putS N d tg r K O nid k) (hr : sat tg a → Rep β nid (FO G (fun id => getO id O) β a) w1 r v) (hu : ¬ sat tg a → v = undef) :
  ∃ st', k st' ∧ SimP C G A' w N pf st' (a.put d v) w1 := by
 obtain ⟨K', hk, hK, hd⟩ := putS_iff h
 refine ⟨_, hk, β, ?_, hag, fun h => ⟨(hp h).1, fun b hb => ?_⟩⟩
 ·have := S.put d tg r v hd hr hu
  show SimF A' G w N (fun s => find s K') (fun id => getO id O) nid β (a.put d v) w1
  rw [hK]
  exact this
 ·rcases (hp h).2 b hb with h1 | ⟨id, g, o, h1, h2, h3⟩
  ·exact .inl h1
  ·refine .inr ⟨id, g, o, h1, ?_, h3⟩
   cases d with
   | none => exact h2
   | some n => exact (sat_put ((hd n rfl).2.2.2 id g o h1)).2 h2
theorem smX_sound (hT : TabOk P T) {ops : List Oper} {pf : Bool} {o : Oper} {st : St} {k : St → Prop} (S : SimP C G A' w N pf st a w1) (h : smX T N ops pf o st k) :
  smW (fun w' => Frame A' w w') P ops o (fun a2 w2 => ∃ st', k st' ∧ SimP C G A' w N pf st' a2 w2) a w1 := by
 obtain ⟨K, O, nid⟩ := st
 obtain ⟨β, S, hag, hp⟩ := S
 dsimp only at S hag hp
 unfold smX at h
 dsimp only at h
 split at h
 ·rename_i x hop
  split at h
  ·rename_i tg htg
   obtain ⟨r, hr, h⟩ := withA_iff h
   have hw := wanted_iff (C := ⟨A', C.m, C.β0⟩) S htg
   unfold smW wantd
   by_cases hs : sat tg a
   ·rw [if_pos (hw.2 hs)]
    refine ⟨a.eval x, fun w' _ => by simp [execOp, hop], ?_⟩
    exact putS_P S hag hp h (fun _ => evalO_sound (C := ⟨A', C.m, C.β0⟩) S hs x r hr) (fun hn => (hn hs).elim)
   ·rw [if_neg (fun hwt => hs (hw.1 hwt))]
    exact putS_P S hag hp h (fun hs' => (hs hs').elim) (fun _ => rfl)
  ·exact h.elim
 ·rename_i t x i hop
  split at h
  ·rename_i sz n get kk q ti hg hx hi hti
   split at h
   ·rename_i e he
    split at h
    ·rename_i te hte
     split at h
     ·rename_i hsz
      have hsz : sz = te.size := by simpa using hsz
      obtain ⟨hq, h⟩ := h
      have hv := ((S.kf x [] _ hx).1 (sat_nil a)).rs_inv
      have hu := ((S.kf i [] _ hi).1 (sat_nil a)).i_inv
      unfold smW wantd
      have hwt : Region.wanted o (yielded ops.toArray a.tmps) = true := by simp [Region.wanted, hg]
      rw [if_pos hwt]
      generalize hvx : a.tmps.getD x undef = vx at hv
      have ex : a.eval (.tmp x) = vx := hvx
      have ei : a.eval (.tmp i) = .int kk q := hu
      cases hv with
      | rsnil => exact absurd hq (by simp)
      | rsz => exact absurd hq (by simp)
      | rs _ _ _ g off cap vs hn hm hF hgl hlen hc h1' hr =>
       have hlt : q.toNat < n := by omega
       refine ⟨.pointer (some ⟨g, off + q.toNat * te.size, none⟩), fun w' _ => ?_, ?_⟩
       ·simp only [execOp, hop]
        rw [ex, ei]
        exact run_value (indexAt_run hT hti he hte g off n cap kk q hq)
       ·refine putS_P S hag hp h (fun _ => .pure _ _ (.rp _ g _ (fun j => vs q.toNat j) hF hgl ?_ ?_ ?_)) (fun hn => (hn (sat_nil a)).elim)
        ·intro j hj
         rw [hlen _ hlt] at hj
         rw [← hsz]
         exact hc _ _ hlt hj
        ·intro j hj
         rw [hlen _ hlt] at hj
         exact h1' _ _ hlt hj
        ·intro j hj
         exact hr _ _ hlt hj
     ·exact h.elim
    ·exact h.elim
   ·exact h.elim
  ·exact h.elim
 ·rename_i t x hop
  split at h
  ·rename_i cs ti hg hx hti
   obtain ⟨hsz, h⟩ := dropTakeK_iff h
   have hv := ((S.kf x [] _ hx).1 (sat_nil a)).rp_inv
   unfold smW wantd
   have hwt : Region.wanted o (yielded ops.toArray a.tmps) = true := by simp [Region.wanted, hg]
   rw [if_pos hwt]
   generalize hvx : a.tmps.getD x undef = vx at hv
   have ex : a.eval (.tmp x) = vx := hvx
   obtain ⟨hw1, hA⟩ := hp rfl
   cases hv with
   | rp _ g off vs hF hgl hc h1' hr =>
    have hgA : ¬ A' g := fun ha => hF (hA g ha)
    have hcw : ∀ w', Frame A' w w' → ∀ j, j < cs.length → w'.cell? ⟨g, off + j, none⟩ = some (vs j) := fun w' hf j hj => by
     rw [World.cell?_of_block (w := w1) (by rw [hf.block g (by rw [← hw1]; exact hgl) hgA, hw1])]
     exact hc j hj
    have hrun : ∀ w', Frame A' w w' → (ti.agg = true → (loadVar t ⟨g, off, none⟩).run P w' = .ok (.agg ((List.range ti.size).map vs).toArray) w') ∧ (ti.agg = false → ∀ h : 0 < ((List.range ti.size).map vs).length, (loadVar t ⟨g, off, none⟩).run P w' = .ok ((List.range ti.size).map vs)[0] w') := fun w' hf =>
     load_run (hT.get hti) g off ((List.range ti.size).map vs) (by simp) fun j hj => by
      simp at hj
      simpa using hcw w' hf j (by omega)
    have hload : ∀ w' z, (loadVar t ⟨g, off, none⟩).run P w' = .ok z w' → (execOp a.eval o).run P w' = .ok (.value z) w' := fun w' z hz => by
     simp only [execOp, hop]
     rw [ex]
     exact run_value (by simpa [Instr.loadAt, Instr.sureAddr] using hz)
    unfold packK at h
    split at h
    ·rename_i l hagg
     refine ⟨.agg ((List.range ti.size).map vs).toArray, fun w' hf => hload w' _ ((hrun w' hf).1 hagg), ?_⟩
     refine putS_P S hag hp h (fun _ => .pure _ _ (.ag _ _ (by simp; omega) fun j g1 g2 => ?_)) (fun hn => (hn (sat_nil a)).elim)
     simp at g1 g2
     simpa using hr j (by omega)
    ·rename_i z hagg hl
     have hlen : ((cs.drop 0).take ti.size).length = 1 := by rw [hl]; rfl
     have hsz1 : ti.size = 1 := by
      simp at hlen
      omega
     have h0 : 0 < ((List.range ti.size).map vs).length := by simp; omega
     refine ⟨((List.range ti.size).map vs)[0], fun w' hf => hload w' _ ((hrun w' hf).2 hagg h0), ?_⟩
     refine putS_P S hag hp h (fun _ => .pure _ _ ?_) (fun hn => (hn (sat_nil a)).elim)
     have hz : z = cs[0]'(by omega) := by
      have := congrArg (fun l => l[0]?) hl
      simp [hsz1] at this
      have h2 : 0 < cs.length := by omega
      simp [h2] at this
      exact this.symm
     rw [hz]
     simpa using hr 0 (by omega)
    ·exact h.elim
  ·exact h.elim
 ·exact h.elim
theorem execBs_can (hT : TabOk P T) {ops : List Oper} {k : St → Prop} : ∀ {σ : List (Nat × Bool)} {pf : Bool} {st : St} {a : Act} {w1 : World}, SimP C G A' w N pf st a w1 → execBs P T N ops σ pf st k →
  canW (fun w' => Frame A' w w') P ops (fun a2 w2 => ∃ st', k st' ∧ SimP C G A' w N false st' a2 w2) σ a w1
 | [], pf, st, a, w1, S, h => by
  obtain ⟨β, S, hag, _⟩ := S
  exact ⟨S.below, st, h, β, S, hag, fun h => by cases h⟩
 | (i, b) :: r, pf, st, a, w1, S, h => by
  have hS : Frame A' w w1 := by
   obtain ⟨β, S, _⟩ := S
   exact S.below
  unfold execBs at h
  split at h
  ·exact h.elim
  ·rename_i o ho
   refine ⟨hS, o, nthO_iff ho, ?_⟩
   split at h
   ·show smW _ P ops o _ a w1
    exact smW_mono (fun a2 w2 ⟨st', hk, S'⟩ => execBs_can hT S' hk) (smX_sound hT S h)
   ·show bgW P ops o _ a w1
    obtain ⟨β, S, hag, _⟩ := S
    have S0 : Sim ⟨A', C.m, C.β0⟩ G w N st a w1 := ⟨β, S, ⟨hag.ag, hag.le⟩⟩
    exact stepX_sound (Q := NoQ) (next := canW (fun w' => Frame A' w w') P ops (fun a2 w2 => ∃ st', k st' ∧ SimP C G A' w N false st' a2 w2) r) hT (fun st2 a2 w2 hk2 hs2 => by
     obtain ⟨β2, S2, hag2⟩ := hs2
     exact execBs_can hT (pf := false) ⟨β2, S2, ⟨hag2.ag, hag2.le⟩, fun h => by cases h⟩ hk2) S0 h
end
section
variable {C : Cx} {G : Nat → Prop} {P : Program} {T : List (Nat × TI)} {w0 w : World} {N : Nat} {a : Act}
theorem sim_drawn {st : St} (S : Sim C G w0 N st a w) : Sim C G w0 N st a { w with drawn := w.drawn + 1 } := by
 obtain ⟨β, S, hag⟩ := S
 refine ⟨β, ?_, hag⟩
 refine ⟨S.gold, ⟨S.below.os, S.below.tape, S.below.output, S.below.size, S.below.block, S.below.drawn⟩, S.tsz, S.dfs, fun s g av hs => ⟨fun h => ((S.kf s g av hs).1 h).stable (w' := { w with drawn := w.drawn + 1 }) (fun _ _ h => h) (fun _ _ _ => rfl) (Nat.le_refl _), (S.kf s g av hs).2⟩, fun id g x hx => ⟨(S.of id g x hx).1, fun h => ?_⟩, S.allow, S.dist⟩
 exact ((S.of id g x hx).2 h).stable (w' := { w with drawn := w.drawn + 1 }) (S.of id g x hx).1 (Nat.le_refl _) (fun _ _ => ⟨rfl, rfl⟩) (fun _ _ h => h) (fun _ _ _ => rfl) (Nat.le_refl _) (fun _ _ => rfl)
theorem execB_sound (hT : TabOk P T) {ops : List Oper} {Q : Exit → Act → World → Prop} {id : Nat} {st : St} {k : St → Prop} (S : Sim C G w0 N st a w) (h : execB P T N ops st k)
  (hq : ∀ st' a' w', k st' → Sim C G w0 N st' a' w' → Q .normal a' w') : (Code.region id ops.toArray true).wp P Q a w := by
 obtain ⟨σ, M, hchk, h⟩ := h
 unfold checkB at hchk
 split at hchk
 ·rename_i c1 c2 c3 c4 c5 c6
  refine wp_region_any hT.mixed ?_
  have S1 := sim_drawn S
  generalize hwd : ({ w with drawn := w.drawn + 1 } : World) = wd at S1
  have hM : GoodM ops M := marksB_iff c3
  have hback : ∀ i, (hi : i < ops.length) → ∀ e ∈ ops[i].after.toList, Region.binds .any e = true → e.on < i := fun i hi e he hb => by
   have := backsB_iff c2 i hi e he hb
   omega
  obtain ⟨K, O, nid⟩ := st
  obtain ⟨β, S1, hag⟩ := S1
  dsimp only at S1 hag
  let A' : Nat → Prop := fun b => ∃ id g o, getO id O = some (g, o) ∧ sat g a ∧ ownB β id o b
  have hP : SimP C G A' wd N true ⟨K, O, nid⟩ a wd :=
   ⟨β, ⟨fun b hb => Nat.lt_of_lt_of_le (S1.gold b hb) S1.below.size, ⟨rfl, rfl, rfl, Nat.le_refl _, fun _ _ _ => rfl, Nat.le_refl _⟩, S1.tsz, S1.dfs, S1.kf, S1.of, fun id g o b h1 h2 h3 => .inl ⟨id, g, o, h1, h2, h3⟩, S1.dist⟩, hag, fun _ => ⟨rfl, fun b hb => .inr hb⟩⟩
  have hcan := execBs_can hT hP h
  have back : ∀ a' w', (∃ st', k st' ∧ SimP C G A' wd N false st' a' w') → Q .normal a' w' := by
   rintro a' w' ⟨st', hk, β', S', hag', _⟩
   refine hq st' a' w' hk ⟨β', ?_, hag'⟩
   refine ⟨S1.gold, ⟨S'.below.os.trans S1.below.os, S'.below.tape.trans S1.below.tape, S'.below.output.trans S1.below.output, Nat.le_trans S1.below.size S'.below.size, fun b hb hA => ?_, Nat.le_refl _⟩, S'.tsz, S'.dfs, S'.kf, S'.of, fun id g o b h1 h2 h3 => ?_, S'.dist⟩
   ·rw [S'.below.block b (Nat.lt_of_lt_of_le hb S1.below.size) ?_]
    ·exact S1.below.block b hb hA
    ·rintro ⟨id, g, o, h1, h2, h3⟩
     rcases S1.allow id g o b h1 h2 h3 with h | h
     ·exact hA h
     ·omega
   ·rcases S'.allow id g o b h1 h2 h3 with ⟨id', g', o', g1, g2, g3⟩ | h
    ·exact S1.allow id' g' o' b g1 g2 g3
    ·exact .inr (Nat.le_trans S1.below.size h)
  have hsz : (Array.replicate ops.toArray.size false).size = ops.length := by simp
  have hnone : ∀ i, (Array.replicate ops.toArray.size false).getD i false = false := fun i => by
   simp [Array.getElem?_replicate]
   split <;> rfl
  have hnd := nodupN_iff c4
  rw [fsts_eq] at hnd
  have hcov := covN_iff c5
  have hlt := allLt_iff c6
  rw [fsts_eq] at hcov hlt
  have hun : unl (Array.replicate ops.toArray.size false) ops.length ≤ ops.toArray.size := by
   have : ∀ (l : Array Bool) n, unl l n ≤ n := by
    intro l n
    induction n with
    | zero => exact Nat.le_refl _
    | succ n ih => simp only [unl]; split <;> omega
   simpa using this _ ops.length
  exact orders back hM hback ops.toArray.size σ _ a wd (pairsB_iff c1) hnd (fun i hi => ⟨fun _ => hcov i hi, fun _ => hnone i⟩) (fun x hx => hlt x.1 (List.mem_map.2 ⟨x, hx, rfl⟩)) hsz
   (fun i o hl => by rw [hnone i] at hl; cases hl) hun hcan
 ·cases hchk
end
end Go.Eng
end
