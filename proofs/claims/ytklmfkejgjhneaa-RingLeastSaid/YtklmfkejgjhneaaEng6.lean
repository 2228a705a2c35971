/-
  The engine, sixth part: rows and structs that are made, and append.
-/
import Derived.Test.YtklmfkejgjhneaaEng5
namespace Go.Eng
open Go.RowKit
section
variable {P : Program} {β : Bd} {nid : Nat} {F : Nat → Prop} {w : World} {lk : Nat → Option AO} {k : Eff → Prop}

/-! ### filling -/
def fillK (pl : Nat → Option (Nat × Nat)) : List (Nat × AV) → List AV → (List AV → Prop) → Prop
  | [], flat, k => k flat
  | (i, a) :: r, flat, k => match pl i with
    | none => False
    | some (off, sz) => cellsK a fun cs => match cs with
      | [] => False
      | c :: cs => (match Nat.beq (c :: cs).length sz with
        | true => overK off (c :: cs) flat fun flat' => fillK pl r flat' k
        | false => False)

theorem fold_set (off : Nat) : ∀ (l : List Value) (m : Nat) (cells : Array Value) , off + m + l.length ≤ cells.size →
    ((l.zipIdx m).foldl (fun cs (c, j) => cs.setIfInBounds (off + j) c) cells).size = cells.size ∧
    ∀ q : Nat, ((l.zipIdx m).foldl (fun cs (c, j) => cs.setIfInBounds (off + j) c) cells)[q]? = if off + m ≤ q ∧ q < off + m + l.length then l[q - (off + m)]? else cells[q]?
  | [], m, cells, _ => ⟨rfl, fun q => by
      rw [if_neg (by simp)]
      rfl⟩
  | c :: l, m, cells, h => by
    have ih := fold_set off l (m + 1) (cells.setIfInBounds (off + m) c) (by simp at h ⊢; omega)
    simp only [List.zipIdx_cons, List.foldl_cons]
    refine ⟨by rw [ih.1]; simp, fun q => ?_⟩
    rw [ih.2 q]
    simp only [List.length_cons] at h ⊢
    by_cases h1 : off + (m + 1) ≤ q ∧ q < off + (m + 1) + l.length
    · rw [if_pos h1, if_pos (by omega)]
      have e : q - (off + m) = q - (off + (m + 1)) + 1 := by omega
      rw [e, List.getElem?_cons_succ]
    · rw [if_neg h1, Array.getElem?_setIfInBounds]
      by_cases h2 : off + m = q
      · subst h2
        rw [if_pos rfl, if_pos (by omega), if_pos (by omega)]
        simp
      · rw [if_neg h2, if_neg (by omega)]

def CellsRel (β : Bd) (nid : Nat) (F : Nat → Prop) (w : World) (flat : List AV) (cells : Array Value) : Prop :=
  flat.length = cells.size ∧ ∀ (j : Nat) (h1 : j < flat.length) (h2 : j < cells.size), Rep β nid F w flat[j] cells[j] ∧ cells[j].oneCell' = true

theorem fillK_sound (pl : Nat → Option (Nat × Nat)) : ∀ (parts : List (Nat × AV)) (vals : List (Nat × Value)) (flat : List AV) (cells : Array Value) {q : List AV → Prop},
    parts.length = vals.length → (∀ (j : Nat) (h1 : j < parts.length) (h2 : j < vals.length), parts[j].1 = vals[j].1 ∧ Rep β nid F w parts[j].2 vals[j].2) →
    CellsRel β nid F w flat cells → fillK pl parts flat q →
    ∃ flat' cells', Instr.fill pl cells vals = some cells' ∧ CellsRel β nid F w flat' cells' ∧ q flat' ∧ cells'.size = cells.size
  | [], [], flat, cells, q, _, _, hrel, h => ⟨flat, cells, rfl, hrel, h, rfl⟩
  | [], _ :: _, _, _, _, hl, _, _, _ => by simp at hl
  | _ :: _, [], _, _, _, hl, _, _, _ => by simp at hl
  | (i, a) :: r, (i', v) :: rv, flat, cells, q, hl, hr, hrel, h => by
    have h0 := hr 0 (by simp) (by simp)
    simp only [List.getElem_cons_zero] at h0
    obtain ⟨rfl, hv⟩ := h0
    unfold fillK at h
    split at h
    · exact h.elim
    · rename_i off sz hpl
      have hq := cellsK_iff h
      clear h
      obtain ⟨cs, h, hcs⟩ := hq
      obtain ⟨vs, hvc, hlen, hus⟩ := cells_rep hv hcs
      split at h
      · exact h.elim
      · rename_i c cs
        split at h
        · rename_i hsz
          have hsz : (c :: cs).length = sz := by simpa using hsz
          obtain ⟨hfit, h⟩ := overK_iff h
          have hfit : off + (c :: cs).length ≤ flat.length := hfit.resolve_left (by simp)
          have hfs := fold_set off vs 0 cells (by rw [← hrel.1, ← hlen]; simpa using hfit)
          simp only [Nat.add_zero] at hfs
          have hrel' : CellsRel β nid F w (over off (c :: cs) flat) ((vs.zipIdx 0).foldl (fun cs (c, j) => cs.setIfInBounds (off + j) c) cells) := by
            refine ⟨by rw [over_len hfit, hfs.1]; exact hrel.1, fun j h1 h2 => ?_⟩
            have hj : ((vs.zipIdx 0).foldl (fun cs (c, j) => cs.setIfInBounds (off + j) c) cells)[j]? = some (((vs.zipIdx 0).foldl (fun cs (c, j) => cs.setIfInBounds (off + j) c) cells)[j]) := Array.getElem?_eq_getElem h2
            rw [hfs.2 j] at hj
            rw [(over_get hfit j h1).2]
            by_cases hin : off ≤ j ∧ j < off + (c :: cs).length
            · rw [dif_pos hin]
              rw [if_pos (by rw [← hlen]; exact hin), List.getElem?_eq_getElem (by omega)] at hj
              rw [← Option.some.inj hj]
              exact hus (j - off) (by omega) (by omega)
            · rw [dif_neg hin]
              rw [over_len hfit] at h1
              have h1' := h1
              rw [hrel.1] at h1'
              rw [if_neg (by rw [← hlen]; exact hin), Array.getElem?_eq_getElem h1'] at hj
              rw [← Option.some.inj hj]
              exact hrel.2 j h1 h1'
          obtain ⟨flat', cells', hfill, hrel'', hq, hcsz⟩ := fillK_sound pl r rv _ _ (by simpa using hl) (fun j h1 h2 => hr (j + 1) (Nat.succ_lt_succ h1) (Nat.succ_lt_succ h2)) hrel' h
          refine ⟨flat', cells', ?_, hrel'', hq, hcsz.trans hfs.1⟩
          have hvs : v.cells.size = sz := by rw [hvc]; simp; omega
          have hcond : ¬ (v.cells.size ≠ sz ∨ off + v.cells.size > cells.size) := by
            have := hrel.1
            omega
          have hzip : v.cells.zipIdx.foldl (fun cs (c, j) => cs.setIfInBounds (off + j) c) cells = (vs.zipIdx 0).foldl (fun cs (c, j) => cs.setIfInBounds (off + j) c) cells := by
            rw [hvc]
            simp
          have hc2 : (decide (v.cells.size ≠ sz) || decide (off + v.cells.size > cells.size)) = false := by
            simp only [Bool.or_eq_false_iff, decide_eq_false_iff_not]
            exact ⟨fun h => hcond (.inl h), fun h => hcond (.inr h)⟩
          simp only [Instr.fill, hpl]
          rw [if_neg (by rw [hc2]; simp), hzip]
          exact hfill
        · exact h.elim

/-! ### a slice written out -/
def repL (l : List AV) : Nat → List AV
  | 0 => []
  | n + 1 => l ++ repL l n
def appL : List AV → List AV → List AV
  | [], m => m
  | a :: r, m => a :: appL r m
def repK (z : List AV) : Nat → (List AV → Prop) → Prop
  | 0, k => k []
  | n + 1, k => repK z n fun l => k (appL z l)
theorem appL_eq : ∀ l m : List AV, appL l m = l ++ m
  | [], m => rfl
  | a :: r, m => by simp [appL, appL_eq r m]
theorem repK_iff {z : List AV} : ∀ {n : Nat} {q : List AV → Prop}, repK z n q → q (repL z n)
  | 0, _, h => h
  | n + 1, q, h => by
    have := repK_iff (n := n) h
    rwa [appL_eq] at this
theorem length_repL (z : List AV) : ∀ n, (repL z n).length = n * z.length
  | 0 => by simp [repL]
  | n + 1 => by simp [repL, length_repL z n, Nat.succ_mul, Nat.add_comm]
theorem repL_get (z : List AV) : ∀ (n j : Nat) (h : j < (repL z n).length) (hz : j % z.length < z.length), (repL z n)[j] = z[j % z.length]
  | 0, j, h, _ => by simp [repL] at h
  | n + 1, j, h, hz => by
    simp only [repL] at h ⊢
    by_cases hj : j < z.length
    · rw [List.getElem_append_left hj]
      congr 1
      exact (Nat.mod_eq_of_lt hj).symm
    · rw [List.getElem_append_right (by omega)]
      have e : (j - z.length) % z.length = j % z.length := (Nat.mod_eq_sub_mod (by omega)).symm
      rw [repL_get z n _ _ (by rw [e]; exact hz)]
      congr 1

def zeroL (v : Value) : List AV :=
  match avOf v with
  | .ag l => l
  | a => [a]
theorem zeroL_spec (v : Value) : (zeroL v).length = v.cells.size ∧ ∀ (j : Nat) (h1 : j < (zeroL v).length) (h2 : j < v.cells.size), Rep0 F w (zeroL v)[j] v.cells[j] := by
  have base : ∀ v : Value, (∀ l, v ≠ .agg l) → zeroL v = [avOf1 v] ∧ v.cells = #[v] := by
    intro v hv
    cases v <;> first | exact ⟨rfl, rfl⟩ | exact absurd rfl (hv _)
  by_cases hv : ∃ l, v = .agg l
  · obtain ⟨⟨l⟩, rfl⟩ := hv
    exact ⟨(avOf1s_spec (F := F) (w := w) l).1, fun j h1 h2 => (avOf1s_spec (F := F) (w := w) l).2 j h1 h2⟩
  · have hb := base v (fun l h => hv ⟨l, h⟩)
    refine ⟨by rw [hb.1, hb.2]; rfl, fun j h1 h2 => ?_⟩
    have h2' := h2
    rw [hb.2] at h2'
    have hj : j = 0 := by simpa using h2'
    subst hj
    have e1 : (zeroL v)[0] = avOf1 v := by simp [hb.1]
    have e2 : v.cells[0] = v := by simp [hb.2]
    rw [e1, e2]
    exact rep_avOf1 v

/-- The q-th row of rows of sz cells laid one after the other. -/
def rowOf (sz : Nat) (flat : List AV) (q : Nat) : List AV := (flat.drop (q * sz)).take sz

def allOne : List Value → Bool
  | [] => true
  | v :: r => match v.oneCell' with
    | true => allOne r
    | false => false
theorem allOne_get : ∀ {l : List Value}, allOne l = true → ∀ v ∈ l, v.oneCell' = true
  | [], _, v, h => by simp at h
  | c :: r, hl, v, h => by
    unfold allOne at hl
    split at hl
    · rename_i hc
      rcases List.mem_cons.1 h with rfl | h
      · exact hc
      · exact allOne_get hl v h
    · cases hl

def buildSliceA (T : List (Nat × TI)) (nid t len : Nat) (parts : List (Nat × AV)) (k : Eff → Prop) : Prop :=
  match tget t T with
  | some ti => (match sliceD ti.desc with
    | some e => (match tget e T with
      | some te => (match te.size, allOne te.zero.cells.toList, Nat.ble (len * te.size) 16777216, Nat.beq te.zero.cells.size te.size with
        | m + 1, true, true, true => repK (zeroL te.zero) len fun z => fillK (fun i => some (i * te.size, te.size)) parts z fun flat => match AV.lts 0 flat with
          | true => k (.ext [.row e te.size len (rowOf (m + 1) flat)] (.so nid))
          | false => False
        | _, _, _, _ => False)
      | none => False)
    | none => False)
  | none => False

theorem buildSliceA_sound {T : List (Nat × TI)} (hT : TabOk P T) {t len : Nat} {parts : List (Nat × AV)} {vals : Array (Nat × Value)} (hpl : parts.length = vals.toList.length)
    (hpr : ∀ (j : Nat) (h1 : j < parts.length) (h2 : j < vals.toList.length), parts[j].1 = vals.toList[j].1 ∧ Rep β nid F w parts[j].2 vals.toList[j].2)
    (h : buildSliceA T nid t len parts k) : ∃ x w', (Instr.buildSlice t len vals).run P w = .ok x w' ∧ PostK β nid F lk w k x w' := by
  unfold buildSliceA at h
  split at h
  · rename_i ti h1
    split at h
    · rename_i e h2
      split at h
      · rename_i te h3
        split at h
        · rename_i m hm hone hbig hzs
          have hbig : len * te.size ≤ 16777216 := by simpa using hbig
          have hzs : te.zero.cells.size = te.size := by simpa using hzs
          have h := repK_iff h
          obtain ⟨hu, _⟩ := hT.get h1
          obtain ⟨_, _, i, hi, hs, _, hz⟩ := hT.get h3
          cases hd : ti.desc <;> simp [sliceD, hd] at h2
          rename_i el
          subst h2
          rw [hd] at hu
          have hzl := zeroL_spec (F := F) (w := w) te.zero
          let zc : Array Value := (Array.range (len * te.size)).map (te.zero.cells[· % te.zero.cells.size]!)
          have hzrel : CellsRel β nid F w (repL (zeroL te.zero) len) zc := by
            refine ⟨by simp [zc, length_repL, hzl.1, hzs], fun j h1 h2 => ?_⟩
            have hjz : j % te.zero.cells.size < te.zero.cells.size := Nat.mod_lt _ (by omega)
            have hjz' : j % (zeroL te.zero).length < (zeroL te.zero).length := by rw [hzl.1]; exact hjz
            have e2 : zc[j] = te.zero.cells[j % te.zero.cells.size] := by simp [zc, hjz]
            rw [repL_get _ _ _ h1 hjz', e2]
            have hz2 := hzl.2 (j % te.zero.cells.size) (by rw [hzl.1]; exact hjz) hjz
            have e3 : (zeroL te.zero)[j % (zeroL te.zero).length] = (zeroL te.zero)[j % te.zero.cells.size]'(by rw [hzl.1]; exact hjz) := by simp only [hzl.1]
            rw [e3]
            exact ⟨.pure _ _ hz2, allOne_get hone _ (by simp)⟩
          obtain ⟨flat, cells, hfill, hrel, hq, hcs'⟩ := fillK_sound (fun i => some (i * te.size, te.size)) parts vals.toList _ zc hpl hpr hzrel h
          split at hq
          · rename_i hpure
            have hcsz : cells.size = len * te.size := by
              rw [hcs']
              simp [zc]
            have hx : (w.alloc (.cells cells el)).ownsRow w.heap.size el te.size (.slice (some ⟨w.heap.size, 0, none⟩) len len) len cells.toList :=
              World.ownsRow_lit w cells len (Nat.le_refl _) (by
                have : len ≤ len * te.size := Nat.le_mul_of_pos_right _ (by omega)
                simp only [maxLen]
                omega) hcsz
            refine ⟨.slice (some ⟨w.heap.size, 0, none⟩) len len, w.alloc (.cells cells el), ?_, _, _, hq, .row el te.size len _ _ cells.toList (below_alloc _ _) (RowAt.of_owns hx).1 (RowAt.of_owns hx).2 ?_ ?_⟩
            · have hbig' : ¬ (len * i.size > 2 ^ 24) := by rw [hs]; simp; omega
              have hzc : (if len * i.size = 0 then (#[] : Array Value) else te.zero.cells) = te.zero.cells ∨ len * i.size = 0 := by
                by_cases h0 : len * i.size = 0
                · exact .inr h0
                · exact .inl (by rw [if_neg h0])
              by_cases h0 : len * i.size = 0
              · have hl0 : len = 0 := by
                  rcases Nat.mul_eq_zero.1 h0 with h | h
                  · exact h
                  · omega
                subst hl0
                have hzc0 : zc = #[] := by simp [zc]
                rw [hzc0] at hfill
                simp [Instr.buildSlice, run_underlying hu, sizeOf, typeInfo, hi, newRow]
                rw [hs, show (Array.map (fun _ => (default : Value)) (Array.range 0)) = #[] from by simp, hfill]
                simp
              · simp [Instr.buildSlice, run_underlying hu, sizeOf, typeInfo, hi, hz, zeroValue, newRow, h0]
                rw [hs] at hbig' h0 ⊢
                rw [if_neg (by simpa using hbig')]
                rw [show Instr.fill (fun i => some (i * te.size, te.size)) ((Array.range (len * te.size)).map (te.zero.cells[· % te.zero.cells.size]!)) vals.toList = some cells from hfill]
                simp
            · intro q hq'
              have : q * te.size + te.size ≤ len * te.size := by rw [← Nat.succ_mul]; exact Nat.mul_le_mul_right _ hq'
              have hfl := hrel.1
              simp only [rowOf, List.length_take, List.length_drop, Nat.succ_eq_add_one] at hm ⊢
              rw [hm] at this hcsz ⊢
              omega
            · intro q j hq' h1' h2'
              simp [rowOf] at h1'
              have hfl := hrel.1
              have h2'' := h2'
              simp at h2''
              have := hrel.2 (q * te.size + j) (by omega) h2''
              have e : (rowOf (m + 1) flat q)[j]'(by simpa [rowOf] using h1') = flat[q * te.size + j]'(by omega) := by
                simp [rowOf, hm]
              rw [e]
              exact ⟨AV.lts_pure hpure _ _ (by simpa using this.1), by simpa using this.2⟩
          · exact hq.elim
        · exact h.elim
      · exact h.elim
    · exact h.elim
  · exact h.elim

/-! ### a struct written out -/
def structPl (T : List (Nat × TI)) (d : TypeDesc) (i : Nat) : Option (Nat × Nat) :=
  match fieldD d i with
  | some fld => (match tget fld.type T with
    | some ft => some (fld.offset, ft.size)
    | none => none)
  | none => none
def fieldsIn (T : List (Nat × TI)) : List Field → Bool
  | [] => true
  | f :: r => match tget f.type T with
    | some _ => fieldsIn T r
    | none => false
def structFields : TypeDesc → List Field
  | .struct fs => fs.toList
  | _ => []
def isStructD : TypeDesc → Bool
  | .struct _ => true
  | _ => false
def buildA (T : List (Nat × TI)) (t : Nat) (parts : List (Nat × AV)) (k : Eff → Prop) : Prop :=
  match tget t T with
  | some ti => (match isStructD ti.desc, fieldsIn T (structFields ti.desc), allOne ti.zero.cells.toList with
    | true, true, true => fillK (structPl T ti.desc) parts (zeroL ti.zero) fun flat => k (.ext [] (.ag flat))
    | _, _, _ => False)
  | none => False

theorem fieldsIn_mem {T : List (Nat × TI)} : ∀ {l : List Field}, fieldsIn T l = true → ∀ f ∈ l, ∃ ti, tget f.type T = some ti
  | [], _, f, h => by simp at h
  | c :: r, hl, f, h => by
    unfold fieldsIn at hl
    split at hl
    · rename_i ti hc
      rcases List.mem_cons.1 h with rfl | h
      · exact ⟨ti, hc⟩
      · exact fieldsIn_mem hl f h
    · cases hl

theorem run_listMapM {α γ : Type} (f : α → Sem γ) (g : α → γ) : ∀ l : List α, (∀ x ∈ l, (f x).run P w = .ok (g x) w) → (l.mapM f).run P w = .ok (l.map g) w
  | [], _ => rfl
  | a :: r, h => by
    rw [List.mapM_cons]
    simp [h a (by simp), run_listMapM f g r (fun x hx => h x (by simp [hx]))]
theorem run_arrayMapM {α γ : Type} (f : α → Sem γ) (g : α → γ) (l : Array α) (h : ∀ x ∈ l, (f x).run P w = .ok (g x) w) : (l.mapM f).run P w = .ok (l.map g) w := by
  rw [Array.mapM_eq_mapM_toList]
  have := run_listMapM (P := P) (w := w) f g l.toList (fun x hx => h x (by simpa using hx))
  have e : (List.map g l.toList).toArray = Array.map g l := Array.ext' (by simp)
  simp only [Sem.run_map, this, Result.andThen_ok, e]

theorem buildA_sound {T : List (Nat × TI)} (hT : TabOk P T) {t : Nat} {parts : List (Nat × AV)} {vals : Array (Nat × Value)} (hpl : parts.length = vals.toList.length)
    (hpr : ∀ (j : Nat) (h1 : j < parts.length) (h2 : j < vals.toList.length), parts[j].1 = vals.toList[j].1 ∧ Rep β nid F w parts[j].2 vals.toList[j].2)
    (h : buildA T t parts k) : ∃ x, (Instr.build t vals).run P w = .ok x w ∧ ∃ r, k (.ext [] r) ∧ Rep β nid F w r x := by
  unfold buildA at h
  split at h
  · rename_i ti h1
    split at h
    · rename_i hst hfs hone
      obtain ⟨hu, _, i, hi, _, _, hz⟩ := hT.get h1
      cases hd : ti.desc <;> simp [isStructD, hd] at hst
      rename_i fs
      rw [hd] at hu h hfs
      simp only [structFields] at hfs
      have hzl := zeroL_spec (F := F) (w := w) ti.zero
      have hzrel : CellsRel β nid F w (zeroL ti.zero) ti.zero.cells :=
        ⟨hzl.1, fun j h1 h2 => ⟨.pure _ _ (hzl.2 j h1 h2), allOne_get hone _ (by simp)⟩⟩
      let g : Field → Nat × Nat := fun f => (f.offset, ((tget f.type T).map (·.size)).getD 0)
      have hpl' : ∀ i o s, structPl T (.struct fs) i = some (o, s) → (fs.map g)[i]? = some (o, s) := by
        intro i o s h
        unfold structPl at h
        split at h
        · rename_i fld hf
          simp only [fieldD] at hf
          split at h
          · rename_i ft hft
            simp only [Option.some.injEq, Prod.mk.injEq] at h
            simp [hf, g, hft, h]
          · cases h
        · cases h
      have hfill' : ∀ (ps : List (Nat × Value)) (c c' : Array Value), Instr.fill (structPl T (.struct fs)) c ps = some c' → Instr.fill ((fs.map g)[·]?) c ps = some c' := by
        intro ps
        induction ps with
        | nil => intro c c' h; simpa [Instr.fill] using h
        | cons p r ih =>
          intro c c' h
          obtain ⟨i, v⟩ := p
          simp only [Instr.fill] at h ⊢
          split at h
          · cases h
          · rename_i o s hpl
            rw [hpl' _ _ _ hpl]
            simp only
            split at h
            · cases h
            · rename_i hnot
              rw [if_neg hnot]
              exact ih _ _ h
      obtain ⟨flat, cells, hfill, hrel, hq, _⟩ := fillK_sound _ parts vals.toList _ ti.zero.cells hpl hpr hzrel h
      have hfill := hfill' _ _ _ hfill
      refine ⟨.agg cells, ?_, _, hq, ?_⟩
      · have hm := run_arrayMapM (P := P) (w := w) (fun f : Field => do pure (f.offset, ← sizeOf f.type)) g fs (fun f hf => by
          obtain ⟨ft, hft⟩ := fieldsIn_mem hfs f (by simpa using hf)
          obtain ⟨_, _, j, hj, hs, _⟩ := hT.get hft
          simp [sizeOf, typeInfo, hj, hs, g, hft])
        simp only [Instr.build, Sem.run_bind, zeroValue, typeInfo, run_program, Result.andThen_ok, hi, Sem.run_pure, hz, run_underlying hu, hm, hfill]
      · have := Rep.ag (β := β) (n := nid) (F := F) (w := w) flat cells.toList (by simpa using hrel.1) (fun j h1 h2 => (hrel.2 j h1 (by simpa using h2)).1)
        simpa using this
    · exact h.elim
  · exact h.elim

/-! ### make -/
def makeSliceA (gc : Option Prop) (T : List (Nat × TI)) (nid t : Nat) (a b : AV) (k : Eff → Prop) : Prop :=
  match tget t T, a, b with
  | some ti, .i _ n, .i _ m => (match sliceD ti.desc with
    | some e => (match tget e T with
      | some te => (match te.size, allOne te.zero.cells.toList, Nat.beq te.zero.cells.size te.size, te.bytes with
        | _ + 1, true, true, _ + 1 => ob gc (n = m ∧ 0 ≤ n ∧ te.bytes * n.toNat ≤ 140737488355328) (k (.ext [.row e te.size n.toNat (fun _ => zeroL te.zero)] (.so nid)))
        | _, _, _, _ => False)
      | none => False)
    | none => False)
  | _, _, _ => False

theorem makeSliceA_sound {gc : Option Prop} (hgc : ∀ c, gc = some c → c) {T : List (Nat × TI)} (hT : TabOk P T) {t : Nat} {a b : AV} {u v : Value} (hu : Rep β nid F w a u) (hv : Rep β nid F w b v)
    (h : makeSliceA gc T nid t a b k) : ∃ x w', (Instr.makeSlice t u v).run P w = .ok x w' ∧ PostK β nid F lk w k x w' := by
  unfold makeSliceA at h
  split at h
  · rename_i ti j n j' m h1
    obtain rfl := hu.i_inv
    obtain rfl := hv.i_inv
    split at h
    · rename_i e h2
      split at h
      · rename_i te h3
        split at h
        · rename_i sz by' hsz hone hzs hby
          have hzs : te.zero.cells.size = te.size := by simpa using hzs
          have hq2 := ob_iff h hgc
          clear h
          obtain ⟨⟨rfl, hn0, hbytes⟩, h⟩ := hq2
          obtain ⟨hut, _⟩ := hT.get h1
          obtain ⟨_, _, i, hi, hs, hb, hz⟩ := hT.get h3
          cases hd : ti.desc <;> simp [sliceD, hd] at h2
          rename_i el
          subst h2
          rw [hd] at hut
          obtain ⟨q, rfl⟩ := Int.eq_ofNat_of_zero_le hn0
          simp only [Int.toNat_natCast] at h hbytes
          have hq : q ≤ te.bytes * q := Nat.le_mul_of_pos_left _ (by omega)
          obtain ⟨w', hrun, hx, hg⟩ := run_make_full (P := P) w w.heap.size t el i te.zero te.size hut hi hz hs j j' q (by rw [hb]; omega) (by simp only [maxLen]; omega) (Nat.le_refl _)
          have hzl := zeroL_spec (F := F) (w := w) te.zero
          refine ⟨_, w', hrun, _, _, h, .row el te.size q _ _ _ ⟨hg.os, hg.tape, hg.output, hg.size, fun g hg' => hg.block g hg' (by simp)⟩ (RowAt.of_owns hx).1 (RowAt.of_owns hx).2 ?_ ?_⟩
          · intro _ _
            rw [hzl.1, hzs]
          · intro r c hr h1' h2'
            have hcz : c < te.zero.cells.size := by rw [← hzl.1]; exact h1'
            have hmod : (r * te.size + c) % te.zero.cells.size = c := by
              rw [hzs] at hcz ⊢
              rw [Nat.mul_comm, Nat.mul_add_mod]
              exact Nat.mod_eq_of_lt hcz
            have e : ((madeCells te.zero.cells (q * te.size)).toList)[r * te.size + c]'h2' = te.zero.cells[c] := by
              simp [madeCells, hmod, hcz]
            rw [e]
            exact ⟨hzl.2 c h1' hcz, allOne_get hone _ (by simp)⟩
        · exact h.elim
      · exact h.elim
    · exact h.elim
  · exact h.elim
end
end Go.Eng
