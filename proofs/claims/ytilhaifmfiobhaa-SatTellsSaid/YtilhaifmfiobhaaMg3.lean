/-
  Several texts in one: Eng6, Eng7, Eng8.
-/
import Derived.Test.YtilhaifmfiobhaaMg2

section
/-
  The engine, sixth part: rows and structs that are made, and append.
-/
namespace Go.Eng
open Go.RowKit
section
variable {P : Program} {β : Bd} {nid : Nat} {F : Nat → Prop} {w : World} {lk : Nat → Option AO} {k : Eff → Prop}

/-! ### filling -/
def fillK (pl : Nat → Option (Nat × Nat)) : List (Nat × AV) → List AV → (List AV → Prop) → Prop
  | [], flat, k => k flat
  | (i, a) :: r, flat, k => match pl i with
    | none => False
    | some (off, sz) => cellsK a fun cs => match cs with
      | [] => False
      | c :: cs => (match Nat.beq (c :: cs).length sz with
        | true => overK off (c :: cs) flat fun flat' => fillK pl r flat' k
        | false => False)

theorem fold_set (off : Nat) : ∀ (l : List Value) (m : Nat) (cells : Array Value) , off + m + l.length ≤ cells.size →
    ((l.zipIdx m).foldl (fun cs (c, j) => cs.setIfInBounds (off + j) c) cells).size = cells.size ∧
    ∀ q : Nat, ((l.zipIdx m).foldl (fun cs (c, j) => cs.setIfInBounds (off + j) c) cells)[q]? = if off + m ≤ q ∧ q < off + m + l.length then l[q - (off + m)]? else cells[q]?
  | [], m, cells, _ => ⟨rfl, fun q => by
      rw [if_neg (by simp)]
      rfl⟩
  | c :: l, m, cells, h => by
    have ih := fold_set off l (m + 1) (cells.setIfInBounds (off + m) c) (by simp at h ⊢; omega)
    simp only [List.zipIdx_cons, List.foldl_cons]
    refine ⟨by rw [ih.1]; simp, fun q => ?_⟩
    rw [ih.2 q]
    simp only [List.length_cons] at h ⊢
    by_cases h1 : off + (m + 1) ≤ q ∧ q < off + (m + 1) + l.length
    · rw [if_pos h1, if_pos (by omega)]
      have e : q - (off + m) = q - (off + (m + 1)) + 1 := by omega
      rw [e, List.getElem?_cons_succ]
    · rw [if_neg h1, Array.getElem?_setIfInBounds]
      by_cases h2 : off + m = q
      · subst h2
        rw [if_pos rfl, if_pos (by omega), if_pos (by omega)]
        simp
      · rw [if_neg h2, if_neg (by omega)]

def CellsRel (β : Bd) (nid : Nat) (F : Nat → Prop) (w : World) (flat : List AV) (cells : Array Value) : Prop :=
  flat.length = cells.size ∧ ∀ (j : Nat) (h1 : j < flat.length) (h2 : j < cells.size), Rep β nid F w flat[j] cells[j] ∧ cells[j].oneCell' = true

theorem fillK_sound (pl : Nat → Option (Nat × Nat)) : ∀ (parts : List (Nat × AV)) (vals : List (Nat × Value)) (flat : List AV) (cells : Array Value) {q : List AV → Prop},
    parts.length = vals.length → (∀ (j : Nat) (h1 : j < parts.length) (h2 : j < vals.length), parts[j].1 = vals[j].1 ∧ Rep β nid F w parts[j].2 vals[j].2) →
    CellsRel β nid F w flat cells → fillK pl parts flat q →
    ∃ flat' cells', Instr.fill pl cells vals = some cells' ∧ CellsRel β nid F w flat' cells' ∧ q flat' ∧ cells'.size = cells.size
  | [], [], flat, cells, q, _, _, hrel, h => ⟨flat, cells, rfl, hrel, h, rfl⟩
  | [], _ :: _, _, _, _, hl, _, _, _ => by simp at hl
  | _ :: _, [], _, _, _, hl, _, _, _ => by simp at hl
  | (i, a) :: r, (i', v) :: rv, flat, cells, q, hl, hr, hrel, h => by
    have h0 := hr 0 (by simp) (by simp)
    simp only [List.getElem_cons_zero] at h0
    obtain ⟨rfl, hv⟩ := h0
    unfold fillK at h
    split at h
    · exact h.elim
    · rename_i off sz hpl
      have hq := cellsK_iff h
      clear h
      obtain ⟨cs, h, hcs⟩ := hq
      obtain ⟨vs, hvc, hlen, hus⟩ := cells_rep hv hcs
      split at h
      · exact h.elim
      · rename_i c cs
        split at h
        · rename_i hsz
          have hsz : (c :: cs).length = sz := by simpa using hsz
          obtain ⟨hfit, h⟩ := overK_iff h
          have hfit : off + (c :: cs).length ≤ flat.length := hfit.resolve_left (by simp)
          have hfs := fold_set off vs 0 cells (by rw [← hrel.1, ← hlen]; simpa using hfit)
          simp only [Nat.add_zero] at hfs
          have hrel' : CellsRel β nid F w (over off (c :: cs) flat) ((vs.zipIdx 0).foldl (fun cs (c, j) => cs.setIfInBounds (off + j) c) cells) := by
            refine ⟨by rw [over_len hfit, hfs.1]; exact hrel.1, fun j h1 h2 => ?_⟩
            have hj : ((vs.zipIdx 0).foldl (fun cs (c, j) => cs.setIfInBounds (off + j) c) cells)[j]? = some (((vs.zipIdx 0).foldl (fun cs (c, j) => cs.setIfInBounds (off + j) c) cells)[j]) := Array.getElem?_eq_getElem h2
            rw [hfs.2 j] at hj
            rw [(over_get hfit j h1).2]
            by_cases hin : off ≤ j ∧ j < off + (c :: cs).length
            · rw [dif_pos hin]
              rw [if_pos (by rw [← hlen]; exact hin), List.getElem?_eq_getElem (by omega)] at hj
              rw [← Option.some.inj hj]
              exact hus (j - off) (by omega) (by omega)
            · rw [dif_neg hin]
              rw [over_len hfit] at h1
              have h1' := h1
              rw [hrel.1] at h1'
              rw [if_neg (by rw [← hlen]; exact hin), Array.getElem?_eq_getElem h1'] at hj
              rw [← Option.some.inj hj]
              exact hrel.2 j h1 h1'
          obtain ⟨flat', cells', hfill, hrel'', hq, hcsz⟩ := fillK_sound pl r rv _ _ (by simpa using hl) (fun j h1 h2 => hr (j + 1) (Nat.succ_lt_succ h1) (Nat.succ_lt_succ h2)) hrel' h
          refine ⟨flat', cells', ?_, hrel'', hq, hcsz.trans hfs.1⟩
          have hvs : v.cells.size = sz := by rw [hvc]; simp; omega
          have hcond : ¬ (v.cells.size ≠ sz ∨ off + v.cells.size > cells.size) := by
            have := hrel.1
            omega
          have hzip : v.cells.zipIdx.foldl (fun cs (c, j) => cs.setIfInBounds (off + j) c) cells = (vs.zipIdx 0).foldl (fun cs (c, j) => cs.setIfInBounds (off + j) c) cells := by
            rw [hvc]
            simp
          have hc2 : (decide (v.cells.size ≠ sz) || decide (off + v.cells.size > cells.size)) = false := by
            simp only [Bool.or_eq_false_iff, decide_eq_false_iff_not]
            exact ⟨fun h => hcond (.inl h), fun h => hcond (.inr h)⟩
          simp only [Instr.fill, hpl]
          rw [if_neg (by rw [hc2]; simp), hzip]
          exact hfill
        · exact h.elim

/-! ### a slice written out -/
def repL (l : List AV) : Nat → List AV
  | 0 => []
  | n + 1 => l ++ repL l n
def appL : List AV → List AV → List AV
  | [], m => m
  | a :: r, m => a :: appL r m
def repK (z : List AV) : Nat → (List AV → Prop) → Prop
  | 0, k => k []
  | n + 1, k => repK z n fun l => k (appL z l)
theorem appL_eq : ∀ l m : List AV, appL l m = l ++ m
  | [], m => rfl
  | a :: r, m => by simp [appL, appL_eq r m]
theorem repK_iff {z : List AV} : ∀ {n : Nat} {q : List AV → Prop}, repK z n q → q (repL z n)
  | 0, _, h => h
  | n + 1, q, h => by
    have := repK_iff (n := n) h
    rwa [appL_eq] at this
theorem length_repL (z : List AV) : ∀ n, (repL z n).length = n * z.length
  | 0 => by simp [repL]
  | n + 1 => by simp [repL, length_repL z n, Nat.succ_mul, Nat.add_comm]
theorem repL_get (z : List AV) : ∀ (n j : Nat) (h : j < (repL z n).length) (hz : j % z.length < z.length), (repL z n)[j] = z[j % z.length]
  | 0, j, h, _ => by simp [repL] at h
  | n + 1, j, h, hz => by
    simp only [repL] at h ⊢
    by_cases hj : j < z.length
    · rw [List.getElem_append_left hj]
      congr 1
      exact (Nat.mod_eq_of_lt hj).symm
    · rw [List.getElem_append_right (by omega)]
      have e : (j - z.length) % z.length = j % z.length := (Nat.mod_eq_sub_mod (by omega)).symm
      rw [repL_get z n _ _ (by rw [e]; exact hz)]
      congr 1

def zeroL (v : Value) : List AV :=
  match avOf v with
  | .ag l => l
  | a => [a]
theorem zeroL_spec (v : Value) : (zeroL v).length = v.cells.size ∧ ∀ (j : Nat) (h1 : j < (zeroL v).length) (h2 : j < v.cells.size), Rep0 F w (zeroL v)[j] v.cells[j] := by
  have base : ∀ v : Value, (∀ l, v ≠ .agg l) → zeroL v = [avOf1 v] ∧ v.cells = #[v] := by
    intro v hv
    cases v <;> first | exact ⟨rfl, rfl⟩ | exact absurd rfl (hv _)
  by_cases hv : ∃ l, v = .agg l
  · obtain ⟨⟨l⟩, rfl⟩ := hv
    exact ⟨(avOf1s_spec (F := F) (w := w) l).1, fun j h1 h2 => (avOf1s_spec (F := F) (w := w) l).2 j h1 h2⟩
  · have hb := base v (fun l h => hv ⟨l, h⟩)
    refine ⟨by rw [hb.1, hb.2]; rfl, fun j h1 h2 => ?_⟩
    have h2' := h2
    rw [hb.2] at h2'
    have hj : j = 0 := by simpa using h2'
    subst hj
    have e1 : (zeroL v)[0] = avOf1 v := by simp [hb.1]
    have e2 : v.cells[0] = v := by simp [hb.2]
    rw [e1, e2]
    exact rep_avOf1 v

/-- The q-th row of rows of sz cells laid one after the other. -/
def rowOf (sz : Nat) (flat : List AV) (q : Nat) : List AV := (flat.drop (q * sz)).take sz

def allOne : List Value → Bool
  | [] => true
  | v :: r => match v.oneCell' with
    | true => allOne r
    | false => false
theorem allOne_get : ∀ {l : List Value}, allOne l = true → ∀ v ∈ l, v.oneCell' = true
  | [], _, v, h => by simp at h
  | c :: r, hl, v, h => by
    unfold allOne at hl
    split at hl
    · rename_i hc
      rcases List.mem_cons.1 h with rfl | h
      · exact hc
      · exact allOne_get hl v h
    · cases hl

def buildSliceA (T : List (Nat × TI)) (nid t len : Nat) (parts : List (Nat × AV)) (k : Eff → Prop) : Prop :=
  match tget t T with
  | some ti => (match sliceD ti.desc with
    | some e => (match tget e T with
      | some te => (match te.size, allOne te.zero.cells.toList, Nat.ble (len * te.size) 16777216, Nat.beq te.zero.cells.size te.size with
        | m + 1, true, true, true => repK (zeroL te.zero) len fun z => fillK (fun i => some (i * te.size, te.size)) parts z fun flat => match AV.lts 0 flat with
          | true => k (.ext [.row e te.size len (rowOf (m + 1) flat)] (.so nid))
          | false => False
        | _, _, _, _ => False)
      | none => False)
    | none => False)
  | none => False

theorem buildSliceA_sound {T : List (Nat × TI)} (hT : TabOk P T) {t len : Nat} {parts : List (Nat × AV)} {vals : Array (Nat × Value)} (hpl : parts.length = vals.toList.length)
    (hpr : ∀ (j : Nat) (h1 : j < parts.length) (h2 : j < vals.toList.length), parts[j].1 = vals.toList[j].1 ∧ Rep β nid F w parts[j].2 vals.toList[j].2)
    (h : buildSliceA T nid t len parts k) : ∃ x w', (Instr.buildSlice t len vals).run P w = .ok x w' ∧ PostK β nid F lk w k x w' := by
  unfold buildSliceA at h
  split at h
  · rename_i ti h1
    split at h
    · rename_i e h2
      split at h
      · rename_i te h3
        split at h
        · rename_i m hm hone hbig hzs
          have hbig : len * te.size ≤ 16777216 := by simpa using hbig
          have hzs : te.zero.cells.size = te.size := by simpa using hzs
          have h := repK_iff h
          obtain ⟨hu, _⟩ := hT.get h1
          obtain ⟨_, _, i, hi, hs, _, hz⟩ := hT.get h3
          cases hd : ti.desc <;> simp [sliceD, hd] at h2
          rename_i el
          subst h2
          rw [hd] at hu
          have hzl := zeroL_spec (F := F) (w := w) te.zero
          let zc : Array Value := (Array.range (len * te.size)).map (te.zero.cells[· % te.zero.cells.size]!)
          have hzrel : CellsRel β nid F w (repL (zeroL te.zero) len) zc := by
            refine ⟨by simp [zc, length_repL, hzl.1, hzs], fun j h1 h2 => ?_⟩
            have hjz : j % te.zero.cells.size < te.zero.cells.size := Nat.mod_lt _ (by omega)
            have hjz' : j % (zeroL te.zero).length < (zeroL te.zero).length := by rw [hzl.1]; exact hjz
            have e2 : zc[j] = te.zero.cells[j % te.zero.cells.size] := by simp [zc, hjz]
            rw [repL_get _ _ _ h1 hjz', e2]
            have hz2 := hzl.2 (j % te.zero.cells.size) (by rw [hzl.1]; exact hjz) hjz
            have e3 : (zeroL te.zero)[j % (zeroL te.zero).length] = (zeroL te.zero)[j % te.zero.cells.size]'(by rw [hzl.1]; exact hjz) := by simp only [hzl.1]
            rw [e3]
            exact ⟨.pure _ _ hz2, allOne_get hone _ (by simp)⟩
          obtain ⟨flat, cells, hfill, hrel, hq, hcs'⟩ := fillK_sound (fun i => some (i * te.size, te.size)) parts vals.toList _ zc hpl hpr hzrel h
          split at hq
          · rename_i hpure
            have hcsz : cells.size = len * te.size := by
              rw [hcs']
              simp [zc]
            have hx : (w.alloc (.cells cells el)).ownsRow w.heap.size el te.size (.slice (some ⟨w.heap.size, 0, none⟩) len len) len cells.toList :=
              World.ownsRow_lit w cells len (Nat.le_refl _) (by
                have : len ≤ len * te.size := Nat.le_mul_of_pos_right _ (by omega)
                simp only [maxLen]
                omega) hcsz
            refine ⟨.slice (some ⟨w.heap.size, 0, none⟩) len len, w.alloc (.cells cells el), ?_, _, _, hq, .row el te.size len _ _ cells.toList (below_alloc _ _) (RowAt.of_owns hx).1 (RowAt.of_owns hx).2 ?_ ?_⟩
            · have hbig' : ¬ (len * i.size > 2 ^ 24) := by rw [hs]; simp; omega
              have hzc : (if len * i.size = 0 then (#[] : Array Value) else te.zero.cells) = te.zero.cells ∨ len * i.size = 0 := by
                by_cases h0 : len * i.size = 0
                · exact .inr h0
                · exact .inl (by rw [if_neg h0])
              by_cases h0 : len * i.size = 0
              · have hl0 : len = 0 := by
                  rcases Nat.mul_eq_zero.1 h0 with h | h
                  · exact h
                  · omega
                subst hl0
                have hzc0 : zc = #[] := by simp [zc]
                rw [hzc0] at hfill
                simp [Instr.buildSlice, run_underlying hu, sizeOf, typeInfo, hi, newRow]
                rw [hs, show (Array.map (fun _ => (default : Value)) (Array.range 0)) = #[] from by simp, hfill]
                simp
              · simp [Instr.buildSlice, run_underlying hu, sizeOf, typeInfo, hi, hz, zeroValue, newRow, h0]
                rw [hs] at hbig' h0 ⊢
                rw [if_neg (by simpa using hbig')]
                rw [show Instr.fill (fun i => some (i * te.size, te.size)) ((Array.range (len * te.size)).map (te.zero.cells[· % te.zero.cells.size]!)) vals.toList = some cells from hfill]
                simp
            · intro q hq'
              have : q * te.size + te.size ≤ len * te.size := by rw [← Nat.succ_mul]; exact Nat.mul_le_mul_right _ hq'
              have hfl := hrel.1
              simp only [rowOf, List.length_take, List.length_drop, Nat.succ_eq_add_one] at hm ⊢
              rw [hm] at this hcsz ⊢
              omega
            · intro q j hq' h1' h2'
              simp [rowOf] at h1'
              have hfl := hrel.1
              have h2'' := h2'
              simp at h2''
              have := hrel.2 (q * te.size + j) (by omega) h2''
              have e : (rowOf (m + 1) flat q)[j]'(by simpa [rowOf] using h1') = flat[q * te.size + j]'(by omega) := by
                simp [rowOf, hm]
              rw [e]
              exact ⟨AV.lts_pure hpure _ _ (by simpa using this.1), by simpa using this.2⟩
          · exact hq.elim
        · exact h.elim
      · exact h.elim
    · exact h.elim
  · exact h.elim

/-! ### a struct written out -/
def structPl (T : List (Nat × TI)) (d : TypeDesc) (i : Nat) : Option (Nat × Nat) :=
  match fieldD d i with
  | some fld => (match tget fld.type T with
    | some ft => some (fld.offset, ft.size)
    | none => none)
  | none => none
def fieldsIn (T : List (Nat × TI)) : List Field → Bool
  | [] => true
  | f :: r => match tget f.type T with
    | some _ => fieldsIn T r
    | none => false
def structFields : TypeDesc → List Field
  | .struct fs => fs.toList
  | _ => []
def isStructD : TypeDesc → Bool
  | .struct _ => true
  | _ => false
def buildA (T : List (Nat × TI)) (t : Nat) (parts : List (Nat × AV)) (k : Eff → Prop) : Prop :=
  match tget t T with
  | some ti => (match isStructD ti.desc, fieldsIn T (structFields ti.desc), allOne ti.zero.cells.toList with
    | true, true, true => fillK (structPl T ti.desc) parts (zeroL ti.zero) fun flat => k (.ext [] (.ag flat))
    | _, _, _ => False)
  | none => False

theorem fieldsIn_mem {T : List (Nat × TI)} : ∀ {l : List Field}, fieldsIn T l = true → ∀ f ∈ l, ∃ ti, tget f.type T = some ti
  | [], _, f, h => by simp at h
  | c :: r, hl, f, h => by
    unfold fieldsIn at hl
    split at hl
    · rename_i ti hc
      rcases List.mem_cons.1 h with rfl | h
      · exact ⟨ti, hc⟩
      · exact fieldsIn_mem hl f h
    · cases hl

theorem run_listMapM {α γ : Type} (f : α → Sem γ) (g : α → γ) : ∀ l : List α, (∀ x ∈ l, (f x).run P w = .ok (g x) w) → (l.mapM f).run P w = .ok (l.map g) w
  | [], _ => rfl
  | a :: r, h => by
    rw [List.mapM_cons]
    simp [h a (by simp), run_listMapM f g r (fun x hx => h x (by simp [hx]))]
theorem run_arrayMapM {α γ : Type} (f : α → Sem γ) (g : α → γ) (l : Array α) (h : ∀ x ∈ l, (f x).run P w = .ok (g x) w) : (l.mapM f).run P w = .ok (l.map g) w := by
  rw [Array.mapM_eq_mapM_toList]
  have := run_listMapM (P := P) (w := w) f g l.toList (fun x hx => h x (by simpa using hx))
  have e : (List.map g l.toList).toArray = Array.map g l := Array.ext' (by simp)
  simp only [Sem.run_map, this, Result.andThen_ok, e]

theorem buildA_sound {T : List (Nat × TI)} (hT : TabOk P T) {t : Nat} {parts : List (Nat × AV)} {vals : Array (Nat × Value)} (hpl : parts.length = vals.toList.length)
    (hpr : ∀ (j : Nat) (h1 : j < parts.length) (h2 : j < vals.toList.length), parts[j].1 = vals.toList[j].1 ∧ Rep β nid F w parts[j].2 vals.toList[j].2)
    (h : buildA T t parts k) : ∃ x, (Instr.build t vals).run P w = .ok x w ∧ ∃ r, k (.ext [] r) ∧ Rep β nid F w r x := by
  unfold buildA at h
  split at h
  · rename_i ti h1
    split at h
    · rename_i hst hfs hone
      obtain ⟨hu, _, i, hi, _, _, hz⟩ := hT.get h1
      cases hd : ti.desc <;> simp [isStructD, hd] at hst
      rename_i fs
      rw [hd] at hu h hfs
      simp only [structFields] at hfs
      have hzl := zeroL_spec (F := F) (w := w) ti.zero
      have hzrel : CellsRel β nid F w (zeroL ti.zero) ti.zero.cells :=
        ⟨hzl.1, fun j h1 h2 => ⟨.pure _ _ (hzl.2 j h1 h2), allOne_get hone _ (by simp)⟩⟩
      let g : Field → Nat × Nat := fun f => (f.offset, ((tget f.type T).map (·.size)).getD 0)
      have hpl' : ∀ i o s, structPl T (.struct fs) i = some (o, s) → (fs.map g)[i]? = some (o, s) := by
        intro i o s h
        unfold structPl at h
        split at h
        · rename_i fld hf
          simp only [fieldD] at hf
          split at h
          · rename_i ft hft
            simp only [Option.some.injEq, Prod.mk.injEq] at h
            simp [hf, g, hft, h]
          · cases h
        · cases h
      have hfill' : ∀ (ps : List (Nat × Value)) (c c' : Array Value), Instr.fill (structPl T (.struct fs)) c ps = some c' → Instr.fill ((fs.map g)[·]?) c ps = some c' := by
        intro ps
        induction ps with
        | nil => intro c c' h; simpa [Instr.fill] using h
        | cons p r ih =>
          intro c c' h
          obtain ⟨i, v⟩ := p
          simp only [Instr.fill] at h ⊢
          split at h
          · cases h
          · rename_i o s hpl
            rw [hpl' _ _ _ hpl]
            simp only
            split at h
            · cases h
            · rename_i hnot
              rw [if_neg hnot]
              exact ih _ _ h
      obtain ⟨flat, cells, hfill, hrel, hq, _⟩ := fillK_sound _ parts vals.toList _ ti.zero.cells hpl hpr hzrel h
      have hfill := hfill' _ _ _ hfill
      refine ⟨.agg cells, ?_, _, hq, ?_⟩
      · have hm := run_arrayMapM (P := P) (w := w) (fun f : Field => do pure (f.offset, ← sizeOf f.type)) g fs (fun f hf => by
          obtain ⟨ft, hft⟩ := fieldsIn_mem hfs f (by simpa using hf)
          obtain ⟨_, _, j, hj, hs, _⟩ := hT.get hft
          simp [sizeOf, typeInfo, hj, hs, g, hft])
        simp only [Instr.build, Sem.run_bind, zeroValue, typeInfo, run_program, Result.andThen_ok, hi, Sem.run_pure, hz, run_underlying hu, hm, hfill]
      · have := Rep.ag (β := β) (n := nid) (F := F) (w := w) flat cells.toList (by simpa using hrel.1) (fun j h1 h2 => (hrel.2 j h1 (by simpa using h2)).1)
        simpa using this
    · exact h.elim
  · exact h.elim

/-! ### make -/
def makeSliceA (gc : Option Prop) (T : List (Nat × TI)) (nid t : Nat) (a b : AV) (k : Eff → Prop) : Prop :=
  match tget t T, a, b with
  | some ti, .i _ n, .i _ m => (match sliceD ti.desc with
    | some e => (match tget e T with
      | some te => (match te.size, allOne te.zero.cells.toList, Nat.beq te.zero.cells.size te.size, te.bytes with
        | _ + 1, true, true, _ + 1 => ob gc (n = m ∧ 0 ≤ n ∧ te.bytes * n.toNat ≤ 140737488355328) (k (.ext [.row e te.size n.toNat (fun _ => zeroL te.zero)] (.so nid)))
        | _, _, _, _ => False)
      | none => False)
    | none => False)
  | _, _, _ => False

theorem makeSliceA_sound {gc : Option Prop} (hgc : ∀ c, gc = some c → c) {T : List (Nat × TI)} (hT : TabOk P T) {t : Nat} {a b : AV} {u v : Value} (hu : Rep β nid F w a u) (hv : Rep β nid F w b v)
    (h : makeSliceA gc T nid t a b k) : ∃ x w', (Instr.makeSlice t u v).run P w = .ok x w' ∧ PostK β nid F lk w k x w' := by
  unfold makeSliceA at h
  split at h
  · rename_i ti j n j' m h1
    obtain rfl := hu.i_inv
    obtain rfl := hv.i_inv
    split at h
    · rename_i e h2
      split at h
      · rename_i te h3
        split at h
        · rename_i sz by' hsz hone hzs hby
          have hzs : te.zero.cells.size = te.size := by simpa using hzs
          have hq2 := ob_iff h hgc
          clear h
          obtain ⟨⟨rfl, hn0, hbytes⟩, h⟩ := hq2
          obtain ⟨hut, _⟩ := hT.get h1
          obtain ⟨_, _, i, hi, hs, hb, hz⟩ := hT.get h3
          cases hd : ti.desc <;> simp [sliceD, hd] at h2
          rename_i el
          subst h2
          rw [hd] at hut
          obtain ⟨q, rfl⟩ := Int.eq_ofNat_of_zero_le hn0
          simp only [Int.toNat_natCast] at h hbytes
          have hq : q ≤ te.bytes * q := Nat.le_mul_of_pos_left _ (by omega)
          obtain ⟨w', hrun, hx, hg⟩ := run_make_full (P := P) w w.heap.size t el i te.zero te.size hut hi hz hs j j' q (by rw [hb]; omega) (by simp only [maxLen]; omega) (Nat.le_refl _)
          have hzl := zeroL_spec (F := F) (w := w) te.zero
          refine ⟨_, w', hrun, _, _, h, .row el te.size q _ _ _ ⟨hg.os, hg.tape, hg.output, hg.size, fun g hg' => hg.block g hg' (by simp)⟩ (RowAt.of_owns hx).1 (RowAt.of_owns hx).2 ?_ ?_⟩
          · intro _ _
            rw [hzl.1, hzs]
          · intro r c hr h1' h2'
            have hcz : c < te.zero.cells.size := by rw [← hzl.1]; exact h1'
            have hmod : (r * te.size + c) % te.zero.cells.size = c := by
              rw [hzs] at hcz ⊢
              rw [Nat.mul_comm, Nat.mul_add_mod]
              exact Nat.mod_eq_of_lt hcz
            have e : ((madeCells te.zero.cells (q * te.size)).toList)[r * te.size + c]'h2' = te.zero.cells[c] := by
              simp [madeCells, hmod, hcz]
            rw [e]
            exact ⟨hzl.2 c h1' hcz, allOne_get hone _ (by simp)⟩
        · exact h.elim
      · exact h.elim
    · exact h.elim
  · exact h.elim
end
end Go.Eng
end

section
/-
  The engine, seventh part: append, parts of slices, calls.
-/
namespace Go.Eng
open Go.RowKit
section
variable {P : Program} {β : Bd} {nid : Nat} {F : Nat → Prop} {w : World} {lk : Nat → Option AO} {k : Eff → Prop}

/-! ### append -/
def catG (n : Nat) (g h : Nat → List AV) : Nat → List AV := fun q => if q < n then g q else h (q - n)

def srcK (lk : Nat → Option AO) (x : AV) (sz : Nat) (k : Nat → (Nat → List AV) → Prop) : Prop :=
  match x with
  | .rs sz' n get => (match Nat.beq sz' sz with
    | true => k n get
    | false => False)
  | .so id => (match lk id with
    | some (.row _ sz' n get) => (match Nat.beq sz' sz with
      | true => k n get
      | false => False)
    | _ => False)
  | .sv id sz' lo n => (match lk id with
    | some (.row _ sz2 _ get) => (match Nat.beq sz' sz, Nat.beq sz2 sz with
      | true, true => k n (fun q => get (lo + q))
      | _, _ => False)
    | _ => False)
  | .val v => (match nilSlice v with
    | true => k 0 (fun _ => [])
    | false => False)
  | _ => False

structure Src (F : Nat → Prop) (w : World) (v : Value) (sz n : Nat) (get : Nat → List AV) (news : List Value) : Prop where
  len : news.length = n * sz
  one : ∀ u ∈ news, u.oneCell' = true
  glen : ∀ k, k < n → (get k).length = sz
  rep : ∀ (k j : Nat) (_ : k < n) (h1 : j < (get k).length) (h2 : k * sz + j < news.length), Rep0 F w (get k)[j] news[k * sz + j]
  val : (v = .slice none 0 0 ∧ n = 0) ∨ ∃ a c, v = .slice (some a) n c ∧ n ≤ maxLen ∧ ∀ j u, news[j]? = some u → w.cell? (a.add j) = some u

theorem src_val {e : TypeId} {sz : Nat} {v : Value} {n : Nat} {xs : List Value} (hx : RowAt w e sz v n xs) :
    (v = .slice none 0 0 ∧ n = 0) ∨ ∃ a c, v = .slice (some a) n c ∧ n ≤ maxLen ∧ ∀ j u, xs[j]? = some u → w.cell? (a.add j) = some u := by
  rcases hx.2 with h | ⟨a, h1, h0⟩ | ⟨g, o, cap, cur, h1, hh, hnc, hcm, hcs, htake⟩
  · exact .inl h
  · subst h0
    exact .inr ⟨a, 0, h1, Nat.zero_le _, fun j u hu => by have h2 := hx.1; have := (List.getElem?_eq_some_iff.1 hu).1; omega⟩
  · refine .inr ⟨_, _, h1, by omega, fun j u hu => ?_⟩
    have hpos : 0 < xs.length := by have := (List.getElem?_eq_some_iff.1 hu).1; omega
    obtain ⟨g2, o2, cap2, cur2, h2, _, _, _, _, _, hcells⟩ := hx.cells hpos
    rw [h1] at h2
    simp only [Value.slice.injEq, Option.some.injEq, Addr.mk.injEq] at h2
    obtain ⟨⟨rfl, rfl, _⟩, _⟩ := h2
    rw [Addr.add_lit]
    exact hcells _ _ hu

theorem srcK_sound (E : Env β nid F w lk) {x : AV} {v : Value} {sz : Nat} {q : Nat → (Nat → List AV) → Prop} (hsz : 0 < sz) (hv : Rep β nid F w x v) (h : srcK lk x sz q) :
    ∃ n get news, q n get ∧ Src F w v sz n get news := by
  unfold srcK at h
  split at h
  · rename_i sz' n get
    split at h
    · rename_i hs
      have hs : sz' = sz := by simpa using hs
      subst hs
      have hv0 := hv.rs_inv
      cases hv0 with
      | rsnil => exact ⟨0, get, [], h, by simp, by simp, fun k hk => by omega, fun k j hk => by omega, .inl ⟨rfl, rfl⟩⟩
      | rsz _ _ a => exact ⟨0, get, [], h, by simp, by simp, fun k hk => by omega, fun k j hk => by omega, .inr ⟨a, 0, rfl, Nat.zero_le _, fun j u hu => by simp at hu⟩⟩
      | rs _ _ _ g o c vs hn hm hF hg hlen hc h1 hr =>
        have key : ∀ j, j < n * sz' → j / sz' < n ∧ j % sz' < sz' ∧ j / sz' * sz' + j % sz' = j := fun j hj =>
          ⟨Nat.div_lt_of_lt_mul (by rwa [Nat.mul_comm]), Nat.mod_lt _ hsz, by rw [Nat.mul_comm]; exact Nat.div_add_mod _ _⟩
        refine ⟨n, get, (List.range (n * sz')).map fun j => vs (j / sz') (j % sz'), h, by simp, ?_, hlen, ?_, .inr ⟨⟨g, o, none⟩, c, rfl, Nat.le_trans hn hm, ?_⟩⟩
        · intro u hu
          obtain ⟨j, hj, rfl⟩ := List.mem_map.1 hu
          have := key j (by simpa using hj)
          exact h1 _ _ this.1 this.2.1
        · intro k j hk h1' h2'
          have hj : j < sz' := by rw [← hlen k hk]; exact h1'
          have e1 : (k * sz' + j) / sz' = k := by
            rw [Nat.mul_comm, Nat.mul_add_div hsz, Nat.div_eq_of_lt hj, Nat.add_zero]
          have e2 : (k * sz' + j) % sz' = j := by
            rw [Nat.mul_comm, Nat.mul_add_mod]
            exact Nat.mod_eq_of_lt hj
          simp only [List.getElem_map, List.getElem_range, e1, e2]
          exact hr k j hk h1'
        · intro j u hu
          obtain ⟨hj, hu⟩ := List.getElem?_eq_some_iff.1 hu
          simp at hj
          obtain ⟨k1, k2, k3⟩ := key j hj
          simp only [List.getElem_map, List.getElem_range] at hu
          rw [Addr.add_lit, ← hu, ← hc _ _ k1 k2, Nat.add_assoc, k3]
    · exact h.elim
  · rename_i id
    split at h
    · rename_i e sz' n get hlk
      split at h
      · rename_i hs
        have hs : sz' = sz := by simpa using hs
        subst hs
        obtain ⟨hid, rfl⟩ := hv.so_inv
        obtain ⟨_, xs, hx, hlen, hc⟩ := E.obj id _ hlk
        refine ⟨n, get, xs, h, hx.1, ?_, hlen, fun k j hk h1 h2 => (hc k j hk h1 h2).1, ?_⟩
        · intro u hu
          obtain ⟨j, hj, rfl⟩ := List.getElem_of_mem hu
          have hj' : j < n * sz' := by rw [← hx.1]; exact hj
          have k1 : j / sz' < n := Nat.div_lt_of_lt_mul (by rwa [Nat.mul_comm])
          have k2 : j % sz' < sz' := Nat.mod_lt _ hsz
          have k3 : j / sz' * sz' + j % sz' = j := by rw [Nat.mul_comm]; exact Nat.div_add_mod _ _
          have := (hc (j / sz') (j % sz') k1 (by rw [hlen _ k1]; exact k2) (by rw [k3]; exact hj)).2
          simpa only [k3] using this
        · exact src_val hx
      · exact h.elim
    · exact h.elim
  · rename_i id sz' lo n
    split at h
    · rename_i e sz2 N get hlk
      split at h
      · rename_i hs hs2
        have hs : sz' = sz := by simpa using hs
        have hs2 : sz2 = sz := by simpa using hs2
        subst hs
        subst hs2
        obtain ⟨hid, hsv⟩ := hv.sv_inv
        obtain ⟨_, xs, hx, hlen, hc⟩ := E.obj id _ hlk
        have hN : lo + n ≤ N ∨ n = 0 := by
          rcases hsv with ⟨_, hn0, _⟩ | ⟨_, _, hn0, _⟩ | ⟨g, o, m, c, hval, hlo, hlm, _⟩
          · exact .inr hn0
          · exact .inr hn0
          · rcases hx.2 with ⟨h1, _⟩ | ⟨a, h1, h0⟩ | ⟨g', o', cap, cur, h1, _⟩
            · rw [hval] at h1; cases h1
            · rw [hval] at h1
              simp only [Value.slice.injEq] at h1
              left; omega
            · rw [hval] at h1
              simp only [Value.slice.injEq] at h1
              left; omega
        rcases hN with hN | hn0
        · have hsub : ∀ k, k < n → (lo + k) * sz2 + sz2 ≤ xs.length := fun k hk => by
            rw [hx.1, ← Nat.succ_mul]
            exact Nat.mul_le_mul_right _ (by omega)
          have hnl : ((xs.drop (lo * sz2)).take (n * sz2)).length = n * sz2 := by
            have : (lo + n) * sz2 ≤ N * sz2 := Nat.mul_le_mul_right _ hN
            rw [Nat.add_mul] at this
            have := hx.1
            simp
            omega
          refine ⟨n, _, (xs.drop (lo * sz2)).take (n * sz2), h, hnl, ?_, fun k hk => hlen (lo + k) (by omega), ?_, ?_⟩
          · intro u hu
            have hu : u ∈ xs := List.mem_of_mem_drop (List.mem_of_mem_take hu)
            obtain ⟨j, hj, rfl⟩ := List.getElem_of_mem hu
            have hj' : j < N * sz2 := by rw [← hx.1]; exact hj
            have k1 : j / sz2 < N := Nat.div_lt_of_lt_mul (by rwa [Nat.mul_comm])
            have k2 : j % sz2 < sz2 := Nat.mod_lt _ hsz
            have k3 : j / sz2 * sz2 + j % sz2 = j := by rw [Nat.mul_comm]; exact Nat.div_add_mod _ _
            have := (hc (j / sz2) (j % sz2) k1 (by rw [hlen _ k1]; exact k2) (by rw [k3]; exact hj)).2
            simpa only [k3] using this
          · intro k j hk h1 h2
            have hj : j < sz2 := by rw [hlen _ (show lo + k < N by omega)] at h1; exact h1
            have := hsub k hk
            have := (hc (lo + k) j (by omega) h1 (by omega)).1
            have e : ((xs.drop (lo * sz2)).take (n * sz2))[k * sz2 + j] = xs[(lo + k) * sz2 + j]'(by have := hsub k hk; omega) := by
              simp only [List.getElem_take, List.getElem_drop]
              congr 1
              rw [Nat.add_mul]
              omega
            rw [e]
            exact this
          · rcases hsv with ⟨hv0, hn0, _⟩ | ⟨a, hv0, hn0, _⟩ | ⟨g, o, m, c, hval, hlo, hlm, hv0⟩
            · exact .inl ⟨hv0, hn0⟩
            · obtain ⟨ab, ao, asp⟩ := a
              subst hn0
              exact .inr ⟨_, 0, hv0, Nat.zero_le _, fun j u hu => by simp at hu⟩
            · rcases hx.2 with ⟨h1, _⟩ | ⟨a, h1, h0⟩ | ⟨g', o', cap, cur, h1, hh, hnc, hcm, hcs, htake⟩
              · rw [hval] at h1; cases h1
              · rw [hval] at h1
                simp only [Value.slice.injEq] at h1
                omega
              · rw [hval] at h1
                simp only [Value.slice.injEq, Option.some.injEq, Addr.mk.injEq] at h1
                obtain ⟨⟨rfl, rfl, _⟩, rfl, rfl⟩ := h1
                refine .inr ⟨_, _, hv0, by omega, fun j u hu => ?_⟩
                have hxl : j < n * sz2 := by
                  have := (List.getElem?_eq_some_iff.1 hu).1
                  rw [hnl] at this
                  exact this
                rw [List.getElem?_take, if_pos hxl, List.getElem?_drop] at hu
                have hpos : 0 < xs.length := by have := (List.getElem?_eq_some_iff.1 hu).1; omega
                obtain ⟨g2, o2, cap2, cur2, h2, _, _, _, _, _, hcells⟩ := hx.cells hpos
                rw [hval] at h2
                simp only [Value.slice.injEq, Option.some.injEq, Addr.mk.injEq] at h2
                obtain ⟨⟨rfl, rfl, _⟩, _⟩ := h2
                have := hcells _ _ hu
                rw [Addr.add_lit, Nat.add_assoc]
                exact this
        · subst hn0
          refine ⟨0, _, [], h, by simp, by simp, fun k hk => by omega, fun k j hk => by omega, ?_⟩
          rcases hsv with ⟨hv0, _, _⟩ | ⟨a, hv0, _, _⟩ | ⟨g, o, m, c, hval, hlo, hlm, hv0⟩
          · exact .inl ⟨hv0, rfl⟩
          · exact .inr ⟨a, 0, hv0, Nat.zero_le _, fun j u hu => by simp at hu⟩
          · exact .inr ⟨_, _, hv0, Nat.zero_le _, fun j u hu => by simp at hu⟩
      · exact h.elim
    · exact h.elim
  · rename_i v'
    obtain rfl := hv.val_inv
    split at h
    · rename_i hn
      exact ⟨0, _, [], h, by simp, by simp, fun k hk => by omega, fun k j hk => by omega, .inl ⟨nilSlice_iff hn, rfl⟩⟩
    · exact h.elim
  · exact h.elim

theorem append_none_run {t e : TypeId} (ty : TypeId) {i : TypeInfo} (ht : P.underlying t = some (.slice e)) (hi : P.info? e = some i) (b : Option Addr) (n c : Nat) (hnc : n ≤ c) :
    (Builtin.append_ #[t, t] ty #[.slice b n c, .slice none 0 0]).run P w = .ok (.slice b n c) w := by
  cases b <;> simp [Builtin.append_, run_underlying ht, sizeOf, typeInfo, hi, Builtin.lenOf, Builtin.firstCells, hnc, storeCells]
theorem append_zero_run {t e : TypeId} (ty : TypeId) {i : TypeInfo} (ht : P.underlying t = some (.slice e)) (hi : P.info? e = some i) (b : Option Addr) (n c : Nat) (hnc : n ≤ c) (a : Addr) (c' : Nat) :
    (Builtin.append_ #[t, t] ty #[.slice b n c, .slice (some a) 0 c']).run P w = .ok (.slice b n c) w := by
  have hfc := run_firstCells_some (P := P) w i.size 0 a 0 c' [] (by simp) (fun j u hu => by simp at hu)
  cases b <;> simp [Builtin.append_, run_underlying ht, sizeOf, typeInfo, hi, Builtin.lenOf, hnc, hfc, storeCells]
/-- The cells news, laid over a block's from o on. -/
theorem append_room_run {t e : TypeId} (ty : TypeId) {i : TypeInfo} (ht : P.underlying t = some (.slice e)) (hi : P.info? e = some i) {g off n c m c' : Nat} {a : Addr} {news : List Value} {cur : Array Value}
    (hg : w.heap[g]? = some (.cells cur e (0, 0))) (hl : news.length = m * i.size) (hc : ∀ j u, news[j]? = some u → w.cell? (a.add j) = some u) (h1 : ∀ u ∈ news, u.oneCell' = true) (hroom : n + m ≤ c) (hfit : off + n * i.size + news.length ≤ cur.size) :
    (Builtin.append_ #[t, t] ty #[.slice (some ⟨g, off, none⟩) n c, .slice (some a) m c']).run P w =
      .ok (.slice (some ⟨g, off, none⟩) (n + m) c) (w.setRow g (cur.toList.take (off + n * i.size) ++ news ++ cur.toList.drop (off + n * i.size + news.length)).toArray) := by
  have hfc := run_firstCells_some (P := P) w i.size m a m c' news hl hc
  have hst := run_storeCells_at P g (off + n * i.size) e news 0 cur w hg (by simpa using hfit) h1
  simp only [Nat.add_zero] at hst
  simp [Builtin.append_, run_underlying ht, sizeOf, typeInfo, hi, Builtin.lenOf, hroom, hfc, Addr.add_lit, hst]

theorem append_own {t e : TypeId} (ty : TypeId) {i : TypeInfo} {z : Value} (ht : P.underlying t = some (.slice e)) (hi : P.info? e = some i) (hz : i.zero = some z) (hzs : z.cells.size = i.size) (hsz : 0 < i.size) (hb1 : 0 < i.bytes)
    {v : Value} {n : Nat} {xs : List Value} (hown : RowAt w e i.size v n xs) {x : Value} {m : Nat} {get : Nat → List AV} {news : List Value} (hs : Src F w x i.size m get news)
    (hbytes : (n + m) * i.bytes ≤ 140737488355328) :
    ∃ v' w', (Builtin.append_ #[t, t] ty #[v, x]).run P w = .ok v' w' ∧ RowAt w' e i.size v' (n + m) (xs ++ news) ∧ w.grownBy w' (blkOf v) ∧
      (blkOf v' = blkOf v ∨ ∀ g, blkOf v' = some g → w.heap.size ≤ g) := by
  have hle : n + m ≤ (n + m) * i.bytes := Nat.le_mul_of_pos_right _ hb1
  have same : (∃ b c, v = .slice b n c ∧ n ≤ c) := by
    rcases hown.2 with ⟨rfl, rfl⟩ | ⟨a, rfl, rfl⟩ | ⟨g, o, cap, cur, rfl, _, hnc, _⟩
    · exact ⟨_, _, rfl, Nat.le_refl _⟩
    · exact ⟨_, _, rfl, Nat.le_refl _⟩
    · exact ⟨_, _, rfl, hnc⟩
  have refl : ∀ o, w.grownBy w o := fun o => ⟨rfl, rfl, rfl, Nat.le_refl _, fun _ _ _ => rfl⟩
  have none' : m = 0 → news = [] := fun h => List.eq_nil_of_length_eq_zero (by rw [hs.len, h]; simp)
  by_cases hm : m = 0
  · have hn0 := none' hm
    subst hm
    subst hn0
    obtain ⟨b, c, rfl, hnc⟩ := same
    rcases hs.val with ⟨rfl, _⟩ | ⟨a, c', rfl, _, _⟩
    · exact ⟨_, w, append_none_run ty ht hi b n c hnc, by simpa using hown, refl _, .inl rfl⟩
    · exact ⟨_, w, append_zero_run ty ht hi b n c hnc a c', by simpa using hown, refl _, .inl rfl⟩
  · rcases hs.val with ⟨_, h0⟩ | ⟨a, c, rfl, _, hcells⟩
    · exact absurd h0 hm
    · have grows : ∀ (b : Addr) (cap : Nat), v = .slice (some b) n cap → cap < n + m → (∀ j u, xs[j]? = some u → w.cell? (b.add j) = some u) → ∃ v' w', (Builtin.append_ #[t, t] ty #[v, .slice (some a) m c]).run P w = .ok v' w' ∧
          RowAt w' e i.size v' (n + m) (xs ++ news) ∧ w.grownBy w' (blkOf v) ∧ (blkOf v' = blkOf v ∨ ∀ g, blkOf v' = some g → w.heap.size ≤ g) := by
        rintro b cap rfl hcap holds
        obtain ⟨v', w', hrun, hown', hg⟩ := run_append_arg_grows (P := P) w t ty e i z i.size i.bytes ht hi hz rfl rfl hzs hsz b n cap xs hown.1 holds a m c news hs.len hcells hcap (by simp only [maxLen]; omega) hbytes
        obtain ⟨h1, h2⟩ := RowAt.of_owns hown'
        exact ⟨v', w', hrun, h1, ⟨hg.os, hg.tape, hg.output, hg.size, fun k hk _ => hg.block k hk (by simp)⟩, .inr h2⟩
      rcases hown.2 with ⟨rfl, rfl⟩ | ⟨b, rfl, rfl⟩ | ⟨g, o, cap, cur, rfl, hh, hnc, hcm, hcs, htake⟩
      · have hxs : xs = [] := List.eq_nil_of_length_eq_zero (by rw [hown.1]; simp)
        subst hxs
        obtain ⟨v', w', hrun, hown', hg, _⟩ := run_append_own (P := P) w w.heap.size t ty e i z i.size i.bytes ht hi hz rfl rfl hzs hsz _ 0 [] (World.ownsRow_nil w _ e i.size) a m c news hs.len hcells hs.one (by simp only [maxLen]; omega) hbytes (Nat.le_refl _)
        obtain ⟨h1, h2⟩ := RowAt.of_owns hown'
        exact ⟨v', w', hrun, h1, hg, .inr h2⟩
      · have hxs : xs = [] := List.eq_nil_of_length_eq_zero (by rw [hown.1]; simp)
        exact grows b 0 rfl (by omega) (fun j u hu => by rw [hxs] at hu; simp at hu)
      · by_cases hroom : n + m ≤ cap + 1
        · have hcapsz : (n + m) * i.size ≤ (cap + 1) * i.size := Nat.mul_le_mul_right _ hroom
          rw [Nat.add_mul] at hcapsz
          have hxl := hown.1
          have hnl := hs.len
          have hfit : o + n * i.size + news.length ≤ cur.size := by omega
          have hrun := append_room_run (w := w) ty ht hi (c := cap + 1) (c' := c) hh hs.len hcells hs.one hroom hfit
          refine ⟨_, _, hrun, ⟨by rw [List.length_append, hxl, hnl, Nat.add_mul], .inr (.inr ⟨g, o, cap, _, rfl, setRow_heap w _ _ _ _ _ hh, hroom, hcm, ?_, ?_⟩)⟩, grownBy_setRow _ _ _, .inl rfl⟩
          · simp
            omega
          · apply List.ext_getElem?
            intro q
            simp only
            rw [List.getElem?_take, List.getElem?_drop, overV_get? (by simpa using hfit), List.getElem?_append, ← htake]
            simp only [List.length_take, List.length_drop, List.getElem?_take, List.getElem?_drop]
            have hmin : min (n * i.size) (cur.toList.length - o) = n * i.size := by simp; omega
            rw [hmin, Nat.add_mul]
            by_cases h1 : q < n * i.size
            · rw [if_pos (by omega), if_pos (by omega), if_pos h1, if_pos h1]
            · rw [if_neg h1]
              by_cases h2 : q < n * i.size + m * i.size
              · rw [if_pos h2, if_neg (by omega), if_pos (by omega)]
                congr 1
                omega
              · rw [if_neg h2, List.getElem?_eq_none (by omega)]
        · refine grows _ (cap + 1) rfl (by omega) fun j u hu => ?_
          have hpos : 0 < xs.length := by have := (List.getElem?_eq_some_iff.1 hu).1; omega
          obtain ⟨g2, o2, cap2, cur2, h2, _, _, _, _, _, hcells2⟩ := hown.cells hpos
          simp only [Value.slice.injEq, Option.some.injEq, Addr.mk.injEq] at h2
          obtain ⟨⟨rfl, rfl, _⟩, _⟩ := h2
          rw [Addr.add_lit]
          exact hcells2 _ _ hu

def appendA (gc : Option Prop) (T : List (Nat × TI)) (lk : Nat → Option AO) (nid t : Nat) (s x : AV) (k : Eff → Prop) : Prop :=
  match tget t T with
  | some ti => (match sliceD ti.desc with
    | some e => (match tget e T with
      | some te => (match te.size, te.bytes, Nat.beq te.zero.cells.size te.size with
        | _ + 1, _ + 1, true => (match s with
          | .so id => (match lk id with
            | some (.row e' sz n get) => (match Nat.beq e' e, Nat.beq sz te.size with
              | true, true => srcK lk x te.size fun m get2 => ob gc ((n + m) * te.bytes ≤ 140737488355328) (k (.app id (.row e te.size (n + m) (catG n get get2)) (.so nid)))
              | _, _ => False)
            | _ => False)
          | .sv id sz lo n1 => (match lk id with
            | some (.row e' sz' _n get) => (match Nat.beq e' e, Nat.beq sz' te.size, Nat.beq sz te.size with
              | true, true, true => srcK lk x te.size fun m get2 => ob gc ((n1 + m) * te.bytes ≤ 140737488355328) (k (.app id (.row e te.size (n1 + m) (catG n1 (fun q => get (lo + q)) get2)) (.so nid)))
              | _, _, _ => False)
            | _ => False)
          | .val v => (match nilSlice v with
            | true => srcK lk x te.size fun m get2 => ob gc (m * te.bytes ≤ 140737488355328) (k (.ext [.row e te.size m get2] (.so nid)))
            | false => False)
          | _ => False)
        | _, _, _ => False)
      | none => False)
    | none => False)
  | none => False

/-- A part of a row is a row. -/
theorem sub_row {w : World} {e : TypeId} {sz : Nat} {b : Value} {n : Nat} {xs : List Value} (hx : RowAt w e sz b n xs) {lo n1 : Nat} {u : Value} (hsv : SvOk b sz lo n1 u) :
    ∃ ys, RowAt w e sz u n1 ys ∧ (∀ j, j < ys.length → ys[j]? = xs[lo * sz + j]?) ∧ (0 < n1 → lo + n1 ≤ n) ∧ (blkOf u = blkOf b ∨ blkOf u = none) := by
  rcases hsv with ⟨rfl, hn0, hb⟩ | ⟨ad, rfl, hn0, _⟩ | ⟨g, o, m, c, hb, hlo, hloc, rfl⟩
  · exact ⟨[], ⟨by simp [hn0], .inl ⟨rfl, hn0⟩⟩, fun j h => by simp at h, fun h => by omega, .inr rfl⟩
  · exact ⟨[], ⟨by simp [hn0], .inr (.inl ⟨ad, rfl, hn0⟩)⟩, fun j h => by simp at h, fun h => by omega, .inr rfl⟩
  · rcases hx.2 with ⟨hv2, _⟩ | ⟨ad, hv2, _⟩ | ⟨g', off, cap, cur, hv2, hh, hnc, hcm, hcs, htake⟩
    · rw [hb] at hv2; cases hv2
    · rw [hb] at hv2; cases hv2; omega
    · rw [hb] at hv2
      simp only [Value.slice.injEq, Option.some.injEq, Addr.mk.injEq] at hv2
      obtain ⟨⟨rfl, rfl, _⟩, rfl, rfl⟩ := hv2
      have e1 : (lo + (cap + 1 - lo)) * sz = lo * sz + (cap + 1 - lo) * sz := Nat.add_mul _ _ _
      have e2 : (lo + n1) * sz = lo * sz + n1 * sz := Nat.add_mul _ _ _
      have e3 : lo + (cap + 1 - lo) = cap + 1 := by omega
      rw [e3] at e1
      have e4 : (lo + n1) * sz ≤ m * sz := Nat.mul_le_mul_right _ hloc
      have e5 : m * sz ≤ (cap + 1) * sz := Nat.mul_le_mul_right _ hnc
      have e7 : cap + 1 - lo = (cap - lo) + 1 := by omega
      refine ⟨(cur.toList.drop (o + lo * sz)).take (n1 * sz), ⟨?_, .inr (.inr ⟨g, o + lo * sz, cap - lo, cur, ?_, hh, by omega, by omega, ?_, rfl⟩)⟩, fun j hj => ?_, fun _ => hloc, .inl ?_⟩
      · simp
        omega
      · congr 1
      · rw [← e7]
        omega
      · simp only [List.length_take, List.length_drop] at hj
        rw [← htake, List.getElem?_take, List.getElem?_take, if_pos (by omega), if_pos (by omega), List.getElem?_drop, List.getElem?_drop]
        congr 1
        omega
      · rw [hb, e7]
        rfl

theorem append_app (E : Env β nid F w lk) {t e : TypeId} (ty : TypeId) {i : TypeInfo} {z0 : Value} (hut : P.underlying t = some (.slice e)) (hi : P.info? e = some i) (hz : i.zero = some z0) (hzs : z0.cells.size = i.size) (hsz : 0 < i.size) (hb1 : 0 < i.bytes)
    {id n n1 m : Nat} {get get1 get2 : Nat → List AV} {u v : Value} {xs news : List Value} (hlk : lk id = some (.row e i.size n get)) (hx : RowAt w e i.size u n1 xs) (hub : blkOf u = blkOf (β.val id) ∨ blkOf u = none)
    (hlen : ∀ k, k < n1 → (get1 k).length = i.size) (hc : ∀ (k j : Nat) (_ : k < n1) (h1 : j < (get1 k).length) (h2 : k * i.size + j < xs.length), Rep0 F w (get1 k)[j] xs[k * i.size + j] ∧ xs[k * i.size + j].oneCell' = true)
    (hsrc : Src F w v i.size m get2 news) (hbytes : (n1 + m) * i.bytes ≤ 140737488355328) (h : k (.app id (.row e i.size (n1 + m) (catG n1 get1 get2)) (.so nid))) :
    ∃ z w', (Builtin.append_ #[t, t] ty #[u, v]).run P w = .ok z w' ∧ PostK β nid F lk w k z w' := by
  obtain ⟨v', w', hrun, hown', hg, hblk⟩ := append_own (P := P) ty hut hi hz hzs hsz hb1 hx hsrc hbytes
  have hval : (β.valAt nid v').val nid = v' := by simp [Bd.valAt]
  have hFown : ∀ g, blkOf u = some g → F g := fun g hg' => by
    rcases hub with h1 | h1
    · exact E.own id _ g hlk (by simp only [ownB]; rw [← h1]; exact hg')
    · rw [h1] at hg'; cases hg'
  have hold : ∀ g, g < w.heap.size → ¬ F g → w'.heap[g]? = w.heap[g]? := fun g hg' hn => hg.block g hg' (fun e => hn (hFown g e.symm))
  have hFX : ∀ g, g < w.heap.size → ¬ F g → ¬ FX F (β.valAt nid v') nid [.row e i.size (n1 + m) (catG n1 get1 get2)] g := by
    rintro g hg' hn (hf | ⟨j, o, hj, ho⟩)
    · exact hn hf
    · cases j with
      | succ j => simp at hj
      | zero =>
        simp at hj
        subst hj
        simp [ownB, hval] at ho
        rcases hblk with hb' | hb'
        · exact hn (hFown g (by rw [← hb']; exact ho))
        · have := hb' g ho; omega
  have hgrow : w.grownBy w' (ownB β id (.row e i.size n get)) := by
    rcases hub with h1 | h1
    · simp only [ownB]
      rw [← h1]
      exact hg
    · exact ⟨hg.os, hg.tape, hg.output, hg.size, fun g hg' hn => hg.block g hg' (by rw [h1]; exact fun h => by cases h)⟩
  refine ⟨v', w', hrun, _, β.valAt nid v', h, agree_valAt _ _ _, _, hlk, hgrow, ?_, ⟨xs ++ news, by rw [hval]; exact hown', ?_, ?_⟩, ?_⟩
  · simp only [ownB, hval]
    rcases hub with h1 | h1
    · rw [← h1]
      exact hblk
    · right
      intro g hg'
      rcases hblk with h2 | h2
      · rw [h2, h1] at hg'; cases hg'
      · exact h2 g hg'
  · intro q hq
    simp only [catG]
    split
    · exact hlen q (by assumption)
    · exact hsrc.glen (q - n1) (by omega)
  · intro q j hq h1' h2'
    have hxl := hx.1
    by_cases hqn : q < n1
    · have e1 : catG n1 get1 get2 q = get1 q := by simp [catG, hqn]
      simp only [e1] at h1' ⊢
      have hj : j < i.size := by rw [← hlen q hqn]; exact h1'
      have : q * i.size + i.size ≤ n1 * i.size := by rw [← Nat.succ_mul]; exact Nat.mul_le_mul_right _ hqn
      have hlt : q * i.size + j < xs.length := by omega
      rw [List.getElem_append_left hlt]
      exact ⟨((hc q j hqn h1' hlt).1.stable hFX hold hg.size), (hc q j hqn h1' hlt).2⟩
    · have e1 : catG n1 get1 get2 q = get2 (q - n1) := by simp [catG, hqn]
      simp only [e1] at h1' ⊢
      have hqm : q - n1 < m := by omega
      have hj : j < i.size := by rw [← hsrc.glen _ hqm]; exact h1'
      have e2 : (q - n1) * i.size = q * i.size - n1 * i.size := Nat.sub_mul _ _ _
      have e3 : n1 * i.size ≤ q * i.size := Nat.mul_le_mul_right _ (by omega)
      have hlt : (q - n1) * i.size + j < news.length := by
        rw [hsrc.len]
        have : (q - n1) * i.size + i.size ≤ m * i.size := by rw [← Nat.succ_mul]; exact Nat.mul_le_mul_right _ hqm
        omega
      rw [List.getElem_append_right (by omega)]
      have e4 : q * i.size + j - xs.length = (q - n1) * i.size + j := by omega
      simp only [e4]
      exact ⟨(hsrc.rep _ j hqm h1' hlt).stable hFX hold hg.size, hsrc.one _ (List.getElem_mem _)⟩
  · have hp := Rep.so (β := β.valAt nid v') (n := nid + 1) (F := FX F (β.valAt nid v') nid [.row e i.size (n1 + m) (catG n1 get1 get2)]) (w := w') nid (by omega) (by rw [hval]; exact hown'.one)
    rw [hval] at hp
    exact hp
theorem append_sub (E : Env β nid F w lk) {t e : TypeId} (ty : TypeId) {i : TypeInfo} {z0 : Value} (hut : P.underlying t = some (.slice e)) (hi : P.info? e = some i) (hz : i.zero = some z0) (hzs : z0.cells.size = i.size) (hsz : 0 < i.size) (hb1 : 0 < i.bytes)
    {id lo n n1 m : Nat} {get get2 : Nat → List AV} {u v : Value} {news : List Value} (hlk : lk id = some (.row e i.size n get)) (hsv : SvOk (β.val id) i.size lo n1 u)
    (hsrc : Src F w v i.size m get2 news) (hbytes : (n1 + m) * i.bytes ≤ 140737488355328) (h : k (.app id (.row e i.size (n1 + m) (catG n1 (fun q => get (lo + q)) get2)) (.so nid))) :
    ∃ z w', (Builtin.append_ #[t, t] ty #[u, v]).run P w = .ok z w' ∧ PostK β nid F lk w k z w' := by
  obtain ⟨_, xs, hx, hlen, hc⟩ := E.obj id _ hlk
  obtain ⟨ys, hy, hyx, hln, hub⟩ := sub_row hx hsv
  refine append_app E ty hut hi hz hzs hsz hb1 hlk hy hub (fun q hq => hlen _ (by have := hln (by omega); omega)) (fun q j hq h1 h2 => ?_) hsrc hbytes h
  have hkn := hln (by omega)
  have h3 := hyx _ h2
  have hl := hlen (lo + q) (by omega)
  have h1' : j < (get (lo + q)).length := h1
  have h4 : (lo + q) * i.size + j < xs.length := by
    rw [hx.1]
    calc (lo + q) * i.size + j < (lo + q) * i.size + i.size := by omega
      _ = (lo + q + 1) * i.size := by rw [Nat.add_mul (lo + q) 1]; omega
      _ ≤ n * i.size := Nat.mul_le_mul_right _ (by omega)
  have e1 : lo * i.size + (q * i.size + j) = (lo + q) * i.size + j := by rw [Nat.add_mul]; omega
  rw [e1, List.getElem?_eq_getElem h2, List.getElem?_eq_getElem h4] at h3
  have h3 := Option.some.inj h3
  have := hc (lo + q) j (by omega) h1' h4
  rw [h3]
  exact this
theorem appendA_sound {gc : Option Prop} (hgc : ∀ c, gc = some c → c) (E : Env β nid F w lk) {T : List (Nat × TI)} (hT : TabOk P T) {t : Nat} {s x : AV} {u v : Value} (ty : TypeId) (hu : Rep β nid F w s u) (hv : Rep β nid F w x v)
    (h : appendA gc T lk nid t s x k) : ∃ z w', (Builtin.append_ #[t, t] ty #[u, v]).run P w = .ok z w' ∧ PostK β nid F lk w k z w' := by
  unfold appendA at h
  split at h
  · rename_i ti h1
    split at h
    · rename_i e h2
      split at h
      · rename_i te h3
        split at h
        · rename_i sz1 by1 hsz1 hby1 hzs
          have hzs : te.zero.cells.size = te.size := by simpa using hzs
          obtain ⟨hut, _⟩ := hT.get h1
          obtain ⟨_, _, i, hi, hs, hb, hz⟩ := hT.get h3
          cases hd : ti.desc <;> simp [sliceD, hd] at h2
          rename_i el
          subst h2
          rw [hd] at hut
          split at h
          · rename_i id
            split at h
            · rename_i e' sz n get hlk
              split at h
              · rename_i he hsz
                have he : e' = el := by simpa using he
                have hsz : sz = te.size := by simpa using hsz
                subst he
                subst hsz
                obtain ⟨m, get2, news, h, hsrc⟩ := srcK_sound E (by omega) hv h
                obtain ⟨hbytes, h⟩ := ob_iff h hgc
                obtain ⟨hid, rfl⟩ := hu.so_inv
                obtain ⟨_, xs, hx, hlen, hc⟩ := E.obj id _ hlk
                rw [← hs] at hx hsrc
                obtain ⟨v', w', hrun, hown', hg, hblk⟩ := append_own (P := P) ty hut hi hz (by rw [hzs, hs]) (by omega) (by omega) hx hsrc (by rw [hb]; exact hbytes)
                have hval : (β.valAt nid v').val nid = v' := by simp [Bd.valAt]
                have hFown : ∀ g, blkOf (β.val id) = some g → F g := fun g hg' => E.own id _ g hlk hg'
                have hold : ∀ g, g < w.heap.size → ¬ F g → w'.heap[g]? = w.heap[g]? := fun g hg' hn => hg.block g hg' (fun e => hn (hFown g e.symm))
                have hFX : ∀ g, g < w.heap.size → ¬ F g → ¬ FX F (β.valAt nid v') nid [.row e' te.size (n + m) (catG n get get2)] g := by
                  rintro g hg' hn (hf | ⟨j, o, hj, ho⟩)
                  · exact hn hf
                  · cases j with
                    | succ j => simp at hj
                    | zero =>
                      simp at hj
                      subst hj
                      simp [ownB, hval] at ho
                      rcases hblk with hb' | hb'
                      · exact hn (hFown g (by rw [← hb']; exact ho))
                      · have := hb' g ho; omega
                refine ⟨v', w', hrun, _, β.valAt nid v', h, agree_valAt _ _ _, _, hlk, hg, ?_, ⟨xs ++ news, by rw [hval, ← hs]; exact hown', ?_, ?_⟩, ?_⟩
                · simp only [ownB, hval]
                  exact hblk
                · intro q hq
                  simp only [catG]
                  split
                  · exact hlen q (by assumption)
                  · rw [hsrc.glen (q - n) (by omega), hs]
                · intro q j hq h1' h2'
                  have hxl := hx.1
                  rw [hs] at hxl
                  by_cases hqn : q < n
                  · have e1 : catG n get get2 q = get q := by simp [catG, hqn]
                    simp only [e1] at h1' ⊢
                    have hj : j < te.size := by rw [← hlen q hqn]; exact h1'
                    have : q * te.size + te.size ≤ n * te.size := by rw [← Nat.succ_mul]; exact Nat.mul_le_mul_right _ hqn
                    have hlt : q * te.size + j < xs.length := by omega
                    rw [List.getElem_append_left hlt]
                    exact ⟨((hc q j hqn h1' hlt).1.stable hFX hold hg.size), (hc q j hqn h1' hlt).2⟩
                  · have e1 : catG n get get2 q = get2 (q - n) := by simp [catG, hqn]
                    simp only [e1] at h1' ⊢
                    have hqm : q - n < m := by omega
                    have hj : j < i.size := by rw [← hsrc.glen _ hqm]; exact h1'
                    have e2 : (q - n) * te.size = q * te.size - n * te.size := Nat.sub_mul _ _ _
                    have e3 : n * te.size ≤ q * te.size := Nat.mul_le_mul_right _ (by omega)
                    have hlt : (q - n) * i.size + j < news.length := by
                      rw [hsrc.len]
                      have : (q - n) * i.size + i.size ≤ m * i.size := by rw [← Nat.succ_mul]; exact Nat.mul_le_mul_right _ hqm
                      omega
                    rw [List.getElem_append_right (by omega)]
                    have e4 : q * te.size + j - xs.length = (q - n) * i.size + j := by rw [hs]; omega
                    simp only [e4]
                    exact ⟨(hsrc.rep _ j hqm h1' hlt).stable hFX hold hg.size, hsrc.one _ (List.getElem_mem _)⟩
                · have hp := Rep.so (β := β.valAt nid v') (n := nid + 1) (F := FX F (β.valAt nid v') nid [.row e' te.size (n + m) (catG n get get2)]) (w := w') nid (by omega)
                    (by rw [hval]; exact hown'.one)
                  rw [hval] at hp
                  exact hp
              · exact h.elim
            · exact h.elim
          · rename_i id sz lo n1
            split at h
            · rename_i e' sz' n get hlk
              split at h
              · rename_i he hsz' hsz
                have he : e' = el := by simpa using he
                have hsz' : sz' = te.size := by simpa using hsz'
                have hsz : sz = te.size := by simpa using hsz
                subst he
                subst hsz'
                subst hsz
                obtain ⟨m, get2, news, h, hsrc⟩ := srcK_sound E (by omega) hv h
                obtain ⟨hbytes, h⟩ := ob_iff h hgc
                obtain ⟨hid, hsv⟩ := hu.sv_inv
                exact append_sub E ty hut hi hz (by rw [hzs, hs]) (by omega) (by omega) (by rw [hs]; exact hlk) (by rw [hs]; exact hsv) (by rw [hs]; exact hsrc) (by rw [hb]; exact hbytes) (by rw [hs]; exact h)
              · exact h.elim
            · exact h.elim
          · rename_i v0
            split at h
            · rename_i hn
              obtain ⟨m, get2, news, h, hsrc⟩ := srcK_sound E (by omega) hv h
              obtain ⟨hbytes, h⟩ := ob_iff h hgc
              obtain rfl := hu.val_inv
              obtain rfl := nilSlice_iff hn
              have hx := (RowAt.of_owns (World.ownsRow_nil w w.heap.size el i.size)).1
              rw [← hs] at hsrc
              obtain ⟨v', w', hrun, hown', hg, hblk⟩ := append_own (P := P) ty hut hi hz (by rw [hzs, hs]) (by omega) (by omega) hx hsrc (by rw [hb, Nat.zero_add]; exact hbytes)
              simp only [Nat.zero_add, List.nil_append] at hown'
              refine ⟨v', w', hrun, _, _, h, .row el te.size m get2 v' news ⟨hg.os, hg.tape, hg.output, hg.size, fun g hg' => hg.block g hg' (by simp [blkOf])⟩ (by rw [← hs]; exact hown') (fun g hg' => by rcases hblk with h | h; rw [h] at hg'; cases hg'; exact h g hg') ?_ ?_⟩
              · intro q hq
                rw [← hs]
                exact hsrc.glen q hq
              · intro q j hq h1' h2'
                simp only [← hs] at h2' ⊢
                exact ⟨hsrc.rep q j hq h1' h2', hsrc.one _ (List.getElem_mem _)⟩
            · exact h.elim
          · exact h.elim
        · exact h.elim
      · exact h.elim
    · exact h.elim
  · exact h.elim
end
end Go.Eng
end

section
/-
  The engine, eighth part: parts of slices, function values, calls, and one operation.
-/
namespace Go.Eng
open Go.RowKit
section
variable {P : Program} {β : Bd} {nid : Nat} {F : Nat → Prop} {w : World} {lk : Nat → Option AO} {k : Eff → Prop}

/-! ### a part of a read-only slice -/
def intOr (a : Option AV) (d : Int) : Option Int :=
  match a with
  | none => some d
  | some (.i _ n) => some n
  | some _ => none
def subA (gc : Option Prop) (T : List (Nat × TI)) (lk : Nat → Option AO) (t : Nat) (a : AV) (lo hi : Option AV) (k : Eff → Prop) : Prop :=
  match tget t T with
  | some ti => (match sliceD ti.desc with
    | some e => (match tget e T, a with
      | some te, .rs sz n get => (match Nat.beq sz te.size, intOr lo 0, intOr hi n with
        | true, some l, some h => ob gc (0 ≤ l ∧ l ≤ h ∧ h ≤ (n : Int)) (k (.ext [] (.rs sz (h - l).toNat fun q => get (l.toNat + q))))
        | _, _, _ => False)
      | some te, .so id => (match lk id with
        | some (.row _ sz n _) => (match Nat.beq sz te.size, intOr lo 0, intOr hi n with
          | true, some l, some h => ob gc (0 ≤ l ∧ l ≤ h ∧ h ≤ (n : Int)) (k (.ext [] (.sv id sz l.toNat (h - l).toNat)))
          | _, _, _ => False)
        | _ => False)
      | some te, .sv id sz lo' n => (match lk id with
        | some (.row _ sz' _ _) => (match Nat.beq sz te.size, Nat.beq sz' te.size, intOr lo 0, intOr hi n with
          | true, true, some l, some h => ob gc (0 ≤ l ∧ l ≤ h ∧ h ≤ (n : Int)) (k (.ext [] (.sv id sz (lo' + l.toNat) (h - l).toNat)))
          | _, _, _, _ => False)
        | _ => False)
      | _, _ => False)
    | none => False)
  | none => False

theorem bound_run (kk : IntKind) (i : Int) (y : Nat) (c : BoundsCode) (h0 : 0 ≤ i) (h1 : i ≤ y) : (Instr.sliceBound (.int kk i) y c).run P w = .ok i.toNat w := by
  simp [Instr.sliceBound, asIntOf, h0, h1]

theorem sub_run {T : List (Nat × TI)} (hT : TabOk P T) {t e : Nat} {ti te : TI} (h1 : tget t T = some ti) (h2 : sliceD ti.desc = some e) (h3 : tget e T = some te) (a : Option Addr) (n c : Nat) (hnc : n ≤ c) (lo hi : Option Value) (l h : Nat)
    (hlo : ∀ v, lo = some v → ∃ kk, v = .int kk l) (hlo' : lo = none → l = 0) (hhi : ∀ v, hi = some v → ∃ kk, v = .int kk h) (hhi' : hi = none → h = n) (hlh : l ≤ h) (hhn : h ≤ n) :
    (Instr.slice t (.slice a n c) lo hi none).run P w = .ok (.slice (if c = l then a else a.map (·.add (l * te.size))) (h - l) (c - l)) w := by
  obtain ⟨hu, _⟩ := hT.get h1
  obtain ⟨_, _, j, hj, hs, _⟩ := hT.get h3
  cases hd : ti.desc <;> simp [sliceD, hd] at h2
  subst h2
  rw [hd] at hu
  have hb : (Instr.sliceBounds true n c lo hi none).run P w = .ok (l, h, c) w := by
    unfold Instr.sliceBounds
    rcases hi with _ | vh <;> rcases lo with _ | vl
    · simp [hlo' rfl, hhi' rfl]
    · obtain ⟨kk, rfl⟩ := hlo _ rfl
      have := bound_run (P := P) (w := w) kk l n .sliceB (by omega) (by have := hhi' rfl; omega)
      simp [this, hhi' rfl]
    · obtain ⟨kk, rfl⟩ := hhi _ rfl
      have := bound_run (P := P) (w := w) kk h c .sliceAcap (by omega) (by omega)
      simp [this, hlo' rfl]
    · obtain ⟨kk, rfl⟩ := hhi _ rfl
      obtain ⟨kk', rfl⟩ := hlo _ rfl
      have h1 := bound_run (P := P) (w := w) kk h c .sliceAcap (by omega) (by omega)
      have h2 := bound_run (P := P) (w := w) kk' l h .sliceB (by omega) (by omega)
      simp [h1, h2]
  simp [Instr.slice, run_underlying hu, hb, sizeOf, typeInfo, hj, hs]

theorem intOr_spec {a : Option AV} {d n : Int} (h : intOr a d = some n) {v : Option Value} (hv : ∀ x, a = some x → ∃ y, v = some y ∧ Rep β nid F w x y) (hn : a = none → v = none) :
    (∀ y, v = some y → ∃ kk, y = .int kk n) ∧ (v = none → n = d) := by
  unfold intOr at h
  split at h
  · rw [hn rfl]
    exact ⟨fun y hy => (by cases hy), fun _ => (Option.some.inj h).symm⟩
  · obtain ⟨y, rfl, hy⟩ := hv _ rfl
    obtain rfl := Option.some.inj h
    obtain rfl := hy.i_inv
    exact ⟨fun y hy => by cases hy; exact ⟨_, rfl⟩, fun hy => by cases hy⟩
  · cases h

theorem subA_sound {gc : Option Prop} (hgc : ∀ c, gc = some c → c) (E : Env β nid F w lk) {T : List (Nat × TI)} (hT : TabOk P T) {t : Nat} {a : AV} {v : Value} {lo hi : Option AV} {lv hv : Option Value} (hr : Rep β nid F w a v)
    (hl : ∀ x, lo = some x → ∃ y, lv = some y ∧ Rep β nid F w x y) (hl' : lo = none → lv = none) (hh : ∀ x, hi = some x → ∃ y, hv = some y ∧ Rep β nid F w x y) (hh' : hi = none → hv = none)
    (h : subA gc T lk t a lo hi k) : ∃ x, (Instr.slice t v lv hv none).run P w = .ok x w ∧ ∃ r, k (.ext [] r) ∧ Rep β nid F w r x := by
  unfold subA at h
  split at h
  · rename_i ti h1
    split at h
    · rename_i e h2
      split at h
      · rename_i te sz n get h3
        split at h
        · rename_i l hh2 hsz hlo hhi
          have hsz : sz = te.size := by simpa using hsz
          have hq2 := ob_iff h hgc
          clear h
          obtain ⟨⟨hl0, hlh, hhn⟩, h⟩ := hq2
          have sl := intOr_spec hlo hl hl'
          have sh := intOr_spec hhi hh hh'
          obtain ⟨L, rfl⟩ := Int.eq_ofNat_of_zero_le hl0
          obtain ⟨H, rfl⟩ := Int.eq_ofNat_of_zero_le (Int.le_trans hl0 hlh)
          have hv0 := hr.rs_inv
          have run : ∀ (ad : Option Addr) (c : Nat), n ≤ c → (Instr.slice t (.slice ad n c) lv hv none).run P w = .ok (.slice (if c = L then ad else ad.map (·.add (L * te.size))) (H - L) (c - L)) w := fun ad c hc =>
            sub_run hT h1 h2 h3 ad n c hc lv hv L H sl.1 (fun hy => by have := sl.2 hy; omega) sh.1 (fun hy => by have := sh.2 hy; omega) (by omega) (by omega)
          have eHL : ((H : Int) - (L : Int)).toNat = H - L := by omega
          rw [eHL] at h
          cases hv0 with
          | rsnil =>
            have hr := run none 0 (Nat.le_refl _)
            have hL : L = 0 := by omega
            have hH : H = 0 := by omega
            subst hL
            subst hH
            refine ⟨_, hr, _, h, ?_⟩
            simp only [Nat.sub_self, if_true]
            exact .pure _ _ (.rsnil _ _)
          | rsz _ _ a0 =>
            have hr := run (some a0) 0 (Nat.le_refl _)
            have hL : L = 0 := by omega
            have hH : H = 0 := by omega
            subst hL
            subst hH
            refine ⟨_, hr, _, h, ?_⟩
            simp only [Nat.sub_self, if_true]
            exact .pure _ _ (.rsz _ _ a0)
          | rs _ _ _ g o c vs hn hm hF hg hlen hc h1' hr' =>
            have hr := run (some ⟨g, o, none⟩) c hn
            refine ⟨_, hr, _, h, .pure _ _ ?_⟩
            by_cases hcl : c = L
            · rw [if_pos hcl]
              have e0 : H - L = 0 := by omega
              rw [e0]
              exact .rs sz 0 _ g o _ (fun _ _ => undef) (Nat.zero_le _) (by omega) hF hg (fun k hk => by omega) (fun k j hk => by omega) (fun k j hk => by omega) (fun k j hk => by omega)
            · rw [if_neg hcl]
              simp only [Option.map_some, Addr.add_lit]
              refine .rs sz (H - L) _ g (o + L * te.size) _ (fun k j => vs (L + k) j) (by omega) (by omega) hF hg ?_ ?_ ?_ ?_
              · intro k hk
                simpa using hlen (L + k) (by omega)
              · intro k j hk hj
                have := hc (L + k) j (by omega) hj
                rw [Nat.add_mul] at this
                rw [← hsz, ← this]
                congr 2
                omega
              · intro k j hk hj
                exact h1' (L + k) j (by omega) hj
              · intro k j hk hj
                simpa using hr' (L + k) j (by omega) (by simpa using hj)
        · exact h.elim
      · rename_i te id h3
        split at h
        · rename_i e' sz n get hlk
          split at h
          · rename_i l hh2 hsz hlo hhi
            have hsz : sz = te.size := by simpa using hsz
            subst hsz
            have hq2 := ob_iff h hgc
            clear h
            obtain ⟨⟨hl0, hlh, hhn⟩, h⟩ := hq2
            have sl := intOr_spec hlo hl hl'
            have sh := intOr_spec hhi hh hh'
            obtain ⟨L, rfl⟩ := Int.eq_ofNat_of_zero_le hl0
            obtain ⟨H, rfl⟩ := Int.eq_ofNat_of_zero_le (Int.le_trans hl0 hlh)
            obtain ⟨hid, rfl⟩ := hr.so_inv
            obtain ⟨_, xs, hx, _⟩ := E.obj id _ hlk
            have run : ∀ (ad : Option Addr) (c : Nat), n ≤ c → (Instr.slice t (.slice ad n c) lv hv none).run P w = .ok (.slice (if c = L then ad else ad.map (·.add (L * te.size))) (H - L) (c - L)) w := fun ad c hc =>
              sub_run hT h1 h2 h3 ad n c hc lv hv L H sl.1 (fun hy => by have := sl.2 hy; omega) sh.1 (fun hy => by have := sh.2 hy; omega) (by omega) (by omega)
            have eHL : ((H : Int) - (L : Int)).toNat = H - L := by omega
            rw [eHL, Int.toNat_natCast] at h
            rcases hx.2 with ⟨hv0, hn0⟩ | ⟨a0, hv0, hn0⟩ | ⟨g, o, cap, cur, hv0, _, hnc, _⟩
            · have e0 : L = 0 ∧ H = 0 := by omega
              obtain ⟨rfl, rfl⟩ := e0
              subst hn0
              refine ⟨_, by rw [hv0]; exact run none 0 (Nat.le_refl _), _, h, .sv _ _ _ _ _ hid (.inl ⟨rfl, rfl, hv0⟩)⟩
            · have e0 : L = 0 ∧ H = 0 := by omega
              obtain ⟨rfl, rfl⟩ := e0
              subst hn0
              refine ⟨_, by rw [hv0]; exact run (some a0) 0 (Nat.le_refl _), _, h, .sv _ _ _ _ _ hid (.inr (.inl ⟨a0, rfl, rfl, _, _, _, hv0, Nat.zero_le _⟩))⟩
            · refine ⟨_, by rw [hv0]; exact run (some ⟨g, o, none⟩) (cap + 1) hnc, _, h, .sv _ _ _ _ _ hid ?_⟩
              by_cases hcl : cap + 1 = L
              · have e0 : H - L = 0 := by omega
                rw [if_pos hcl, e0, show cap + 1 - L = 0 by omega]
                exact .inr (.inl ⟨_, rfl, rfl, _, _, _, hv0, by omega⟩)
              · rw [if_neg hcl]
                simp only [Option.map_some, Addr.add_lit]
                exact .inr (.inr ⟨g, o, n, cap + 1, hv0, by omega, by omega, rfl⟩)
          · exact h.elim
        · exact h.elim
      · rename_i te id sz lo' n h3
        split at h
        · rename_i e' sz' N get hlk
          split at h
          · rename_i l hh2 hsz hsz' hlo hhi
            have hsz : sz = te.size := by simpa using hsz
            have hsz' : sz' = te.size := by simpa using hsz'
            subst hsz
            subst hsz'
            have hq2 := ob_iff h hgc
            clear h
            obtain ⟨⟨hl0, hlh, hhn⟩, h⟩ := hq2
            have sl := intOr_spec hlo hl hl'
            have sh := intOr_spec hhi hh hh'
            obtain ⟨L, rfl⟩ := Int.eq_ofNat_of_zero_le hl0
            obtain ⟨H, rfl⟩ := Int.eq_ofNat_of_zero_le (Int.le_trans hl0 hlh)
            obtain ⟨hid, hsv⟩ := hr.sv_inv
            obtain ⟨_, xs, hx, _⟩ := E.obj id _ hlk
            have run : ∀ (ad : Option Addr) (c : Nat), n ≤ c → (Instr.slice t (.slice ad n c) lv hv none).run P w = .ok (.slice (if c = L then ad else ad.map (·.add (L * te.size))) (H - L) (c - L)) w := fun ad c hc =>
              sub_run hT h1 h2 h3 ad n c hc lv hv L H sl.1 (fun hy => by have := sl.2 hy; omega) sh.1 (fun hy => by have := sh.2 hy; omega) (by omega) (by omega)
            have eHL : ((H : Int) - (L : Int)).toNat = H - L := by omega
            rw [eHL, Int.toNat_natCast] at h
            rcases hsv with ⟨rfl, hn0, hb⟩ | ⟨a0, rfl, hn0, a', m', c, hb, hc⟩ | ⟨g, o, m', c, hb, hlo', hlm, rfl⟩
            · have e0 : L = 0 ∧ H = 0 := by omega
              obtain ⟨rfl, rfl⟩ := e0
              subst hn0
              exact ⟨_, run none 0 (Nat.le_refl _), _, h, .sv _ _ _ _ _ hid (.inl ⟨rfl, rfl, hb⟩)⟩
            · have e0 : L = 0 ∧ H = 0 := by omega
              obtain ⟨rfl, rfl⟩ := e0
              subst hn0
              exact ⟨_, run (some a0) 0 (Nat.le_refl _), _, h, .sv _ _ _ _ _ hid (.inr (.inl ⟨a0, rfl, rfl, a', m', c, hb, by omega⟩))⟩
            · have hnc : n ≤ c - lo' := by
                rcases hx.2 with ⟨h1, _⟩ | ⟨_, h1, _⟩ | ⟨g', o', cap, cur, h1, _, hnc, _⟩
                · rw [hb] at h1; cases h1
                · rw [hb] at h1
                  simp only [Value.slice.injEq] at h1
                  omega
                · rw [hb] at h1
                  simp only [Value.slice.injEq] at h1
                  omega
              refine ⟨_, run (some ⟨g, o + lo' * te.size, none⟩) (c - lo') hnc, _, h, .sv _ _ _ _ _ hid ?_⟩
              by_cases hcl : c - lo' = L
              · have e0 : H - L = 0 := by omega
                rw [if_pos hcl, e0, show c - lo' - L = 0 by omega]
                exact .inr (.inl ⟨_, rfl, rfl, _, _, _, hb, by omega⟩)
              · rw [if_neg hcl]
                simp only [Option.map_some, Addr.add_lit]
                refine .inr (.inr ⟨g, o, m', c, hb, by omega, by omega, ?_⟩)
                rw [Nat.add_mul, ← Nat.add_assoc, Nat.sub_sub]
          · exact h.elim
        · exact h.elim
      · exact h.elim
    · exact h.elim
  · exact h.elim

/-! ### what is handed to a function: own objects, seen as read only -/
mutual
def viewK (lk : Nat → Option AO) : Nat → AV → (AV → Prop) → Prop
  | _ + 1, .so id, k => (match lk id with
    | some (.row _ sz m get) => k (.rs sz m get)
    | _ => False)
  | _ + 1, .sv id sz lo m, k => (match lk id with
    | some (.row _ sz' _ get) => (match Nat.beq sz' sz with
      | true => k (.rs sz m fun q => get (lo + q))
      | false => False)
    | _ => False)
  | _ + 1, .mo id, k => (match lk id with
    | some (.mp m key val _ _) => k (.rm m key val)
    | _ => False)
  | n + 1, .p id off, k => (match lk id with
    | some (.cells _ cs) => viewsK lk n cs fun l => dropK off l fun l' => k (.rp l')
    | _ => False)
  | n + 1, .fn f cs, k => viewsK lk n cs fun l => k (.fn f l)
  | n + 1, .ag cs, k => viewsK lk n cs fun l => k (.ag l)
  | n + 1, .tup cs, k => viewsK lk n cs fun l => k (.tup l)
  | _, .pe _ _ _ _, _ => False
  | 0, .mo _, _ => False
  | 0, .sv _ _ _ _, _ => False
  | 0, .so _, _ => False
  | 0, .p _ _, _ => False
  | 0, .fn _ _, _ => False
  | 0, .ag _, _ => False
  | 0, .tup _, _ => False
  | _, a, k => k a
def viewsK (lk : Nat → Option AO) : Nat → List AV → (List AV → Prop) → Prop
  | _, [], k => k []
  | 0, _ :: _, _ => False
  | n + 1, a :: r, k => viewK lk n a fun b => viewsK lk n r fun l => k (b :: l)
end

/-- A part of a row, seen as a slice that is read only. -/
theorem part_view {Fa : Nat → Prop} (hFF : ∀ g, Fa g → F g) {e : TypeId} {sz n : Nat} {xs : List Value} {get : Nat → List AV} {g o cap : Nat} (hga : ¬ Fa g) {cur : Array Value} (hh : w.heap[g]? = some (.cells cur e (0, 0))) (hcm : cap + 1 ≤ maxLen)
    (htake : (cur.toList.drop o).take (n * sz) = xs) (hxl : xs.length = n * sz) (hlen : ∀ k, k < n → (get k).length = sz)
    (hc : ∀ (k j : Nat) (_ : k < n) (h1 : j < (get k).length) (h2 : k * sz + j < xs.length), Rep0 F w (get k)[j] xs[k * sz + j] ∧ xs[k * sz + j].oneCell' = true) (lo m : Nat) (hlm : lo + m ≤ n) (c : Nat) (hmc : m ≤ c) (hcc : c ≤ cap + 1) :
    Rep0 Fa w (.rs sz m fun q => get (lo + q)) (.slice (some ⟨g, o + lo * sz, none⟩) m c) := by
  have hmul : ∀ k, k < n → k * sz + sz ≤ n * sz := fun k hk => by rw [← Nat.succ_mul]; exact Nat.mul_le_mul_right _ hk
  refine .rs sz m _ g (o + lo * sz) c (fun k j => xs.getD ((lo + k) * sz + j) undef) hmc (by omega) hga (Array.getElem?_eq_some_iff.1 hh).1 (fun k hk => hlen _ (by omega)) ?_ ?_ ?_
  · intro k j hk hj
    have hlt : (lo + k) * sz + j < xs.length := by have := hmul (lo + k) (by omega); omega
    rw [cell_of_row w _ _ _ _ _ hh]
    have e1 : o + lo * sz + k * sz + j = o + ((lo + k) * sz + j) := by rw [Nat.add_mul]; omega
    rw [e1]
    have h2 : xs[(lo + k) * sz + j]? = cur.toList[o + ((lo + k) * sz + j)]? := by
      rw [← htake, List.getElem?_take, if_pos (by omega), List.getElem?_drop]
    have h3 : xs[(lo + k) * sz + j]? = some xs[(lo + k) * sz + j] := List.getElem?_eq_getElem hlt
    rw [List.getD_eq_getElem?_getD, h3]
    rw [h3] at h2
    simpa using h2.symm
  · intro k j hk hj
    have hlt : (lo + k) * sz + j < xs.length := by have := hmul (lo + k) (by omega); omega
    have := (hc (lo + k) j (by omega) (by rw [hlen _ (by omega)]; exact hj) hlt).2
    rw [List.getD_eq_getElem?_getD, List.getElem?_eq_getElem hlt]
    simpa using this
  · intro k j hk hj
    have hj' : j < sz := by rw [hlen (lo + k) (by omega)] at hj; exact hj
    have hlt : (lo + k) * sz + j < xs.length := by have := hmul (lo + k) (by omega); omega
    have := (hc (lo + k) j (by omega) hj hlt).1
    rw [List.getD_eq_getElem?_getD, List.getElem?_eq_getElem hlt]
    exact this.stable (fun g _ hn hf => hn (hFF g hf)) (fun _ _ _ => rfl) (Nat.le_refl _)
theorem row_view {Fa : Nat → Prop} (hFF : ∀ g, Fa g → F g) {e : TypeId} {sz n : Nat} {v : Value} {xs : List Value} {get : Nat → List AV} (hx : RowAt w e sz v n xs) (hb : ∀ g, blkOf v = some g → ¬ Fa g) (hlen : ∀ k, k < n → (get k).length = sz)
    (hc : ∀ (k j : Nat) (_ : k < n) (h1 : j < (get k).length) (h2 : k * sz + j < xs.length), Rep0 F w (get k)[j] xs[k * sz + j] ∧ xs[k * sz + j].oneCell' = true) : Rep0 Fa w (.rs sz n get) v := by
  rcases hx.2 with ⟨rfl, rfl⟩ | ⟨a, rfl, rfl⟩ | ⟨g, o, cap, cur, rfl, hh, hnc, hcm, hcs, htake⟩
  · exact .rsnil _ _
  · exact .rsz _ _ a
  · have := part_view hFF (hb g rfl) hh hcm htake hx.1 hlen hc 0 n (by omega) (cap + 1) hnc (Nat.le_refl _)
    simpa using this
theorem sv_view {Fa : Nat → Prop} (hFF : ∀ g, Fa g → F g) {e : TypeId} {sz n lo m : Nat} {b v : Value} {xs : List Value} {get : Nat → List AV} (hsv : SvOk b sz lo m v) (hx : RowAt w e sz b n xs) (hbb : ∀ g, blkOf b = some g → ¬ Fa g) (hlen : ∀ k, k < n → (get k).length = sz)
    (hc : ∀ (k j : Nat) (_ : k < n) (h1 : j < (get k).length) (h2 : k * sz + j < xs.length), Rep0 F w (get k)[j] xs[k * sz + j] ∧ xs[k * sz + j].oneCell' = true) : Rep0 Fa w (.rs sz m fun q => get (lo + q)) v := by
  rcases hsv with ⟨rfl, rfl, _⟩ | ⟨a, rfl, rfl, _⟩ | ⟨g, o, m', c, hb, hlo, hlm, rfl⟩
  · exact .rsnil _ _
  · exact .rsz _ _ a
  · rcases hx.2 with ⟨h1, _⟩ | ⟨_, h1, _⟩ | ⟨g', o', cap, cur, h1, hh, hnc, hcm, hcs, htake⟩
    · rw [hb] at h1; cases h1
    · rw [hb] at h1
      simp only [Value.slice.injEq] at h1
      omega
    · rw [hb] at h1
      simp only [Value.slice.injEq, Option.some.injEq, Addr.mk.injEq] at h1
      obtain ⟨⟨rfl, rfl, _⟩, rfl, rfl⟩ := h1
      exact part_view hFF (hbb g (by rw [hb]; rfl)) hh hcm htake hx.1 hlen hc lo m (by omega) _ (by omega) (by omega)
theorem views_sound (E : Env β nid F w lk) {Fa : Nat → Prop} (hFF : ∀ g, Fa g → F g) {lkv : Nat → Option AO} (hlkv : ∀ id o, lkv id = some o → lk id = some o) (hFa : ∀ id o g, lkv id = some o → ownB β id o = some g → ¬ Fa g) : ∀ n : Nat,
    (∀ (a : AV) (v : Value) (q : AV → Prop), Rep β nid F w a v → viewK lkv n a q → ∃ b, q b ∧ Rep0 Fa w b v) ∧
    (∀ (l : List AV) (vs : List Value) (q : List AV → Prop), l.length = vs.length → (∀ (j : Nat) (h1 : j < l.length) (h2 : j < vs.length), Rep β nid F w l[j] vs[j]) → viewsK lkv n l q →
      ∃ m, q m ∧ m.length = vs.length ∧ ∀ (j : Nat) (h1 : j < m.length) (h2 : j < vs.length), Rep0 Fa w m[j] vs[j]) := by
  have toFalse : ∀ {a : AV} {v : Value}, Rep0 F w a v → Rep0 Fa w a v := fun h => h.stable (fun g _ hn hf => hn (hFF g hf)) (fun _ _ _ => rfl) (Nat.le_refl _)
  intro n
  induction n with
  | zero =>
    refine ⟨?_, ?_⟩
    · intro a v q hr h
      cases a <;> simp only [viewK] at h <;> first | exact h.elim | (cases hr with | pure _ _ hr => exact ⟨_, h, toFalse hr⟩)
    · intro l vs q hl hr h
      cases l with
      | nil => simp only [viewsK] at h; exact ⟨[], h, hl, fun j h1 => by simp at h1⟩
      | cons a r => simp only [viewsK] at h
  | succ n ih =>
    refine ⟨?_, ?_⟩
    · intro a v q hr h
      cases a with
      | so id =>
        simp only [viewK] at h
        split at h
        · rename_i e sz m get hlk
          obtain ⟨hid, rfl⟩ := hr.so_inv
          obtain ⟨_, xs, hx, hlen, hc⟩ := E.obj id _ (hlkv _ _ hlk)
          exact ⟨_, h, row_view hFF hx (fun g hg => hFa id _ g hlk hg) hlen hc⟩
        · exact h.elim
      | sv id sz lo m =>
        simp only [viewK] at h
        split at h
        · rename_i e sz' N get hlk
          split at h
          · rename_i hs
            have hs : sz' = sz := by simpa using hs
            subst hs
            obtain ⟨hid, hsv⟩ := hr.sv_inv
            obtain ⟨_, xs, hx, hlen, hc⟩ := E.obj id _ (hlkv _ _ hlk)
            exact ⟨_, h, sv_view hFF hsv hx (fun g hg => hFa id _ g hlk hg) hlen hc⟩
          · exact h.elim
        · exact h.elim
      | mo id =>
        simp only [viewK] at h
        split at h
        · rename_i m key val born clock hlk
          obtain ⟨hid, rfl⟩ := hr.mo_inv
          obtain ⟨_, es, hh, hn, ho, hc⟩ := E.obj id _ (hlkv _ _ hlk)
          exact ⟨_, h, .rm _ _ _ _ es clock (hFa id _ _ hlk rfl) hh hn ho (fun i h1 h2 => toFalse (hc i h1 h2).1) (fun i h1 h2 => toFalse (hc i h1 h2).2.1)⟩
        · exact h.elim
      | p id off =>
        simp only [viewK] at h
        split at h
        · rename_i e cs hlk
          obtain ⟨hid, rfl⟩ := hr.p_inv
          obtain ⟨_, vs, hh, hl, hc⟩ := E.obj id _ (hlkv _ _ hlk)
          obtain ⟨m, h, hml, hm⟩ := ih.2 cs vs _ hl (fun j h1 h2 => (hc j h1 h2).1) h
          obtain ⟨hle, h⟩ := dropK_iff h
          refine ⟨_, h, .rp _ (β.blk id) off (fun j => vs.getD (off + j) undef) (hFa id _ _ hlk rfl) (Array.getElem?_eq_some_iff.1 hh).1 ?_ ?_ ?_⟩
          · intro j hj
            simp at hj
            rw [cell_of_row w _ _ _ _ _ hh]
            simp [List.getElem?_eq_getElem (show off + j < vs.length by omega)]
          · intro j hj
            simp at hj
            have := (hc (off + j) (by omega) (by omega)).2
            simpa [List.getElem?_eq_getElem (show off + j < vs.length by omega)] using this
          · intro j hj
            simp at hj
            have := hm (off + j) (by omega) (by omega)
            simpa [List.getElem?_eq_getElem (show off + j < vs.length by omega)] using this
        · exact h.elim
      | fn f cs =>
        simp only [viewK] at h
        obtain ⟨vs, rfl, hl, hc⟩ := hr.fn_inv
        obtain ⟨m, h, hml, hm⟩ := ih.2 cs vs _ hl hc h
        exact ⟨_, h, .fn f m vs hml hm⟩
      | ag cs =>
        simp only [viewK] at h
        obtain ⟨vs, rfl, hl, hc⟩ := hr.ag_inv
        obtain ⟨m, h, hml, hm⟩ := ih.2 cs vs _ hl hc h
        exact ⟨_, h, .ag m vs hml hm⟩
      | tup cs =>
        simp only [viewK] at h
        obtain ⟨vs, rfl, hl, hc⟩ := hr.tup_inv
        obtain ⟨m, h, hml, hm⟩ := ih.2 cs vs _ hl hc h
        exact ⟨_, h, .tup m vs hml hm⟩
      | pe => simp only [viewK] at h
      | rm => simp only [viewK] at h; cases hr with | pure _ _ hr => exact ⟨_, h, toFalse hr⟩
      | b => simp only [viewK] at h; cases hr with | pure _ _ hr => exact ⟨_, h, toFalse hr⟩
      | i => simp only [viewK] at h; cases hr with | pure _ _ hr => exact ⟨_, h, toFalse hr⟩
      | s => simp only [viewK] at h; cases hr with | pure _ _ hr => exact ⟨_, h, toFalse hr⟩
      | val => simp only [viewK] at h; cases hr with | pure _ _ hr => exact ⟨_, h, toFalse hr⟩
      | u => simp only [viewK] at h; cases hr with | pure _ _ hr => exact ⟨_, h, toFalse hr⟩
      | rs => simp only [viewK] at h; cases hr with | pure _ _ hr => exact ⟨_, h, toFalse hr⟩
      | rp => simp only [viewK] at h; cases hr with | pure _ _ hr => exact ⟨_, h, toFalse hr⟩
    · intro l vs q hl hr h
      cases l with
      | nil => simp only [viewsK] at h; exact ⟨[], h, hl, fun j h1 => by simp at h1⟩
      | cons a r =>
        simp only [viewsK] at h
        cases vs with
        | nil => simp at hl
        | cons v vs =>
          obtain ⟨b, h, hb⟩ := ih.1 a v _ (hr 0 (by simp) (by simp)) h
          obtain ⟨m, h, hml, hm⟩ := ih.2 r vs _ (by simpa using hl) (fun j h1 h2 => hr (j + 1) (Nat.succ_lt_succ h1) (Nat.succ_lt_succ h2)) h
          refine ⟨b :: m, h, by simp [hml], fun j h1 h2 => ?_⟩
          cases j with
          | zero => exact hb
          | succ j => exact hm j (by simpa using h1) (by simpa using h2)
end
end Go.Eng
end
