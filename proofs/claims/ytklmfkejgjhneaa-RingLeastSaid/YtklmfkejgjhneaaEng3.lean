/-
  The engine, third part: the operations, each with its proof.
-/
import Derived.Test.YtklmfkejgjhneaaEng2
namespace Go.Eng
open Go.RowKit

structure Env (β : Bd) (nid : Nat) (F : Nat → Prop) (w : World) (lk : Nat → Option AO) : Prop where
  obj : ∀ id o, lk id = some o → id < nid ∧ ObjOk β nid F w id o
  own : ∀ id o g, lk id = some o → ownB β id o = some g → F g
  old : ∀ g, F g → g < w.heap.size

def PostK (β : Bd) (nid : Nat) (F : Nat → Prop) (lk : Nat → Option AO) (w : World) (k : Eff → Prop) (v : Value) (w' : World) : Prop :=
  ∃ eff β', k eff ∧ EffPost β β' nid F lk w w' v eff

section
variable {P : Program} {β : Bd} {nid : Nat} {F : Nat → Prop} {w : World} {lk : Nat → Option AO} {k : Eff → Prop}

theorem Out.same {r : AV} {v : Value} {run : Result Next} (hk : k (.ext [] r)) (hr : Rep β nid F w r v) (hrun : run = .ok (.value v) w) : Out P (PostK β nid F lk w k) run := by
  subst hrun
  exact .value v w ⟨_, β, hk, .id hr (Below.refl _ _)⟩

/-! ### load -/
def loadA (gc : Option Prop) (lk : Nat → Option AO) (ti : TI) (a : AV) (k : Eff → Prop) : Prop :=
  match a with
  | .p id off => (match lk id with
    | some (.cells _ cs) => dropTakeK off ti.size cs fun l => packK ti.agg l fun r => k (.ext [] r)
    | _ => False)
  | .rp cs => dropTakeK 0 ti.size cs fun l => packK ti.agg l fun r => k (.ext [] r)
  | .pe id sz idx off => (match lk id with
    | some (.row _ sz' n get) => (match Nat.beq sz sz' with
      | true => ob gc (idx < n) (dropTakeK off ti.size (get idx) fun l => packK ti.agg l fun r => k (.ext [] r))
      | false => False)
    | _ => False)
  | _ => False

theorem load_run {t : TypeId} {ti : TI} (hti : TIOk P t ti) (g o : Nat) (vs : List Value) (hl : vs.length = ti.size) (hc : ∀ (j : Nat) (h : j < vs.length), w.cell? ⟨g, o + j, none⟩ = some vs[j]) :
    (ti.agg = true → (loadVar t ⟨g, o, none⟩).run P w = .ok (.agg vs.toArray) w) ∧ (ti.agg = false → ∀ h : 0 < vs.length, (loadVar t ⟨g, o, none⟩).run P w = .ok vs[0] w) := by
  obtain ⟨hu, hagg, i, hi, hs, _, _⟩ := hti
  have hisagg : (isAgg t).run P w = .ok ti.agg w := by
    unfold isAgg
    rw [Sem.run_bind, run_underlying hu w, ← hagg]
    cases ti.desc <;> simp [isAggD]
  constructor
  · intro ha
    have hload := run_loadCells_list (P := P) w ⟨g, o, none⟩ vs (fun j v hv => by
      obtain ⟨hj, rfl⟩ := List.getElem?_eq_some_iff.1 hv
      rw [Addr.add_lit]
      exact hc j hj)
    rw [hl] at hload
    simp [loadVar, hisagg, ha, sizeOf, typeInfo, hi, hs, hload]
  · intro ha h
    have h0 := hc 0 h
    simp only [Nat.add_zero] at h0
    simp [loadVar, hisagg, ha, load, Sem.run, h0]

theorem load_out {t : TypeId} {ti : TI} (hti : TIOk P t ti) (g o : Nat) (vs : List Value) (l : List AV) (hl : vs.length = ti.size) (hll : l.length = vs.length)
    (hc : ∀ (j : Nat) (h : j < vs.length), w.cell? ⟨g, o + j, none⟩ = some vs[j])
    (hr : ∀ (j : Nat) (h1 : j < l.length) (h2 : j < vs.length), Rep β nid F w l[j] vs[j])
    (h : packK ti.agg l fun r => k (.ext [] r)) :
    ∃ v, (loadVar t ⟨g, o, none⟩).run P w = .ok v w ∧ ∃ r, k (.ext [] r) ∧ Rep β nid F w r v := by
  have hrun := load_run hti g o vs hl hc
  unfold packK at h
  split at h
  · rename_i hagg
    exact ⟨_, hrun.1 hagg, _, h, .ag _ vs hll hr⟩
  · rename_i a hagg
    have h0 : 0 < vs.length := by rw [← hll]; simp
    exact ⟨_, hrun.2 hagg h0, _, h, by simpa using hr 0 (by simp) h0⟩
  · exact h.elim

theorem loadA_sound {gc : Option Prop} (hgc : ∀ c, gc = some c → c) (E : Env β nid F w lk) {t : TypeId} {ti : TI} (hti : TIOk P t ti) {a : AV} {v : Value} (hv : Rep β nid F w a v)
    (h : loadA gc lk ti a k) : ∃ x, (Instr.loadAt t v).run P w = .ok x w ∧ ∃ r, k (.ext [] r) ∧ Rep β nid F w r x := by
  unfold loadA at h
  split at h
  · rename_i id off
    split at h
    · rename_i e cs hlk
      obtain ⟨hsz, h⟩ := dropTakeK_iff h
      obtain ⟨_, rfl⟩ := hv.p_inv
      obtain ⟨hid, vs, hh, hl, hc⟩ := E.obj id _ hlk
      have := load_out (β := β) (nid := nid) (F := F) (w := w) (k := k) hti (β.blk id) off ((vs.drop off).take ti.size) ((cs.drop off).take ti.size) (by simp; omega) (by simp; omega)
        (fun j hj => by
          simp at hj
          rw [cell_of_row w _ _ _ _ _ hh]
          simp)
        (fun j h1 h2 => by
          simp at h1 h2
          simpa using (hc (off + j) (by omega) (by omega)).1) h
      simpa [Instr.loadAt, Instr.sureAddr] using this
    · exact h.elim
  · rename_i cs
    obtain ⟨hsz, h⟩ := dropTakeK_iff h
    have hv0 := hv.rp_inv
    cases hv0 with
    | rp _ g off vs hF hg hc h1 hr =>
      have := load_out (β := β) (nid := nid) (F := F) (w := w) (k := k) hti g off ((List.range ti.size).map vs) ((cs.drop 0).take ti.size) (by simp) (by simp; omega)
        (fun j hj => by
          simp at hj
          simpa using hc j (by omega))
        (fun j h1 h2 => by
          simp at h1 h2
          simpa using Rep.pure _ _ (hr j (by omega))) h
      simpa [Instr.loadAt, Instr.sureAddr] using this
  · rename_i id sz idx off
    split at h
    · rename_i e sz' n get hlk
      split at h
      · rename_i hsz'
        have hsz' : sz = sz' := by simpa using hsz'
        subst hsz'
        obtain ⟨hidx, h⟩ := ob_iff h hgc
        obtain ⟨hsz, h⟩ := dropTakeK_iff h
        obtain ⟨_, g, o, m, c, hval, rfl⟩ := hv.pe_inv
        obtain ⟨hid, xs, hx, hlen, hc⟩ := E.obj id _ hlk
        have hxl := hx.1
        have hgl := hlen idx hidx
        have hmul : idx * sz + sz ≤ n * sz := by rw [← Nat.succ_mul]; exact Nat.mul_le_mul_right _ hidx
        by_cases hx0 : 0 < xs.length
        · obtain ⟨g', o', cap, cur, hv', _, _, _, _, _, hcells⟩ := hx.cells hx0
          rw [hval] at hv'
          simp only [Value.slice.injEq, Option.some.injEq, Addr.mk.injEq] at hv'
          obtain ⟨⟨rfl, rfl, _⟩, _, _⟩ := hv'
          have := load_out (β := β) (nid := nid) (F := F) (w := w) (k := k) hti g (o + (idx * sz + off)) ((xs.drop (idx * sz + off)).take ti.size) (((get idx).drop off).take ti.size) (by simp; omega) (by simp; omega)
            (fun j hj => by
              simp at hj
              have := hcells (idx * sz + off + j) xs[idx * sz + off + j] (List.getElem?_eq_getElem (by omega))
              rw [Nat.add_assoc o]
              simpa using this)
            (fun j h1 h2 => by
              simp at h1 h2
              have := (hc idx (off + j) hidx (by omega) (by omega)).1
              simpa [Nat.add_assoc] using Rep.pure (β := β) (n := nid) _ _ this) h
          simpa [Instr.loadAt, Instr.sureAddr] using this
        · have h0 : sz = 0 := by omega
          have hz : ti.size = 0 := by omega
          have := load_out (β := β) (nid := nid) (F := F) (w := w) (k := k) hti g (o + (idx * sz + off)) [] (((get idx).drop off).take ti.size) (by simp [hz]) (by simp [hz]) (fun j hj => by simp at hj) (fun j h1 h2 => by simp at h2) h
          simpa [Instr.loadAt, Instr.sureAddr] using this
      · exact h.elim
    · exact h.elim
  · exact h.elim

/-! ### store -/
def storeA (gc : Option Prop) (lk : Nat → Option AO) (ti : TI) (a y : AV) (k : Eff → Prop) : Prop :=
  cellsK y fun cs => match Nat.beq cs.length ti.size with
    | false => False
    | true => match a with
      | .p id off => (match lk id with
        | some (.cells e old) => overK off cs old fun new => k (.set id (.cells e new) .u)
        | _ => False)
      | .pe id sz idx off => (match lk id with
        | some (.row e sz' n get) => (match Nat.beq sz sz', AV.lts 0 cs, Nat.ble (off + cs.length) sz with
          | true, true, true => ob gc (idx < n) (k (.set id (.row e sz n fun q => if q = idx then over off cs (get q) else get q) .u))
          | _, _, _ => False)
        | _ => False)
      | _ => False

theorem leaves_get : ∀ {l : List AV}, leaves l = true → ∀ (j : Nat) (h : j < l.length), leaf l[j] = true
  | [], _, j, h => by simp at h
  | c :: r, hl, j, h => by
    unfold leaves at hl
    split at hl
    · rename_i hc
      cases j with
      | zero => exact hc
      | succ j => exact leaves_get hl j (by simpa using h)
    · cases hl
theorem cellsK_iff {a : AV} {q : List AV → Prop} (h : cellsK a q) : ∃ cs, q cs ∧ (a = .ag cs ∧ leaves cs = true ∨ cs = [a] ∧ leaf a = true) := by
  unfold cellsK at h
  split at h
  · split at h
    · rename_i hl
      exact ⟨_, h, .inl ⟨rfl, hl⟩⟩
    · exact h.elim
  · split at h
    · rename_i hl
      exact ⟨_, h, .inr ⟨rfl, hl⟩⟩
    · exact h.elim
/-- The cells of a value that is known. -/
theorem cells_rep {a : AV} {cs : List AV} {v : Value} (hv : Rep β nid F w a v) (h : a = .ag cs ∧ leaves cs = true ∨ cs = [a] ∧ leaf a = true) :
    ∃ vs : List Value, v.cells = vs.toArray ∧ cs.length = vs.length ∧ ∀ (j : Nat) (h1 : j < cs.length) (h2 : j < vs.length), Rep β nid F w cs[j] vs[j] ∧ vs[j].oneCell' = true := by
  rcases h with ⟨rfl, hl⟩ | ⟨rfl, hl⟩
  · obtain ⟨vs, rfl, hlen, hr⟩ := hv.ag_inv
    exact ⟨vs, rfl, hlen, fun j h1 h2 => ⟨hr j h1 h2, leaf_one (hr j h1 h2) (leaves_get hl j h1)⟩⟩
  · have h1 := leaf_one hv hl
    refine ⟨[v], ?_, rfl, fun j h1' h2 => ?_⟩
    · cases v <;> first | rfl | simp [Value.oneCell'] at h1
    · have : j = 0 := by simpa using h2
      subst this
      exact ⟨hv, h1⟩

theorem store_run {t : TypeId} {ti : TI} (hti : TIOk P t ti) (g o : Nat) (e : TypeId) (cur : Array Value) (v : Value) (vs : List Value) (hv : v.cells = vs.toArray) (hl : vs.length = ti.size)
    (hg : w.heap[g]? = some (.cells cur e (0, 0))) (hfit : o + vs.length ≤ cur.size) (h1 : ∀ u ∈ vs, u.oneCell' = true) :
    (storeVar t ⟨g, o, none⟩ v).run P w = .ok () (w.setRow g (cur.toList.take o ++ vs ++ cur.toList.drop (o + vs.length)).toArray) := by
  obtain ⟨hu, hagg, i, hi, hs, _, _⟩ := hti
  have hst := run_storeCells_at P g o e vs 0 cur w hg (by simpa using hfit) h1
  simp only [Nat.add_zero] at hst
  have hsz : v.cells.size = i.size := by rw [hv, hs]; simpa using hl
  have hcl : v.cells.toList = vs := by rw [hv]
  simp [storeVar, sizeOf, typeInfo, hi, hsz, hcl, hst]

theorem overV_get? {off : Nat} {cs l : List Value} (h : off + cs.length ≤ l.length) (q : Nat) :
    (l.take off ++ cs ++ l.drop (off + cs.length))[q]? = if q < off then l[q]? else if q < off + cs.length then cs[q - off]? else l[q]? := by
  by_cases h1 : q < off
  · rw [if_pos h1, List.getElem?_append_left (by simp; omega), List.getElem?_append_left (by simp; omega), List.getElem?_take, if_pos h1]
  · rw [if_neg h1]
    by_cases h2 : q < off + cs.length
    · rw [if_pos h2, List.getElem?_append_left (by simp; omega), List.getElem?_append_right (by simp; omega)]
      congr 1
      simp
      omega
    · rw [if_neg h2, List.getElem?_append_right (by simp; omega), List.getElem?_drop]
      congr 1
      simp
      omega
theorem grownBy_setRow (w : World) (g : Nat) (cs : Array Value) : w.grownBy (w.setRow g cs) (some g) :=
  ⟨rfl, rfl, rfl, by simp, fun k _ hne => setRow_other w g k cs (fun e => hne (by rw [e]))⟩

theorem over_get {off : Nat} {cs l : List AV} (h : off + cs.length ≤ l.length) (j : Nat) (hj : j < (over off cs l).length) :
    (over off cs l).length = l.length ∧ (over off cs l)[j] = if h' : off ≤ j ∧ j < off + cs.length then cs[j - off]'(by omega) else l[j]'(by simp [over] at hj; omega) := by
  refine ⟨by simp [over]; omega, ?_⟩
  simp only [over] at hj ⊢
  by_cases h1 : j < off
  · rw [List.getElem_append_left (by simp; omega), List.getElem_append_left (by simp; omega), dif_neg (by omega)]
    simp
  · by_cases h2 : j < off + cs.length
    · rw [List.getElem_append_left (by simp; omega), List.getElem_append_right (by simp; omega), dif_pos (by omega)]
      congr 1
      simp
      omega
    · rw [List.getElem_append_right (by simp; omega), dif_neg (by omega)]
      simp
      congr 1
      omega
theorem over_len {off : Nat} {cs l : List AV} (h : off + cs.length ≤ l.length) : (over off cs l).length = l.length := by simp [over]; omega
theorem AV.lts_pure {β : Bd} {nid : Nat} {F : Nat → Prop} {w : World} {cs : List AV} (h : AV.lts 0 cs = true) (j : Nat) (hj : j < cs.length) {v : Value} (hr : Rep β nid F w cs[j] v) : Rep0 F w cs[j] v :=
  hr.toPure (AV.lts_get h j hj)
theorem overV_get {off : Nat} {cs l : List Value} (h : off + cs.length ≤ l.length) (j : Nat) (hj : j < (l.take off ++ cs ++ l.drop (off + cs.length)).length) :
    (l.take off ++ cs ++ l.drop (off + cs.length))[j] = if h' : off ≤ j ∧ j < off + cs.length then cs[j - off]'(by omega) else l[j]'(by simp at hj; omega) := by
  by_cases h1 : j < off
  · rw [List.getElem_append_left (by simp; omega), List.getElem_append_left (by simp; omega), dif_neg (by omega)]
    simp
  · by_cases h2 : j < off + cs.length
    · rw [List.getElem_append_left (by simp; omega), List.getElem_append_right (by simp; omega), dif_pos (by omega)]
      congr 1
      simp
      omega
    · rw [List.getElem_append_right (by simp; omega), dif_neg (by omega)]
      simp
      congr 1
      omega


/-- The cells us, laid over a row's from the A-th on. -/
theorem RowAt.over {e : TypeId} {sz g o n cap : Nat} {cur : Array Value} {xs : List Value} (hh : w.heap[g]? = some (.cells cur e (0, 0))) (hnc : n ≤ cap + 1) (hcm : cap + 1 ≤ maxLen) (hcs : o + (cap + 1) * sz ≤ cur.size)
    (htake : (cur.toList.drop o).take (n * sz) = xs) (hxl : xs.length = n * sz) (A : Nat) (us : List Value) (hA : A + us.length ≤ n * sz) :
    RowAt (w.setRow g (cur.toList.take (o + A) ++ us ++ cur.toList.drop (o + A + us.length)).toArray) e sz (.slice (some ⟨g, o, none⟩) n (cap + 1)) n (xs.take A ++ us ++ xs.drop (A + us.length)) := by
  have hcapsz : n * sz ≤ (cap + 1) * sz := Nat.mul_le_mul_right _ hnc
  refine ⟨?_, .inr (.inr ⟨g, o, cap, _, rfl, setRow_heap w _ _ _ _ _ hh, hnc, hcm, ?_, ?_⟩)⟩
  · simp; omega
  · simp; omega
  · rw [← htake]
    apply List.ext_getElem?
    intro q
    simp only
    rw [List.getElem?_take, List.getElem?_drop, overV_get? (by simp; omega), overV_get? (by simp; omega)]
    simp only [List.getElem?_take, List.getElem?_drop]
    by_cases hq : q < n * sz
    · rw [if_pos hq]
      by_cases h1 : q < A
      · rw [if_pos (by omega), if_pos h1, if_pos hq]
      · rw [if_neg (by omega), if_neg h1]
        by_cases h2 : q < A + us.length
        · rw [if_pos (by omega), if_pos h2]; congr 1; omega
        · rw [if_neg (by omega), if_neg h2, if_pos hq]
    · rw [if_neg hq, if_neg (by omega), if_neg (by omega), if_neg hq]

theorem storeA_sound {gc : Option Prop} (hgc : ∀ c, gc = some c → c) (E : Env β nid F w lk) {t : TypeId} {ti : TI} (hti : TIOk P t ti) {a y : AV} {v u : Value} (hv : Rep β nid F w a v) (hu : Rep β nid F w y u)
    (h : storeA gc lk ti a y k) : ∃ w', (Instr.storeAt t v u).run P w = .ok () w' ∧ PostK β nid F lk w k undef w' := by
  unfold storeA at h
  have hq := cellsK_iff h
  clear h
  obtain ⟨cs, h, hcs⟩ := hq
  obtain ⟨us, hucells, hlen, hus⟩ := cells_rep hu hcs
  split at h
  · exact h.elim
  · rename_i hsz
    have hsz : cs.length = ti.size := by simpa using hsz
    have hone : ∀ x ∈ us, x.oneCell' = true := fun x hx => by
      obtain ⟨j, hj, rfl⟩ := List.getElem_of_mem hx
      exact (hus j (by omega) hj).2
    split at h
    · rename_i id off
      split at h
      · rename_i e old hlk
        obtain ⟨hfit, h⟩ := overK_iff h
        obtain ⟨_, rfl⟩ := hv.p_inv
        obtain ⟨hid, vs, hh, hl, hc⟩ := E.obj id _ hlk
        have hF := E.own id _ _ hlk rfl
        by_cases hnil : cs = []
        · subst hnil
          simp at hlen hsz
          have hus0 : us = [] := by simpa using hlen.symm
          subst hus0
          have hrun : (Instr.storeAt t (.pointer (some ⟨β.blk id, off, none⟩)) u).run P w = .ok () w := by
            obtain ⟨_, _, i, hi, hs, _, _⟩ := hti
            simp [Instr.storeAt, Instr.sureAddr, storeVar, sizeOf, typeInfo, hi, hucells, hs, ← hsz, storeCells]
          refine ⟨w, hrun, _, β, h, rfl, _, hlk, ⟨rfl, rfl, rfl, Nat.le_refl _, fun _ _ _ => rfl⟩, rfl, ⟨vs, hh, by simpa [over] using hl, fun j h1 h2 => ?_⟩, .pure _ _ (.u _)⟩
          have hj : j < old.length := by simpa [over] using h1
          simpa [over] using hc j hj h2
        · have hfit : off + cs.length ≤ old.length := hfit.resolve_left hnil
          have hrun := store_run (P := P) (w := w) hti (β.blk id) off e vs.toArray u us hucells (by omega) hh (by simp; omega) hone
          have hold : ∀ g, g < w.heap.size → ¬ F g → (w.setRow (β.blk id) (vs.toArray.toList.take off ++ us ++ vs.toArray.toList.drop (off + us.length)).toArray).heap[g]? = w.heap[g]? :=
            fun g _ hn => setRow_other w _ g _ (fun e => hn (by rw [e]; exact hF))
          refine ⟨_, hrun, _, β, h, rfl, _, hlk, grownBy_setRow _ _ _, rfl, ⟨_, setRow_heap w _ _ _ _ _ hh, ?_, fun j h1 h2 => ?_⟩, .pure _ _ (.u _)⟩
          · exact (over_len hfit).trans (by simp only [List.length_append, List.length_take, List.length_drop]; omega)
          · obtain ⟨hol, hog⟩ := over_get hfit j h1
            rw [hog]
            have hvg := overV_get (off := off) (cs := us) (l := vs) (by omega) j (by simpa using h2)
            simp only at h2 ⊢
            rw [hvg]
            by_cases hin : off ≤ j ∧ j < off + cs.length
            · rw [dif_pos hin, dif_pos (by omega)]
              have := hus (j - off) (by omega) (by omega)
              exact ⟨this.1.stable (fun _ _ hn => hn) hold (by simp), this.2⟩
            · rw [dif_neg hin, dif_neg (by omega)]
              have := hc j (by omega) (by omega)
              exact ⟨this.1.stable (fun _ _ hn => hn) hold (by simp), this.2⟩
      · exact h.elim
    · rename_i id sz idx off
      split at h
      · rename_i e sz' n get hlk
        split at h
        · rename_i hsz' hpure hfit
          have hsz' : sz = sz' := by simpa using hsz'
          subst hsz'
          have hfit : off + cs.length ≤ sz := by simpa using hfit
          obtain ⟨hidx, h⟩ := ob_iff h hgc
          obtain ⟨_, g, o, m, c, hval, rfl⟩ := hv.pe_inv
          obtain ⟨hid, xs, hx, hgl, hc⟩ := E.obj id _ hlk
          have hmul : idx * sz + sz ≤ n * sz := by rw [← Nat.succ_mul]; exact Nat.mul_le_mul_right _ hidx
          have hxl := hx.1
          rcases hx.2 with ⟨hnil, _⟩ | ⟨a0, h0, hn0⟩ | ⟨g', o', cap, cur, hv', hg, hnc, hcm, hcsz, htake⟩
          · rw [hval] at hnil; cases hnil
          · omega
          · have hgg : g = g' ∧ o = o' := by
              have hv2 := hv'
              rw [hval] at hv2
              simp at hv2
              exact hv2.1
            obtain ⟨rfl, rfl⟩ := hgg
            have hF := E.own id _ g hlk (by simp [ownB, hv', blkOf])
            have hcapsz : n * sz ≤ (cap + 1) * sz := Nat.mul_le_mul_right _ hnc
            have hrun := store_run (P := P) (w := w) hti g (o + (idx * sz + off)) e cur u us hucells (by omega) hg (by omega) hone
            have hold : ∀ g2, g2 < w.heap.size → ¬ F g2 → (w.setRow g (cur.toList.take (o + (idx * sz + off)) ++ us ++ cur.toList.drop (o + (idx * sz + off) + us.length)).toArray).heap[g2]? = w.heap[g2]? :=
              fun g2 _ hn => setRow_other w _ g2 _ (fun e => hn (by rw [e]; exact hF))
            have hov := RowAt.over (w := w) hg hnc hcm hcsz htake hxl (idx * sz + off) us (by omega)
            have hbk : ownB β id (.row e sz n get) = some g := by simp [ownB, hv', blkOf]
            refine ⟨_, hrun, _, β, h, rfl, _, hlk, by rw [hbk]; exact grownBy_setRow _ _ _, rfl, ⟨_, by rw [hv']; exact hov, ?_, ?_⟩, .pure _ _ (.u _)⟩
            · intro q hq
              by_cases he : q = idx
              · subst he
                simp only [if_true]
                rw [over_len (by rw [hgl q hq]; exact hfit), hgl q hq]
              · simp only [he, if_false]
                exact hgl q hq
            · intro q j hq h1 h2
              have hjsz : j < sz := by
                by_cases he : q = idx
                · subst he
                  simp only [if_true] at h1
                  rw [over_len (by rw [hgl q hq]; exact hfit), hgl q hq] at h1
                  exact h1
                · simp only [he, if_false] at h1
                  rw [hgl q hq] at h1
                  exact h1
              have hqsz : q * sz + sz ≤ n * sz := by rw [← Nat.succ_mul]; exact Nat.mul_le_mul_right _ hq
              rw [overV_get (by omega) _ h2]
              by_cases he : q = idx
              · subst he
                have hol := over_get (off := off) (cs := cs) (l := get q) (by rw [hgl q hq]; exact hfit) j (by simpa using h1)
                simp only [if_true]
                rw [hol.2]
                by_cases hin : off ≤ j ∧ j < off + cs.length
                · rw [dif_pos hin, dif_pos (by omega)]
                  have := hus (j - off) (by omega) (by omega)
                  have e : q * sz + j - (q * sz + off) = j - off := by omega
                  simp only [e]
                  exact ⟨(AV.lts_pure hpure _ _ this.1).stable (fun _ _ hn => hn) hold (by simp), this.2⟩
                · rw [dif_neg hin, dif_neg (by omega)]
                  have := hc q j hq (by rw [hgl q hq]; exact hjsz) (by omega)
                  exact ⟨this.1.stable (fun _ _ hn => hn) hold (by simp), this.2⟩
              · have hne : ¬ (idx * sz + off ≤ q * sz + j ∧ q * sz + j < idx * sz + off + us.length) := by
                  rcases Nat.lt_or_gt_of_ne he with hlt | hgt
                  · have : q * sz + sz ≤ idx * sz := by rw [← Nat.succ_mul]; exact Nat.mul_le_mul_right _ hlt
                    omega
                  · have : idx * sz + sz ≤ q * sz := by rw [← Nat.succ_mul]; exact Nat.mul_le_mul_right _ hgt
                    omega
                rw [dif_neg hne]
                simp only [he, if_false] at h1 ⊢
                have := hc q j hq h1 (by omega)
                exact ⟨this.1.stable (fun _ _ hn => hn) hold (by simp), this.2⟩
        · exact h.elim
      · exact h.elim
    · exact h.elim
end
end Go.Eng
