/-
  The engine: maps.
-/
import Derived.Test.YtklmfkejgjhneaaEng8
namespace Go.Eng
open Go.RowKit Go.MapKept

/-! ### From one value to one of which less is known -/
def AVEq : AV → AV → Prop
  | .rs sz n g, b => (match b with
    | .rs sz' n' g' => sz' = sz ∧ n' = n ∧ ∀ k, k < n → g' k = g k
    | _ => False)
  | .rm n key val, b => (match b with
    | .rm n' key' val' => n' = n ∧ ∀ k, k < n → key' k = key k ∧ val' k = val k
    | _ => False)
  | .sv id sz lo n, b => (match b with
    | .sv id' sz' lo' n' => id' = id ∧ sz' = sz ∧ lo' = lo ∧ n' = n
    | _ => False)
  | .b c, b => (match b with
    | .b d => d = c
    | _ => False)
  | .i k n, b => (match b with
    | .i j m => j = k ∧ m = n
    | _ => False)
  | .u, _ => True
  | a, b => b = a
theorem AVEq.refl (x : AV) : AVEq x x := by
  cases x <;> simp [AVEq]
theorem AVEq.rep0 {F : Nat → Prop} {w : World} {x y : AV} {v : Value} (h : AVEq x y) (hr : Rep0 F w y v) : Rep0 F w x v := by
  cases x with
  | rs sz n g =>
    cases y <;> simp only [AVEq] at h <;> first | exact h.elim | skip
    obtain ⟨rfl, rfl, hg⟩ := h
    cases hr with
    | rsnil => exact .rsnil _ _
    | rsz _ _ a => exact .rsz _ _ a
    | rs _ _ _ b o c vs hn hm hF hb hlen hc h1 hrr =>
      exact .rs _ _ _ b o c vs hn hm hF hb (fun k hk => by rw [← hg k hk]; exact hlen k hk) hc h1 (fun k j hk hj => by
        have := hrr k j hk (by rw [hg k hk]; exact hj)
        simpa only [hg k hk] using this)
  | rm n key val =>
    cases y <;> simp only [AVEq] at h <;> first | exact h.elim | skip
    obtain ⟨rfl, hg⟩ := h
    cases hr with
    | rmnil => exact .rmnil _ _
    | rm _ _ _ g es clock hF hb hn ho hk hv =>
      exact .rm _ _ _ g es clock hF hb hn ho (fun i h1 h2 => by rw [← (hg i h1).1]; exact hk i h1 h2) (fun i h1 h2 => by rw [← (hg i h1).2]; exact hv i h1 h2)
  | sv id sz lo n =>
    cases y <;> simp only [AVEq] at h <;> first | exact h.elim | skip
    obtain ⟨rfl, rfl, rfl, rfl⟩ := h; exact hr
  | b c =>
    cases y <;> simp only [AVEq] at h <;> first | exact h.elim | skip
    subst h; exact hr
  | i k n =>
    cases y <;> simp only [AVEq] at h <;> first | exact h.elim | skip
    obtain ⟨rfl, rfl⟩ := h; exact hr
  | u => exact .u _
  | _ => simp only [AVEq] at h; subst h; exact hr
theorem AVEq.rep {β : Bd} {n : Nat} {F : Nat → Prop} {w : World} {x y : AV} {v : Value} (h : AVEq x y) (hr : Rep β n F w y v) : Rep β n F w x v := by
  cases x with
  | rs sz m g =>
    have h0 := h
    cases y <;> simp only [AVEq] at h <;> first | exact h.elim | skip
    exact .pure _ _ (AVEq.rep0 h0 hr.rs_inv)
  | rm m key val =>
    have h0 := h
    cases y <;> simp only [AVEq] at h <;> first | exact h.elim | skip
    exact .pure _ _ (AVEq.rep0 h0 hr.rm_inv)
  | sv id sz lo m =>
    cases y <;> simp only [AVEq] at h <;> first | exact h.elim | skip
    obtain ⟨rfl, rfl, rfl, rfl⟩ := h; exact hr
  | b c =>
    cases y <;> simp only [AVEq] at h <;> first | exact h.elim | skip
    subst h; exact hr
  | i k n =>
    cases y <;> simp only [AVEq] at h <;> first | exact h.elim | skip
    obtain ⟨rfl, rfl⟩ := h; exact hr
  | u => exact .pure _ _ (.u _)
  | _ => simp only [AVEq] at h; subst h; exact hr

/-! ### what is asked of the one who looks up, or sets -/
def KeysFit (T : List (Nat × TI)) (kt n : Nat) (key : Nat → AV) : Prop := ∀ i, i < n → keyFit T kt (key i) = true
def LookOk (n : Nat) (key val : Nat → AV) (k v z : AV) (c : Bool) : Prop :=
  (c = true → ∃ i, i < n ∧ key i = k ∧ AVEq v (val i)) ∧ (c = false → (∀ i, i < n → key i ≠ k) ∧ AVEq v z)
def UpdOk (n : Nat) (key val : Nat → AV) (born : Nat → Nat) (clock : Nat) (k v : AV) (n' : Nat) (key' val' : Nat → AV) (born' : Nat → Nat) (clock' : Nat) : Prop :=
  (∃ i, i < n ∧ key i = k ∧ n' = n ∧ clock' = clock ∧ ∀ j, j < n → key' j = key j ∧ born' j = born j ∧ val' j = if j = i then v else val j) ∨
  ((∀ i, i < n → key i ≠ k) ∧ n' = n + 1 ∧ clock' = clock + 1 ∧ (∀ j, j < n → key' j = key j ∧ born' j = born j ∧ val' j = val j) ∧ key' n = k ∧ val' n = v ∧ born' n = clock)
def DelOk (n : Nat) (key val : Nat → AV) (born : Nat → Nat) (k : AV) (n' : Nat) (key' val' : Nat → AV) (born' : Nat → Nat) : Prop :=
  (∃ i, i < n ∧ key i = k ∧ n = n' + 1 ∧ ∀ j, j < n' → key' j = key (if j < i then j else j + 1) ∧ born' j = born (if j < i then j else j + 1) ∧ val' j = val (if j < i then j else j + 1)) ∨
  ((∀ i, i < n → key i ≠ k) ∧ n' = n ∧ ∀ j, j < n → key' j = key j ∧ born' j = born j ∧ val' j = val j)

section
variable {P : Program} {β : Bd} {nid : Nat} {F : Nat → Prop} {w : World} {lk : Nat → Option AO} {k : Eff → Prop}

def nilMap : Value → Bool
  | .map none => true
  | _ => false
theorem nilMap_iff {v : Value} (h : nilMap v = true) : v = .map none := by
  unfold nilMap at h
  split at h
  · rfl
  · cases h
def mapK (lk : Nat → Option AO) (a : AV) (k : Nat → (Nat → AV) → (Nat → AV) → Prop) : Prop :=
  match a with
  | .rm n key val => k n key val
  | .mo id => (match lk id with
    | some (.mp n key val _ _) => k n key val
    | _ => False)
  | .val v => (match nilMap v with
    | true => k 0 (fun _ => .u) (fun _ => .u)
    | false => False)
  | _ => False
structure MapIs (F : Nat → Prop) (w : World) (v : Value) (n : Nat) (key val : Nat → AV) : Prop where
  is : (v = .map none ∧ n = 0) ∨ ∃ g es clock, v = .map (some g) ∧ w.heap[g]? = some (.map es clock) ∧ es.size = n ∧ MapOk es clock ∧
    ∀ (i : Nat) (_ : i < n) (h2 : i < es.size), Rep0 F w (key i) es[i].key ∧ Rep0 F w (val i) es[i].val
theorem mapK_sound (E : Env β nid F w lk) {a : AV} {v : Value} {q : Nat → (Nat → AV) → (Nat → AV) → Prop} (hv : Rep β nid F w a v) (h : mapK lk a q) : ∃ n key val, q n key val ∧ MapIs F w v n key val := by
  unfold mapK at h
  split at h
  · refine ⟨_, _, _, h, ⟨?_⟩⟩
    have hv0 := hv.rm_inv
    cases hv0 with
    | rmnil => exact .inl ⟨rfl, rfl⟩
    | rm _ _ _ g es clock hF hg hn ho hk hvv => exact .inr ⟨g, es, clock, rfl, hg, hn, ho, fun i h1 h2 => ⟨hk i h1 h2, hvv i h1 h2⟩⟩
  · split at h
    · rename_i hlk
      refine ⟨_, _, _, h, ⟨?_⟩⟩
      obtain ⟨_, rfl⟩ := hv.mo_inv
      obtain ⟨_, es, hh, hn, ho, hc⟩ := E.obj _ _ hlk
      exact .inr ⟨_, es, _, rfl, hh, hn, ho, fun i h1 h2 => ⟨(hc i h1 h2).1, (hc i h1 h2).2.1⟩⟩
    · exact h.elim
  · split at h
    · rename_i hn
      refine ⟨_, _, _, h, ⟨?_⟩⟩
      obtain rfl := hv.val_inv
      exact .inl ⟨nilMap_iff hn, rfl⟩
    · exact h.elim
  · exact h.elim

theorem keys_KV {T : List (Nat × TI)} (hT : TabOk P T) {kt n : Nat} {key : Nat → AV} (hf : KeysFit T kt n key) {es : Array MapEntry} (hn : es.size = n) (hk : ∀ (i : Nat) (_ : i < n) (h2 : i < es.size), Rep0 F w (key i) es[i].key) :
    ∀ x ∈ es.toList, KV P kt x.key := by
  intro x hx
  obtain ⟨j, hj, rfl⟩ := List.getElem_of_mem hx
  have hj' : j < es.size := by simpa using hj
  have := keyFit_KV hT (hf j (by omega)) (hk j (by omega) hj')
  simpa using this

/-! ### looking up -/
def lookupA (gc : Option Prop) (T : List (Nat × TI)) (lk : Nat → Option AO) (t : Nat) (a ix : AV) (ok : Bool) (k : Eff → Prop) : Prop :=
  match tget t T with
  | some ti => (match mapD ti.desc with
    | some (kt, et) => (match tget et T with
      | some te => mapK lk a fun n key val => ∃ c v, ob gc (KeysFit T kt n key ∧ keyFit T kt ix = true ∧ LookOk n key val ix v (avOf te.zero) c) (match ok with
        | true => k (.ext [] (.tup [v, .b c]))
        | false => k (.ext [] v))
      | none => False)
    | none => False)
  | none => False

theorem lookupA_sound {gc : Option Prop} (hgc : ∀ c, gc = some c → c) (E : Env β nid F w lk) {T : List (Nat × TI)} (hT : TabOk P T) {t : Nat} {a ix : AV} {ok : Bool} {u v : Value} (hu : Rep β nid F w a u) (hv : Rep β nid F w ix v)
    (h : lookupA gc T lk t a ix ok k) : ∃ x, (Instr.lookup t u v ok).run P w = .ok x w ∧ ∃ r, k (.ext [] r) ∧ Rep β nid F w r x := by
  unfold lookupA at h
  split at h
  · rename_i ti h1
    split at h
    · rename_i kt et h2
      split at h
      · rename_i te h3
        obtain ⟨n, key, val, ⟨c, r, h⟩, hm⟩ := mapK_sound E hu h
        obtain ⟨⟨hf, hk, hl⟩, hfin⟩ := ob_iff h hgc
        have hv0 := hv.toPure (keyFit_lt hk)
        have hkv := keyFit_KV hT hk hv0
        obtain ⟨hut, _⟩ := hT.get h1
        obtain ⟨_, _, i, hi, _, _, hz⟩ := hT.get h3
        cases hd : ti.desc <;> simp [mapD, hd] at h2
        rename_i kt' et'
        obtain ⟨rfl, rfl⟩ := h2
        rw [hd] at hut
        have hzero : (zeroValue et').run P w = .ok te.zero w := by simp [zeroValue, typeInfo, hi, hz]
        have key2 : ∃ x, Rep0 F w r x ∧ (Instr.lookup t u v ok).run P w = .ok (if ok then .tuple #[x, .bool c] else x) w := by
          rcases hm.is with ⟨rfl, rfl⟩ | ⟨g, es, clock, rfl, hg, hn, ho, hc⟩
          · have hcf : c = false := by
              cases c with
              | false => rfl
              | true => obtain ⟨i, hi, _⟩ := hl.1 rfl; omega
            subst hcf
            refine ⟨te.zero, (hl.2 rfl).2.rep0 (rep_avOf _), ?_⟩
            have hfind : (Instr.findKey kt' v []).run P w = .ok none w := by
              rcases run_find_KV (w := w) hkv [] (by simp) with ⟨h1, _⟩ | ⟨j, e, _, h2, _⟩
              · exact h1
              · simp at h2
            simp [Instr.lookup, run_underlying hut, run_check_KV true hkv, hfind, hzero]
          · have hall := keys_KV hT hf hn (fun i h1 h2 => (hc i h1 h2).1)
            rcases run_find_KV (w := w) hkv es.toList hall with ⟨hfind, hno⟩ | ⟨j, e, hfind, he, hek⟩
            · have hcf : c = false := by
                cases c with
                | false => rfl
                | true =>
                  obtain ⟨i, hi, hki, _⟩ := hl.1 rfl
                  have hi2 : i < es.size := by omega
                  have := (keyFit_eq (hf i hi) hk (hc i hi hi2).1 hv0).1 hki
                  exact absurd this (hno _ (by simp))
              subst hcf
              refine ⟨te.zero, (hl.2 rfl).2.rep0 (rep_avOf _), ?_⟩
              simp [Instr.lookup, run_underlying hut, Go.MapKept.run_getObj_map hg, run_check_KV es.isEmpty hkv, hfind, hzero]
            · have hj2 : j < es.size := by simpa using (List.getElem?_eq_some_iff.1 he).1
              have hje : es[j] = e := by
                have := (List.getElem?_eq_some_iff.1 he).2
                simpa using this
              have hjn : j < n := by omega
              have hkj : key j = ix := (keyFit_eq (hf j hjn) hk (hc j hjn hj2).1 hv0).2 (by rw [hje]; exact hek)
              have hct : c = true := by
                cases c with
                | true => rfl
                | false => exact absurd hkj ((hl.2 rfl).1 j hjn)
              subst hct
              obtain ⟨i, hi, hki, hvi⟩ := hl.1 rfl
              have hij : i = j := by
                have hi2 : i < es.size := by omega
                have e1 := (keyFit_eq (hf i hi) hk (hc i hi hi2).1 hv0).1 hki
                have e2 : es[j].key = v := by rw [hje]; exact hek
                rcases Nat.lt_trichotomy i j with h | h | h
                · exact absurd (e1.trans e2.symm) (ho.one i j h hi2 hj2)
                · exact h
                · exact absurd (e2.trans e1.symm) (ho.one j i h hj2 hi2)
              subst hij
              refine ⟨e.val, hvi.rep0 (by rw [← hje]; exact (hc i hi hj2).2), ?_⟩
              simp [Instr.lookup, run_underlying hut, Go.MapKept.run_getObj_map hg, run_check_KV es.isEmpty hkv, hfind]
        obtain ⟨x, hx, hrun⟩ := key2
        cases ok with
        | true =>
          refine ⟨_, hrun, _, hfin, .pure _ _ (.tup [r, .b c] [x, .bool c] rfl fun j h1 h2 => ?_)⟩
          match j, h1 with
          | 0, _ => exact hx
          | 1, _ => exact .b c
        | false => exact ⟨_, hrun, _, hfin, .pure _ _ hx⟩
      · exact h.elim
    · exact h.elim
  · exact h.elim

/-! ### making, setting, striking -/
def makeMapA (nid : Nat) (k : Eff → Prop) : Prop := k (.ext [.mp 0 (fun _ => .u) (fun _ => .u) (fun _ => 0) 0] (.mo nid))
theorem mapOk_empty : MapOk #[] 0 := ⟨fun i j _ h1 => by simp at h1, fun i h => by simp at h, fun i j _ h1 => by simp at h1⟩
theorem makeMapA_sound (t : TypeId) (h : makeMapA nid k) : ∃ x w', (Instr.makeMap t none).run P w = .ok x w' ∧ PostK β nid F lk w k x w' := by
  refine ⟨.map (some w.heap.size), w.alloc (.map #[] 0), by simp [Instr.makeMap], _, β.blkAt nid w.heap.size, h, .blk _ _ _ _ (fun _ => rfl) (fun hF => ?_) (fun hb => ?_)⟩
  · exact ⟨#[], by rw [show (β.blkAt nid w.heap.size).blk nid = w.heap.size by simp [Bd.blkAt]]; exact heap_alloc_new w _, rfl, mapOk_empty, fun i hi => by omega⟩
  · have := Rep.mo (β := β.blkAt nid w.heap.size) (n := nid + 1) (F := FX F (β.blkAt nid w.heap.size) nid [.mp 0 (fun _ => .u) (fun _ => .u) (fun _ => 0) 0]) (w := w.alloc (.map #[] 0)) nid (by omega)
    rw [hb] at this
    exact this

def updateA (gc : Option Prop) (T : List (Nat × TI)) (lk : Nat → Option AO) (t : Nat) (a kx vx : AV) (k : Eff → Prop) : Prop :=
  match tget t T, a with
  | some ti, .mo id => (match mapD ti.desc, lk id with
    | some (kt, _), some (.mp n key val born clock) => (match AV.lt 0 vx with
      | true => ∃ n' key' val' born' clock', ob gc (KeysFit T kt n key ∧ keyFit T kt kx = true ∧ UpdOk n key val born clock kx vx n' key' val' born' clock') (k (.set id (.mp n' key' val' born' clock') .u))
      | false => False)
    | _, _ => False)
  | _, _ => False

theorem setMap_old (w : World) (g : Nat) (o : Obj) (g2 : Nat) (h : g2 ≠ g) : ({ w with heap := w.heap.setIfInBounds g o } : World).heap[g2]? = w.heap[g2]? := by
  simp [Ne.symm h]
theorem setMap_new (w : World) (g : Nat) (o : Obj) (h : g < w.heap.size) : ({ w with heap := w.heap.setIfInBounds g o } : World).heap[g]? = some o := by
  simp [h]

theorem updateA_sound {gc : Option Prop} (hgc : ∀ c, gc = some c → c) (E : Env β nid F w lk) {T : List (Nat × TI)} (hT : TabOk P T) {t : Nat} {a kx vx : AV} {u v x : Value} (hu : Rep β nid F w a u) (hv : Rep β nid F w kx v) (hx : Rep β nid F w vx x)
    (h : updateA gc T lk t a kx vx k) : ∃ w', (Instr.mapUpdate t u v x).run P w = .ok () w' ∧ PostK β nid F lk w k undef w' := by
  unfold updateA at h
  split at h
  · rename_i ti id h1
    split at h
    · rename_i kt et n key val born clock h2 hlk
      split at h
      · rename_i hpure
        obtain ⟨n', key', val', born', clock', h⟩ := h
        obtain ⟨⟨hf, hk, hupd⟩, hfin⟩ := ob_iff h hgc
        have hv0 := hv.toPure (keyFit_lt hk)
        have hx0 := hx.toPure hpure
        have hkv := keyFit_KV hT hk hv0
        obtain ⟨hut, _⟩ := hT.get h1
        cases hd : ti.desc <;> simp [mapD, hd] at h2
        obtain ⟨rfl, rfl⟩ := h2
        rw [hd] at hut
        obtain ⟨hid, rfl⟩ := hu.mo_inv
        obtain ⟨_, es, hh, hn, ho, hc⟩ := E.obj id _ hlk
        have hF := E.own id _ (β.blk id) hlk rfl
        have hlt := (Array.getElem?_eq_some_iff.1 hh).1
        have hall := keys_KV hT hf hn (fun i h1 h2 => (hc i h1 h2).1)
        have hold : ∀ (o : Obj) g2, g2 < w.heap.size → ¬ F g2 → ({ w with heap := w.heap.setIfInBounds (β.blk id) o } : World).heap[g2]? = w.heap[g2]? := fun o g2 _ hn => setMap_old w _ o g2 (fun e => hn (by rw [e]; exact hF))
        have hgrow : ∀ o : Obj, w.grownBy { w with heap := w.heap.setIfInBounds (β.blk id) o } (some (β.blk id)) := fun o => ⟨rfl, rfl, rfl, by simp, fun g _ hne => setMap_old w _ o g (fun e => hne (by rw [e]))⟩
        rcases run_find_KV (w := w) hkv es.toList hall with ⟨hfind, hno⟩ | ⟨j, e, hfind, he, hek⟩
        · have hnk : ∀ i, i < n → key i ≠ kx := fun i hi hki => by
            have hi2 : i < es.size := by omega
            exact hno _ (by simp) ((keyFit_eq (hf i hi) hk (hc i hi hi2).1 hv0).1 hki)
          rcases hupd with ⟨i, hi, hki, _⟩ | ⟨_, rfl, rfl, hsame, hk1, hv1, hb1⟩
          · exact absurd hki (hnk i hi)
          · refine ⟨{ w with heap := w.heap.setIfInBounds (β.blk id) (.map (es.push { key := v, val := x, born := clock }) (clock + 1)) }, ?_, _, β, hfin, rfl, _, hlk, hgrow _, rfl, ⟨_, setMap_new w _ _ hlt, by simp [hn], ?_, ?_⟩, .pure _ _ (.u _)⟩
            · simp [Instr.mapUpdate, run_underlying hut, Go.MapKept.run_getObj_map hh, run_check_KV false hkv, hfind, Go.MapKept.run_setObj_map _ hh]
            · refine ⟨fun i j hij h1 h2 => ?_, fun i h1 => ?_, fun i j hij h1 h2 => ?_⟩
              · simp at h1 h2
                by_cases hj : j = es.size
                · subst hj
                  have := ho.old i hij
                  simpa [Array.getElem_push, hij] using this
                · have hj' : j < es.size := by omega
                  have := ho.asc i j hij (by omega) hj'
                  simpa [Array.getElem_push, hj', show i < es.size by omega] using this
              · simp at h1
                by_cases hi : i = es.size
                · subst hi; simp
                · have := ho.old i (by omega)
                  simp [Array.getElem_push, show i < es.size by omega]
                  omega
              · simp at h1 h2
                by_cases hj : j = es.size
                · subst hj
                  have := hno es[i] (by simp)
                  simpa [Array.getElem_push, hij] using this
                · have hj' : j < es.size := by omega
                  have := ho.one i j hij (by omega) hj'
                  simpa [Array.getElem_push, hj', show i < es.size by omega] using this
            · intro i hi h2
              simp at h2
              by_cases hin : i = n
              · subst hin
                simp only [Array.getElem_push, hn, Nat.lt_irrefl, dite_false]
                rw [hk1, hv1, hb1]
                exact ⟨hv0.stable (fun _ _ hn => hn) (hold _) (by simp), hx0.stable (fun _ _ hn => hn) (hold _) (by simp), rfl⟩
              · have hi' : i < es.size := by omega
                obtain ⟨e1, e2, e3⟩ := hsame i (by omega)
                simp only [Array.getElem_push, hi', dite_true]
                rw [e1, e2, e3]
                obtain ⟨h3, h4, h5⟩ := hc i (by omega) hi'
                exact ⟨h3.stable (fun _ _ hn => hn) (hold _) (by simp), h4.stable (fun _ _ hn => hn) (hold _) (by simp), h5⟩
        · have hj2 : j < es.size := by simpa using (List.getElem?_eq_some_iff.1 he).1
          have hje : es[j] = e := by
            have := (List.getElem?_eq_some_iff.1 he).2
            simpa using this
          have hjn : j < n := by omega
          have hkj : key j = kx := (keyFit_eq (hf j hjn) hk (hc j hjn hj2).1 hv0).2 (by rw [hje]; exact hek)
          rcases hupd with ⟨i, hi, hki, hnn, hcc, hsame⟩ | ⟨hno, _⟩
          · obtain rfl := hnn.symm
            obtain rfl := hcc.symm
            have hij : i = j := by
              have hi2 : i < es.size := by omega
              have e1 := (keyFit_eq (hf i hi) hk (hc i hi hi2).1 hv0).1 hki
              have e2 : es[j].key = v := by rw [hje]; exact hek
              rcases Nat.lt_trichotomy i j with h | h | h
              · exact absurd (e1.trans e2.symm) (ho.one i j h hi2 hj2)
              · exact h
              · exact absurd (e2.trans e1.symm) (ho.one j i h hj2 hi2)
            subst hij
            have hkey : ((es[i]?).map (·.key)).getD v = v := by
              rw [Array.getElem?_eq_getElem hj2, hje]
              simpa using hek
            have hget : ∀ (q : Nat) (h : q < (es.modify i fun e => { e with key := v, val := x }).size) (h' : q < es.size), (es.modify i fun e => { e with key := v, val := x })[q] = { es[q] with val := if q = i then x else es[q].val } := by
              intro q h h'
              rw [Array.getElem_modify]
              by_cases hq : i = q
              · subst hq
                rw [hje]
                simp [hek]
              · simp [hq, Ne.symm hq]
            refine ⟨{ w with heap := w.heap.setIfInBounds (β.blk id) (.map (es.modify i fun e => { e with key := v, val := x }) clock) }, ?_, _, β, hfin, rfl, _, hlk, hgrow _, rfl, ⟨_, setMap_new w _ _ hlt, by simp [hn], ?_, ?_⟩, .pure _ _ (.u _)⟩
            · simp [Instr.mapUpdate, run_underlying hut, Go.MapKept.run_getObj_map hh, run_check_KV false hkv, hfind, Go.MapKept.run_setObj_map _ hh, hkey, Instr.keyThatStays, sameBits_KV hkv]
            · refine ⟨fun q r hqr h1 h2 => ?_, fun q h1 => ?_, fun q r hqr h1 h2 => ?_⟩
              · simp at h1 h2
                rw [hget q _ h1, hget r _ h2]
                exact ho.asc q r hqr h1 h2
              · simp at h1
                rw [hget q _ h1]
                exact ho.old q h1
              · simp at h1 h2
                rw [hget q _ h1, hget r _ h2]
                exact ho.one q r hqr h1 h2
            · intro q hq h2
              simp at h2
              rw [hget q _ h2]
              obtain ⟨e1, e2, e3⟩ := hsame q hq
              rw [e1, e2, e3]
              obtain ⟨h3, h4, h5⟩ := hc q hq h2
              refine ⟨h3.stable (fun _ _ hn => hn) (hold _) (by simp), ?_, h5⟩
              dsimp only
              split
              · exact hx0.stable (fun _ _ hn => hn) (hold _) (by simp)
              · exact h4.stable (fun _ _ hn => hn) (hold _) (by simp)
          · exact absurd hkj (hno j hjn)
      · exact h.elim
    · exact h.elim
  · exact h.elim

def deleteA (gc : Option Prop) (T : List (Nat × TI)) (lk : Nat → Option AO) (t : Nat) (a kx : AV) (k : Eff → Prop) : Prop :=
  match tget t T, a with
  | some ti, .mo id => (match mapD ti.desc, lk id with
    | some (kt, _), some (.mp n key val born clock) => ∃ n' key' val' born', ob gc (KeysFit T kt n key ∧ keyFit T kt kx = true ∧ DelOk n key val born kx n' key' val' born') (k (.set id (.mp n' key' val' born' clock) .u))
    | _, _ => False)
  | _, _ => False

theorem deleteA_sound {gc : Option Prop} (hgc : ∀ c, gc = some c → c) (E : Env β nid F w lk) {T : List (Nat × TI)} (hT : TabOk P T) {t : Nat} {a kx : AV} {u v : Value} (ts : Array TypeId) (ty : TypeId) (hts : ts[0]? = some t) (hu : Rep β nid F w a u) (hv : Rep β nid F w kx v)
    (h : deleteA gc T lk t a kx k) : ∃ x w', (Builtin.delete_ ts ty #[u, v]).run P w = .ok x w' ∧ PostK β nid F lk w k x w' := by
  unfold deleteA at h
  split at h
  · rename_i ti id h1
    split at h
    · rename_i kt et n key val born clock h2 hlk
      obtain ⟨n', key', val', born', h⟩ := h
      obtain ⟨⟨hf, hk, hdel⟩, hfin⟩ := ob_iff h hgc
      have hv0 := hv.toPure (keyFit_lt hk)
      have hkv := keyFit_KV hT hk hv0
      obtain ⟨hut, _⟩ := hT.get h1
      cases hd : ti.desc <;> simp [mapD, hd] at h2
      obtain ⟨rfl, rfl⟩ := h2
      rw [hd] at hut
      obtain ⟨hid, rfl⟩ := hu.mo_inv
      obtain ⟨_, es, hh, hn, ho, hc⟩ := E.obj id _ hlk
      have hF := E.own id _ (β.blk id) hlk rfl
      have hlt := (Array.getElem?_eq_some_iff.1 hh).1
      have hall := keys_KV hT hf hn (fun i h1 h2 => (hc i h1 h2).1)
      have hold : ∀ (o : Obj) g2, g2 < w.heap.size → ¬ F g2 → ({ w with heap := w.heap.setIfInBounds (β.blk id) o } : World).heap[g2]? = w.heap[g2]? := fun o g2 _ hn => setMap_old w _ o g2 (fun e => hn (by rw [e]; exact hF))
      have hgrow : ∀ o : Obj, w.grownBy { w with heap := w.heap.setIfInBounds (β.blk id) o } (some (β.blk id)) := fun o => ⟨rfl, rfl, rfl, by simp, fun g _ hne => setMap_old w _ o g (fun e => hne (by rw [e]))⟩
      rcases run_find_KV (w := w) hkv es.toList hall with ⟨hfind, hno⟩ | ⟨j, e, hfind, he, hek⟩
      · have hnk : ∀ i, i < n → key i ≠ kx := fun i hi hki => by
          have hi2 : i < es.size := by omega
          exact hno _ (by simp) ((keyFit_eq (hf i hi) hk (hc i hi hi2).1 hv0).1 hki)
        rcases hdel with ⟨i, hi, hki, _⟩ | ⟨_, rfl, hsame⟩
        · exact absurd hki (hnk i hi)
        · refine ⟨.tuple #[], { w with heap := w.heap.setIfInBounds (β.blk id) (.map es clock) }, ?_, _, β, hfin, rfl, _, hlk, hgrow _, rfl, ⟨es, setMap_new w _ _ hlt, hn, ho, ?_⟩, .pure _ _ (.u _)⟩
          · simp [Builtin.delete_, hts, run_underlying hut, Go.MapKept.run_getObj_map hh, run_check_KV es.isEmpty hkv, hfind, Go.MapKept.run_setObj_map _ hh]
          · intro i hi h2
            obtain ⟨e1, e2, e3⟩ := hsame i hi
            rw [e1, e2, e3]
            obtain ⟨h3, h4, h5⟩ := hc i hi h2
            exact ⟨h3.stable (fun _ _ hn => hn) (hold _) (by simp), h4.stable (fun _ _ hn => hn) (hold _) (by simp), h5⟩
      · have hj2 : j < es.size := by simpa using (List.getElem?_eq_some_iff.1 he).1
        have hje : es[j] = e := by
          have := (List.getElem?_eq_some_iff.1 he).2
          simpa using this
        have hjn : j < n := by omega
        have hkj : key j = kx := (keyFit_eq (hf j hjn) hk (hc j hjn hj2).1 hv0).2 (by rw [hje]; exact hek)
        rcases hdel with ⟨i, hi, hki, hnn, hsame⟩ | ⟨hno, _⟩
        · have hij : i = j := by
            have hi2 : i < es.size := by omega
            have e1 := (keyFit_eq (hf i hi) hk (hc i hi hi2).1 hv0).1 hki
            have e2 : es[j].key = v := by rw [hje]; exact hek
            rcases Nat.lt_trichotomy i j with h | h | h
            · exact absurd (e1.trans e2.symm) (ho.one i j h hi2 hj2)
            · exact h
            · exact absurd (e2.trans e1.symm) (ho.one j i h hj2 hi2)
          subst hij
          have hsz : (es.eraseIdxIfInBounds i).size = n' := by
            rw [Array.eraseIdxIfInBounds, dif_pos hj2]
            simp
            omega
          have hget : ∀ (q : Nat) (h : q < (es.eraseIdxIfInBounds i).size), ∃ h' : (if q < i then q else q + 1) < es.size, (es.eraseIdxIfInBounds i)[q] = es[if q < i then q else q + 1] := by
            intro q hq
            have hq' : q < n' := by omega
            have h' : (if q < i then q else q + 1) < es.size := by split <;> omega
            refine ⟨h', ?_⟩
            simp only [Array.eraseIdxIfInBounds, dif_pos hj2, Array.getElem_eraseIdx]
            split <;> rfl
          refine ⟨.tuple #[], { w with heap := w.heap.setIfInBounds (β.blk id) (.map (es.eraseIdxIfInBounds i) clock) }, ?_, _, β, hfin, rfl, _, hlk, hgrow _, rfl, ⟨_, setMap_new w _ _ hlt, hsz, ?_, ?_⟩, .pure _ _ (.u _)⟩
          · simp [Builtin.delete_, hts, run_underlying hut, Go.MapKept.run_getObj_map hh, run_check_KV es.isEmpty hkv, hfind, Go.MapKept.run_setObj_map _ hh]
          · refine ⟨fun q r hqr h1 h2 => ?_, fun q h1 => ?_, fun q r hqr h1 h2 => ?_⟩
            · obtain ⟨h3, e3⟩ := hget q h1
              obtain ⟨h4, e4⟩ := hget r h2
              rw [e3, e4]
              exact ho.asc _ _ (by split <;> split <;> omega) h3 h4
            · obtain ⟨h3, e3⟩ := hget q h1
              rw [e3]
              exact ho.old _ h3
            · obtain ⟨h3, e3⟩ := hget q h1
              obtain ⟨h4, e4⟩ := hget r h2
              rw [e3, e4]
              exact ho.one _ _ (by split <;> split <;> omega) h3 h4
          · intro q hq h2
            obtain ⟨h3, e3⟩ := hget q h2
            obtain ⟨e1, e2, e4⟩ := hsame q hq
            rw [e3, e1, e2, e4]
            obtain ⟨h5, h6, h7⟩ := hc _ (by omega) h3
            exact ⟨h5.stable (fun _ _ hn => hn) (hold _) (by simp), h6.stable (fun _ _ hn => hn) (hold _) (by simp), h7⟩
        · exact absurd hkj (hno j hjn)
    · exact h.elim
  · exact h.elim

/-! ### going over a map -/
def rangeA (T : List (Nat × TI)) (lk : Nat → Option AO) (nid t : Nat) (a : AV) (k : Eff → Prop) : Prop :=
  match tget t T with
  | some ti => (match isMapD ti.desc, a with
    | true, .rm n key val => k (.ext [.ir n key val (fun _ => false) none] (.p nid 0))
    | true, .mo id => (match lk id with
      | some (.mp _ _ _ _ clock) => k (.ext [.it id clock []] (.p nid 0))
      | _ => False)
    | _, _ => False)
  | none => False
theorem rangeA_sound (E : Env β nid F w lk) {T : List (Nat × TI)} (hT : TabOk P T) {t : Nat} {a : AV} {v : Value} (hv : Rep β nid F w a v) (h : rangeA T lk nid t a k) :
    ∃ x w', (Instr.range t v).run P w = .ok x w' ∧ PostK β nid F lk w k x w' := by
  unfold rangeA at h
  split at h
  · rename_i ti h1
    obtain ⟨hut, _⟩ := hT.get h1
    split at h
    · rename_i n key val hm
      cases hd : ti.desc <;> simp [isMapD, hd] at hm
      rw [hd] at hut
      have hv0 := hv.rm_inv
      have hp : ∀ ob, (β.blkAt nid w.heap.size).blk nid = w.heap.size → Rep (β.blkAt nid w.heap.size) (nid + 1) (FX F (β.blkAt nid w.heap.size) nid [.ir n key val (fun _ => false) none]) (w.alloc ob) (.p nid 0) (.pointer (some ⟨w.heap.size, 0, none⟩)) := fun ob hb => by
        have := Rep.p (β := β.blkAt nid w.heap.size) (n := nid + 1) (F := FX F (β.blkAt nid w.heap.size) nid [.ir n key val (fun _ => false) none]) (w := w.alloc ob) nid 0 (by omega)
        rw [hb] at this
        exact this
      cases hv0 with
      | rmnil =>
        refine ⟨.pointer (some ⟨w.heap.size, 0, none⟩), w.alloc (.mapIter none 0 #[] 0), by simp [Instr.range, run_underlying hut], _, β.blkAt nid w.heap.size, h, .blk _ _ _ _ (fun _ => rfl) (fun hF => ?_) (hp _)⟩
        exact ⟨none, #[], 0, #[], by rw [show (β.blkAt nid w.heap.size).blk nid = w.heap.size by simp [Bd.blkAt]]; exact heap_alloc_new w _, rfl, mapOk_empty, fun _ => rfl, fun b hb => (by cases hb), fun i hi => (by omega), fun i hi => (by cases hi)⟩
      | rm _ _ _ g es clock hFg hg hn ho hk hvv =>
        have hlt := (Array.getElem?_eq_some_iff.1 hg).1
        refine ⟨.pointer (some ⟨w.heap.size, 0, none⟩), w.alloc (.mapIter (some g) clock #[] clock), by simp [Instr.range, run_underlying hut, Go.MapKept.run_getObj_map hg], _, β.blkAt nid w.heap.size, h, .blk _ _ _ _ (fun _ => rfl) (fun hF => ?_) (hp _)⟩
        have hw : ∀ g, g < w.heap.size → ¬ F g → (w.alloc (.mapIter (some g) clock #[] clock)).heap[g]? = w.heap[g]? := fun g hg _ => Below.heap_alloc w _ g hg
        have hw2 : ∀ g2, g2 < w.heap.size → ¬ F g2 → (w.alloc (.mapIter (some g) clock #[] clock)).heap[g2]? = w.heap[g2]? := fun g2 hg _ => Below.heap_alloc w _ g2 hg
        refine ⟨some g, es, clock, #[], by rw [show (β.blkAt nid w.heap.size).blk nid = w.heap.size by simp [Bd.blkAt]]; exact heap_alloc_new w _, hn, ho, fun h => (by cases h), fun b hb => ?_, fun i h1 h2 => ?_, fun i hi => (by cases hi)⟩
        · obtain rfl := Option.some.inj hb
          exact ⟨hF _ hlt hFg, by rw [hw2 _ hlt hFg]; exact hg⟩
        · exact ⟨(hk i h1 h2).stable hF hw2 (by simp), (hvv i h1 h2).stable hF hw2 (by simp), by simp⟩
    · rename_i id hm
      cases hd : ti.desc <;> simp [isMapD, hd] at hm
      rw [hd] at hut
      split at h
      · rename_i n key val born clock hlk
        obtain ⟨hid, rfl⟩ := hv.mo_inv
        obtain ⟨_, es, hh, hn, ho, hc⟩ := E.obj id _ hlk
        refine ⟨.pointer (some ⟨w.heap.size, 0, none⟩), w.alloc (.mapIter (some (β.blk id)) clock #[] clock), by simp [Instr.range, run_underlying hut, Go.MapKept.run_getObj_map hh], _, β.blkAt nid w.heap.size, h, .blk _ _ _ _ (fun _ => rfl) (fun hF => ?_) (fun hb => ?_)⟩
        · refine ⟨by omega, ?_⟩
          rw [show (β.blkAt nid w.heap.size).blk nid = w.heap.size by simp [Bd.blkAt], show (β.blkAt nid w.heap.size).blk id = β.blk id by simp [Bd.blkAt, Nat.ne_of_lt hid]]
          exact heap_alloc_new w _
        · have := Rep.p (β := β.blkAt nid w.heap.size) (n := nid + 1) (F := FX F (β.blkAt nid w.heap.size) nid [.it id clock []]) (w := w.alloc (.mapIter (some (β.blk id)) clock #[] clock)) nid 0 (by omega)
          rw [hb] at this
          exact this
      · exact h.elim
    · exact h.elim
  · exact h.elim

/-- The entry that the iterator has come to. -/
def entryA (gc : Option Prop) (lk : Nat → Option AO) (a : AV) (k : Eff → Prop) : Prop :=
  match a with
  | .p id 0 => (match lk id with
    | some (.ir _ key val _ (some i)) => k (.ext [] (.tup [key i, val i]))
    | some (.it mid since seen) => (match lk mid with
      | some (.mp n key val born clock) => ∃ i, ob gc (i < n ∧ seen.getLast? = some (born i) ∧ clock = since) (k (.ext [] (.tup [key i, val i])))
      | _ => False)
    | _ => False)
  | _ => False
theorem find_born {es : Array MapEntry} {clock : Nat} (ho : MapOk es clock) {i : Nat} (hi : i < es.size) : es.find? (fun x => x.born == es[i].born) = some es[i] := by
  rw [Array.find?_eq_some_iff_getElem]
  refine ⟨by simp, i, hi, rfl, fun j hj => ?_⟩
  have := ho.asc j i hj (by omega) hi
  simp
  omega
theorem entryA_sound {gc : Option Prop} (hgc : ∀ c, gc = some c → c) (E : Env β nid F w lk) {a : AV} {v : Value} (hv : Rep β nid F w a v) (h : entryA gc lk a k) :
    ∃ x, (Instr.entry v).run P w = .ok x w ∧ ∃ r, k (.ext [] r) ∧ Rep β nid F w r x := by
  have two : ∀ {x y : AV} {u z : Value}, Rep0 F w x u → Rep0 F w y z → Rep β nid F w (.tup [x, y]) (.tuple #[u, z]) := by
    intro x y u z h1 h2
    refine .pure _ _ (.tup [x, y] [u, z] rfl fun j h3 h4 => ?_)
    match j, h3 with
    | 0, _ => exact h1
    | 1, _ => exact h2
  unfold entryA at h
  split at h
  · rename_i id
    obtain ⟨hid, rfl⟩ := hv.p_inv
    split at h
    · rename_i n key val seen i hlk
      obtain ⟨_, g, es, clock, sn, hh, hm, ho, hg0, hg, hc, hlast⟩ := E.obj id _ hlk
      obtain ⟨hi, hb⟩ := hlast i rfl
      cases g with
      | none => have := hg0 rfl; omega
      | some b =>
        obtain ⟨_, hmap⟩ := hg b rfl
        obtain ⟨h1, h2, _⟩ := hc i (by omega) hi
        refine ⟨_, ?_, _, h, two h1 h2⟩
        simp [Instr.entry, getObj, Sem.run, hh, hmap, hb, find_born ho hi]
    · rename_i mid since seen hlk
      split at h
      · rename_i n key val born clock hlk2
        obtain ⟨i, h⟩ := h
        obtain ⟨⟨hi, hs, hcl⟩, hfin⟩ := ob_iff h hgc
        obtain ⟨_, _, hh⟩ := E.obj id _ hlk
        obtain ⟨_, es, hmap, hn, ho, hc⟩ := E.obj mid _ hlk2
        have hi2 : i < es.size := by omega
        obtain ⟨h1, h2, h3⟩ := hc i hi hi2
        have hb : seen.toArray.back? = some es[i].born := by simp [hs, h3]
        refine ⟨_, ?_, _, hfin, two h1 h2⟩
        simp [Instr.entry, getObj, Sem.run, hh, hmap, hb, find_born ho hi2, hcl]
      · exact h.elim
    · exact h.elim
  · exact h.elim

/-! ### clear -/
def clearA (T : List (Nat × TI)) (lk : Nat → Option AO) (t : Nat) (a : AV) (k : Eff → Prop) : Prop :=
  match tget t T with
  | some ti => (match sliceD ti.desc with
    | some e => (match tget e T with
      | some te => (match te.size, Nat.beq te.zero.cells.size te.size, allOne te.zero.cells.toList, a with
        | _ + 1, true, true, .sv id sz lo m => (match lk id with
          | some (.row e' sz' n get) => (match Nat.beq e' e, Nat.beq sz te.size, Nat.beq sz' te.size with
            | true, true, true => k (.set id (.row e te.size n fun q => if lo ≤ q ∧ q < lo + m then zeroL te.zero else get q) (.tup []))
            | _, _, _ => False)
          | _ => False)
        | _, _, _, _ => False)
      | none => False)
    | none => False)
  | none => False
theorem clearA_sound (E : Env β nid F w lk) {T : List (Nat × TI)} (hT : TabOk P T) {t : Nat} {a : AV} {v : Value} (ts : Array TypeId) (ty : TypeId) (hts : ts[0]? = some t) (hv : Rep β nid F w a v)
    (h : clearA T lk t a k) : ∃ x w', (Builtin.clear_ ts ty #[v]).run P w = .ok x w' ∧ PostK β nid F lk w k x w' := by
  unfold clearA at h
  split at h
  · rename_i ti h1
    split at h
    · rename_i e h2
      split at h
      · rename_i te h3
        split at h
        · rename_i sz1 id sz lo m hsz1 hzs hone
          split at h
          · rename_i e' sz' n get hlk
            split at h
            · rename_i he hsz hsz'
              have he : e' = e := by simpa using he
              have hsz : sz = te.size := by simpa using hsz
              have hsz' : sz' = te.size := by simpa using hsz'
              subst he
              subst hsz
              have hzs : te.zero.cells.size = te.size := by simpa using hzs
              obtain ⟨hut, _⟩ := hT.get h1
              obtain ⟨_, _, i, hi, hs, _, hz⟩ := hT.get h3
              cases hd : ti.desc <;> simp [sliceD, hd] at h2
              rename_i el
              subst h2
              rw [hd] at hut
              obtain ⟨hid, hsv⟩ := hv.sv_inv
              obtain ⟨_, xs, hx, hlen, hc⟩ := E.obj id _ hlk
              rw [hsz'] at hx hlen hc
              have htup : Rep β nid F w (.tup []) (.tuple #[]) := .pure _ _ (.tup [] [] rfl fun j h1 => by simp at h1)
              have hempty : m = 0 → (Builtin.clear_ ts ty #[v]).run P w = .ok (.tuple #[]) w → ∃ x w', (Builtin.clear_ ts ty #[v]).run P w = .ok x w' ∧ PostK β nid F lk w k x w' := by
                intro hm hrun
                have hsame : (fun q => if lo ≤ q ∧ q < lo + m then zeroL te.zero else get q) = get := by
                  funext q
                  rw [if_neg (by omega)]
                rw [hsame] at h
                refine ⟨_, w, hrun, _, β, h, rfl, _, hlk, ⟨rfl, rfl, rfl, Nat.le_refl _, fun _ _ _ => rfl⟩, ?_, ⟨xs, hx, hlen, hc⟩, htup⟩
                rfl
              rcases hsv with ⟨rfl, hn0, _⟩ | ⟨a, rfl, hn0, _⟩ | ⟨g, o, m', c, hb, hlo, hlm, rfl⟩
              · exact hempty hn0 (by simp [Builtin.clear_, hts, run_underlying hut])
              · exact hempty hn0 (by simp [Builtin.clear_, hts, run_underlying hut])
              · rcases hx.2 with ⟨h1, _⟩ | ⟨_, h1, _⟩ | ⟨g', o', cap, cur, hval, hh, hnc, hcm, hcs, htake⟩
                · rw [hb] at h1; cases h1
                · rw [hb] at h1
                  simp only [Value.slice.injEq] at h1
                  omega
                rw [hb] at hval
                simp only [Value.slice.injEq, Option.some.injEq, Addr.mk.injEq] at hval
                obtain ⟨⟨rfl, rfl, _⟩, rfl, rfl⟩ := hval
                by_cases hm0 : m = 0
                · subst hm0
                  exact hempty rfl (by simp [Builtin.clear_, hts, run_underlying hut])
                · have hxl := hx.1
                  have hmul : (lo + m) * te.size ≤ m' * te.size := Nat.mul_le_mul_right _ hlm
                  have hcapsz : m' * te.size ≤ (cap + 1) * te.size := Nat.mul_le_mul_right _ hnc
                  rw [Nat.add_mul] at hmul
                  have hzl : (Builtin.zeroCells te.zero.cells m).toList.length = m * te.size := by simp [Builtin.zeroCells, hzs]
                  have hzg : ∀ (q : Nat) (h : q < (Builtin.zeroCells te.zero.cells m).toList.length), ∃ h' : q % te.size < te.zero.cells.size, (Builtin.zeroCells te.zero.cells m).toList[q] = te.zero.cells[q % te.size] := by
                    intro q hq
                    have hlt : q % te.size < te.zero.cells.size := by rw [hzs]; exact Nat.mod_lt _ (by omega)
                    refine ⟨hlt, ?_⟩
                    simp only [Builtin.zeroCells, hzs, Array.getElem_toList, Array.getElem_map, Array.getElem_range]
                    exact getElem!_pos (c := te.zero.cells) (i := q % te.size) hlt
                  have hrun0 : ∀ zs, (Builtin.zeroCells te.zero.cells m).toList = zs → ∀ w', (storeCells ⟨g, o + lo * te.size, none⟩ zs).run P w = .ok () w' → (Builtin.clear_ ts ty #[.slice (some ⟨g, o + lo * te.size, none⟩) m (cap + 1 - lo)]).run P w = .ok (.tuple #[]) w' := by
                    rintro zs rfl w' hst
                    have hzero : (zeroValue el).run P w = .ok te.zero w := by simp [zeroValue, typeInfo, hi, hz]
                    obtain ⟨m2, rfl⟩ : ∃ m2, m = m2 + 1 := ⟨m - 1, by omega⟩
                    simp [Builtin.clear_, hts, run_underlying hut, hzero, hst]
                  generalize (Builtin.zeroCells te.zero.cells m).toList = zs at hzl hzg hrun0
                  have hz1 : ∀ u ∈ zs, u.oneCell' = true := by
                    intro u hu
                    obtain ⟨q, hq, rfl⟩ := List.getElem_of_mem hu
                    obtain ⟨h', e⟩ := hzg q hq
                    rw [e]
                    exact allOne_get hone _ (by simp)
                  have hst := run_storeCells_at P g (o + lo * te.size) el zs 0 cur w hh (by simp; omega) hz1
                  simp only [Nat.add_zero] at hst
                  have hrun := hrun0 zs rfl _ hst
                  have hov := RowAt.over (w := w) hh hnc hcm hcs htake hxl (lo * te.size) zs (by omega)
                  have hF := E.own id _ g hlk (by simp [ownB, hb, blkOf])
                  have hold : ∀ g2, g2 < w.heap.size → ¬ F g2 → (w.setRow g (cur.toList.take (o + lo * te.size) ++ zs ++ cur.toList.drop (o + lo * te.size + zs.length)).toArray).heap[g2]? = w.heap[g2]? :=
                    fun g2 _ hn => setRow_other w _ g2 _ (fun e => hn (by rw [e]; exact hF))
                  have hbk : ∀ e1 s1, ownB β id (.row e1 s1 m' get) = some g := by simp [ownB, hb, blkOf]
                  have hzL := zeroL_spec (F := F) (w := w) te.zero
                  refine ⟨_, _, hrun, _, β, h, rfl, _, hlk, by rw [hbk]; exact grownBy_setRow _ _ _, rfl, ⟨_, by rw [hb]; exact hov, ?_, ?_⟩, .pure _ _ (.tup [] [] rfl fun j h1 => by simp at h1)⟩
                  · intro q hq
                    dsimp only
                    split
                    · rw [hzL.1, hzs]
                    · exact hlen q hq
                  · intro q j hq h1 h2
                    have hqsz : q * te.size + te.size ≤ m' * te.size := by rw [← Nat.succ_mul]; exact Nat.mul_le_mul_right _ hq
                    rw [overV_get (by omega) _ h2]
                    by_cases hin : lo ≤ q ∧ q < lo + m
                    · simp only [if_pos hin] at h1 ⊢
                      have hj : j < te.size := by rw [hzL.1, hzs] at h1; exact h1
                      have e2 : (q - lo) * te.size = q * te.size - lo * te.size := Nat.sub_mul _ _ _
                      have e3 : lo * te.size ≤ q * te.size := Nat.mul_le_mul_right _ hin.1
                      have e4 : q * te.size + te.size ≤ lo * te.size + m * te.size := by rw [← Nat.succ_mul, ← Nat.add_mul]; exact Nat.mul_le_mul_right _ hin.2
                      rw [dif_pos (by omega)]
                      obtain ⟨h', e5⟩ := hzg (q * te.size + j - lo * te.size) (by omega)
                      have e6 : (q * te.size + j - lo * te.size) % te.size = j := by
                        have : q * te.size + j - lo * te.size = (q - lo) * te.size + j := by omega
                        rw [this, Nat.mul_comm, Nat.mul_add_mod]
                        exact Nat.mod_eq_of_lt hj
                      rw [e5]
                      simp only [e6]
                      refine ⟨?_, allOne_get hone _ (by simp)⟩
                      exact (hzL.2 j h1 (by omega)).stable (fun _ _ hn => hn) hold (by simp)
                    · simp only [if_neg hin] at h1 ⊢
                      have hj : j < te.size := by rw [hlen q hq] at h1; exact h1
                      have hne : ¬ (lo * te.size ≤ q * te.size + j ∧ q * te.size + j < lo * te.size + zs.length) := by
                        rintro ⟨h3, h4⟩
                        apply hin
                        have e6 : lo * te.size < (q + 1) * te.size := by rw [Nat.succ_mul]; omega
                        have e7 : q * te.size < (lo + m) * te.size := by rw [Nat.add_mul]; omega
                        have := Nat.lt_of_mul_lt_mul_right e6
                        have := Nat.lt_of_mul_lt_mul_right e7
                        omega
                      rw [dif_neg hne]
                      have := hc q j hq h1 (by omega)
                      exact ⟨this.1.stable (fun _ _ hn => hn) hold (by simp), this.2⟩
            · exact h.elim
          · exact h.elim
        · exact h.elim
      · exact h.elim
    · exact h.elim
  · exact h.elim
end
end Go.Eng
