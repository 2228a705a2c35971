/-
  Several texts in one: EngM, Eng9.
-/
import Derived.Test.YtnookbebiacaeaaMg3

section
/-
  The engine: maps.
-/
namespace Go.Eng
open Go.RowKit Go.MapKept

/-! ### From one value to one of which less is known -/
def nilMap : Value → Bool
  | .map none => true
  | _ => false
theorem nilMap_iff {v : Value} (h : nilMap v = true) : v = .map none := by
  unfold nilMap at h
  split at h
  · rfl
  · cases h
def AVEq : AV → AV → Prop
  | .rs sz n g, b => (match b with
    | .rs sz' n' g' => sz' = sz ∧ n' = n ∧ ∀ k, k < n → g' k = g k
    | .val v => n = 0 ∧ nilSlice v = true
    | _ => False)
  | .rm n key val, b => (match b with
    | .rm n' key' val' => n' = n ∧ ∀ k, k < n → key' k = key k ∧ val' k = val k
    | .val v => n = 0 ∧ nilMap v = true
    | _ => False)
  | .sv id sz lo n, b => (match b with
    | .sv id' sz' lo' n' => id' = id ∧ sz' = sz ∧ lo' = lo ∧ n' = n
    | _ => False)
  | .b c, b => (match b with
    | .b d => d = c
    | _ => False)
  | .i k n, b => (match b with
    | .i j m => j = k ∧ m = n
    | _ => False)
  | .u, _ => True
  | a, b => b = a
theorem AVEq.refl (x : AV) : AVEq x x := by
  cases x <;> simp [AVEq]
theorem AVEq.rep0 {F : Nat → Prop} {w : World} {x y : AV} {v : Value} (h : AVEq x y) (hr : Rep0 F w y v) : Rep0 F w x v := by
  cases x with
  | rs sz n g =>
    cases y <;> simp only [AVEq] at h <;> first | exact h.elim | skip
    · obtain ⟨rfl, hv⟩ := h
      cases hr
      rw [nilSlice_iff hv]
      exact .rsnil _ _
    obtain ⟨rfl, rfl, hg⟩ := h
    cases hr with
    | rsnil => exact .rsnil _ _
    | rsz _ _ a => exact .rsz _ _ a
    | rs _ _ _ b o c vs hn hm hF hb hlen hc h1 hrr =>
      exact .rs _ _ _ b o c vs hn hm hF hb (fun k hk => by rw [← hg k hk]; exact hlen k hk) hc h1 (fun k j hk hj => by
        have := hrr k j hk (by rw [hg k hk]; exact hj)
        simpa only [hg k hk] using this)
  | rm n key val =>
    cases y <;> simp only [AVEq] at h <;> first | exact h.elim | skip
    · obtain ⟨rfl, hv⟩ := h
      cases hr
      rw [nilMap_iff hv]
      exact .rmnil _ _
    obtain ⟨rfl, hg⟩ := h
    cases hr with
    | rmnil => exact .rmnil _ _
    | rm _ _ _ g es clock hF hb hn ho hk hv =>
      exact .rm _ _ _ g es clock hF hb hn ho (fun i h1 h2 => by rw [← (hg i h1).1]; exact hk i h1 h2) (fun i h1 h2 => by rw [← (hg i h1).2]; exact hv i h1 h2)
  | sv id sz lo n =>
    cases y <;> simp only [AVEq] at h <;> first | exact h.elim | skip
    obtain ⟨rfl, rfl, rfl, rfl⟩ := h; exact hr
  | b c =>
    cases y <;> simp only [AVEq] at h <;> first | exact h.elim | skip
    subst h; exact hr
  | i k n =>
    cases y <;> simp only [AVEq] at h <;> first | exact h.elim | skip
    obtain ⟨rfl, rfl⟩ := h; exact hr
  | u => exact .u _
  | _ => simp only [AVEq] at h; subst h; exact hr
theorem AVEq.rep {β : Bd} {n : Nat} {F : Nat → Prop} {w : World} {x y : AV} {v : Value} (h : AVEq x y) (hr : Rep β n F w y v) : Rep β n F w x v := by
  cases x with
  | rs sz m g =>
    have h0 := h
    cases y <;> simp only [AVEq] at h <;> first | exact h.elim | skip
    · rw [hr.val_inv]
      exact .pure _ _ (AVEq.rep0 h0 (.val _))
    exact .pure _ _ (AVEq.rep0 h0 hr.rs_inv)
  | rm m key val =>
    have h0 := h
    cases y <;> simp only [AVEq] at h <;> first | exact h.elim | skip
    · rw [hr.val_inv]
      exact .pure _ _ (AVEq.rep0 h0 (.val _))
    exact .pure _ _ (AVEq.rep0 h0 hr.rm_inv)
  | sv id sz lo m =>
    cases y <;> simp only [AVEq] at h <;> first | exact h.elim | skip
    obtain ⟨rfl, rfl, rfl, rfl⟩ := h; exact hr
  | b c =>
    cases y <;> simp only [AVEq] at h <;> first | exact h.elim | skip
    subst h; exact hr
  | i k n =>
    cases y <;> simp only [AVEq] at h <;> first | exact h.elim | skip
    obtain ⟨rfl, rfl⟩ := h; exact hr
  | u => exact .pure _ _ (.u _)
  | _ => simp only [AVEq] at h; subst h; exact hr

/-! ### what is asked of the one who looks up, or sets -/
def KeysFit (T : List (Nat × TI)) (kt n : Nat) (key : Nat → AV) : Prop := ∀ i, i < n → keyFit T kt (key i) = true
def LookOk (n : Nat) (key val : Nat → AV) (k v z : AV) (c : Bool) : Prop :=
  (c = true → ∃ i, i < n ∧ key i = k ∧ AVEq v (val i)) ∧ (c = false → (∀ i, i < n → key i ≠ k) ∧ AVEq v z)
def UpdOk (n : Nat) (key val : Nat → AV) (born : Nat → Nat) (clock : Nat) (k v : AV) (n' : Nat) (key' val' : Nat → AV) (born' : Nat → Nat) (clock' : Nat) : Prop :=
  (∃ i, i < n ∧ key i = k ∧ n' = n ∧ clock' = clock ∧ ∀ j, j < n → key' j = key j ∧ born' j = born j ∧ val' j = if j = i then v else val j) ∨
  ((∀ i, i < n → key i ≠ k) ∧ n' = n + 1 ∧ clock' = clock + 1 ∧ (∀ j, j < n → key' j = key j ∧ born' j = born j ∧ val' j = val j) ∧ key' n = k ∧ val' n = v ∧ born' n = clock)
def DelOk (n : Nat) (key val : Nat → AV) (born : Nat → Nat) (k : AV) (n' : Nat) (key' val' : Nat → AV) (born' : Nat → Nat) : Prop :=
  (∃ i, i < n ∧ key i = k ∧ n = n' + 1 ∧ ∀ j, j < n' → key' j = key (if j < i then j else j + 1) ∧ born' j = born (if j < i then j else j + 1) ∧ val' j = val (if j < i then j else j + 1)) ∨
  ((∀ i, i < n → key i ≠ k) ∧ n' = n ∧ ∀ j, j < n → key' j = key j ∧ born' j = born j ∧ val' j = val j)

section
variable {P : Program} {β : Bd} {nid : Nat} {F : Nat → Prop} {w : World} {lk : Nat → Option AO} {k : Eff → Prop}

def mapK (lk : Nat → Option AO) (a : AV) (k : Nat → (Nat → AV) → (Nat → AV) → Prop) : Prop :=
  match a with
  | .rm n key val => k n key val
  | .mo id => (match lk id with
    | some (.mp n key val _ _) => k n key val
    | _ => False)
  | .val v => (match nilMap v with
    | true => k 0 (fun _ => .u) (fun _ => .u)
    | false => False)
  | _ => False
structure MapIs (F : Nat → Prop) (w : World) (v : Value) (n : Nat) (key val : Nat → AV) : Prop where
  is : (v = .map none ∧ n = 0) ∨ ∃ g es clock, v = .map (some g) ∧ w.heap[g]? = some (.map es clock) ∧ es.size = n ∧ MapOk es clock ∧
    ∀ (i : Nat) (_ : i < n) (h2 : i < es.size), Rep0 F w (key i) es[i].key ∧ Rep0 F w (val i) es[i].val
theorem mapK_sound (E : Env β nid F w lk) {a : AV} {v : Value} {q : Nat → (Nat → AV) → (Nat → AV) → Prop} (hv : Rep β nid F w a v) (h : mapK lk a q) : ∃ n key val, q n key val ∧ MapIs F w v n key val := by
  unfold mapK at h
  split at h
  · refine ⟨_, _, _, h, ⟨?_⟩⟩
    have hv0 := hv.rm_inv
    cases hv0 with
    | rmnil => exact .inl ⟨rfl, rfl⟩
    | rm _ _ _ g es clock hF hg hn ho hk hvv => exact .inr ⟨g, es, clock, rfl, hg, hn, ho, fun i h1 h2 => ⟨hk i h1 h2, hvv i h1 h2⟩⟩
  · split at h
    · rename_i hlk
      refine ⟨_, _, _, h, ⟨?_⟩⟩
      obtain ⟨_, rfl⟩ := hv.mo_inv
      obtain ⟨_, es, hh, hn, ho, hc⟩ := E.obj _ _ hlk
      exact .inr ⟨_, es, _, rfl, hh, hn, ho, fun i h1 h2 => ⟨(hc i h1 h2).1, (hc i h1 h2).2.1⟩⟩
    · exact h.elim
  · split at h
    · rename_i hn
      refine ⟨_, _, _, h, ⟨?_⟩⟩
      obtain rfl := hv.val_inv
      exact .inl ⟨nilMap_iff hn, rfl⟩
    · exact h.elim
  · exact h.elim

theorem keys_KV {T : List (Nat × TI)} (hT : TabOk P T) {kt n : Nat} {key : Nat → AV} (hf : KeysFit T kt n key) {es : Array MapEntry} (hn : es.size = n) (hk : ∀ (i : Nat) (_ : i < n) (h2 : i < es.size), Rep0 F w (key i) es[i].key) :
    ∀ x ∈ es.toList, KV P kt x.key := by
  intro x hx
  obtain ⟨j, hj, rfl⟩ := List.getElem_of_mem hx
  have hj' : j < es.size := by simpa using hj
  have := keyFit_KV hT (hf j (by omega)) (hk j (by omega) hj')
  simpa using this

/-! ### looking up -/
def lookupA0 (gc : Option Prop) (T : List (Nat × TI)) (lk : Nat → Option AO) (t : Nat) (a ix : AV) (ok : Bool) (k : Eff → Prop) : Prop :=
  match tget t T with
  | some ti => (match mapD ti.desc with
    | some (kt, et) => (match tget et T with
      | some te => mapK lk a fun n key val => ∃ c v, ob gc (KeysFit T kt n key ∧ keyFit T kt ix = true ∧ LookOk n key val ix v (avOf te.zero) c) (match ok with
        | true => k (.ext [] (.tup [v, .b c]))
        | false => k (.ext [] v))
      | none => False)
    | none => False)
  | none => False

theorem lookupA0_sound {gc : Option Prop} (hgc : ∀ c, gc = some c → c) (E : Env β nid F w lk) {T : List (Nat × TI)} (hT : TabOk P T) {t : Nat} {a ix : AV} {ok : Bool} {u v : Value} (hu : Rep β nid F w a u) (hv : Rep β nid F w ix v)
    (h : lookupA0 gc T lk t a ix ok k) : ∃ x, (Instr.lookup t u v ok).run P w = .ok x w ∧ ∃ r, k (.ext [] r) ∧ Rep β nid F w r x := by
  unfold lookupA0 at h
  split at h
  · rename_i ti h1
    split at h
    · rename_i kt et h2
      split at h
      · rename_i te h3
        obtain ⟨n, key, val, ⟨c, r, h⟩, hm⟩ := mapK_sound E hu h
        obtain ⟨⟨hf, hk, hl⟩, hfin⟩ := ob_iff h hgc
        have hv0 := hv.toPure (keyFit_lt hk)
        have hkv := keyFit_KV hT hk hv0
        obtain ⟨hut, _⟩ := hT.get h1
        obtain ⟨_, _, i, hi, _, _, hz⟩ := hT.get h3
        cases hd : ti.desc <;> simp [mapD, hd] at h2
        rename_i kt' et'
        obtain ⟨rfl, rfl⟩ := h2
        rw [hd] at hut
        have hzero : (zeroValue et').run P w = .ok te.zero w := by simp [zeroValue, typeInfo, hi, hz]
        have key2 : ∃ x, Rep0 F w r x ∧ (Instr.lookup t u v ok).run P w = .ok (if ok then .tuple #[x, .bool c] else x) w := by
          rcases hm.is with ⟨rfl, rfl⟩ | ⟨g, es, clock, rfl, hg, hn, ho, hc⟩
          · have hcf : c = false := by
              cases c with
              | false => rfl
              | true => obtain ⟨i, hi, _⟩ := hl.1 rfl; omega
            subst hcf
            refine ⟨te.zero, (hl.2 rfl).2.rep0 (rep_avOf _), ?_⟩
            have hfind : (Instr.findKey kt' v []).run P w = .ok none w := by
              rcases run_find_KV (w := w) hkv [] (by simp) with ⟨h1, _⟩ | ⟨j, e, _, h2, _⟩
              · exact h1
              · simp at h2
            simp [Instr.lookup, run_underlying hut, run_check_KV true hkv, hfind, hzero]
          · have hall := keys_KV hT hf hn (fun i h1 h2 => (hc i h1 h2).1)
            rcases run_find_KV (w := w) hkv es.toList hall with ⟨hfind, hno⟩ | ⟨j, e, hfind, he, hek⟩
            · have hcf : c = false := by
                cases c with
                | false => rfl
                | true =>
                  obtain ⟨i, hi, hki, _⟩ := hl.1 rfl
                  have hi2 : i < es.size := by omega
                  have := (keyFit_eq (hf i hi) hk (hc i hi hi2).1 hv0).1 hki
                  exact absurd this (hno _ (by simp))
              subst hcf
              refine ⟨te.zero, (hl.2 rfl).2.rep0 (rep_avOf _), ?_⟩
              simp [Instr.lookup, run_underlying hut, Go.MapKept.run_getObj_map hg, run_check_KV es.isEmpty hkv, hfind, hzero]
            · have hj2 : j < es.size := by simpa using (List.getElem?_eq_some_iff.1 he).1
              have hje : es[j] = e := by
                have := (List.getElem?_eq_some_iff.1 he).2
                simpa using this
              have hjn : j < n := by omega
              have hkj : key j = ix := (keyFit_eq (hf j hjn) hk (hc j hjn hj2).1 hv0).2 (by rw [hje]; exact hek)
              have hct : c = true := by
                cases c with
                | true => rfl
                | false => exact absurd hkj ((hl.2 rfl).1 j hjn)
              subst hct
              obtain ⟨i, hi, hki, hvi⟩ := hl.1 rfl
              have hij : i = j := by
                have hi2 : i < es.size := by omega
                have e1 := (keyFit_eq (hf i hi) hk (hc i hi hi2).1 hv0).1 hki
                have e2 : es[j].key = v := by rw [hje]; exact hek
                rcases Nat.lt_trichotomy i j with h | h | h
                · exact absurd (e1.trans e2.symm) (ho.one i j h hi2 hj2)
                · exact h
                · exact absurd (e2.trans e1.symm) (ho.one j i h hj2 hi2)
              subst hij
              refine ⟨e.val, hvi.rep0 (by rw [← hje]; exact (hc i hi hj2).2), ?_⟩
              simp [Instr.lookup, run_underlying hut, Go.MapKept.run_getObj_map hg, run_check_KV es.isEmpty hkv, hfind]
        obtain ⟨x, hx, hrun⟩ := key2
        cases ok with
        | true =>
          refine ⟨_, hrun, _, hfin, .pure _ _ (.tup [r, .b c] [x, .bool c] rfl fun j h1 h2 => ?_)⟩
          match j, h1 with
          | 0, _ => exact hx
          | 1, _ => exact .b c
        | false => exact ⟨_, hrun, _, hfin, .pure _ _ hx⟩
      · exact h.elim
    · exact h.elim
  · exact h.elim

/-- What a map's entry that is held elsewhere leads to. -/
def kidA : KD → Nat → AV
  | .row _ _ _ _, h => .so h
  | .cells _ _, h => .p h 0
theorem kidA_rep {β : Bd} {n : Nat} {F : Nat → Prop} {w : World} {kd : KD} {h : Nat} (hh : h < n) (h1 : (kidRef β kd h).oneCell' = true) : Rep β n F w (kidA kd h) (kidRef β kd h) := by
  cases kd with
  | row => exact .so h hh h1
  | cells => exact .p h 0 hh
theorem kidA_inv {β : Bd} {n : Nat} {F : Nat → Prop} {w : World} {kd : KD} {h : Nat} {v : Value} (hr : Rep β n F w (kidA kd h) v) : h < n ∧ v = kidRef β kd h := by
  cases kd with
  | row => exact hr.so_inv
  | cells => exact hr.p_inv
theorem Rep.kid_one {β : Bd} {n : Nat} {F : Nat → Prop} {w : World} {kd : KD} {h : Nat} {v : Value} (hr : Rep β n F w (kidA kd h) v) : v.oneCell' = true := by
  cases kd with
  | row =>
    cases hr with
    | pure _ _ h => cases h
    | so _ _ h1 => exact h1
  | cells => rw [hr.p_inv.2]; rfl
/-- Looking up in a map whose values are its own: the entry that is held elsewhere, or none. -/
def lookupR (gc : Option Prop) (T : List (Nat × TI)) (t : Nat) (n : Nat) (key : Nat → AV) (kid : Nat → KD) (hole : Option (Nat × Nat)) (ix : AV) (ok : Bool) (k : Eff → Prop) : Prop :=
  match tget t T with
  | some ti => (match mapD ti.desc with
    | some (kt, et) => (match tget et T with
      | some te => ∃ c : Bool, (match c with
        | true => (match hole with
          | some (i, h) => ob gc (KeysFit T kt n key ∧ keyFit T kt ix = true ∧ key i = ix) (match ok with
            | true => k (.ext [] (.tup [kidA (kid i) h, .b true]))
            | false => k (.ext [] (kidA (kid i) h)))
          | none => False)
        | false => ob gc (KeysFit T kt n key ∧ keyFit T kt ix = true ∧ ∀ i, i < n → key i ≠ ix) (match ok with
            | true => k (.ext [] (.tup [avOf te.zero, .b false]))
            | false => k (.ext [] (avOf te.zero))))
      | none => False)
    | none => False)
  | none => False
theorem lookupR_sound {gc : Option Prop} (hgc : ∀ c, gc = some c → c) (E : Env β nid F w lk) {T : List (Nat × TI)} (hT : TabOk P T) {t id : Nat} {ix : AV} {ok : Bool} {v : Value} {n : Nat} {key : Nat → AV} {kid : Nat → KD} {born : Nat → Nat} {clock aux : Nat} {hole : Option (Nat × Nat)}
    (hlk : lk id = some (.mr n key kid born clock aux hole)) (hv : Rep β nid F w ix v)
    (h : lookupR gc T t n key kid hole ix ok k) : ∃ x, (Instr.lookup t (.map (some (β.blk id))) v ok).run P w = .ok x w ∧ ∃ r, k (.ext [] r) ∧ Rep β nid F w r x := by
  obtain ⟨_, ha, hho, es, hg, hn, ho, hkey, _, _, _, hhole⟩ := E.obj id _ hlk
  unfold lookupR at h
  split at h
  · rename_i ti h1
    split at h
    · rename_i kt et h2
      split at h
      · rename_i te h3
        obtain ⟨hut, _⟩ := hT.get h1
        obtain ⟨_, _, i, hi, _, _, hz⟩ := hT.get h3
        cases hd : ti.desc <;> simp [mapD, hd] at h2
        rename_i kt' et'
        obtain ⟨rfl, rfl⟩ := h2
        rw [hd] at hut
        have hzero : (zeroValue et').run P w = .ok te.zero w := by simp [zeroValue, typeInfo, hi, hz]
        obtain ⟨c, h⟩ := h
        cases c with
        | true =>
          rcases hole with _ | ⟨i0, h0⟩
          · exact h.elim
          · dsimp only at h
            obtain ⟨⟨hf, hk, hki⟩, hfin⟩ := ob_iff h hgc
            have hv0 := hv.toPure (keyFit_lt hk)
            have hkv := keyFit_KV hT hk hv0
            have hall := keys_KV hT hf hn (fun i h1 h2 => (hkey i h1 h2).1)
            obtain ⟨hh0, hi0⟩ := hho i0 h0 rfl
            have hi2 : i0 < es.size := by omega
            obtain ⟨he1, he2⟩ := hhole i0 h0 rfl hi2
            have hkk := (keyFit_eq (hf i0 hi0) hk (hkey i0 hi0 hi2).1 hv0).1 hki
            rcases run_find_KV (w := w) hkv es.toList hall with ⟨hfind, hno⟩ | ⟨j, e, hfind, he, hek⟩
            · exact absurd hkk (hno _ (by simp))
            · have hj2 : j < es.size := by simpa using (List.getElem?_eq_some_iff.1 he).1
              have hje : es[j] = e := by
                have := (List.getElem?_eq_some_iff.1 he).2
                simpa using this
              have hij : i0 = j := by
                have e2 : es[j].key = v := by rw [hje]; exact hek
                rcases Nat.lt_trichotomy i0 j with h | h | h
                · exact absurd (hkk.trans e2.symm) (ho.one i0 j h hi2 hj2)
                · exact h
                · exact absurd (e2.trans hkk.symm) (ho.one j i0 h hj2 hi2)
              subst hij
              have hrun : (Instr.lookup t (.map (some (β.blk id))) v ok).run P w = .ok (if ok then .tuple #[kidRef β (kid i0) h0, .bool true] else kidRef β (kid i0) h0) w := by
                rw [← he1, hje]
                simp [Instr.lookup, run_underlying hut, Go.MapKept.run_getObj_map hg, run_check_KV es.isEmpty hkv, hfind]
              have hrep : Rep β nid F w (kidA (kid i0) h0) (kidRef β (kid i0) h0) := kidA_rep hh0 (by rw [← he1]; exact he2)
              cases ok with
              | true =>
                refine ⟨_, hrun, _, hfin, .tup [kidA (kid i0) h0, .b true] [kidRef β (kid i0) h0, .bool true] rfl fun j h1 h2 => ?_⟩
                match j, h1 with
                | 0, _ => exact hrep
                | 1, _ => exact .pure _ _ (.b true)
              | false => exact ⟨_, hrun, _, hfin, hrep⟩
        | false =>
          dsimp only at h
          obtain ⟨⟨hf, hk, hno⟩, hfin⟩ := ob_iff h hgc
          have hv0 := hv.toPure (keyFit_lt hk)
          have hkv := keyFit_KV hT hk hv0
          have hall := keys_KV hT hf hn (fun i h1 h2 => (hkey i h1 h2).1)
          rcases run_find_KV (w := w) hkv es.toList hall with ⟨hfind, _⟩ | ⟨j, e, hfind, he, hek⟩
          · have hrun : (Instr.lookup t (.map (some (β.blk id))) v ok).run P w = .ok (if ok then .tuple #[te.zero, .bool false] else te.zero) w := by
              simp [Instr.lookup, run_underlying hut, Go.MapKept.run_getObj_map hg, run_check_KV es.isEmpty hkv, hfind, hzero]
            cases ok with
            | true =>
              refine ⟨_, hrun, _, hfin, .pure _ _ (.tup [avOf te.zero, .b false] [te.zero, .bool false] rfl fun j h1 h2 => ?_)⟩
              match j, h1 with
              | 0, _ => exact rep_avOf _
              | 1, _ => exact .b false
            | false => exact ⟨_, hrun, _, hfin, .pure _ _ (rep_avOf _)⟩
          · have hj2 : j < es.size := by simpa using (List.getElem?_eq_some_iff.1 he).1
            have hje : es[j] = e := by
              have := (List.getElem?_eq_some_iff.1 he).2
              simpa using this
            have hjn : j < n := by omega
            exact absurd ((keyFit_eq (hf j hjn) hk (hkey j hjn hj2).1 hv0).2 (by rw [hje]; exact hek)) (hno j hjn)
      · exact h.elim
    · exact h.elim
  · exact h.elim
def lookupA (gc : Option Prop) (T : List (Nat × TI)) (lk : Nat → Option AO) (t : Nat) (a ix : AV) (ok : Bool) (k : Eff → Prop) : Prop :=
  match a with
  | .mo id => (match lk id with
    | some (.mr n key kid _ _ _ hole) => lookupR gc T t n key kid hole ix ok k
    | _ => lookupA0 gc T lk t (.mo id) ix ok k)
  | a => lookupA0 gc T lk t a ix ok k
theorem lookupA_sound {gc : Option Prop} (hgc : ∀ c, gc = some c → c) (E : Env β nid F w lk) {T : List (Nat × TI)} (hT : TabOk P T) {t : Nat} {a ix : AV} {ok : Bool} {u v : Value} (hu : Rep β nid F w a u) (hv : Rep β nid F w ix v)
    (h : lookupA gc T lk t a ix ok k) : ∃ x, (Instr.lookup t u v ok).run P w = .ok x w ∧ ∃ r, k (.ext [] r) ∧ Rep β nid F w r x := by
  unfold lookupA at h
  split at h
  · split at h
    · rename_i hlk
      rw [hu.mo_inv.2]
      exact lookupR_sound hgc E hT hlk hv h
    · exact lookupA0_sound hgc E hT hu hv h
  · exact lookupA0_sound hgc E hT hu hv h

/-! ### making, setting, striking -/
def makeMapA (nid : Nat) (k : Eff → Prop) : Prop := k (.ext [.mp 0 (fun _ => .u) (fun _ => .u) (fun _ => 0) 0] (.mo nid))
theorem mapOk_empty : MapOk #[] 0 := ⟨fun i j _ h1 => by simp at h1, fun i h => by simp at h, fun i j _ h1 => by simp at h1⟩
theorem makeMapA_sound (t : TypeId) (h : makeMapA nid k) : ∃ x w', (Instr.makeMap t none).run P w = .ok x w' ∧ PostK β nid F lk w k x w' := by
  refine ⟨.map (some w.heap.size), w.alloc (.map #[] 0), by simp [Instr.makeMap], _, β.blkAt nid w.heap.size, h, .blk _ _ _ _ (fun _ => rfl) (fun hF => ?_) (fun hb => ?_)⟩
  · exact ⟨#[], by rw [show (β.blkAt nid w.heap.size).blk nid = w.heap.size by simp [Bd.blkAt]]; exact heap_alloc_new w _, rfl, mapOk_empty, fun i hi => by omega⟩
  · have := Rep.mo (β := β.blkAt nid w.heap.size) (n := nid + 1) (F := FX F (β.blkAt nid w.heap.size) nid [.mp 0 (fun _ => .u) (fun _ => .u) (fun _ => 0) 0]) (w := w.alloc (.map #[] 0)) nid (by omega)
    rw [hb] at this
    exact this

def updateA0 (gc : Option Prop) (T : List (Nat × TI)) (lk : Nat → Option AO) (t : Nat) (a kx vx : AV) (k : Eff → Prop) : Prop :=
  match tget t T, a with
  | some ti, .mo id => (match mapD ti.desc, lk id with
    | some (kt, _), some (.mp n key val born clock) => (match AV.lt 0 vx with
      | true => ∃ n' key' val' born' clock', ob gc (KeysFit T kt n key ∧ keyFit T kt kx = true ∧ UpdOk n key val born clock kx vx n' key' val' born' clock') (k (.set id (.mp n' key' val' born' clock') .u))
      | false => False)
    | _, _ => False)
  | _, _ => False

theorem setMap_old (w : World) (g : Nat) (o : Obj) (g2 : Nat) (h : g2 ≠ g) : ({ w with heap := w.heap.setIfInBounds g o } : World).heap[g2]? = w.heap[g2]? := by
  simp [Ne.symm h]
theorem setMap_new (w : World) (g : Nat) (o : Obj) (h : g < w.heap.size) : ({ w with heap := w.heap.setIfInBounds g o } : World).heap[g]? = some o := by
  simp [h]

theorem updateA0_sound {gc : Option Prop} (hgc : ∀ c, gc = some c → c) (E : Env β nid F w lk) {T : List (Nat × TI)} (hT : TabOk P T) {t : Nat} {a kx vx : AV} {u v x : Value} (hu : Rep β nid F w a u) (hv : Rep β nid F w kx v) (hx : Rep β nid F w vx x)
    (h : updateA0 gc T lk t a kx vx k) : ∃ w', (Instr.mapUpdate t u v x).run P w = .ok () w' ∧ PostK β nid F lk w k undef w' := by
  unfold updateA0 at h
  split at h
  · rename_i ti id h1
    split at h
    · rename_i kt et n key val born clock h2 hlk
      split at h
      · rename_i hpure
        obtain ⟨n', key', val', born', clock', h⟩ := h
        obtain ⟨⟨hf, hk, hupd⟩, hfin⟩ := ob_iff h hgc
        have hv0 := hv.toPure (keyFit_lt hk)
        have hx0 := hx.toPure hpure
        have hkv := keyFit_KV hT hk hv0
        obtain ⟨hut, _⟩ := hT.get h1
        cases hd : ti.desc <;> simp [mapD, hd] at h2
        obtain ⟨rfl, rfl⟩ := h2
        rw [hd] at hut
        obtain ⟨hid, rfl⟩ := hu.mo_inv
        obtain ⟨_, es, hh, hn, ho, hc⟩ := E.obj id _ hlk
        have hF := E.own id _ (β.blk id) hlk rfl
        have hlt := (Array.getElem?_eq_some_iff.1 hh).1
        have hall := keys_KV hT hf hn (fun i h1 h2 => (hc i h1 h2).1)
        have hold : ∀ (o : Obj) g2, g2 < w.heap.size → ¬ F g2 → ({ w with heap := w.heap.setIfInBounds (β.blk id) o } : World).heap[g2]? = w.heap[g2]? := fun o g2 _ hn => setMap_old w _ o g2 (fun e => hn (by rw [e]; exact hF))
        have hgrow : ∀ o : Obj, GrownBy w { w with heap := w.heap.setIfInBounds (β.blk id) o } (some (β.blk id)) := fun o => ⟨⟨rfl, rfl, rfl, by simp, fun g _ hne => setMap_old w _ o g (fun e => hne (by rw [e]))⟩, Nat.le_refl _⟩
        rcases run_find_KV (w := w) hkv es.toList hall with ⟨hfind, hno⟩ | ⟨j, e, hfind, he, hek⟩
        · have hnk : ∀ i, i < n → key i ≠ kx := fun i hi hki => by
            have hi2 : i < es.size := by omega
            exact hno _ (by simp) ((keyFit_eq (hf i hi) hk (hc i hi hi2).1 hv0).1 hki)
          rcases hupd with ⟨i, hi, hki, _⟩ | ⟨_, rfl, rfl, hsame, hk1, hv1, hb1⟩
          · exact absurd hki (hnk i hi)
          · refine ⟨{ w with heap := w.heap.setIfInBounds (β.blk id) (.map (es.push { key := v, val := x, born := clock }) (clock + 1)) }, ?_, _, β, hfin, rfl, _, hlk, hgrow _, rfl, ⟨_, setMap_new w _ _ hlt, by simp [hn], ?_, ?_⟩, .pure _ _ (.u _)⟩
            · simp [Instr.mapUpdate, run_underlying hut, Go.MapKept.run_getObj_map hh, run_check_KV false hkv, hfind, Go.MapKept.run_setObj_map _ hh]
            · refine ⟨fun i j hij h1 h2 => ?_, fun i h1 => ?_, fun i j hij h1 h2 => ?_⟩
              · simp at h1 h2
                by_cases hj : j = es.size
                · subst hj
                  have := ho.old i hij
                  simpa [Array.getElem_push, hij] using this
                · have hj' : j < es.size := by omega
                  have := ho.asc i j hij (by omega) hj'
                  simpa [Array.getElem_push, hj', show i < es.size by omega] using this
              · simp at h1
                by_cases hi : i = es.size
                · subst hi; simp
                · have := ho.old i (by omega)
                  simp [Array.getElem_push, show i < es.size by omega]
                  omega
              · simp at h1 h2
                by_cases hj : j = es.size
                · subst hj
                  have := hno es[i] (by simp)
                  simpa [Array.getElem_push, hij] using this
                · have hj' : j < es.size := by omega
                  have := ho.one i j hij (by omega) hj'
                  simpa [Array.getElem_push, hj', show i < es.size by omega] using this
            · intro i hi h2
              simp at h2
              by_cases hin : i = n
              · subst hin
                simp only [Array.getElem_push, hn, Nat.lt_irrefl, dite_false]
                rw [hk1, hv1, hb1]
                exact ⟨hv0.stable (fun _ _ hn => hn) (hold _) (by simp), hx0.stable (fun _ _ hn => hn) (hold _) (by simp), rfl⟩
              · have hi' : i < es.size := by omega
                obtain ⟨e1, e2, e3⟩ := hsame i (by omega)
                simp only [Array.getElem_push, hi', dite_true]
                rw [e1, e2, e3]
                obtain ⟨h3, h4, h5⟩ := hc i (by omega) hi'
                exact ⟨h3.stable (fun _ _ hn => hn) (hold _) (by simp), h4.stable (fun _ _ hn => hn) (hold _) (by simp), h5⟩
        · have hj2 : j < es.size := by simpa using (List.getElem?_eq_some_iff.1 he).1
          have hje : es[j] = e := by
            have := (List.getElem?_eq_some_iff.1 he).2
            simpa using this
          have hjn : j < n := by omega
          have hkj : key j = kx := (keyFit_eq (hf j hjn) hk (hc j hjn hj2).1 hv0).2 (by rw [hje]; exact hek)
          rcases hupd with ⟨i, hi, hki, hnn, hcc, hsame⟩ | ⟨hno, _⟩
          · obtain rfl := hnn.symm
            obtain rfl := hcc.symm
            have hij : i = j := by
              have hi2 : i < es.size := by omega
              have e1 := (keyFit_eq (hf i hi) hk (hc i hi hi2).1 hv0).1 hki
              have e2 : es[j].key = v := by rw [hje]; exact hek
              rcases Nat.lt_trichotomy i j with h | h | h
              · exact absurd (e1.trans e2.symm) (ho.one i j h hi2 hj2)
              · exact h
              · exact absurd (e2.trans e1.symm) (ho.one j i h hj2 hi2)
            subst hij
            have hkey : ((es[i]?).map (·.key)).getD v = v := by
              rw [Array.getElem?_eq_getElem hj2, hje]
              simpa using hek
            have hget : ∀ (q : Nat) (h : q < (es.modify i fun e => { e with key := v, val := x }).size) (h' : q < es.size), (es.modify i fun e => { e with key := v, val := x })[q] = { es[q] with val := if q = i then x else es[q].val } := by
              intro q h h'
              rw [Array.getElem_modify]
              by_cases hq : i = q
              · subst hq
                rw [hje]
                simp [hek]
              · simp [hq, Ne.symm hq]
            refine ⟨{ w with heap := w.heap.setIfInBounds (β.blk id) (.map (es.modify i fun e => { e with key := v, val := x }) clock) }, ?_, _, β, hfin, rfl, _, hlk, hgrow _, rfl, ⟨_, setMap_new w _ _ hlt, by simp [hn], ?_, ?_⟩, .pure _ _ (.u _)⟩
            · simp [Instr.mapUpdate, run_underlying hut, Go.MapKept.run_getObj_map hh, run_check_KV false hkv, hfind, Go.MapKept.run_setObj_map _ hh, hkey, Instr.keyThatStays, sameBits_KV hkv]
            · refine ⟨fun q r hqr h1 h2 => ?_, fun q h1 => ?_, fun q r hqr h1 h2 => ?_⟩
              · simp at h1 h2
                rw [hget q _ h1, hget r _ h2]
                exact ho.asc q r hqr h1 h2
              · simp at h1
                rw [hget q _ h1]
                exact ho.old q h1
              · simp at h1 h2
                rw [hget q _ h1, hget r _ h2]
                exact ho.one q r hqr h1 h2
            · intro q hq h2
              simp at h2
              rw [hget q _ h2]
              obtain ⟨e1, e2, e3⟩ := hsame q hq
              rw [e1, e2, e3]
              obtain ⟨h3, h4, h5⟩ := hc q hq h2
              refine ⟨h3.stable (fun _ _ hn => hn) (hold _) (by simp), ?_, h5⟩
              dsimp only
              split
              · exact hx0.stable (fun _ _ hn => hn) (hold _) (by simp)
              · exact h4.stable (fun _ _ hn => hn) (hold _) (by simp)
          · exact absurd hkj (hno j hjn)
      · exact h.elim
    · exact h.elim
  · exact h.elim

/-- What is asked of the one who sets an entry that is held elsewhere. -/
def UpdR (n : Nat) (key : Nat → AV) (born : Nat → Nat) (clock : Nat) (hole : Option (Nat × Nat)) (k : AV) (n' : Nat) (key' : Nat → AV) (born' : Nat → Nat) (clock' i : Nat) : Prop :=
  ((∃ h0, hole = some (i, h0)) ∧ key i = k ∧ n' = n ∧ clock' = clock ∧ ∀ j, j < n → key' j = key j ∧ born' j = born j) ∨
  (hole = none ∧ (∀ j, j < n → key j ≠ k) ∧ i = n ∧ n' = n + 1 ∧ clock' = clock + 1 ∧ (∀ j, j < n → key' j = key j ∧ born' j = born j) ∧ key' n = k ∧ born' n = clock)
def refId : AV → Option Nat
  | .so h => some h
  | .p h 0 => some h
  | _ => none
def updateR (gc : Option Prop) (T : List (Nat × TI)) (t id : Nat) (n : Nat) (key : Nat → AV) (kid : Nat → KD) (born : Nat → Nat) (clock aux : Nat) (hole : Option (Nat × Nat)) (kx vx : AV) (k : Eff → Prop) : Prop :=
  match tget t T, refId vx with
  | some ti, some h => (match mapD ti.desc with
    | some (kt, _) => ∃ n' key' born' clock' i, ob gc (KeysFit T kt n key ∧ keyFit T kt kx = true ∧ vx = kidA (kid i) h ∧ UpdR n key born clock hole kx n' key' born' clock' i) (k (.set id (.mr n' key' kid born' clock' aux (some (i, h))) .u))
    | none => False)
  | _, _ => False
theorem updateR_sound {gc : Option Prop} (hgc : ∀ c, gc = some c → c) (E : Env β nid F w lk) {T : List (Nat × TI)} (hT : TabOk P T) {t id : Nat} {kx vx : AV} {v x : Value} {n : Nat} {key : Nat → AV} {kid : Nat → KD} {born : Nat → Nat} {clock aux : Nat} {hole : Option (Nat × Nat)}
    (hlk : lk id = some (.mr n key kid born clock aux hole)) (hv : Rep β nid F w kx v) (hx : Rep β nid F w vx x)
    (h : updateR gc T t id n key kid born clock aux hole kx vx k) : ∃ w', (Instr.mapUpdate t (.map (some (β.blk id))) v x).run P w = .ok () w' ∧ PostK β nid F lk w k undef w' := by
  obtain ⟨_, ha, hho, es, hh, hn, ho, hkey, hkids, hd, hne, hhole⟩ := E.obj id _ hlk
  have hF := E.own id _ (β.blk id) hlk (.inl rfl)
  have hlt := (Array.getElem?_eq_some_iff.1 hh).1
  have hold : ∀ (o : Obj) g2, g2 < w.heap.size → ¬ F g2 → ({ w with heap := w.heap.setIfInBounds (β.blk id) o } : World).heap[g2]? = w.heap[g2]? := fun o g2 _ hn => setMap_old w _ o g2 (fun e => hn (by rw [e]; exact hF))
  have hgrow : ∀ o : Obj, GrownBy w { w with heap := w.heap.setIfInBounds (β.blk id) o } (some (β.blk id)) := fun o => ⟨⟨rfl, rfl, rfl, by simp, fun g _ hne => setMap_old w _ o g (fun e => hne (by rw [e]))⟩, Nat.le_refl _⟩
  unfold updateR at h
  split at h
  · rename_i ti hx0 h1 hrx
    split at h
    · rename_i kt et h2
      obtain ⟨n', key', born', clock', i, h⟩ := h
      obtain ⟨⟨hf, hk, hvx, hupd⟩, hfin⟩ := ob_iff h hgc
      rw [hvx] at hx
      obtain ⟨hh0, hxe⟩ := kidA_inv hx
      have hx1 := hx.kid_one
      have hv0 := hv.toPure (keyFit_lt hk)
      have hkv := keyFit_KV hT hk hv0
      obtain ⟨hut, _⟩ := hT.get h1
      cases hdd : ti.desc <;> simp [mapD, hdd] at h2
      obtain ⟨rfl, rfl⟩ := h2
      rw [hdd] at hut
      have hall := keys_KV hT hf hn (fun i h1 h2 => (hkey i h1 h2).1)
      have hkk : ∀ (o : Obj) j (hj : j < n) (hj2 : j < es.size), noHole hole j → KidOk F { w with heap := w.heap.setIfInBounds (β.blk id) o } es[j].val (kid j) := fun o j hj hj2 hno => by
        obtain ⟨e1, e2⟩ := hkids j hj hj2 hno
        refine e2.stable (fun _ _ hn => hn) (hold o) (by simp) fun g hg => setMap_old w _ o g fun e => ?_
        refine hne j j hj hj hno ?_
        rw [← e1, hg, e]
      rcases run_find_KV (w := w) hkv es.toList hall with ⟨hfind, hno⟩ | ⟨j, e, hfind, he, hek⟩
      · have hnk : ∀ i, i < n → key i ≠ kx := fun i hi hki => by
          have hi2 : i < es.size := by omega
          exact hno _ (by simp) ((keyFit_eq (hf i hi) hk (hkey i hi hi2).1 hv0).1 hki)
        rcases hupd with ⟨⟨h0, e0⟩, hki, _⟩ | ⟨rfl, _, rfl, rfl, rfl, hsame, hk1, hb1⟩
        · exact absurd hki (hnk i (hho i h0 e0).2)
        · have nh : ∀ j, j < i + 1 → noHole (some (i, hx0)) j → j < i := fun j hj hno => by
            rcases Nat.lt_or_ge j i with h | h
            · exact h
            · have : j = i := by omega
              subst this
              exact absurd rfl (hno hx0)
          have nn : ∀ j : Nat, noHole none j := fun j h e => by cases e
          refine ⟨{ w with heap := w.heap.setIfInBounds (β.blk id) (.map (es.push { key := v, val := x, born := clock }) (clock + 1)) }, ?_, _, β, hfin, rfl, _, hlk, hgrow _, ?_, ⟨ha, fun q h e => ?_, _, setMap_new w _ _ hlt, by simp [hn], ?_, ?_, ?_, ?_, ?_, ?_⟩, .pure _ _ (.u _)⟩
          · simp [Instr.mapUpdate, run_underlying hut, Go.MapKept.run_getObj_map hh, run_check_KV false hkv, hfind, Go.MapKept.run_setObj_map _ hh]
          · simp only [ownB]
            funext g
            refine propext ⟨?_, ?_⟩
            · rintro (h | ⟨j, h1, h2, h3⟩)
              · exact .inl h
              · exact .inr ⟨j, nh j h1 h2, nn j, h3⟩
            · rintro (h | ⟨j, h1, _, h3⟩)
              · exact .inl h
              · exact .inr ⟨j, by omega, fun h e => by simp only [Option.some.injEq, Prod.mk.injEq] at e; omega, h3⟩
          · simp only [Option.some.injEq, Prod.mk.injEq] at e
            exact ⟨by omega, by omega⟩
          · refine ⟨fun i j hij h1 h2 => ?_, fun i h1 => ?_, fun i j hij h1 h2 => ?_⟩
            · simp at h1 h2
              by_cases hj : j = es.size
              · subst hj
                have := ho.old i hij
                simpa [Array.getElem_push, hij] using this
              · have hj' : j < es.size := by omega
                have := ho.asc i j hij (by omega) hj'
                simpa [Array.getElem_push, hj', show i < es.size by omega] using this
            · simp at h1
              by_cases hi : i = es.size
              · subst hi; simp
              · have := ho.old i (by omega)
                simp [Array.getElem_push, show i < es.size by omega]
                omega
            · simp at h1 h2
              by_cases hj : j = es.size
              · subst hj
                have := hno es[i] (by simp)
                simpa [Array.getElem_push, hij] using this
              · have hj' : j < es.size := by omega
                have := ho.one i j hij (by omega) hj'
                simpa [Array.getElem_push, hj', show i < es.size by omega] using this
          · intro j hj h2
            simp at h2
            by_cases hin : j = i
            · subst hin
              simp only [Array.getElem_push, hn, Nat.lt_irrefl, dite_false]
              rw [hk1, hb1]
              exact ⟨hv0.stable (fun _ _ hn => hn) (hold _) (by simp), rfl⟩
            · have hj' : j < es.size := by omega
              obtain ⟨e1, e2⟩ := hsame j (by omega)
              simp only [Array.getElem_push, hj', dite_true]
              rw [e1, e2]
              obtain ⟨h3, h4⟩ := hkey j (by omega) hj'
              exact ⟨h3.stable (fun _ _ hn => hn) (hold _) (by simp), h4⟩
          · intro j hj h2 hnoh
            have hji := nh j hj hnoh
            have hj' : j < es.size := by omega
            simp only [Array.getElem_push, hj', dite_true]
            exact ⟨(hkids j hji hj' (nn j)).1, hkk _ j hji hj' (nn j)⟩
          · exact fun p q g h1 h2 h3 h4 => hd p q g (nh p h1 h3) (nh q h2 h4) (nn p) (nn q)
          · exact fun p q h1 h2 h3 => hne p p (nh p h1 h3) (nh p h1 h3) (nn p)
          · intro q h e h2
            simp only [Option.some.injEq, Prod.mk.injEq] at e
            obtain ⟨rfl, rfl⟩ := e
            simp only [Array.getElem_push, hn, Nat.lt_irrefl, dite_false]
            exact ⟨hxe, hx1⟩
      · have hj2 : j < es.size := by simpa using (List.getElem?_eq_some_iff.1 he).1
        have hje : es[j] = e := by
          have := (List.getElem?_eq_some_iff.1 he).2
          simpa using this
        have hjn : j < n := by omega
        have hkj : key j = kx := (keyFit_eq (hf j hjn) hk (hkey j hjn hj2).1 hv0).2 (by rw [hje]; exact hek)
        rcases hupd with ⟨⟨h0, e0⟩, hki, hnn, hcc, hsame⟩ | ⟨_, hno, _⟩
        · obtain rfl := hnn.symm
          obtain rfl := hcc.symm
          subst e0
          have hi := (hho i h0 rfl).2
          have hij : i = j := by
            have hi2 : i < es.size := by omega
            have e1 := (keyFit_eq (hf i hi) hk (hkey i hi hi2).1 hv0).1 hki
            have e2 : es[j].key = v := by rw [hje]; exact hek
            rcases Nat.lt_trichotomy i j with h | h | h
            · exact absurd (e1.trans e2.symm) (ho.one i j h hi2 hj2)
            · exact h
            · exact absurd (e2.trans e1.symm) (ho.one j i h hj2 hi2)
          subst hij
          have nh : ∀ q, noHole (some (i, hx0)) q ↔ noHole (some (i, h0)) q := fun q => by
            unfold noHole
            constructor
            · intro hh h e
              simp only [Option.some.injEq, Prod.mk.injEq] at e
              exact hh hx0 (by rw [e.1])
            · intro hh h e
              simp only [Option.some.injEq, Prod.mk.injEq] at e
              exact hh h0 (by rw [e.1])
          have hkey2 : ((es[i]?).map (·.key)).getD v = v := by
            rw [Array.getElem?_eq_getElem hj2, hje]
            simpa using hek
          have hget : ∀ (q : Nat) (h : q < (es.modify i fun e => { e with key := v, val := x }).size) (h' : q < es.size), (es.modify i fun e => { e with key := v, val := x })[q] = { es[q] with val := if q = i then x else es[q].val } := by
            intro q h h'
            rw [Array.getElem_modify]
            by_cases hq : i = q
            · subst hq
              rw [hje]
              simp [hek]
            · simp [hq, Ne.symm hq]
          refine ⟨{ w with heap := w.heap.setIfInBounds (β.blk id) (.map (es.modify i fun e => { e with key := v, val := x }) clock) }, ?_, _, β, hfin, rfl, _, hlk, hgrow _, ?_, ⟨ha, fun q h e => ?_, _, setMap_new w _ _ hlt, by simp [hn], ?_, ?_, ?_, ?_, ?_, ?_⟩, .pure _ _ (.u _)⟩
          · simp [Instr.mapUpdate, run_underlying hut, Go.MapKept.run_getObj_map hh, run_check_KV false hkv, hfind, Go.MapKept.run_setObj_map _ hh, hkey2, Instr.keyThatStays, sameBits_KV hkv]
          · simp only [ownB, nh]
          · simp only [Option.some.injEq, Prod.mk.injEq] at e
            exact ⟨by omega, by omega⟩
          · refine ⟨fun q r hqr h1 h2 => ?_, fun q h1 => ?_, fun q r hqr h1 h2 => ?_⟩
            · simp at h1 h2
              rw [hget q _ h1, hget r _ h2]
              exact ho.asc q r hqr h1 h2
            · simp at h1
              rw [hget q _ h1]
              exact ho.old q h1
            · simp at h1 h2
              rw [hget q _ h1, hget r _ h2]
              exact ho.one q r hqr h1 h2
          · intro q hq h2
            simp at h2
            rw [hget q _ h2]
            obtain ⟨e1, e2⟩ := hsame q hq
            rw [e1, e2]
            obtain ⟨h3, h4⟩ := hkey q hq h2
            exact ⟨h3.stable (fun _ _ hn => hn) (hold _) (by simp), h4⟩
          · intro q hq h2 hnoh
            simp at h2
            rw [hget q _ h2]
            have hqi : q ≠ i := fun e => hnoh hx0 (by rw [e])
            simp only [if_neg hqi]
            exact ⟨(hkids q hq h2 ((nh q).1 hnoh)).1, hkk _ q hq h2 ((nh q).1 hnoh)⟩
          · exact fun p q g h1 h2 h3 h4 => hd p q g h1 h2 ((nh p).1 h3) ((nh q).1 h4)
          · exact fun p q h1 h2 h3 => hne p q h1 h2 ((nh p).1 h3)
          · intro q h e h2
            simp only [Option.some.injEq, Prod.mk.injEq] at e
            obtain ⟨rfl, rfl⟩ := e
            simp at h2
            rw [hget _ _ h2]
            simp only [if_true]
            exact ⟨hxe, hx1⟩
        · exact absurd hkj (hno j hjn)
    · exact h.elim
  · exact h.elim
def updateA (gc : Option Prop) (T : List (Nat × TI)) (lk : Nat → Option AO) (t : Nat) (a kx vx : AV) (k : Eff → Prop) : Prop :=
  match a with
  | .mo id => (match lk id with
    | some (.mr n key kid born clock aux hole) => updateR gc T t id n key kid born clock aux hole kx vx k
    | _ => updateA0 gc T lk t (.mo id) kx vx k)
  | a => updateA0 gc T lk t a kx vx k
theorem updateA_sound {gc : Option Prop} (hgc : ∀ c, gc = some c → c) (E : Env β nid F w lk) {T : List (Nat × TI)} (hT : TabOk P T) {t : Nat} {a kx vx : AV} {u v x : Value} (hu : Rep β nid F w a u) (hv : Rep β nid F w kx v) (hx : Rep β nid F w vx x)
    (h : updateA gc T lk t a kx vx k) : ∃ w', (Instr.mapUpdate t u v x).run P w = .ok () w' ∧ PostK β nid F lk w k undef w' := by
  unfold updateA at h
  split at h
  · split at h
    · rename_i hlk
      rw [hu.mo_inv.2]
      exact updateR_sound hgc E hT hlk hv hx h
    · exact updateA0_sound hgc E hT hu hv hx h
  · exact updateA0_sound hgc E hT hu hv hx h

def deleteA (gc : Option Prop) (T : List (Nat × TI)) (lk : Nat → Option AO) (t : Nat) (a kx : AV) (k : Eff → Prop) : Prop :=
  match tget t T, a with
  | some ti, .mo id => (match mapD ti.desc, lk id with
    | some (kt, _), some (.mp n key val born clock) => ∃ n' key' val' born', ob gc (KeysFit T kt n key ∧ keyFit T kt kx = true ∧ DelOk n key val born kx n' key' val' born') (k (.set id (.mp n' key' val' born' clock) .u))
    | _, _ => False)
  | _, _ => False

theorem deleteA_sound {gc : Option Prop} (hgc : ∀ c, gc = some c → c) (E : Env β nid F w lk) {T : List (Nat × TI)} (hT : TabOk P T) {t : Nat} {a kx : AV} {u v : Value} (ts : Array TypeId) (ty : TypeId) (hts : ts[0]? = some t) (hu : Rep β nid F w a u) (hv : Rep β nid F w kx v)
    (h : deleteA gc T lk t a kx k) : ∃ x w', (Builtin.delete_ ts ty #[u, v]).run P w = .ok x w' ∧ PostK β nid F lk w k x w' := by
  unfold deleteA at h
  split at h
  · rename_i ti id h1
    split at h
    · rename_i kt et n key val born clock h2 hlk
      obtain ⟨n', key', val', born', h⟩ := h
      obtain ⟨⟨hf, hk, hdel⟩, hfin⟩ := ob_iff h hgc
      have hv0 := hv.toPure (keyFit_lt hk)
      have hkv := keyFit_KV hT hk hv0
      obtain ⟨hut, _⟩ := hT.get h1
      cases hd : ti.desc <;> simp [mapD, hd] at h2
      obtain ⟨rfl, rfl⟩ := h2
      rw [hd] at hut
      obtain ⟨hid, rfl⟩ := hu.mo_inv
      obtain ⟨_, es, hh, hn, ho, hc⟩ := E.obj id _ hlk
      have hF := E.own id _ (β.blk id) hlk rfl
      have hlt := (Array.getElem?_eq_some_iff.1 hh).1
      have hall := keys_KV hT hf hn (fun i h1 h2 => (hc i h1 h2).1)
      have hold : ∀ (o : Obj) g2, g2 < w.heap.size → ¬ F g2 → ({ w with heap := w.heap.setIfInBounds (β.blk id) o } : World).heap[g2]? = w.heap[g2]? := fun o g2 _ hn => setMap_old w _ o g2 (fun e => hn (by rw [e]; exact hF))
      have hgrow : ∀ o : Obj, GrownBy w { w with heap := w.heap.setIfInBounds (β.blk id) o } (some (β.blk id)) := fun o => ⟨⟨rfl, rfl, rfl, by simp, fun g _ hne => setMap_old w _ o g (fun e => hne (by rw [e]))⟩, Nat.le_refl _⟩
      rcases run_find_KV (w := w) hkv es.toList hall with ⟨hfind, hno⟩ | ⟨j, e, hfind, he, hek⟩
      · have hnk : ∀ i, i < n → key i ≠ kx := fun i hi hki => by
          have hi2 : i < es.size := by omega
          exact hno _ (by simp) ((keyFit_eq (hf i hi) hk (hc i hi hi2).1 hv0).1 hki)
        rcases hdel with ⟨i, hi, hki, _⟩ | ⟨_, rfl, hsame⟩
        · exact absurd hki (hnk i hi)
        · refine ⟨.tuple #[], { w with heap := w.heap.setIfInBounds (β.blk id) (.map es clock) }, ?_, _, β, hfin, rfl, _, hlk, hgrow _, rfl, ⟨es, setMap_new w _ _ hlt, hn, ho, ?_⟩, .pure _ _ (.u _)⟩
          · simp [Builtin.delete_, hts, run_underlying hut, Go.MapKept.run_getObj_map hh, run_check_KV es.isEmpty hkv, hfind, Go.MapKept.run_setObj_map _ hh]
          · intro i hi h2
            obtain ⟨e1, e2, e3⟩ := hsame i hi
            rw [e1, e2, e3]
            obtain ⟨h3, h4, h5⟩ := hc i hi h2
            exact ⟨h3.stable (fun _ _ hn => hn) (hold _) (by simp), h4.stable (fun _ _ hn => hn) (hold _) (by simp), h5⟩
      · have hj2 : j < es.size := by simpa using (List.getElem?_eq_some_iff.1 he).1
        have hje : es[j] = e := by
          have := (List.getElem?_eq_some_iff.1 he).2
          simpa using this
        have hjn : j < n := by omega
        have hkj : key j = kx := (keyFit_eq (hf j hjn) hk (hc j hjn hj2).1 hv0).2 (by rw [hje]; exact hek)
        rcases hdel with ⟨i, hi, hki, hnn, hsame⟩ | ⟨hno, _⟩
        · have hij : i = j := by
            have hi2 : i < es.size := by omega
            have e1 := (keyFit_eq (hf i hi) hk (hc i hi hi2).1 hv0).1 hki
            have e2 : es[j].key = v := by rw [hje]; exact hek
            rcases Nat.lt_trichotomy i j with h | h | h
            · exact absurd (e1.trans e2.symm) (ho.one i j h hi2 hj2)
            · exact h
            · exact absurd (e2.trans e1.symm) (ho.one j i h hj2 hi2)
          subst hij
          have hsz : (es.eraseIdxIfInBounds i).size = n' := by
            rw [Array.eraseIdxIfInBounds, dif_pos hj2]
            simp
            omega
          have hget : ∀ (q : Nat) (h : q < (es.eraseIdxIfInBounds i).size), ∃ h' : (if q < i then q else q + 1) < es.size, (es.eraseIdxIfInBounds i)[q] = es[if q < i then q else q + 1] := by
            intro q hq
            have hq' : q < n' := by omega
            have h' : (if q < i then q else q + 1) < es.size := by split <;> omega
            refine ⟨h', ?_⟩
            simp only [Array.eraseIdxIfInBounds, dif_pos hj2, Array.getElem_eraseIdx]
            split <;> rfl
          refine ⟨.tuple #[], { w with heap := w.heap.setIfInBounds (β.blk id) (.map (es.eraseIdxIfInBounds i) clock) }, ?_, _, β, hfin, rfl, _, hlk, hgrow _, rfl, ⟨_, setMap_new w _ _ hlt, hsz, ?_, ?_⟩, .pure _ _ (.u _)⟩
          · simp [Builtin.delete_, hts, run_underlying hut, Go.MapKept.run_getObj_map hh, run_check_KV es.isEmpty hkv, hfind, Go.MapKept.run_setObj_map _ hh]
          · refine ⟨fun q r hqr h1 h2 => ?_, fun q h1 => ?_, fun q r hqr h1 h2 => ?_⟩
            · obtain ⟨h3, e3⟩ := hget q h1
              obtain ⟨h4, e4⟩ := hget r h2
              rw [e3, e4]
              exact ho.asc _ _ (by split <;> split <;> omega) h3 h4
            · obtain ⟨h3, e3⟩ := hget q h1
              rw [e3]
              exact ho.old _ h3
            · obtain ⟨h3, e3⟩ := hget q h1
              obtain ⟨h4, e4⟩ := hget r h2
              rw [e3, e4]
              exact ho.one _ _ (by split <;> split <;> omega) h3 h4
          · intro q hq h2
            obtain ⟨h3, e3⟩ := hget q h2
            obtain ⟨e1, e2, e4⟩ := hsame q hq
            rw [e3, e1, e2, e4]
            obtain ⟨h5, h6, h7⟩ := hc _ (by omega) h3
            exact ⟨h5.stable (fun _ _ hn => hn) (hold _) (by simp), h6.stable (fun _ _ hn => hn) (hold _) (by simp), h7⟩
        · exact absurd hkj (hno j hjn)
    · exact h.elim
  · exact h.elim

/-! ### going over a map -/
def rangeA (T : List (Nat × TI)) (lk : Nat → Option AO) (nid t : Nat) (a : AV) (k : Eff → Prop) : Prop :=
  match tget t T with
  | some ti => (match isMapD ti.desc, a with
    | true, .rm n key val => k (.ext [.ir n key val (fun _ => false) none] (.p nid 0))
    | true, .mo id => (match lk id with
      | some (.mp _ _ _ _ clock) => k (.ext [.it id clock []] (.p nid 0))
      | _ => False)
    | _, _ => False)
  | none => False
theorem rangeA_sound (E : Env β nid F w lk) {T : List (Nat × TI)} (hT : TabOk P T) {t : Nat} {a : AV} {v : Value} (hv : Rep β nid F w a v) (h : rangeA T lk nid t a k) :
    ∃ x w', (Instr.range t v).run P w = .ok x w' ∧ PostK β nid F lk w k x w' := by
  unfold rangeA at h
  split at h
  · rename_i ti h1
    obtain ⟨hut, _⟩ := hT.get h1
    split at h
    · rename_i n key val hm
      cases hd : ti.desc <;> simp [isMapD, hd] at hm
      rw [hd] at hut
      have hv0 := hv.rm_inv
      have hp : ∀ ob, (β.blkAt nid w.heap.size).blk nid = w.heap.size → Rep (β.blkAt nid w.heap.size) (nid + 1) (FX F (β.blkAt nid w.heap.size) nid [.ir n key val (fun _ => false) none]) (w.alloc ob) (.p nid 0) (.pointer (some ⟨w.heap.size, 0, none⟩)) := fun ob hb => by
        have := Rep.p (β := β.blkAt nid w.heap.size) (n := nid + 1) (F := FX F (β.blkAt nid w.heap.size) nid [.ir n key val (fun _ => false) none]) (w := w.alloc ob) nid 0 (by omega)
        rw [hb] at this
        exact this
      cases hv0 with
      | rmnil =>
        refine ⟨.pointer (some ⟨w.heap.size, 0, none⟩), w.alloc (.mapIter none 0 #[] 0), by simp [Instr.range, run_underlying hut], _, β.blkAt nid w.heap.size, h, .blk _ _ _ _ (fun _ => rfl) (fun hF => ?_) (hp _)⟩
        exact ⟨none, #[], 0, #[], by rw [show (β.blkAt nid w.heap.size).blk nid = w.heap.size by simp [Bd.blkAt]]; exact heap_alloc_new w _, rfl, mapOk_empty, fun _ => rfl, fun b hb => (by cases hb), fun i hi => (by omega), fun i hi => (by cases hi)⟩
      | rm _ _ _ g es clock hFg hg hn ho hk hvv =>
        have hlt := (Array.getElem?_eq_some_iff.1 hg).1
        refine ⟨.pointer (some ⟨w.heap.size, 0, none⟩), w.alloc (.mapIter (some g) clock #[] clock), by simp [Instr.range, run_underlying hut, Go.MapKept.run_getObj_map hg], _, β.blkAt nid w.heap.size, h, .blk _ _ _ _ (fun _ => rfl) (fun hF => ?_) (hp _)⟩
        have hw : ∀ g, g < w.heap.size → ¬ F g → (w.alloc (.mapIter (some g) clock #[] clock)).heap[g]? = w.heap[g]? := fun g hg _ => Below.heap_alloc w _ g hg
        have hw2 : ∀ g2, g2 < w.heap.size → ¬ F g2 → (w.alloc (.mapIter (some g) clock #[] clock)).heap[g2]? = w.heap[g2]? := fun g2 hg _ => Below.heap_alloc w _ g2 hg
        refine ⟨some g, es, clock, #[], by rw [show (β.blkAt nid w.heap.size).blk nid = w.heap.size by simp [Bd.blkAt]]; exact heap_alloc_new w _, hn, ho, fun h => (by cases h), fun b hb => ?_, fun i h1 h2 => ?_, fun i hi => (by cases hi)⟩
        · obtain rfl := Option.some.inj hb
          exact ⟨hF _ hlt hFg, by rw [hw2 _ hlt hFg]; exact hg⟩
        · exact ⟨(hk i h1 h2).stable hF hw2 (by simp), (hvv i h1 h2).stable hF hw2 (by simp), by simp⟩
    · rename_i id hm
      cases hd : ti.desc <;> simp [isMapD, hd] at hm
      rw [hd] at hut
      split at h
      · rename_i n key val born clock hlk
        obtain ⟨hid, rfl⟩ := hv.mo_inv
        obtain ⟨_, es, hh, hn, ho, hc⟩ := E.obj id _ hlk
        refine ⟨.pointer (some ⟨w.heap.size, 0, none⟩), w.alloc (.mapIter (some (β.blk id)) clock #[] clock), by simp [Instr.range, run_underlying hut, Go.MapKept.run_getObj_map hh], _, β.blkAt nid w.heap.size, h, .blk _ _ _ _ (fun _ => rfl) (fun hF => ?_) (fun hb => ?_)⟩
        · refine ⟨by omega, ?_⟩
          rw [show (β.blkAt nid w.heap.size).blk nid = w.heap.size by simp [Bd.blkAt], show (β.blkAt nid w.heap.size).blk id = β.blk id by simp [Bd.blkAt, Nat.ne_of_lt hid]]
          exact heap_alloc_new w _
        · have := Rep.p (β := β.blkAt nid w.heap.size) (n := nid + 1) (F := FX F (β.blkAt nid w.heap.size) nid [.it id clock []]) (w := w.alloc (.mapIter (some (β.blk id)) clock #[] clock)) nid 0 (by omega)
          rw [hb] at this
          exact this
      · exact h.elim
    · exact h.elim
  · exact h.elim

/-- The entry that the iterator has come to. -/
def entryA (gc : Option Prop) (lk : Nat → Option AO) (a : AV) (k : Eff → Prop) : Prop :=
  match a with
  | .p id 0 => (match lk id with
    | some (.ir _ key val _ (some i)) => k (.ext [] (.tup [key i, val i]))
    | some (.it mid since seen) => (match lk mid with
      | some (.mp n key val born clock) => ∃ i, ob gc (i < n ∧ seen.getLast? = some (born i) ∧ clock = since) (k (.ext [] (.tup [key i, val i])))
      | _ => False)
    | _ => False)
  | _ => False
theorem find_born {es : Array MapEntry} {clock : Nat} (ho : MapOk es clock) {i : Nat} (hi : i < es.size) : es.find? (fun x => x.born == es[i].born) = some es[i] := by
  rw [Array.find?_eq_some_iff_getElem]
  refine ⟨by simp, i, hi, rfl, fun j hj => ?_⟩
  have := ho.asc j i hj (by omega) hi
  simp
  omega
theorem entryA_sound {gc : Option Prop} (hgc : ∀ c, gc = some c → c) (E : Env β nid F w lk) {a : AV} {v : Value} (hv : Rep β nid F w a v) (h : entryA gc lk a k) :
    ∃ x, (Instr.entry v).run P w = .ok x w ∧ ∃ r, k (.ext [] r) ∧ Rep β nid F w r x := by
  have two : ∀ {x y : AV} {u z : Value}, Rep0 F w x u → Rep0 F w y z → Rep β nid F w (.tup [x, y]) (.tuple #[u, z]) := by
    intro x y u z h1 h2
    refine .pure _ _ (.tup [x, y] [u, z] rfl fun j h3 h4 => ?_)
    match j, h3 with
    | 0, _ => exact h1
    | 1, _ => exact h2
  unfold entryA at h
  split at h
  · rename_i id
    obtain ⟨hid, rfl⟩ := hv.p_inv
    split at h
    · rename_i n key val seen i hlk
      obtain ⟨_, g, es, clock, sn, hh, hm, ho, hg0, hg, hc, hlast⟩ := E.obj id _ hlk
      obtain ⟨hi, hb⟩ := hlast i rfl
      cases g with
      | none => have := hg0 rfl; omega
      | some b =>
        obtain ⟨_, hmap⟩ := hg b rfl
        obtain ⟨h1, h2, _⟩ := hc i (by omega) hi
        refine ⟨_, ?_, _, h, two h1 h2⟩
        simp [Instr.entry, getObj, Sem.run, hh, hmap, hb, find_born ho hi]
    · rename_i mid since seen hlk
      split at h
      · rename_i n key val born clock hlk2
        obtain ⟨i, h⟩ := h
        obtain ⟨⟨hi, hs, hcl⟩, hfin⟩ := ob_iff h hgc
        obtain ⟨_, _, hh⟩ := E.obj id _ hlk
        obtain ⟨_, es, hmap, hn, ho, hc⟩ := E.obj mid _ hlk2
        have hi2 : i < es.size := by omega
        obtain ⟨h1, h2, h3⟩ := hc i hi hi2
        have hb : seen.toArray.back? = some es[i].born := by simp [hs, h3]
        refine ⟨_, ?_, _, hfin, two h1 h2⟩
        simp [Instr.entry, getObj, Sem.run, hh, hmap, hb, find_born ho hi2, hcl]
      · exact h.elim
    · exact h.elim
  · exact h.elim

/-! ### clear -/
def clearA (T : List (Nat × TI)) (lk : Nat → Option AO) (t : Nat) (a : AV) (k : Eff → Prop) : Prop :=
  match tget t T with
  | some ti => (match sliceD ti.desc with
    | some e => (match tget e T with
      | some te => (match te.size, Nat.beq te.zero.cells.size te.size, allOne te.zero.cells.toList, a with
        | _ + 1, true, true, .sv id sz lo m => (match lk id with
          | some (.row e' sz' n get) => (match Nat.beq e' e, Nat.beq sz te.size, Nat.beq sz' te.size with
            | true, true, true => k (.set id (.row e te.size n fun q => if lo ≤ q ∧ q < lo + m then zeroL te.zero else get q) (.tup []))
            | _, _, _ => False)
          | _ => False)
        | _, _, _, _ => False)
      | none => False)
    | none => False)
  | none => False
theorem clearA_sound (E : Env β nid F w lk) {T : List (Nat × TI)} (hT : TabOk P T) {t : Nat} {a : AV} {v : Value} (ts : Array TypeId) (ty : TypeId) (hts : ts[0]? = some t) (hv : Rep β nid F w a v)
    (h : clearA T lk t a k) : ∃ x w', (Builtin.clear_ ts ty #[v]).run P w = .ok x w' ∧ PostK β nid F lk w k x w' := by
  unfold clearA at h
  split at h
  · rename_i ti h1
    split at h
    · rename_i e h2
      split at h
      · rename_i te h3
        split at h
        · rename_i sz1 id sz lo m hsz1 hzs hone
          split at h
          · rename_i e' sz' n get hlk
            split at h
            · rename_i he hsz hsz'
              have he : e' = e := by simpa using he
              have hsz : sz = te.size := by simpa using hsz
              have hsz' : sz' = te.size := by simpa using hsz'
              subst he
              subst hsz
              have hzs : te.zero.cells.size = te.size := by simpa using hzs
              obtain ⟨hut, _⟩ := hT.get h1
              obtain ⟨_, _, i, hi, hs, _, hz⟩ := hT.get h3
              cases hd : ti.desc <;> simp [sliceD, hd] at h2
              rename_i el
              subst h2
              rw [hd] at hut
              obtain ⟨hid, hsv⟩ := hv.sv_inv
              obtain ⟨_, xs, hx, hlen, hc⟩ := E.obj id _ hlk
              rw [hsz'] at hx hlen hc
              have htup : Rep β nid F w (.tup []) (.tuple #[]) := .pure _ _ (.tup [] [] rfl fun j h1 => by simp at h1)
              have hempty : m = 0 → (Builtin.clear_ ts ty #[v]).run P w = .ok (.tuple #[]) w → ∃ x w', (Builtin.clear_ ts ty #[v]).run P w = .ok x w' ∧ PostK β nid F lk w k x w' := by
                intro hm hrun
                have hsame : (fun q => if lo ≤ q ∧ q < lo + m then zeroL te.zero else get q) = get := by
                  funext q
                  rw [if_neg (by omega)]
                rw [hsame] at h
                refine ⟨_, w, hrun, _, β, h, rfl, _, hlk, ⟨⟨rfl, rfl, rfl, Nat.le_refl _, fun _ _ _ => rfl⟩, Nat.le_refl _⟩, ?_, ⟨xs, hx, hlen, hc⟩, htup⟩
                rfl
              rcases hsv with ⟨rfl, hn0, _⟩ | ⟨a, rfl, hn0, _⟩ | ⟨g, o, m', c, hb, hlo, hlm, rfl⟩
              · exact hempty hn0 (by simp [Builtin.clear_, hts, run_underlying hut])
              · exact hempty hn0 (by simp [Builtin.clear_, hts, run_underlying hut])
              · rcases hx.2 with ⟨h1, _⟩ | ⟨_, h1, _⟩ | ⟨g', o', cap, cur, hval, hh, hnc, hcm, hcs, htake⟩
                · rw [hb] at h1; cases h1
                · rw [hb] at h1
                  simp only [Value.slice.injEq] at h1
                  omega
                rw [hb] at hval
                simp only [Value.slice.injEq, Option.some.injEq, Addr.mk.injEq] at hval
                obtain ⟨⟨rfl, rfl, _⟩, rfl, rfl⟩ := hval
                by_cases hm0 : m = 0
                · subst hm0
                  exact hempty rfl (by simp [Builtin.clear_, hts, run_underlying hut])
                · have hxl := hx.1
                  have hmul : (lo + m) * te.size ≤ m' * te.size := Nat.mul_le_mul_right _ hlm
                  have hcapsz : m' * te.size ≤ (cap + 1) * te.size := Nat.mul_le_mul_right _ hnc
                  rw [Nat.add_mul] at hmul
                  have hzl : (Builtin.zeroCells te.zero.cells m).toList.length = m * te.size := by simp [Builtin.zeroCells, hzs]
                  have hzg : ∀ (q : Nat) (h : q < (Builtin.zeroCells te.zero.cells m).toList.length), ∃ h' : q % te.size < te.zero.cells.size, (Builtin.zeroCells te.zero.cells m).toList[q] = te.zero.cells[q % te.size] := by
                    intro q hq
                    have hlt : q % te.size < te.zero.cells.size := by rw [hzs]; exact Nat.mod_lt _ (by omega)
                    refine ⟨hlt, ?_⟩
                    simp only [Builtin.zeroCells, hzs, Array.getElem_toList, Array.getElem_map, Array.getElem_range]
                    exact getElem!_pos (c := te.zero.cells) (i := q % te.size) hlt
                  have hrun0 : ∀ zs, (Builtin.zeroCells te.zero.cells m).toList = zs → ∀ w', (storeCells ⟨g, o + lo * te.size, none⟩ zs).run P w = .ok () w' → (Builtin.clear_ ts ty #[.slice (some ⟨g, o + lo * te.size, none⟩) m (cap + 1 - lo)]).run P w = .ok (.tuple #[]) w' := by
                    rintro zs rfl w' hst
                    have hzero : (zeroValue el).run P w = .ok te.zero w := by simp [zeroValue, typeInfo, hi, hz]
                    obtain ⟨m2, rfl⟩ : ∃ m2, m = m2 + 1 := ⟨m - 1, by omega⟩
                    simp [Builtin.clear_, hts, run_underlying hut, hzero, hst]
                  generalize (Builtin.zeroCells te.zero.cells m).toList = zs at hzl hzg hrun0
                  have hz1 : ∀ u ∈ zs, u.oneCell' = true := by
                    intro u hu
                    obtain ⟨q, hq, rfl⟩ := List.getElem_of_mem hu
                    obtain ⟨h', e⟩ := hzg q hq
                    rw [e]
                    exact allOne_get hone _ (by simp)
                  have hst := run_storeCells_at P g (o + lo * te.size) el zs 0 cur w hh (by simp; omega) hz1
                  simp only [Nat.add_zero] at hst
                  have hrun := hrun0 zs rfl _ hst
                  have hov := RowAt.over (w := w) hh hnc hcm hcs htake hxl (lo * te.size) zs (by omega)
                  have hF := E.own id _ g hlk (by simp [ownB, hb, blkOf])
                  have hold : ∀ g2, g2 < w.heap.size → ¬ F g2 → (w.setRow g (cur.toList.take (o + lo * te.size) ++ zs ++ cur.toList.drop (o + lo * te.size + zs.length)).toArray).heap[g2]? = w.heap[g2]? :=
                    fun g2 _ hn => setRow_other w _ g2 _ (fun e => hn (by rw [e]; exact hF))
                  have hbk : ∀ e1 s1, wrB β id (.row e1 s1 m' get) = some g := by simp [wrB, hb, blkOf]
                  have hzL := zeroL_spec (F := F) (w := w) te.zero
                  refine ⟨_, _, hrun, _, β, h, rfl, _, hlk, by rw [hbk]; exact grownBy_setRow _ _ _, rfl, ⟨_, by rw [hb]; exact hov, ?_, ?_⟩, .pure _ _ (.tup [] [] rfl fun j h1 => by simp at h1)⟩
                  · intro q hq
                    dsimp only
                    split
                    · rw [hzL.1, hzs]
                    · exact hlen q hq
                  · intro q j hq h1 h2
                    have hqsz : q * te.size + te.size ≤ m' * te.size := by rw [← Nat.succ_mul]; exact Nat.mul_le_mul_right _ hq
                    rw [overV_get (by omega) _ h2]
                    by_cases hin : lo ≤ q ∧ q < lo + m
                    · simp only [if_pos hin] at h1 ⊢
                      have hj : j < te.size := by rw [hzL.1, hzs] at h1; exact h1
                      have e2 : (q - lo) * te.size = q * te.size - lo * te.size := Nat.sub_mul _ _ _
                      have e3 : lo * te.size ≤ q * te.size := Nat.mul_le_mul_right _ hin.1
                      have e4 : q * te.size + te.size ≤ lo * te.size + m * te.size := by rw [← Nat.succ_mul, ← Nat.add_mul]; exact Nat.mul_le_mul_right _ hin.2
                      rw [dif_pos (by omega)]
                      obtain ⟨h', e5⟩ := hzg (q * te.size + j - lo * te.size) (by omega)
                      have e6 : (q * te.size + j - lo * te.size) % te.size = j := by
                        have : q * te.size + j - lo * te.size = (q - lo) * te.size + j := by omega
                        rw [this, Nat.mul_comm, Nat.mul_add_mod]
                        exact Nat.mod_eq_of_lt hj
                      rw [e5]
                      simp only [e6]
                      refine ⟨?_, allOne_get hone _ (by simp)⟩
                      exact (hzL.2 j h1 (by omega)).stable (fun _ _ hn => hn) hold (by simp)
                    · simp only [if_neg hin] at h1 ⊢
                      have hj : j < te.size := by rw [hlen q hq] at h1; exact h1
                      have hne : ¬ (lo * te.size ≤ q * te.size + j ∧ q * te.size + j < lo * te.size + zs.length) := by
                        rintro ⟨h3, h4⟩
                        apply hin
                        have e6 : lo * te.size < (q + 1) * te.size := by rw [Nat.succ_mul]; omega
                        have e7 : q * te.size < (lo + m) * te.size := by rw [Nat.add_mul]; omega
                        have := Nat.lt_of_mul_lt_mul_right e6
                        have := Nat.lt_of_mul_lt_mul_right e7
                        omega
                      rw [dif_neg hne]
                      have := hc q j hq h1 (by omega)
                      exact ⟨this.1.stable (fun _ _ hn => hn) hold (by simp), this.2⟩
            · exact h.elim
          · exact h.elim
        · exact h.elim
      · exact h.elim
    · exact h.elim
  · exact h.elim
end
end Go.Eng
end

section
/-
  The engine, ninth part: calls, and one operation.
-/
namespace Go.Eng
open Go.RowKit
section
variable {P : Program} {β : Bd} {nid : Nat} {F : Nat → Prop} {w : World} {lk : Nat → Option AO} {k : Eff → Prop}

/-! ### calls -/
def AO.ren (ρ : Nat → Nat) : AO → AO
  | .cells e cs => .cells e (AV.rens ρ cs)
  | .row e sz n get => .row e sz n get
  | .mp n key val born clock => .mp n key val born clock
  | .it mid since seen => .it (ρ mid) since seen
  | .ir n key val seen last => .ir n key val seen last
  | .mr n key kid born clock aux none => .mr n key kid born clock (ρ aux) none
  | .mr n key kid born clock aux (some (i, h)) => .mr n key kid born clock (ρ aux) (some (i, ρ h))
  | .dead => .dead
theorem AO.ren_mr (ρ : Nat → Nat) (n : Nat) (key : Nat → AV) (kid : Nat → KD) (born : Nat → Nat) (clock aux : Nat) (hole : Option (Nat × Nat)) :
    ∃ hole', (AO.mr n key kid born clock aux hole).ren ρ = .mr n key kid born clock (ρ aux) hole' ∧ (∀ i, noHole hole' i ↔ noHole hole i) ∧ (∀ i h, hole' = some (i, h) → ∃ h0, hole = some (i, h0) ∧ h = ρ h0) := by
  rcases hole with _ | ⟨i, h⟩
  · exact ⟨none, rfl, fun _ => Iff.rfl, fun _ _ e => by cases e⟩
  · refine ⟨some (i, ρ h), rfl, fun j => ?_, fun j h' e => ?_⟩
    · unfold noHole
      constructor
      · intro hh h1 e
        rw [Option.some.injEq, Prod.mk.injEq] at e
        exact hh (ρ h) (by rw [e.1])
      · intro hh h1 e
        rw [Option.some.injEq, Prod.mk.injEq] at e
        exact hh h (by rw [e.1])
    · rw [Option.some.injEq, Prod.mk.injEq] at e
      exact ⟨h, by rw [e.1], e.2.symm⟩
theorem AO.ren_mr' (ρ : Nat → Nat) (n : Nat) (key : Nat → AV) (kid : Nat → KD) (born : Nat → Nat) (clock aux : Nat) (hole : Option (Nat × Nat)) :
    ∃ hole', (AO.mr n key kid born clock aux hole).ren ρ = .mr n key kid born clock (ρ aux) hole' ∧ (∀ i, noHole hole' i ↔ noHole hole i) ∧ (∀ i h, hole' = some (i, h) → ∃ h0, hole = some (i, h0) ∧ h = ρ h0) ∧ ∀ i h, hole = some (i, h) → hole' = some (i, ρ h) := by
  obtain ⟨hole', e1, e2, e3⟩ := AO.ren_mr ρ n key kid born clock aux hole
  refine ⟨hole', e1, e2, e3, fun i h e => ?_⟩
  subst e
  cases e1
  rfl
def AO.rens (ρ : Nat → Nat) : List AO → List AO
  | [] => []
  | o :: r => AO.ren ρ o :: AO.rens ρ r
theorem AO.length_rens (ρ : Nat → Nat) : ∀ l : List AO, (AO.rens ρ l).length = l.length
  | [] => rfl
  | o :: r => by simp [AO.rens, AO.length_rens ρ r]
theorem AO.rens_get? (ρ : Nat → Nat) : ∀ (l : List AO) (j : Nat) (o : AO), (AO.rens ρ l)[j]? = some o → ∃ o', l[j]? = some o' ∧ o = AO.ren ρ o'
  | [], j, o, h => by simp [AO.rens] at h
  | c :: r, 0, o, h => by
    simp only [AO.rens, List.getElem?_cons_zero, Option.some.injEq] at h
    exact ⟨c, rfl, h.symm⟩
  | c :: r, j + 1, o, h => by
    simp only [AO.rens, List.getElem?_cons_succ] at h ⊢
    exact AO.rens_get? ρ r j o h

theorem ObjOk.unren {β β' : Bd} {n n' : Nat} {F F' : Nat → Prop} {w : World} {j j' : Nat} {o : AO} (h : ObjOk β n F w j o) (ρ : Nat → Nat)
    (hb : ∀ id, id < n → ρ id < n' ∧ β'.blk (ρ id) = β.blk id ∧ β'.val (ρ id) = β.val id) (hj : β'.blk j' = β.blk j ∧ β'.val j' = β.val j) (hF : ∀ g, ¬ F g → ¬ F' g) :
    ObjOk β' n' F' w j' (o.ren ρ) := by
  cases o with
  | cells e cs =>
    obtain ⟨vs, hh, hl, hc⟩ := h
    refine ⟨vs, by rw [hj.1]; exact hh, (AV.length_rens ρ cs).trans hl, fun i h1 h2 => ?_⟩
    have h1' : i < cs.length := by rw [AV.length_rens] at h1; exact h1
    rw [AV.rens_get ρ cs i h1 h1']
    exact ⟨((hc i h1' h2).1.unren ρ hb).stable (fun g _ hn => hF g hn) (fun _ _ _ => rfl) (Nat.le_refl _), (hc i h1' h2).2⟩
  | row e sz m get =>
    obtain ⟨xs, hx, hlen, hc⟩ := h
    exact ⟨xs, by rw [hj.2]; exact hx, hlen, fun k i hk h1 h2 => ⟨(hc k i hk h1 h2).1.stable (fun g _ hn => hF g hn) (fun _ _ _ => rfl) (Nat.le_refl _), (hc k i hk h1 h2).2⟩⟩
  | mp m key val born clock =>
    obtain ⟨es, hh, hm, ho, hc⟩ := h
    exact ⟨es, by rw [hj.1]; exact hh, hm, ho, fun i h1 h2 => ⟨(hc i h1 h2).1.stable (fun g _ hn => hF g hn) (fun _ _ _ => rfl) (Nat.le_refl _), (hc i h1 h2).2.1.stable (fun g _ hn => hF g hn) (fun _ _ _ => rfl) (Nat.le_refl _), (hc i h1 h2).2.2⟩⟩
  | it mid since seen =>
    obtain ⟨hm, hh⟩ := h
    obtain ⟨h1, h2, _⟩ := hb mid hm
    exact ⟨h1, by rw [hj.1, h2]; exact hh⟩
  | ir m key val seen last =>
    obtain ⟨g, es, clock, sn, hh, hm, ho, hg0, hg, hc, hlast⟩ := h
    exact ⟨g, es, clock, sn, by rw [hj.1]; exact hh, hm, ho, hg0, fun b hb' => ⟨hF b (hg b hb').1, (hg b hb').2⟩,
      fun i h1 h2 => ⟨(hc i h1 h2).1.stable (fun g _ hn => hF g hn) (fun _ _ _ => rfl) (Nat.le_refl _), (hc i h1 h2).2.1.stable (fun g _ hn => hF g hn) (fun _ _ _ => rfl) (Nat.le_refl _), (hc i h1 h2).2.2⟩, hlast⟩
  | mr m key kid born clock aux hole =>
    obtain ⟨ha, hho, es, hh, hm, ho, hkey, hk, hd, hne, hr⟩ := h
    obtain ⟨hole', e1, e2, e3⟩ := AO.ren_mr ρ m key kid born clock aux hole
    obtain ⟨a1, a2, a3⟩ := hb aux ha
    rw [e1]
    refine ⟨a1, fun i h e => ?_, es, by rw [hj.1]; exact hh, hm, ho, fun i hi h2 => ⟨(hkey i hi h2).1.stable (fun g _ hn => hF g hn) (fun _ _ _ => rfl) (Nat.le_refl _), (hkey i hi h2).2⟩, fun i hi h2 hno => ?_, ?_, ?_, fun i h e h2 => ?_⟩
    · obtain ⟨h0, e4, rfl⟩ := e3 i h e
      exact ⟨(hb h0 (hho i h0 e4).1).1, (hho i h0 e4).2⟩
    · obtain ⟨h3, h4⟩ := hk i hi h2 ((e2 i).1 hno)
      rw [a3]
      exact ⟨h3, h4.stable (fun g _ hn => hF g hn) (fun _ _ _ => rfl) (Nat.le_refl _) fun _ _ => rfl⟩
    · rw [a3]
      exact fun i j g h1 h2 h3 h4 => hd i j g h1 h2 ((e2 i).1 h3) ((e2 j).1 h4)
    · rw [a3, hj.1]
      exact fun i j h1 h2 h3 => hne i j h1 h2 ((e2 i).1 h3)
    · obtain ⟨h0, e4, rfl⟩ := e3 i h e
      refine ⟨?_, (hr i h0 e4 h2).2⟩
      rw [(hr i h0 e4 h2).1]
      have := hb h0 (hho i h0 e4).1
      cases kid i <;> simp [kidRef, this.2.1, this.2.2]
  | dead => trivial
theorem ownB_ren {β β' : Bd} {j j' : Nat} {o : AO} (ρ : Nat → Nat) (hj : β'.blk j' = β.blk j ∧ β'.val j' = β.val j) (ha : ∀ a, o.aux = some a → β'.val (ρ a) = β.val a) : ownB β' j' (o.ren ρ) = ownB β j o := by
  cases o with
  | mr n key kid born clock aux hole =>
    obtain ⟨hole', e1, e2, _⟩ := AO.ren_mr ρ n key kid born clock aux hole
    rw [e1]
    simp only [ownB, hj.1, ha aux rfl, e2]
  | _ => simp only [AO.ren, ownB, hj.1, hj.2]

def Bd.join (β : Bd) (nid : Nat) (γ : Bd) : Bd := ⟨fun id => if id < nid then β.blk id else γ.blk (id - nid), fun id => if id < nid then β.val id else γ.val (id - nid)⟩
theorem agree_join (β : Bd) (nid : Nat) (γ : Bd) : agree nid β (β.join nid γ) := fun id h => by simp [Bd.join, h]
theorem join_new (β : Bd) (nid : Nat) (γ : Bd) (j : Nat) : (β.join nid γ).blk (j + nid) = γ.blk j ∧ (β.join nid γ).val (j + nid) = γ.val j := by
  have : ¬ (j + nid < nid) := by omega
  simp [Bd.join, this]

/-- What a call has returned. -/
theorem EffPost.returned (hold : ∀ g, F g → g < w.heap.size) {w' : World} {γ : Bd} {os : List AO} {r : AV} {v : Value} (hb : Below w.heap.size w w')
    (hn : News γ os.length (FX (fun g => g < w.heap.size) γ 0 os) w.heap.size w' 0 os) (hr : Rep γ os.length (FX (fun g => g < w.heap.size) γ 0 os) w' r v) :
    EffPost β (β.join nid γ) nid F lk w w' v (.ext (AO.rens (· + nid) os) (r.ren (· + nid))) := by
  have hbj : ∀ id, id < os.length → id + nid < nid + (AO.rens (· + nid) os).length ∧ (β.join nid γ).blk (id + nid) = γ.blk id ∧ (β.join nid γ).val (id + nid) = γ.val id := fun id h =>
    ⟨by rw [AO.length_rens]; omega, join_new β nid γ id⟩
  have hj' : ∀ j, (β.join nid γ).blk (nid + j) = γ.blk j ∧ (β.join nid γ).val (nid + j) = γ.val j := fun j => by rw [Nat.add_comm]; exact join_new β nid γ j
  have hF : ∀ g, ¬ FX (fun g => g < w.heap.size) γ 0 os g → ¬ FX F (β.join nid γ) nid (AO.rens (· + nid) os) g := by
    rintro g hn' (hf | ⟨j, o, hj, ho⟩)
    · exact hn' (.inl (hold g hf))
    · obtain ⟨o', ho', rfl⟩ := AO.rens_get? _ os j o hj
      rw [ownB_ren _ (hj' j) (fun a _ => (join_new β nid γ a).2)] at ho
      exact hn' (.inr ⟨j, o', ho', by rw [Nat.zero_add]; exact ho⟩)
  refine ⟨hb, agree_join _ _ _, ⟨?_, ?_, ?_⟩, ?_⟩
  · intro j o hj
    obtain ⟨o', ho', rfl⟩ := AO.rens_get? _ os j o hj
    have := hn.1 j o' ho'
    rw [Nat.zero_add] at this
    exact this.unren _ hbj (hj' j) hF
  · intro j o g hj hg
    obtain ⟨o', ho', rfl⟩ := AO.rens_get? _ os j o hj
    rw [ownB_ren _ (hj' j) (fun a _ => (join_new β nid γ a).2)] at hg
    exact hn.2.1 j o' g ho' (by rw [Nat.zero_add]; exact hg)
  · intro j j' o o' g h1 h2 hg1 hg2
    obtain ⟨p, hp, rfl⟩ := AO.rens_get? _ os j o h1
    obtain ⟨p', hp', rfl⟩ := AO.rens_get? _ os j' o' h2
    rw [ownB_ren _ (hj' j) (fun a _ => (join_new β nid γ a).2)] at hg1
    rw [ownB_ren _ (hj' j') (fun a _ => (join_new β nid γ a).2)] at hg2
    exact hn.2.2 j j' p p' g hp hp' (by rw [Nat.zero_add]; exact hg1) (by rw [Nat.zero_add]; exact hg2)
  · exact (hr.unren _ hbj).stable (fun g _ hn' => hF g hn') (fun _ _ _ => rfl) (Nat.le_refl _)

def callA (P : Program) (gc : Option Prop) (lk : Nat → Option AO) (nid : Nat) (f : AV) (args : List AV) (k : Eff → Prop) : Prop :=
  match f with
  | .fn fid caps =>
    (viewsK lk 60 (appL args caps) fun vs => ∃ os r, ob gc (Ctr P fid vs os r) (k (.ext (AO.rens (· + nid) os) (r.ren (· + nid))))) ∨
    (match AV.lts 0 (appL args caps) with
      | true => ∃ r, ob gc (CtrA P fid (appL args caps) r) (k (.ext [] r))
      | false => False)
  | _ => False

theorem callFunc_run {f : FuncId} (hc : Callable P f) (args : Array Value) : (callFunc f args).run P w = .ok (.enter f args) w := by
  obtain ⟨fn, hf, hn, hb⟩ := hc
  cases hbody : fn.body with
  | none => simp [hbody] at hb
  | some c =>
    simp at hn
    simp [callFunc, hf, hn, hbody]

theorem callA_sound {gc : Option Prop} (hgc : ∀ c, gc = some c → c) (E : Env β nid F w lk) {f : AV} {args : List AV} {u : Value} {vs : List Value} (hu : Rep β nid F w f u) (hl : args.length = vs.length)
    (hr : ∀ (j : Nat) (h1 : j < args.length) (h2 : j < vs.length), Rep β nid F w args[j] vs[j]) (h : callA P gc lk nid f args k) :
    Out P (PostK β nid F lk w k) ((do let d ← Deferred.ofValue u vs.toArray; invoke d.target d.args : Sem Next).run P w) := by
  unfold callA at h
  split at h
  · rename_i fid caps
    obtain ⟨cvs, rfl, hcl, hcr⟩ := hu.fn_inv
    have hall : ∀ (j : Nat) (h1 : j < (appL args caps).length) (h2 : j < (vs ++ cvs).length), Rep β nid F w (appL args caps)[j] (vs ++ cvs)[j] := by
      intro j h1 h2
      simp only [appL_eq] at h1 ⊢
      by_cases hj : j < args.length
      · rw [List.getElem_append_left hj, List.getElem_append_left (by omega)]
        exact hr j hj (by omega)
      · rw [List.getElem_append_right (by omega), List.getElem_append_right (by omega)]
        simp only [List.length_append] at h1 h2
        have e : j - args.length = j - vs.length := by omega
        simp only [e]
        exact hcr _ (by omega) (by omega)
    have hlen : (appL args caps).length = (vs ++ cvs).length := by rw [appL_eq]; simp; omega
    have hrun : ∀ (_ : Callable P fid), ((do let d ← Deferred.ofValue (.func (.func fid) #[] cvs.toArray) vs.toArray; invoke d.target d.args : Sem Next).run P w) = .ok (.enter fid (vs ++ cvs).toArray) w := by
      intro hc
      have := callFunc_run (w := w) hc (vs ++ cvs).toArray
      simpa [Deferred.ofValue, invoke] using this
    rcases h with h | h
    · obtain ⟨m, ⟨os, r, h⟩, hml, hm⟩ := (views_sound E (Fa := fun _ => False) (fun _ h => h.elim) (fun _ _ h => h) (fun _ _ _ _ _ h => h) 60).2 _ (vs ++ cvs) _ hlen hall h
      obtain ⟨⟨hc, hfn⟩, h⟩ := ob_iff h hgc
      rw [hrun hc]
      refine .enter _ _ _ ((hfn w (vs ++ cvs) hml hm).mono ?_)
      rintro e w' ⟨v, γ, rfl, hb, hn, hrep⟩
      exact ⟨v, rfl, _, _, h, .returned E.old hb hn hrep⟩
    · split at h
      · rename_i hpure
        obtain ⟨r, h⟩ := h
        obtain ⟨⟨hc, hfn⟩, h⟩ := ob_iff h hgc
        rw [hrun hc]
        refine .enter _ _ _ ((hfn F w (vs ++ cvs) E.old hlen fun j h1 h2 => AV.lts_pure hpure j h1 (hall j h1 h2)).mono ?_)
        rintro e w' ⟨v, rfl, hb, hrep⟩
        exact ⟨v, rfl, _, β, h, .id (.pure _ _ hrep) hb⟩
      · exact h.elim
  · exact h.elim

/-! ### one operation -/
def withA (a : Option AV) (k : AV → Prop) : Prop :=
  match a with
  | some a => k a
  | none => False
theorem withA_iff {a : Option AV} {q : AV → Prop} (h : withA a q) : ∃ r, a = some r ∧ q r := by
  cases a with
  | none => exact h.elim
  | some r => exact ⟨r, rfl, h⟩
def evsK (ev : Operand → Option AV) : List Operand → (List AV → Prop) → Prop
  | [], k => k []
  | x :: r, k => withA (ev x) fun a => evsK ev r fun l => k (a :: l)
def evpK (ev : Operand → Option AV) : List (Nat × Operand) → (List (Nat × AV) → Prop) → Prop
  | [], k => k []
  | (i, x) :: r, k => withA (ev x) fun a => evpK ev r fun l => k ((i, a) :: l)
def evoK (ev : Operand → Option AV) : Option Operand → (Option AV → Prop) → Prop
  | none, k => k none
  | some x, k => withA (ev x) fun a => k (some a)
theorem evsK_iff {ev : Operand → Option AV} {a : Act} (hev : ∀ x r, ev x = some r → Rep β nid F w r (a.eval x)) : ∀ {l : List Operand} {q : List AV → Prop}, evsK ev l q →
    ∃ m, q m ∧ m.length = (l.map a.eval).length ∧ ∀ (j : Nat) (h1 : j < m.length) (h2 : j < (l.map a.eval).length), Rep β nid F w m[j] (l.map a.eval)[j]
  | [], q, h => ⟨[], h, rfl, fun j h1 => by simp at h1⟩
  | x :: r, q, h => by
    obtain ⟨b, hb, h⟩ := withA_iff h
    obtain ⟨m, h, hl, hm⟩ := evsK_iff hev h
    refine ⟨b :: m, h, by simpa using hl, fun j h1 h2 => ?_⟩
    cases j with
    | zero => exact hev x b hb
    | succ j => exact hm j (by simpa using h1) (by simpa using h2)
theorem evpK_iff {ev : Operand → Option AV} {a : Act} (hev : ∀ x r, ev x = some r → Rep β nid F w r (a.eval x)) : ∀ {l : List (Nat × Operand)} {q : List (Nat × AV) → Prop}, evpK ev l q →
    ∃ m, q m ∧ m.length = (l.map fun p => (p.1, a.eval p.2)).length ∧ ∀ (j : Nat) (h1 : j < m.length) (h2 : j < (l.map fun p => (p.1, a.eval p.2)).length),
      m[j].1 = (l.map fun p => (p.1, a.eval p.2))[j].1 ∧ Rep β nid F w m[j].2 (l.map fun p => (p.1, a.eval p.2))[j].2
  | [], q, h => ⟨[], h, rfl, fun j h1 => by simp at h1⟩
  | (i, x) :: r, q, h => by
    obtain ⟨b, hb, h⟩ := withA_iff h
    obtain ⟨m, h, hl, hm⟩ := evpK_iff hev h
    refine ⟨(i, b) :: m, h, by simpa using hl, fun j h1 h2 => ?_⟩
    cases j with
    | zero => exact ⟨rfl, hev x b hb⟩
    | succ j => exact hm j (by simpa using h1) (by simpa using h2)
theorem evoK_iff {ev : Operand → Option AV} {a : Act} (hev : ∀ x r, ev x = some r → Rep β nid F w r (a.eval x)) {x : Option Operand} {q : Option AV → Prop} (h : evoK ev x q) :
    ∃ m, q m ∧ (∀ y, m = some y → ∃ z, x.map a.eval = some z ∧ Rep β nid F w y z) ∧ (m = none → x.map a.eval = none) := by
  cases x with
  | none => exact ⟨none, h, fun y hy => (by cases hy), fun _ => rfl⟩
  | some x =>
    obtain ⟨b, hb, h⟩ := withA_iff h
    exact ⟨some b, h, fun y hy => (by cases hy; exact ⟨_, rfl, hev x b hb⟩), fun hy => (by cases hy)⟩

def isTrue : Operand → Bool
  | .const (.bool true) => true
  | _ => false
def isFalse : Operand → Bool
  | .const (.bool false) => true
  | _ => false
theorem isTrue_iff {x : Operand} (h : isTrue x = true) : x = .const (.bool true) := by
  unfold isTrue at h
  split at h
  · rfl
  · cases h
theorem isFalse_iff {x : Operand} (h : isFalse x = true) : x = .const (.bool false) := by
  unfold isFalse at h
  split at h
  · rfl
  · cases h
def pickA (ev : Operand → Option AV) (evx : Nat → Bool → Operand → Option AV) (t : Nat) (x y : Operand) (k : Eff → Prop) : Prop :=
  match ev (.tmp t), isTrue x, isFalse y with
  | some (.b c), true, _ => (match evx t false y with
    | some (.b d) => k (.ext [] (.b (c || d)))
    | _ => False)
  | some (.b c), _, true => (match evx t true x with
    | some (.b d) => k (.ext [] (.b (c && d)))
    | _ => False)
  | _, _, _ => False
theorem pickA_sound {a : Act} {ev : Operand → Option AV} {evx : Nat → Bool → Operand → Option AV}
    (hev : ∀ x r, ev x = some r → Rep β nid F w r (a.eval x)) (hevx : ∀ t b x r, evx t b x = some r → a.eval (.tmp t) = .bool b → Rep β nid F w r (a.eval x)) {t : Nat} {x y : Operand}
    (h : pickA ev evx t x y k) : ∃ c d, a.eval (.tmp t) = .bool c ∧ (if c then a.eval x else a.eval y) = .bool d ∧ k (.ext [] (.b d)) := by
  unfold pickA at h
  split at h
  · rename_i c hc hx
    obtain rfl := isTrue_iff hx
    have hcv := (hev _ _ hc).b_inv
    split at h
    · rename_i d hd
      refine ⟨c, _, hcv, ?_, h⟩
      cases c with
      | true => simp [Act.eval]
      | false => simpa using (hevx _ _ _ _ hd hcv).b_inv
    · exact h.elim
  · rename_i c hc hy _
    obtain rfl := isFalse_iff hy
    have hcv := (hev _ _ hc).b_inv
    split at h
    · rename_i d hd
      refine ⟨c, _, hcv, ?_, h⟩
      cases c with
      | false => simp [Act.eval]
      | true => simpa using (hevx _ _ _ _ hd hcv).b_inv
    · exact h.elim
  · exact h.elim

def stepA (P : Program) (T : List (Nat × TI)) (gc : Option Prop) (ev : Operand → Option AV) (evx : Nat → Bool → Operand → Option AV) (lk : Nat → Option AO) (nid : Nat) (op : Op) (k : Eff → Prop) : Prop :=
  match op with
  | .move x => withA (ev x) fun a => k (.ext [] a)
  | .assign x => withA (ev x) fun a => k (.ext [] a)
  | .pick (.tmp t) x y => pickA ev evx t x y k
  | .alloc e => (match tget e T with
    | some ti => allocA nid e (avOf ti.zero) k
    | none => False)
  | .box e x => withA (ev x) fun a => allocA nid e a k
  | .load t x => withA (ev x) fun a => (match tget t T with
    | some ti => loadA gc lk ti a k
    | none => False)
  | .store t x y => withA (ev x) fun a => withA (ev y) fun b => (match tget t T with
    | some ti => storeA gc lk ti a b k
    | none => False)
  | .nilCheck x => withA (ev x) fun a => nilCheckA a k
  | .binOp op t x y _ => withA (ev x) fun a => withA (ev y) fun b => binA gc T lk op t a b k
  | .unOp op _ x => withA (ev x) fun a => unA op a k
  | .convert s d x => withA (ev x) fun a => convA T s d a k
  | .fieldAddr s x f => withA (ev x) fun a => fieldAddrA T s f a k
  | .field s x f => withA (ev x) fun a => fieldA T s f a k
  | .indexAddr t x i => withA (ev x) fun a => withA (ev i) fun b => indexAddrA gc T lk t a b k
  | .extract x j => withA (ev x) fun a => extractA j a k
  | .makeFunc (.func f) ⟨[]⟩ ⟨caps⟩ => evsK ev caps fun l => k (.ext [] (.fn f l))
  | .makeSlice t l c => withA (ev l) fun a => withA (ev c) fun b => makeSliceA gc T nid t a b k
  | .slice t x lo hi none => withA (ev x) fun a => evoK ev lo fun l => evoK ev hi fun h => subA gc T lk t a l h k
  | .slice t x (some lo) (some hi) (some mx) => withA (ev x) fun a => withA (ev lo) fun l => withA (ev hi) fun h => withA (ev mx) fun m => sub3A gc T lk t a l h m k
  | .build t ⟨parts⟩ => evpK ev parts fun l => buildA T t l k
  | .buildSlice t n ⟨parts⟩ => evpK ev parts fun l => buildSliceA T nid t n l k
  | .call ⟨.value f, ⟨args⟩, _⟩ => withA (ev f) fun a => evsK ev args fun l => callA P gc lk nid a l k
  | .call ⟨.builtin .len, ⟨[x]⟩, ⟨[t]⟩⟩ => withA (ev x) fun a => lenA T lk t a k
  | .call ⟨.builtin .max, ⟨[x, y]⟩, _⟩ => withA (ev x) fun a => withA (ev y) fun b => maxA a b k
  | .call ⟨.builtin .min, ⟨[x, y]⟩, _⟩ => withA (ev x) fun a => withA (ev y) fun b => minA a b k
  | .call ⟨.builtin .append, ⟨[x, y]⟩, ⟨[t, t']⟩⟩ => (match Nat.beq t t' with
    | true => withA (ev x) fun a => withA (ev y) fun b => (match sameSv a b with
      | true => appendInA gc T lk nid t a b k
      | false => appendA gc T lk nid t a b k)
    | false => False)
  | .makeMap _ none => makeMapA nid k
  | .lookup t x i ok => withA (ev x) fun a => withA (ev i) fun b => lookupA gc T lk t a b ok k
  | .mapUpdate t m x y => withA (ev m) fun a => withA (ev x) fun b => withA (ev y) fun c => updateA gc T lk t a b c k
  | .insert t m x y => withA (ev m) fun a => withA (ev x) fun b => withA (ev y) fun c => updateA gc T lk t a b c k
  | .range t x => withA (ev x) fun a => rangeA T lk nid t a k
  | .entry x => withA (ev x) fun a => entryA gc lk a k
  | .call ⟨.builtin .delete, ⟨[x, y]⟩, ⟨[t, _]⟩⟩ => withA (ev x) fun a => withA (ev y) fun b => deleteA gc T lk t a b k
  | .call ⟨.builtin .clear, ⟨[x]⟩, ⟨[t]⟩⟩ => withA (ev x) fun a => clearA T lk t a k
  | _ => False

theorem Out.pure {x : Value} {run : Result Next} (hrun : run = .ok (.value x) w) (h : ∃ r, k (.ext [] r) ∧ Rep β nid F w r x) : Out P (PostK β nid F lk w k) run := by
  obtain ⟨r, hk, hr⟩ := h
  exact Out.same hk hr hrun
theorem Out.made {x : Value} {w' : World} {run : Result Next} (hrun : run = .ok (.value x) w') (h : PostK β nid F lk w k x w') : Out P (PostK β nid F lk w k) run := by
  subst hrun
  exact .value x w' h
theorem run_value {s : Sem Value} {x : Value} {w' : World} (h : s.run P w = .ok x w') : (do pure (Next.value (← s)) : Sem Next).run P w = .ok (.value x) w' := by
  simp [h]

theorem stepA_sound {T : List (Nat × TI)} (hT : TabOk P T) {gc : Option Prop} (hgc : ∀ c, gc = some c → c) (E : Env β nid F w lk) {a : Act} {ev : Operand → Option AV} {evx : Nat → Bool → Operand → Option AV}
    (hev : ∀ x r, ev x = some r → Rep β nid F w r (a.eval x)) (hevx : ∀ t b x r, evx t b x = some r → a.eval (.tmp t) = .bool b → Rep β nid F w r (a.eval x)) {o : Oper}
    (h : stepA P T gc ev evx lk nid o.op k) : Out P (PostK β nid F lk w k) ((execOp a.eval o).run P w) := by
  unfold stepA at h
  split at h
  · rename_i x hop
    obtain ⟨r, hr, h⟩ := withA_iff h
    exact .same h (hev _ _ hr) (by simp [execOp, hop])
  · rename_i x hop
    obtain ⟨r, hr, h⟩ := withA_iff h
    exact .same h (hev _ _ hr) (by simp [execOp, hop])
  · rename_i t x y hop
    obtain ⟨c, d, hc, hd, h⟩ := pickA_sound hev hevx h
    refine .same h (.pure _ _ (.b _)) ?_
    simp [execOp, hop, hc, asBool, hd]
  · rename_i e hop
    split at h
    · rename_i ti ht
      obtain ⟨x, w', hrun, hp⟩ := allocA_sound (lk := lk) (β := β) (F := F) (w := w) (hT.get ht) h
      exact .made (by simp only [execOp, hop]; exact run_value hrun) hp
    · exact h.elim
  · rename_i e x hop
    obtain ⟨r, hr, h⟩ := withA_iff h
    obtain ⟨x, w', hrun, hp⟩ := boxA_sound (P := P) (lk := lk) (hev _ _ hr) h
    exact .made (by simp only [execOp, hop]; exact run_value hrun) hp
  · rename_i t x hop
    obtain ⟨r, hr, h⟩ := withA_iff h
    split at h
    · rename_i ti ht
      obtain ⟨x, hrun, hp⟩ := loadA_sound hgc E (hT.get ht) (hev _ _ hr) h
      exact .pure (by simp only [execOp, hop]; exact run_value hrun) hp
    · exact h.elim
  · rename_i t x y hop
    obtain ⟨r, hr, h⟩ := withA_iff h
    obtain ⟨r', hr', h⟩ := withA_iff h
    split at h
    · rename_i ti ht
      obtain ⟨w', hrun, hp⟩ := storeA_sound hgc E (hT.get ht) (hev _ _ hr) (hev _ _ hr') h
      have : (execOp a.eval o).run P w = .ok .skip w' := by
        simp only [execOp, hop, Sem.run_bind, hrun, Result.andThen_ok]
        rfl
      rw [this]
      exact .skip _ hp
    · exact h.elim
  · rename_i x hop
    obtain ⟨r, hr, h⟩ := withA_iff h
    have hv := hev _ _ hr
    unfold nilCheckA at h
    split at h
    · obtain ⟨hid, hv'⟩ := hv.p_inv
      exact .same h hv (by simp [execOp, hop, hv'])
    · obtain ⟨hid, g, o', m, c, _, hv'⟩ := hv.pe_inv
      exact .same h hv (by simp [execOp, hop, hv'])
    · have hv0 := hv.rp_inv
      have : ∃ g o, a.eval x = .pointer (some ⟨g, o, none⟩) := by
        generalize a.eval x = v at hv0
        cases hv0 with
        | rp _ g o => exact ⟨g, o, rfl⟩
      obtain ⟨g, o', hv'⟩ := this
      exact .same h hv (by simp [execOp, hop, hv'])
    · exact h.elim
  · rename_i op t x y _ hop
    obtain ⟨r, hr, h⟩ := withA_iff h
    obtain ⟨r', hr', h⟩ := withA_iff h
    obtain ⟨z, hrun, hp⟩ := binA_sound (P := P) hgc E hT x y (hev _ _ hr) (hev _ _ hr') h
    exact .pure (by simp only [execOp, hop]; exact run_value hrun) hp
  · rename_i op _ x hop
    obtain ⟨r, hr, h⟩ := withA_iff h
    obtain ⟨z, hrun, hp⟩ := unA_sound (P := P) (hev _ _ hr) h
    exact .pure (by simp only [execOp, hop]; exact run_value hrun) hp
  · rename_i s d x hop
    obtain ⟨r, hr, h⟩ := withA_iff h
    obtain ⟨z, hrun, hp⟩ := convA_sound (P := P) hT (hev _ _ hr) h
    exact .pure (by simp only [execOp, hop]; exact run_value hrun) hp
  · rename_i s x f hop
    obtain ⟨r, hr, h⟩ := withA_iff h
    obtain ⟨z, hrun, hp⟩ := fieldAddrA_sound (P := P) hT (hev _ _ hr) h
    exact .pure (by simp only [execOp, hop]; exact run_value hrun) hp
  · rename_i s x f hop
    obtain ⟨r, hr, h⟩ := withA_iff h
    obtain ⟨z, hrun, hp⟩ := fieldA_sound (P := P) hT (hev _ _ hr) h
    exact .pure (by simp only [execOp, hop]; exact run_value hrun) hp
  · rename_i t x i hop
    obtain ⟨r, hr, h⟩ := withA_iff h
    obtain ⟨r', hr', h⟩ := withA_iff h
    obtain ⟨z, hrun, hp⟩ := indexAddrA_sound (P := P) hgc E hT (hev _ _ hr) (hev _ _ hr') h
    exact .pure (by simp only [execOp, hop]; exact run_value hrun) hp
  · rename_i x j hop
    obtain ⟨r, hr, h⟩ := withA_iff h
    obtain ⟨z, hrun, hp⟩ := extractA_sound (P := P) (hev _ _ hr) h
    exact .pure (by simp only [execOp, hop]; exact run_value hrun) hp
  · rename_i f caps hop
    obtain ⟨m, h, hl, hm⟩ := evsK_iff hev h
    exact .same h (.fn f m _ hl hm) (by simp [execOp, hop, Instr.makeFunc])
  · rename_i t l c hop
    obtain ⟨r, hr, h⟩ := withA_iff h
    obtain ⟨r', hr', h⟩ := withA_iff h
    obtain ⟨x, w', hrun, hp⟩ := makeSliceA_sound (P := P) (lk := lk) hgc hT (hev _ _ hr) (hev _ _ hr') h
    exact .made (by simp only [execOp, hop]; exact run_value hrun) hp
  · rename_i t x lo hi hop
    obtain ⟨r, hr, h⟩ := withA_iff h
    obtain ⟨ml, h, hl1, hl2⟩ := evoK_iff hev h
    obtain ⟨mh, h, hh1, hh2⟩ := evoK_iff hev h
    obtain ⟨z, hrun, hp⟩ := subA_sound (P := P) hgc E hT (hev _ _ hr) hl1 hl2 hh1 hh2 h
    refine .pure (x := z) ?_ hp
    have hsl : (Instr.sliceAt t (a.eval x) (lo.map a.eval) (hi.map a.eval) none).run P w = .ok z w := by
      rw [← hrun]
      unfold subA at h
      split at h
      · rename_i ti h1
        obtain ⟨hu, _⟩ := hT.get h1
        split at h
        · rename_i e h2
          cases hd : ti.desc <;> simp [sliceD, hd] at h2
          rw [hd] at hu
          simp [Instr.sliceAt, run_underlying hu]
        · exact h.elim
      · exact h.elim
    simp only [execOp, hop]
    exact run_value hsl
  · rename_i t x lo hi mx hop
    obtain ⟨r, hr, h⟩ := withA_iff h
    obtain ⟨rl, hrl, h⟩ := withA_iff h
    obtain ⟨rh, hrh, h⟩ := withA_iff h
    obtain ⟨rm, hrm, h⟩ := withA_iff h
    obtain ⟨z, hrun, hp⟩ := sub3A_sound (P := P) hgc E hT (hev _ _ hr) (hev _ _ hrl) (hev _ _ hrh) (hev _ _ hrm) h
    refine .pure (x := z) ?_ hp
    simp only [execOp, hop, Option.map_some]
    exact run_value hrun
  · rename_i t parts hop
    obtain ⟨m, h, hl, hm⟩ := evpK_iff hev h
    obtain ⟨z, hrun, hp⟩ := buildA_sound (P := P) (vals := ⟨parts.map fun p => (p.1, a.eval p.2)⟩) hT hl hm h
    refine .pure (x := z) ?_ hp
    simp only [execOp, hop]
    exact run_value (by simpa using hrun)
  · rename_i t n parts hop
    obtain ⟨m, h, hl, hm⟩ := evpK_iff hev h
    obtain ⟨z, w', hrun, hp⟩ := buildSliceA_sound (P := P) (lk := lk) (vals := ⟨parts.map fun p => (p.1, a.eval p.2)⟩) hT hl hm h
    refine .made (x := z) ?_ hp
    simp only [execOp, hop]
    exact run_value (by simpa using hrun)
  · rename_i f args _ hop
    obtain ⟨r, hr, h⟩ := withA_iff h
    obtain ⟨m, h, hl, hm⟩ := evsK_iff hev h
    have := callA_sound hgc E (hev _ _ hr) hl hm h
    simpa [execOp, hop, resolve] using this
  · rename_i x t hop
    obtain ⟨r, hr, h⟩ := withA_iff h
    obtain ⟨z, hrun, hp⟩ := lenA_sound (P := P) E hT o.type #[t] rfl (hev _ _ hr) h
    refine .pure (x := z) ?_ hp
    simp [execOp, hop, resolve, invoke, builtin, hrun]
  · rename_i x y ts hop
    obtain ⟨r, hr, h⟩ := withA_iff h
    obtain ⟨r', hr', h⟩ := withA_iff h
    obtain ⟨z, hrun, hp⟩ := maxA_sound (P := P) ts o.type (hev _ _ hr) (hev _ _ hr') h
    refine .pure (x := z) ?_ hp
    simp [execOp, hop, resolve, invoke, builtin, hrun]
  · rename_i x y ts hop
    obtain ⟨r, hr, h⟩ := withA_iff h
    obtain ⟨r', hr', h⟩ := withA_iff h
    obtain ⟨z, hrun, hp⟩ := minA_sound (P := P) ts o.type (hev _ _ hr) (hev _ _ hr') h
    refine .pure (x := z) ?_ hp
    simp [execOp, hop, resolve, invoke, builtin, hrun]
  · rename_i x y t t' hop
    split at h
    · rename_i ht
      have ht : t = t' := by simpa using ht
      subst ht
      obtain ⟨r, hr, h⟩ := withA_iff h
      obtain ⟨r', hr', h⟩ := withA_iff h
      split at h
      · obtain ⟨z, w', hrun, hp⟩ := appendInA_sound (P := P) hgc E hT o.type (hev _ _ hr) (hev _ _ hr') h
        refine .made (x := z) ?_ hp
        simp [execOp, hop, resolve, invoke, builtin, hrun]
      · obtain ⟨z, w', hrun, hp⟩ := appendA_sound (P := P) hgc E hT o.type (hev _ _ hr) (hev _ _ hr') h
        refine .made (x := z) ?_ hp
        simp [execOp, hop, resolve, invoke, builtin, hrun]
    · exact h.elim
  · rename_i t hop
    obtain ⟨x, w', hrun, hp⟩ := makeMapA_sound (P := P) (lk := lk) (β := β) (F := F) (w := w) t h
    exact .made (by simp only [execOp, hop]; exact run_value hrun) hp
  · rename_i t x i ok hop
    obtain ⟨r, hr, h⟩ := withA_iff h
    obtain ⟨r', hr', h⟩ := withA_iff h
    obtain ⟨z, hrun, hp⟩ := lookupA_sound (P := P) hgc E hT (hev _ _ hr) (hev _ _ hr') h
    exact .pure (by simp only [execOp, hop]; exact run_value hrun) hp
  · rename_i t m x y hop
    obtain ⟨r, hr, h⟩ := withA_iff h
    obtain ⟨r', hr', h⟩ := withA_iff h
    obtain ⟨r2, hr2, h⟩ := withA_iff h
    obtain ⟨w', hrun, hp⟩ := updateA_sound (P := P) hgc E hT (hev _ _ hr) (hev _ _ hr') (hev _ _ hr2) h
    have : (execOp a.eval o).run P w = .ok .skip w' := by
      simp only [execOp, hop, Sem.run_bind, hrun, Result.andThen_ok]
      rfl
    rw [this]
    exact .skip _ hp
  · rename_i t m x y hop
    obtain ⟨r, hr, h⟩ := withA_iff h
    obtain ⟨r', hr', h⟩ := withA_iff h
    obtain ⟨r2, hr2, h⟩ := withA_iff h
    obtain ⟨w', hrun, hp⟩ := updateA_sound (P := P) hgc E hT (hev _ _ hr) (hev _ _ hr') (hev _ _ hr2) h
    have : (execOp a.eval o).run P w = .ok .skip w' := by
      simp only [execOp, hop, Sem.run_bind, hrun, Result.andThen_ok]
      rfl
    rw [this]
    exact .skip _ hp
  · rename_i t x hop
    obtain ⟨r, hr, h⟩ := withA_iff h
    obtain ⟨z, w', hrun, hp⟩ := rangeA_sound (P := P) E hT (hev _ _ hr) h
    exact .made (by simp only [execOp, hop]; exact run_value hrun) hp
  · rename_i x hop
    obtain ⟨r, hr, h⟩ := withA_iff h
    obtain ⟨z, hrun, hp⟩ := entryA_sound (P := P) hgc E (hev _ _ hr) h
    exact .pure (by simp only [execOp, hop]; exact run_value hrun) hp
  · rename_i x y t t' hop
    obtain ⟨r, hr, h⟩ := withA_iff h
    obtain ⟨r', hr', h⟩ := withA_iff h
    obtain ⟨z, w', hrun, hp⟩ := deleteA_sound (P := P) hgc E hT #[t, t'] o.type rfl (hev _ _ hr) (hev _ _ hr') h
    refine .made (x := z) ?_ hp
    simp [execOp, hop, resolve, invoke, builtin, hrun]
  · rename_i x t hop
    obtain ⟨r, hr, h⟩ := withA_iff h
    obtain ⟨z, w', hrun, hp⟩ := clearA_sound (P := P) E hT #[t] o.type rfl (hev _ _ hr) h
    refine .made (x := z) ?_ hp
    simp [execOp, hop, resolve, invoke, builtin, hrun]
  · exact h.elim
end
end Go.Eng
end
