/-
  Several texts in one: EngK, Eng5, Eng6.
-/
import Derived.MapKept
import Derived.WideKeyRuns
import Derived.Laws.StructEq
import Derived.Test.YtnookbebiacaeaaMg1

section
namespace Go.Eng
open Go.RowKit Go.MapKept
def bytesEq (x y : ByteArray) : Bool := x.toList == y.toList
def eqAV : AV → AV → Bool
 | .i _ x, .i _ y => x == y
 | .b x, .b y => x == y
 | .s x, .s y => bytesEq x y
 | _, _ => false
def eqAVs : List AV → List AV → Bool
 | [], [] => true
 | [x], [y] => eqAV x y
 | x :: r, y :: t => eqAV x y && eqAVs r t
 | _, _ => false
def plainFit : TypeDesc → AV → Bool
 | .int q, .i k _ => Nat.beq (kn q) (kn k)
 | .bool, .b _ => true
 | .string, .s _ => true
 | _, _ => false
def arrD : TypeDesc → Option (Nat × TypeId)
 | .array n e => some (n, e)
 | _ => none
def repD (d : TypeDesc) : Nat → List TypeDesc → List TypeDesc
 | 0, l => l
 | n + 1, l => d :: repD d n l
def cellsD (T : List (Nat × TI)) : List Field → Nat → Option (List TypeDesc)
 | [], _ => some []
 | f :: r, off => (match tget f.type T with
  | some ft => (match Nat.beq f.offset off, arrD ft.desc with
   | true, some (n, e) => (match tget e T with
    | some te => (match Nat.beq te.size 1, Nat.beq ft.size n, cellsD T r (off + n) with
     | true, true, some l => some (repD te.desc n l)
     | _, _, _ => none)
    | none => none)
   | true, none => (match cellsD T r (off + 1) with
    | some l => some (ft.desc :: l)
    | none => none)
   | false, _ => none)
  | none => none)
def fitDs : List TypeDesc → List AV → Bool
 | [], [] => true
 | d :: r, a :: cs => (match plainFit d a with
  | true => fitDs r cs
  | false => false)
 | _, _ => false
def structFs : TypeDesc → Option (List Field)
 | .struct ⟨fs⟩ => some fs
 | _ => none
def keyFit (T : List (Nat × TI)) (t : Nat) (a : AV) : Bool :=
 match tget t T with
 | some ti => (match structFs ti.desc, a with
  | some fs, .ag cs => (match ti.cmp, cellsD T fs 0 with
   | true, some ds => fitDs ds cs
   | _, _ => false)
  | some _, _ => false
  | none, a => plainFit ti.desc a)
 | none => false
def FitF (P : Program) (t : TypeId) (us : List Value) : Prop :=
 (∃ d v, P.underlying t = some d ∧ us = [v] ∧ IsKey d v) ∨
 ∃ n e d, P.underlying t = some (.array n e) ∧ P.underlying e = some d ∧ P.cellsOf e = 1 ∧ P.cellsOf t = n ∧ us.length = n ∧ ∀ v ∈ us, IsKey d v
def FitV (P : Program) : List Field → Nat → List Value → Prop
 | [], _, vs => vs = []
 | f :: r, off, vs => ∃ us ws, vs = us ++ ws ∧ f.offset = off ∧ FitF P f.type us ∧ FitV P r (off + us.length) ws
def KV (P : Program) (t : TypeId) (v : Value) : Prop :=
 (∃ d, P.underlying t = some d ∧ IsKey d v) ∨ ∃ fs vs, P.underlying t = some (.struct fs) ∧ structCmpB P t = true ∧ v = .agg vs.toArray ∧ FitV P fs.toList 0 vs
section
variable {P : Program} {w : World} {F : Nat → Prop}
theorem plainFit_key {d : TypeDesc} {a : AV} {v : Value} (h : plainFit d a = true) (hr : Rep0 F w a v) : IsKey d v := by
 cases d <;> cases a <;> simp only [plainFit, Bool.false_eq_true] at h
 ·cases hr; trivial
 ·rename_i q k n
  cases hr
  exact (kn_inj h).symm ▸ rfl
 ·cases hr; trivial
theorem bytes_eq {x y : ByteArray} : bytesEq x y = true ↔ x = y := by
 unfold bytesEq
 rw [beq_iff_eq]
 constructor
 ·intro h
  rw [ByteArray.toList_eq, ByteArray.toList_eq] at h
  obtain ⟨⟨x⟩⟩ := x
  obtain ⟨⟨y⟩⟩ := y
  simp at h
  rw [h]
 ·rintro rfl; rfl
theorem plain_eq {d d' : TypeDesc} {a b : AV} {u v : Value} (ha : plainFit d a = true) (hb : plainFit d' b = true) (hd : d = d') (hu : Rep0 F w a u) (hv : Rep0 F w b v) : (eqAV a b = true ↔ u = v) ∧ (a = b ↔ u = v) := by
 subst hd
 cases d <;> cases a <;> simp only [plainFit, Bool.false_eq_true] at ha <;> cases b <;> simp only [plainFit, Bool.false_eq_true] at hb <;> cases hu <;> cases hv
 ·simp [eqAV]
 ·obtain rfl := kn_inj ha
  obtain rfl := kn_inj hb
  simp [eqAV]
 ·simp [eqAV, bytes_eq]
def DsV : List TypeDesc → List Value → Prop
 | [], vs => vs = []
 | d :: r, vs => ∃ v ws, vs = v :: ws ∧ IsKey d v ∧ DsV r ws
theorem fitDs_get : ∀ {ds : List TypeDesc} {cs : List AV} {vs : List Value}, fitDs ds cs = true → cs.length = vs.length → (∀ (j : Nat) (h1 : j < cs.length) (h2 : j < vs.length), Rep0 F w cs[j] vs[j]) → DsV ds vs
 | [], [], vs, _, hl, _ => by
  cases vs with
  | nil => rfl
  | cons => simp at hl
 | [], _ :: _, vs, h, _, _ => by simp [fitDs] at h
 | _ :: _, [], vs, h, _, _ => by simp [fitDs] at h
 | d :: r, a :: cs, vs, h, hl, hr => by
  cases vs with
  | nil => simp at hl
  | cons v vs =>
   unfold fitDs at h
   split at h
   ·rename_i h2
    exact ⟨v, vs, rfl, plainFit_key h2 (hr 0 (by simp) (by simp)), fitDs_get h (by simpa using hl) fun j h1 h2 => hr (j + 1) (Nat.succ_lt_succ h1) (Nat.succ_lt_succ h2)⟩
   ·cases h
theorem repD_split (d : TypeDesc) : ∀ (n : Nat) {l : List TypeDesc} {vs : List Value}, DsV (repD d n l) vs → ∃ us ws, vs = us ++ ws ∧ us.length = n ∧ (∀ v ∈ us, IsKey d v) ∧ DsV l ws
 | 0, l, vs, h => ⟨[], vs, rfl, rfl, by simp, h⟩
 | n + 1, l, vs, h => by
  obtain ⟨v, ws, rfl, hk, h⟩ := h
  obtain ⟨us, ws, rfl, hl, hall, h⟩ := repD_split d n h
  exact ⟨v :: us, ws, rfl, by simp [hl], by simpa using ⟨hk, hall⟩, h⟩
theorem cellsOf_ti {T : List (Nat × TI)} (hT : TabOk P T) {t : Nat} {ti : TI} (h : tget t T = some ti) : P.cellsOf t = ti.size := by
 obtain ⟨_, _, i, hi, hs, _⟩ := hT.get h
 unfold Program.cellsOf
 rw [hi]
 simp [hs]
theorem cellsD_fit {T : List (Nat × TI)} (hT : TabOk P T) : ∀ {fs : List Field} {off : Nat} {ds : List TypeDesc} {vs : List Value}, cellsD T fs off = some ds → DsV ds vs → FitV P fs off vs
 | [], off, ds, vs, h, hv => by
  unfold cellsD at h
  cases h
  exact hv
 | f :: r, off, ds, vs, h, hv => by
  unfold cellsD at h
  split at h
  ·rename_i ft hft
   obtain ⟨hu, _⟩ := hT.get hft
   split at h
   ·rename_i n e ho harr
    have ho : f.offset = off := by simpa using ho
    split at h
    ·rename_i te hte
     split at h
     ·rename_i l h1 h2 hl
      cases h
      have h1 : te.size = 1 := by simpa using h1
      have h2 : ft.size = n := by simpa using h2
      obtain ⟨us, ws, rfl, hlen, hall, hv⟩ := repD_split _ _ hv
      have hd : ft.desc = .array n e := by
       unfold arrD at harr
       split at harr
       ·rename_i hd; cases harr; exact hd
       ·cases harr
      rw [hd] at hu
      refine ⟨us, ws, rfl, ho, .inr ⟨n, e, te.desc, hu, (hT.get hte).1, by rw [cellsOf_ti hT hte, h1], by rw [cellsOf_ti hT hft, h2], hlen, hall⟩, ?_⟩
      rw [hlen]
      exact cellsD_fit hT hl hv
     ·cases h
    ·cases h
   ·rename_i ho harr
    have ho : f.offset = off := by simpa using ho
    split at h
    ·rename_i l hl
     cases h
     obtain ⟨v, ws, rfl, hk, hv⟩ := hv
     exact ⟨[v], ws, rfl, ho, .inl ⟨ft.desc, v, hu, rfl, hk⟩, cellsD_fit hT hl hv⟩
    ·cases h
   ·cases h
  ·cases h
theorem fitDs_eq : ∀ {ds : List TypeDesc} {cs es : List AV} {us vs : List Value}, fitDs ds cs = true → fitDs ds es = true → cs.length = us.length → es.length = vs.length →
  (∀ (j : Nat) (h1 : j < cs.length) (h2 : j < us.length), Rep0 F w cs[j] us[j]) → (∀ (j : Nat) (h1 : j < es.length) (h2 : j < vs.length), Rep0 F w es[j] vs[j]) → (eqAVs cs es = true ↔ us = vs) ∧ (cs = es ↔ us = vs)
 | [], [], [], us, vs, _, _, hl1, hl2, _, _ => by
  cases us <;> cases vs <;> simp at hl1 hl2 ⊢
  simp [eqAVs]
 | [], _ :: _, _, us, vs, h, _, _, _, _, _ => by simp [fitDs] at h
 | [], [], _ :: _, us, vs, _, h, _, _, _, _ => by simp [fitDs] at h
 | d :: r, [], _, us, vs, h, _, _, _, _, _ => by simp [fitDs] at h
 | d :: r, _ :: _, [], us, vs, _, h, _, _, _, _ => by simp [fitDs] at h
 | d :: r, a :: cs, b :: es, us, vs, h, h', hl1, hl2, hr1, hr2 => by
  cases us with
  | nil => simp at hl1
  | cons u us =>
   cases vs with
   | nil => simp at hl2
   | cons v vs =>
    unfold fitDs at h h'
    split at h
    ·rename_i h2
     split at h'
     ·rename_i h2'
      have hp := plain_eq h2 h2' rfl (hr1 0 (by simp) (by simp)) (hr2 0 (by simp) (by simp))
      have ih := fitDs_eq h h' (by simpa using hl1) (by simpa using hl2) (fun j h1 h2 => hr1 (j + 1) (Nat.succ_lt_succ h1) (Nat.succ_lt_succ h2)) (fun j h1 h2 => hr2 (j + 1) (Nat.succ_lt_succ h1) (Nat.succ_lt_succ h2))
      have e : eqAVs (a :: cs) (b :: es) = (eqAV a b && eqAVs cs es) := by
       cases cs with
       | nil =>
        cases es with
        | nil => simp [eqAVs]
        | cons => cases r <;> simp [fitDs] at h h'
       | cons =>
        cases es with
        | nil => cases r <;> simp [fitDs] at h h'
        | cons => rfl
      simp only [List.getElem_cons_zero] at hp
      refine ⟨?_, ?_⟩
      ·rw [e, Bool.and_eq_true, hp.1, ih.1, List.cons.injEq]
      ·rw [List.cons.injEq, hp.2, ih.2, List.cons.injEq]
     ·cases h'
    ·cases h
theorem keyFit_KV {T : List (Nat × TI)} (hT : TabOk P T) {t : Nat} {a : AV} {v : Value} (h : keyFit T t a = true) (hr : Rep0 F w a v) : KV P t v := by
 unfold keyFit at h
 split at h
 ·rename_i ti ht
  obtain ⟨hu, _⟩ := hT.get ht
  split at h
  ·rename_i fs cs hfs
   split at h
   ·rename_i ds hc hds
    cases hd : ti.desc <;> simp [structFs, hd] at hfs
    rename_i fa
    obtain ⟨fl⟩ := fa
    simp at hfs
    subst hfs
    cases hr with
    | ag _ vs hl hrr =>
     exact .inr ⟨⟨fl⟩, vs, by rw [hu, hd], hT.cmp ht hc, rfl, cellsD_fit hT hds (fitDs_get h hl hrr)⟩
   ·cases h
  ·cases h
  ·exact .inl ⟨_, hu, plainFit_key h hr⟩
 ·cases h
theorem keyFit_eq {T : List (Nat × TI)} {t : Nat} {a b : AV} {u v : Value} (h : keyFit T t a = true) (h' : keyFit T t b = true) (hu : Rep0 F w a u) (hv : Rep0 F w b v) : a = b ↔ u = v := by
 unfold keyFit at h h'
 cases ht : tget t T with
 | none => rw [ht] at h; cases h
 | some ti =>
  rw [ht] at h h'
  dsimp only at h h'
  cases hfs : structFs ti.desc with
  | none =>
   rw [hfs] at h h'
   exact (plain_eq (by cases a <;> exact h) (by cases b <;> exact h') rfl hu hv).2
  | some fs =>
   rw [hfs] at h h'
   cases a <;> try (cases h)
   cases b <;> try (cases h')
   rename_i cs ds
   dsimp only at h h'
   split at h
   ·rename_i dd hc hdd
    rw [hc, hdd] at h'
    cases hu with
    | ag _ us hl hr =>
     cases hv with
     | ag _ vs hl' hr' =>
      have := (fitDs_eq h h' hl hl' hr hr').2
      simp [this]
   ·cases h
theorem isKey_plain {t : TypeId} {d : TypeDesc} {v : Value} (hu : P.underlying t = some d) (hk : IsKey d v) : P.plainKey t = true := by
 unfold Program.plainKey
 rw [hu]
 cases d <;> cases v <;> simp_all [IsKey]
theorem run_equalIn_key {t : TypeId} {d : TypeDesc} {a b : Value} (hu : P.underlying t = some d) (ha : IsKey d a) (hb : IsKey d b) (n : Nat) : ∃ r : Bool, (Op.equalIn (n + 1) t a b).run P w = .ok r w ∧ (r = true ↔ a = b) := by
 cases d <;> cases a <;> simp only [IsKey] at ha <;> cases b <;> simp only [IsKey] at hb
 ·rename_i x y
  exact ⟨x == y, run_equalIn_bool w n t x y hu, by simp⟩
 ·rename_i q k x k' y
  subst ha
  subst hb
  exact ⟨x == y, run_equalIn_int w n t _ _ x y hu, by simp⟩
 ·rename_i x y
  exact ⟨x.toList == y.toList, run_equalIn_string w n t x y hu, by simp; exact ⟨fun h => bytes_eq.1 (by simpa [bytesEq] using h), fun h => by rw [h]⟩⟩
def FA (P : Program) (t : TypeId) (us : List Value) (a : Value) : Prop :=
 (∃ d, P.underlying t = some d ∧ us = [a] ∧ IsKey d a) ∨
 ∃ n e d, P.underlying t = some (.array n e) ∧ P.underlying e = some d ∧ P.cellsOf e = 1 ∧ us.length = n ∧ (∀ v ∈ us, IsKey d v) ∧ a = .agg us.toArray
theorem run_part_fit {t : TypeId} {us ws : List Value} {xs : Array Value} {off : Nat} (h : FitF P t us) (e1 : xs.toList.drop off = us ++ ws) : ∃ a, (part t xs off).run P w = .ok a w ∧ FA P t us a := by
 rcases h with ⟨d, v, hu, rfl, hk⟩ | ⟨n, e, d, hu, hue, hce, hct, hl, hall⟩
 ·have g1 : xs[off]? = some v := by
   have := congrArg (·[0]?) e1
   simpa using this
  exact ⟨v, run_part_plain w (isKey_plain hu hk) g1, .inl ⟨d, hu, rfl, hk⟩⟩
 ·obtain ⟨i, hi⟩ := info_of_underlying hu
  have hx : xs.extract off (off + P.cellsOf t) = us.toArray := by
   apply Array.ext'
   rw [Array.toList_extract, hct]
   simp only [List.extract, Nat.add_sub_cancel_left, e1]
   rw [← hl]
   simp
  refine ⟨.agg us.toArray, ?_, .inr ⟨n, e, d, hu, hue, hce, hl, hall, rfl⟩⟩
  rw [← hx]
  simp [part, isAgg, run_underlying hu, run_sizeOf w hi]
theorem run_eqItems_fit (n : Nat) {e : TypeId} {d : TypeDesc} (hue : P.underlying e = some d) (xs ys : Array Value) : ∀ (us vs : List Value) (k : Nat), us.length = vs.length → (∀ v ∈ us, IsKey d v) → (∀ v ∈ vs, IsKey d v) →
  xs.toList.drop k = us → ys.toList.drop k = vs → ∃ r : Bool, (Op.eqItems (n + 1) e 1 xs ys (List.range' k us.length)).run P w = .ok r w ∧ (r = true ↔ us = vs)
 | [], vs, k, hl, _, _, _, _ => by
  cases vs <;> simp at hl
  exact ⟨true, by simp [Op.eqItems], by simp⟩
 | u :: us, vs, k, hl, h1, h2, e1, e2 => by
  cases vs with
  | nil => simp at hl
  | cons v vs =>
   have g1 : xs[k]? = some u := by
    have := congrArg (·[0]?) e1
    simpa using this
   have g2 : ys[k]? = some v := by
    have := congrArg (·[0]?) e2
    simpa using this
   have n1 : xs.toList.drop (k + 1) = us := by
    have := congrArg (List.drop 1) e1
    simpa using this
   have n2 : ys.toList.drop (k + 1) = vs := by
    have := congrArg (List.drop 1) e2
    simpa using this
   have hp := isKey_plain hue (h1 u (by simp))
   obtain ⟨r, hr, hiff⟩ := run_equalIn_key (w := w) hue (h1 u (by simp)) (h2 v (by simp)) n
   obtain ⟨r', hr', hiff'⟩ := run_eqItems_fit n hue xs ys us vs (k + 1) (by simpa using hl) (fun y hy => h1 y (by simp [hy])) (fun y hy => h2 y (by simp [hy])) n1 n2
   rw [List.length_cons, List.range'_succ]
   simp only [Op.eqItems, Nat.mul_one, Sem.run_bind, run_part_plain w hp g1, run_part_plain w hp g2, hr, Result.andThen_ok]
   cases r
   ·exact ⟨false, by simp, by simp; intro e; exact absurd (hiff.2 e) (by simp)⟩
   ·refine ⟨r', by simpa using hr', ?_⟩
    rw [hiff', List.cons.injEq]
    simp [hiff.1 rfl]
theorem run_equal_fit {t : TypeId} {us vs : List Value} {a b : Value} (ha : FA P t us a) (hb : FA P t vs b) (n : Nat) : ∃ r : Bool, (Op.equalIn (n + 2) t a b).run P w = .ok r w ∧ (r = true ↔ us = vs) := by
 rcases ha with ⟨d, hu, rfl, hk⟩ | ⟨m, e, d, hu, hue, hce, hl, hall, rfl⟩ <;> rcases hb with ⟨d', hu', rfl, hk'⟩ | ⟨m', e', d', hu', hue', hce', hl', hall', rfl⟩
 ·rw [hu] at hu'
  obtain rfl := Option.some.inj hu'
  obtain ⟨r, hr, hiff⟩ := run_equalIn_key (w := w) hu hk hk' (n + 1)
  exact ⟨r, hr, by rw [hiff]; simp⟩
 ·rw [hu] at hu'
  obtain rfl := Option.some.inj hu'
  cases a <;> simp [IsKey] at hk
 ·rw [hu] at hu'
  obtain rfl := Option.some.inj hu'
  cases b <;> simp [IsKey] at hk'
 ·rw [hu] at hu'
  obtain ⟨rfl, rfl⟩ := TypeDesc.array.inj (Option.some.inj hu')
  rw [hue] at hue'
  obtain rfl := Option.some.inj hue'
  obtain ⟨i, hi⟩ := info_of_underlying hue
  obtain ⟨r, hr, hiff⟩ := run_eqItems_fit (w := w) n hue us.toArray vs.toArray us vs 0 (hl.trans hl'.symm) hall hall' (by simp) (by simp)
  refine ⟨r, ?_, hiff⟩
  rw [show n + 2 = (n + 1) + 1 from rfl, run_equalIn_array w (n + 1) us.toArray vs.toArray hu hi, hce, List.range_eq_range', ← hl]
  exact hr
theorem run_check_fit {t : TypeId} {us : List Value} {a : Value} (ha : FA P t us a) (em : Bool) (n : Nat) : (Instr.checkKey em (n + 2) t a).run P w = .ok () w := by
 rcases ha with ⟨d, hu, rfl, hk⟩ | ⟨m, e, d, hu, hue, hce, hl, hall, rfl⟩
 ·exact run_checkKey hu hk em (n + 1)
 ·obtain ⟨i, hi⟩ := info_of_underlying hue
  rw [show n + 2 = (n + 1) + 1 from rfl, Instr.checkKey]
  simp only [Sem.run_bind, run_underlying hu, Result.andThen_ok]
  simp only [Std.Legacy.Range.forIn_eq_forIn_range', Std.Legacy.Range.size, Nat.sub_zero, Nat.add_one_sub_one, Nat.div_one]
  obtain ⟨l, k, e1, hk, hlk⟩ : ∃ l k, us.toArray.toList.drop k = l ∧ (∀ v ∈ l, IsKey d v) ∧ List.range' 0 m = List.range' k l.length := ⟨us, 0, by simp, hall, by rw [hl]⟩
  rw [hlk]
  clear hlk
  induction l generalizing k with
  | nil => simp
  | cons u l ih =>
   have g1 : us.toArray[k]? = some u := by
    have := congrArg (·[0]?) e1
    simpa using this
   have n1 : us.toArray.toList.drop (k + 1) = l := by
    have := congrArg (List.drop 1) e1
    simpa using this
   have hp := isKey_plain hue (hk u (by simp))
   have p2 := run_checkKey (P := P) (w := w) hue (hk u (by simp)) em n
   rw [List.length_cons, List.range'_succ]
   simp only [List.forIn_cons, Sem.run_bind, run_sizeOf w hi, Result.andThen_ok, hce, Nat.mul_one, run_part_plain w hp g1, p2, Sem.run_pure]
   exact ih (k + 1) n1 fun y hy => hk y (by simp [hy])
theorem run_eqFields_fit (n : Nat) : ∀ (fs : List Field) (off : Nat) (us vs : List Value) (xs ys : Array Value), (∀ f ∈ fs, f.name ≠ "_") → FitV P fs off us → FitV P fs off vs → us.length = vs.length →
  xs.toList.drop off = us → ys.toList.drop off = vs → ∃ r : Bool, (Op.eqFields (n + 2) xs ys fs).run P w = .ok r w ∧ (r = true ↔ us = vs)
 | [], off, us, vs, xs, ys, _, h1, h2, _, _, _ => by
  have h1 : us = [] := h1
  have h2 : vs = [] := h2
  subst h1
  subst h2
  exact ⟨true, by simp [Op.eqFields], by simp⟩
 | f :: fs, off, us0, vs0, xs, ys, hall, h1, h2, hl, e1, e2 => by
  obtain ⟨us, ws, rfl, ho, hf, hr1⟩ := h1
  obtain ⟨vs, zs, rfl, _, hf', hr2⟩ := h2
  have hn := hall f (by simp)
  have hlen : us.length = vs.length := by
   rcases hf with ⟨d, v, hu, rfl, hk⟩ | ⟨m, e, d, hu, _, _, _, hm, _⟩ <;> rcases hf' with ⟨d', v', hu', rfl, hk'⟩ | ⟨m', e', d', hu', _, _, _, hm', _⟩
   ·rfl
   ·rw [hu] at hu'; obtain rfl := Option.some.inj hu'; cases v <;> simp [IsKey] at hk
   ·rw [hu] at hu'; obtain rfl := Option.some.inj hu'; cases v' <;> simp [IsKey] at hk'
   ·rw [hu] at hu'; obtain ⟨rfl, _⟩ := TypeDesc.array.inj (Option.some.inj hu'); omega
  obtain ⟨a, p1, fa⟩ := run_part_fit (w := w) hf e1
  obtain ⟨b, p2, fb⟩ := run_part_fit (w := w) hf' e2
  obtain ⟨r, hr, hiff⟩ := run_equal_fit (w := w) fa fb n
  have n1 : xs.toList.drop (off + us.length) = ws := by
   have := congrArg (List.drop us.length) e1
   rwa [List.drop_drop, List.drop_left] at this
  have n2 : ys.toList.drop (off + us.length) = zs := by
   have := congrArg (List.drop vs.length) e2
   rw [List.drop_drop, List.drop_left] at this
   rwa [hlen]
  rw [← hlen] at hr2
  obtain ⟨r', hr', hiff'⟩ := run_eqFields_fit n fs (off + us.length) ws zs xs ys (fun g hg => hall g (by simp [hg])) hr1 hr2 (by simp at hl; omega) n1 n2
  rw [← ho] at p1 p2
  simp only [Op.eqFields, hn, ne_eq, not_false_eq_true, if_true, Sem.run_bind, p1, p2, hr, Result.andThen_ok]
  cases r
  ·refine ⟨false, by simp, ?_⟩
   simp only [Bool.false_eq_true, false_iff]
   intro e
   have := (List.append_inj e hlen).1
   exact absurd (hiff.2 this) (by simp)
  ·refine ⟨r', by simpa using hr', ?_⟩
   rw [hiff', hiff.1 rfl]
   simp
theorem structCmp_iff {t : TypeId} {fs : Array Field} (hu : P.underlying t = some (.struct fs)) (h : structCmpB P t = true) :
  (∀ f ∈ fs.toList, f.name ≠ "_") ∧ P.stoodInHeld t = false ∧ P.eqGuardType P.depth t = false := by
 unfold structCmpB at h
 rw [hu] at h
 simp only [Bool.and_eq_true, List.all_eq_true, Bool.not_eq_true', bne_iff_ne] at h
 exact ⟨h.1, h.2.1, h.2.2⟩
theorem fieldsOf_eq {t : TypeId} {fs : Array Field} (hu : P.underlying t = some (.struct fs)) : P.fieldsOf t = fs := by
 unfold Program.fieldsOf
 rw [hu]
theorem run_equal_KV {t : TypeId} {a b : Value} (ha : KV P t a) (hb : KV P t b) : ∃ r : Bool, (Op.equal t a b).run P w = .ok r w ∧ (r = true ↔ a = b) := by
 rcases ha with ⟨d, hu, hk⟩ | ⟨fs, us, hu, hc, rfl, hf⟩ <;> rcases hb with ⟨d', hu', hk'⟩ | ⟨fs', vs, hu', hc', rfl, hf'⟩
 ·rw [hu] at hu'
  obtain rfl := Option.some.inj hu'
  exact run_equalIn_key (n := 9999) hu hk hk'
 ·rw [hu] at hu'
  obtain rfl := Option.some.inj hu'
  cases a <;> simp [IsKey] at hk
 ·rw [hu] at hu'
  obtain rfl := Option.some.inj hu'
  cases b <;> simp [IsKey] at hk'
 ·rw [hu] at hu'
  obtain rfl := TypeDesc.struct.inj (Option.some.inj hu')
  obtain ⟨h1, h2, _⟩ := structCmp_iff hu hc
  have hlen : ∀ {fs : List Field} {off : Nat} {l l' : List Value}, FitV P fs off l → FitV P fs off l' → l.length = l'.length := by
   intro fs
   induction fs with
   | nil => intro off l l' h h'; have h : l = [] := h; have h' : l' = [] := h'; rw [h, h']
   | cons f r ih =>
    intro off l l' h h'
    obtain ⟨a, b, rfl, _, hf, hr⟩ := h
    obtain ⟨a', b', rfl, _, hf', hr'⟩ := h'
    have e : a.length = a'.length := by
     rcases hf with ⟨d, v, hu, rfl, hk⟩ | ⟨m, e, d, hu, _, _, _, hm, _⟩ <;> rcases hf' with ⟨d', v', hu', rfl, hk'⟩ | ⟨m', e', d', hu', _, _, _, hm', _⟩
     ·rfl
     ·rw [hu] at hu'; obtain rfl := Option.some.inj hu'; cases v <;> simp [IsKey] at hk
     ·rw [hu] at hu'; obtain rfl := Option.some.inj hu'; cases v' <;> simp [IsKey] at hk'
     ·rw [hu] at hu'; obtain ⟨rfl, _⟩ := TypeDesc.array.inj (Option.some.inj hu'); omega
    rw [e] at hr
    simp only [List.length_append]
    rw [e, ih hr hr']
  obtain ⟨r, hr, hiff⟩ := run_eqFields_fit (P := P) (w := w) 9997 fs.toList 0 us vs us.toArray vs.toArray h1 hf hf' (hlen hf hf') (by simp) (by simp)
  have hrun := run_equalIn_struct (P := P) w 9999 t us.toArray vs.toArray (by rw [fieldsOf_eq hu]; exact hu) h2
  rw [fieldsOf_eq hu] at hrun
  refine ⟨r, hrun.trans hr, ?_⟩
  rw [hiff]
  simp
theorem run_guard_KV {t : TypeId} {a b : Value} (op : BinOp) (x y : Operand) (ha : KV P t a) (hb : KV P t b) : (eqGuard op t x y a b).run P w = .ok () w := by
 rcases ha with ⟨d, hu, hk⟩ | ⟨fs, us, hu, hc, rfl, hf⟩
 ·cases d <;> cases a <;> simp only [IsKey] at hk <;> cases op <;> cases b <;> rfl
 ·rcases hb with ⟨d', hu', hk'⟩ | ⟨fs', vs, hu', hc', rfl, hf'⟩
  ·cases d' <;> cases b <;> simp only [IsKey] at hk' <;> cases op <;> rfl
  ·obtain ⟨_, _, h3⟩ := structCmp_iff hu hc
   cases op <;> simp [eqGuard, h3]
theorem run_check_KV {t : TypeId} {a : Value} (em : Bool) (ha : KV P t a) : (Instr.checkKey em 10000 t a).run P w = .ok () w := by
 rcases ha with ⟨d, hu, hk⟩ | ⟨fs, us, hu, hc, rfl, hf⟩
 ·exact run_checkKey hu hk em 9999
 ·obtain ⟨h1, _, _⟩ := structCmp_iff hu hc
  show (Instr.checkKey em (9999 + 1) t (.agg us.toArray)).run P w = _
  unfold Instr.checkKey
  simp only [Sem.run_bind, run_underlying hu, Result.andThen_ok]
  rw [← Array.forIn_toList]
  obtain ⟨off, l, hoff, hfl⟩ : ∃ off l, us.toArray.toList.drop off = l ∧ FitV P fs.toList off l := ⟨0, us, by simp, hf⟩
  clear hf hc
  generalize fs.toList = L at h1 hfl ⊢
  induction L generalizing off l with
  | nil => simp
  | cons f L ih =>
   obtain ⟨ys, ws, rfl, ho, hff, hr1⟩ := hfl
   have hn := h1 f (by simp)
   obtain ⟨a, p1, fa⟩ := run_part_fit (w := w) hff hoff
   rw [← ho] at p1
   have n1 : us.toArray.toList.drop (off + ys.length) = ws := by
    have := congrArg (List.drop ys.length) hoff
    rwa [List.drop_drop, List.drop_left] at this
   have p2 := run_check_fit (w := w) fa em 9997
   simp only [List.forIn_cons, Sem.run_bind, hn, ne_eq, not_false_eq_true, if_true, Result.andThen_ok, p1, p2, Sem.run_pure]
   exact ih (off + ys.length) ws n1 (fun y hy => h1 y (by simp [hy])) hr1
theorem find_asking {t : TypeId} {k : Value} (hk : KV P t k) : ∀ (es : List MapEntry) (i : Nat), (∀ x ∈ es, KV P t x.key) →
  ((Instr.findAsking t k es i).run P w = .ok none w ∧ ∀ x ∈ es, x.key ≠ k) ∨ ∃ j e, (Instr.findAsking t k es i).run P w = .ok (some (i + j, e.val)) w ∧ es[j]? = some e ∧ e.key = k
 | [], i, _ => .inl ⟨by simp [Instr.findAsking], by simp⟩
 | e :: es, i, h => by
  obtain ⟨r, hr, hiff⟩ := run_equal_KV (w := w) hk (h e (by simp))
  cases r with
  | true => exact .inr ⟨0, e, by simp [Instr.findAsking, hr], rfl, (hiff.1 rfl).symm⟩
  | false =>
   have hne : e.key ≠ k := fun q => by have := hiff.2 q.symm; cases this
   rcases find_asking hk es (i + 1) (fun x hx => h x (by simp [hx])) with ⟨h1, h2⟩ | ⟨j, e', h1, h2, h3⟩
   ·exact .inl ⟨by simp [Instr.findAsking, hr, h1], fun x hx => by
     rcases List.mem_cons.1 hx with rfl | hx
     ·exact hne
     ·exact h2 x hx⟩
   ·refine .inr ⟨j + 1, e', ?_, by simpa using h2, h3⟩
    have e1 : i + 1 + j = i + (j + 1) := by omega
    rw [e1] at h1
    simp [Instr.findAsking, hr, h1]
theorem run_find_KV {t : TypeId} {k : Value} (hk : KV P t k) (es : List MapEntry) (h : ∀ x ∈ es, KV P t x.key) :
  ((Instr.findKey t k es).run P w = .ok none w ∧ ∀ x ∈ es, x.key ≠ k) ∨ ∃ j e, (Instr.findKey t k es).run P w = .ok (some (j, e.val)) w ∧ es[j]? = some e ∧ e.key = k := by
 rcases hk with ⟨d, hu, hkk⟩ | ⟨fs, us, hu, hc, rfl, hf⟩
 ·have hall : ∀ x ∈ es, IsKey d x.key := by
   intro x hx
   rcases h x hx with ⟨d', hu', hk'⟩ | ⟨fs', vs, hu', hc', he, hf'⟩
   ·rw [hu] at hu'
    obtain rfl := Option.some.inj hu'
    exact hk'
   ·rw [hu] at hu'
    obtain rfl := Option.some.inj hu'
    cases k <;> simp [IsKey] at hkk
  rcases findNow_spec hkk es 0 hall with ⟨h1, h2⟩ | ⟨j, e, h1, h2, h3⟩
  ·exact .inl ⟨run_findKey hu h1, h2⟩
  ·exact .inr ⟨j, e, by rw [run_findKey hu h1, Nat.zero_add], h2, h3⟩
 ·rw [run_findKey_eq w (by rw [hu]) (.agg us.toArray) es]
  rcases find_asking (w := w) (.inr ⟨fs, us, hu, hc, rfl, hf⟩ : KV P t (.agg us.toArray)) es 0 h with ⟨h1, h2⟩ | ⟨j, e, h1, h2, h3⟩
  ·exact .inl ⟨h1, h2⟩
  ·exact .inr ⟨j, e, by rw [h1, Nat.zero_add], h2, h3⟩
theorem sameBits_key {d : TypeDesc} {v : Value} (h : IsKey d v) (n : Nat) : Instr.sameBits n v v = true := by
 cases d <;> cases v <;> simp only [IsKey] at h <;> cases n <;> simp [Instr.sameBits]
 all_goals exact (bytes_beq _ _).2 rfl
theorem sameBits_KV {t : TypeId} {v : Value} (h : KV P t v) : Instr.sameBits 10000 v v = true := by
 rcases h with ⟨d, hu, hk⟩ | ⟨fs, us, hu, hc, rfl, hf⟩
 ·exact sameBits_key hk _
 ·have one : ∀ {t : TypeId} {l : List Value}, FitF P t l → (l.zip l).all (fun (x, y) => Instr.sameBits 9999 x y) = true := by
   intro t l h
   have go : ∀ (l : List Value), (∀ v ∈ l, ∃ d, IsKey d v) → (l.zip l).all (fun (x, y) => Instr.sameBits 9999 x y) = true := by
    intro l
    induction l with
    | nil => intro _; rfl
    | cons v l ih =>
     intro h
     obtain ⟨d, hk⟩ := h v (by simp)
     simp only [List.zip_cons_cons, List.all_cons, Bool.and_eq_true]
     exact ⟨sameBits_key hk _, ih fun y hy => h y (by simp [hy])⟩
   rcases h with ⟨d, v, _, rfl, hk⟩ | ⟨_, _, d, _, _, _, _, _, hall⟩
   ·exact go _ fun y hy => ⟨d, by rw [List.mem_singleton.1 hy]; exact hk⟩
   ·exact go _ fun y hy => ⟨d, hall y hy⟩
  have key : ∀ {fs : List Field} {off : Nat} {l : List Value}, FitV P fs off l → (l.zip l).all (fun (x, y) => Instr.sameBits 9999 x y) = true := by
   intro fs
   induction fs with
   | nil => intro off l h; have h : l = [] := h; rw [h]; rfl
   | cons f r ih =>
    intro off l h
    obtain ⟨us, ws, rfl, _, hf, hr⟩ := h
    rw [List.zip_append rfl, List.all_append, one hf, ih hr]
    rfl
  show Instr.sameBits (9999 + 1) _ _ = true
  unfold Instr.sameBits
  simp only [beq_self_eq_true, Bool.true_and]
  exact key hf
end
end Go.Eng
end

section
namespace Go.Eng
open Go.RowKit Go.MapKept
section
variable {P : Program} {β : Bd} {nid : Nat} {F : Nat → Prop} {w : World} {lk : Nat → Option AO} {k : Eff → Prop}
def boolAt (T : List (Nat × TI)) (t : Nat) : Bool :=
 match tget t T with
 | some ti => isBoolD ti.desc
 | none => false
def sliceAt (T : List (Nat × TI)) (t : Nat) : Bool :=
 match tget t T with
 | some ti => (sliceD ti.desc).isSome
 | none => false
def nilSlice : Value → Bool
 | .slice none 0 0 => true
 | _ => false
def ptrAt (T : List (Nat × TI)) (t : Nat) : Bool :=
 match tget t T with
 | some ti => (match ti.desc with
  | .pointer _ => true
  | _ => false)
 | none => false
def nilPtr : Value → Bool
 | .pointer none => true
 | _ => false
def binA (gc : Option Prop) (T : List (Nat × TI)) (lk : Nat → Option AO) (op : BinOp) (t : Nat) (a b : AV) (k : Eff → Prop) : Prop :=
 match a, b with
 | .i j x, .i j' y => (match Nat.beq (kn j) (kn j') with
  | true => (match op with
   | .quo => ob gc (y ≠ 0) (k (.ext [] (.i j (j.wrap (x.tdiv y)))))
   | .rem => ob gc (y ≠ 0) (k (.ext [] (.i j (x.tmod y))))
   | .shl => ob gc (0 ≤ y) (k (.ext [] (.i j (j.wrap (x * 2 ^ (min y.toNat j.bits))))))
   | .shr => ob gc (0 ≤ y) (k (.ext [] (.i j (x.fdiv (2 ^ (min y.toNat j.bits))))))
   | op => (match binI op j x y with
    | some r => k (.ext [] r)
    | none => False))
  | false => False)
 | .b x, .b y => (match boolAt T t, op with
  | true, .eql => k (.ext [] (.b (x == y)))
  | true, .neq => k (.ext [] (.b (x != y)))
  | _, _ => False)
 | .s x, .s y => (match op with
  | .eql => k (.ext [] (.b (bytesEq x y)))
  | .neq => k (.ext [] (.b (!bytesEq x y)))
  | _ => False)
 | .rs _ n _, .val v => (match nilSlice v, sliceAt T t, op with
  | true, true, .eql => ob gc (0 < n) (k (.ext [] (.b false)))
  | true, true, .neq => ob gc (0 < n) (k (.ext [] (.b true)))
  | _, _, _ => False)
 | .so id, .val v => (match nilSlice v, sliceAt T t, op, lk id with
  | true, true, .eql, some (.row _ _ n _) => ob gc (0 < n) (k (.ext [] (.b false)))
  | true, true, .neq, some (.row _ _ n _) => ob gc (0 < n) (k (.ext [] (.b true)))
  | _, _, _, _ => False)
 | .sv _ _ _ n, .val v => (match nilSlice v, sliceAt T t, op with
  | true, true, .eql => ob gc (0 < n) (k (.ext [] (.b false)))
  | true, true, .neq => ob gc (0 < n) (k (.ext [] (.b true)))
  | _, _, _ => False)
 | .ag xs, .ag ys => (match keyFit T t (.ag xs), keyFit T t (.ag ys), op with
  | true, true, .eql => k (.ext [] (.b (eqAVs xs ys)))
  | true, true, .neq => k (.ext [] (.b (!eqAVs xs ys)))
  | _, _, _ => False)
 | .p _ _, .val v => (match nilPtr v, ptrAt T t, op with
  | true, true, .eql => k (.ext [] (.b false))
  | true, true, .neq => k (.ext [] (.b true))
  | _, _, _ => False)
 | .rp _, .val v => (match nilPtr v, ptrAt T t, op with
  | true, true, .eql => k (.ext [] (.b false))
  | true, true, .neq => k (.ext [] (.b true))
  | _, _, _ => False)
 | .val u, .val v => (match nilPtr u, nilPtr v, ptrAt T t, op with
  | true, true, true, .eql => k (.ext [] (.b true))
  | true, true, true, .neq => k (.ext [] (.b false))
  | _, _, _, _ => (match nilSlice u, nilSlice v, sliceAt T t, op with
   | true, true, true, .eql => k (.ext [] (.b true))
   | true, true, true, .neq => k (.ext [] (.b false))
   | _, _, _, _ => False))
 | _, _ => False
theorem run_quo (t : TypeId) (j : IntKind) (x y : Int) (hy : y ≠ 0) : (binOp .quo t (.int j x) (.int j y)).run P w = .ok (.int j (j.wrap (x.tdiv y))) w := by
 simp [binOp, Op.intDiv, hy]
theorem run_rem (t : TypeId) (j : IntKind) (x y : Int) (hy : y ≠ 0) : (binOp .rem t (.int j x) (.int j y)).run P w = .ok (.int j (x.tmod y)) w := by
 simp [binOp, Op.intDiv, hy]
theorem run_shl (t : TypeId) (j : IntKind) (x y : Int) (hy : 0 ≤ y) : (binOp .shl t (.int j x) (.int j y)).run P w = .ok (.int j (j.wrap (x * 2 ^ (min y.toNat j.bits)))) w := by
 have : ¬ y < 0 := by omega
 simp [binOp, Op.shift, this]
theorem run_shr (t : TypeId) (j : IntKind) (x y : Int) (hy : 0 ≤ y) : (binOp .shr t (.int j x) (.int j y)).run P w = .ok (.int j (x.fdiv (2 ^ (min y.toNat j.bits)))) w := by
 have : ¬ y < 0 := by omega
 simp [binOp, Op.shift, this]
theorem boolAt_run {T : List (Nat × TI)} (hT : TabOk P T) {t : Nat} (h : boolAt T t = true) (x y : Bool) : (Op.equal t (.bool x) (.bool y)).run P w = .ok (x == y) w := by
 unfold boolAt at h
 split at h
 ·rename_i ti ht
  obtain ⟨hu, _⟩ := hT.get ht
  cases hd : ti.desc <;> simp [isBoolD, hd] at h
  rw [hd] at hu
  have he : ∀ d, (Op.equalIn (d + 1) t (.bool x) (.bool y)).run P w = .ok (x == y) w := fun d => by simp [Op.equalIn, run_underlying hu]
  exact he 9999
 ·cases h
theorem sliceAt_run {T : List (Nat × TI)} (hT : TabOk P T) {t : Nat} (h : sliceAt T t = true) (a : Option Addr) (n c : Nat) : (Op.equal t (.slice a n c) (.slice none 0 0)).run P w = .ok a.isNone w := by
 unfold sliceAt at h
 split at h
 ·rename_i ti ht
  obtain ⟨hu, _⟩ := hT.get ht
  cases hd : ti.desc <;> simp [sliceD, hd] at h
  rw [hd] at hu
  have he : ∀ d, (Op.equalIn (d + 1) t (.slice a n c) (.slice none 0 0)).run P w = .ok a.isNone w := fun d => by cases a <;> simp [Op.equalIn, run_underlying hu]
  exact he 9999
 ·cases h
theorem ptrAt_run {T : List (Nat × TI)} (hT : TabOk P T) {t : Nat} (h : ptrAt T t = true) (a : Option Addr) : (Op.equal t (.pointer a) (.pointer none)).run P w = .ok a.isNone w := by
 unfold ptrAt at h
 split at h
 ·rename_i ti ht
  obtain ⟨hu, _⟩ := hT.get ht
  split at h
  ·rename_i hd
   rw [hd] at hu
   have he : ∀ d, (Op.equalIn (d + 1) t (.pointer a) (.pointer none)).run P w = .ok a.isNone w := fun d => by cases a <;> simp [Op.equalIn, run_underlying hu]
   exact he 9999
  ·cases h
 ·cases h
theorem nilPtr_iff {v : Value} (h : nilPtr v = true) : v = .pointer none := by
 unfold nilPtr at h
 split at h
 ·rfl
 ·cases h
theorem nilSlice_iff {v : Value} (h : nilSlice v = true) : v = .slice none 0 0 := by
 unfold nilSlice at h
 split at h
 ·rfl
 ·cases h
def binRun (op : BinOp) (t : TypeId) (x y : Operand) (a b : Value) : Sem Value := do eqGuard op t x y a b; binOp op t a b
theorem guard_int (op : BinOp) (t : TypeId) (x y : Operand) (i j : IntKind) (a b : Int) : (eqGuard op t x y (.int i a) (.int j b)).run P w = .ok () w := by cases op <;> rfl
theorem guard_bool (op : BinOp) (t : TypeId) (x y : Operand) (a b : Bool) : (eqGuard op t x y (.bool a) (.bool b)).run P w = .ok () w := by cases op <;> rfl
theorem guard_string (op : BinOp) (t : TypeId) (x y : Operand) (a b : ByteArray) : (eqGuard op t x y (.string a) (.string b)).run P w = .ok () w := by cases op <;> rfl
theorem guard_slice (op : BinOp) (t : TypeId) (x y : Operand) (a b : Option Addr) (n c m d : Nat) : (eqGuard op t x y (.slice a n c) (.slice b m d)).run P w = .ok () w := by cases op <;> rfl
theorem guard_ptr (op : BinOp) (t : TypeId) (x y : Operand) (a b : Option Addr) : (eqGuard op t x y (.pointer a) (.pointer b)).run P w = .ok () w := by cases op <;> rfl
theorem Rep.rp_ptr {cs : List AV} {v : Value} (h : Rep β nid F w (.rp cs) v) : ∃ ad, v = .pointer (some ad) := by
 cases h with
 | pure _ _ h => cases h with
  | rp _ g off vs h1 h2 h3 h4 h5 => exact ⟨_, rfl⟩
theorem plainFit_lt {d : TypeDesc} {a : AV} (h : plainFit d a = true) : a.lt 0 = true := by
 cases d <;> cases a <;> simp [plainFit] at h <;> rfl
theorem fitDs_lts : ∀ {ds : List TypeDesc} {cs : List AV}, fitDs ds cs = true → AV.lts 0 cs = true
 | [], [], _ => rfl
 | [], _ :: _, h => by simp [fitDs] at h
 | _ :: _, [], h => by simp [fitDs] at h
 | d :: r, a :: cs, h => by
  unfold fitDs at h
  split at h
  ·rename_i h2
   unfold AV.lts
   rw [plainFit_lt h2]
   exact fitDs_lts h
  ·cases h
theorem keyFit_lt {T : List (Nat × TI)} {t : Nat} {a : AV} (h : keyFit T t a = true) : a.lt 0 = true := by
 unfold keyFit at h
 split at h
 ·split at h
  ·split at h
   ·exact fitDs_lts h
   ·cases h
  ·cases h
  ·exact plainFit_lt h
 ·cases h
theorem equal_ag {T : List (Nat × TI)} (hT : TabOk P T) {t : Nat} {xs ys : List AV} {u v : Value} (h1 : keyFit T t (.ag xs) = true) (h2 : keyFit T t (.ag ys) = true) (hu : Rep β nid F w (.ag xs) u) (hv : Rep β nid F w (.ag ys) v) :
  ∃ r : Bool, (Op.equal t u v).run P w = .ok r w ∧ r = eqAVs xs ys ∧ KV P t u ∧ KV P t v := by
 have hu0 := hu.toPure (keyFit_lt h1)
 have hv0 := hv.toPure (keyFit_lt h2)
 have k1 := keyFit_KV hT h1 hu0
 have k2 := keyFit_KV hT h2 hv0
 obtain ⟨r, hr, hiff⟩ := run_equal_KV (w := w) k1 k2
 refine ⟨r, hr, ?_, k1, k2⟩
 have hrep : eqAVs xs ys = true ↔ u = v := by
  unfold keyFit at h1 h2
  split at h1
  ·rename_i ti ht
   cases hfs : structFs ti.desc with
   | none =>
    rw [hfs] at h1
    cases hd : ti.desc <;> simp [plainFit, hd] at h1
   | some fs =>
    rw [ht] at h2
    dsimp only at h2
    rw [hfs] at h1 h2
    dsimp only at h1 h2
    split at h1
    ·rename_i dd hc hdd
     rw [hc, hdd] at h2
     cases hu0 with
     | ag _ us hl hrr =>
      cases hv0 with
      | ag _ vs hl' hrr' =>
       rw [(fitDs_eq h1 h2 hl hl' hrr hrr').1]
       simp
    ·cases h1
  ·cases h1
 rw [Bool.eq_iff_iff, hiff, hrep]
theorem binA_sound {gc : Option Prop} (hgc : ∀ c, gc = some c → c) (E : Env β nid F w lk) {T : List (Nat × TI)} (hT : TabOk P T) {op : BinOp} {t : Nat} {a b : AV} {u v : Value} (x y : Operand)
  (hu : Rep β nid F w a u) (hv : Rep β nid F w b v) (h : binA gc T lk op t a b k) : ∃ z, (binRun op t x y u v).run P w = .ok z w ∧ ∃ r, k (.ext [] r) ∧ Rep β nid F w r z := by
 unfold binA at h
 split at h
 ·rename_i j x' j' y'
  obtain rfl := hu.i_inv
  obtain rfl := hv.i_inv
  have hg := guard_int (P := P) (w := w) op t x y j j' x' y'
  split at h
  ·rename_i hk
   obtain rfl := kn_inj hk
   split at h
   ·obtain ⟨ho, h⟩ := ob_iff h hgc
    exact ⟨_, by unfold binRun; rw [Sem.run_bind, hg]; exact run_quo t j x' y' ho, _, h, .pure _ _ (.i _ _)⟩
   ·obtain ⟨ho, h⟩ := ob_iff h hgc
    exact ⟨_, by unfold binRun; rw [Sem.run_bind, hg]; exact run_rem t j x' y' ho, _, h, .pure _ _ (.i _ _)⟩
   ·obtain ⟨ho, h⟩ := ob_iff h hgc
    exact ⟨_, by unfold binRun; rw [Sem.run_bind, hg]; exact run_shl t j x' y' ho, _, h, .pure _ _ (.i _ _)⟩
   ·obtain ⟨ho, h⟩ := ob_iff h hgc
    exact ⟨_, by unfold binRun; rw [Sem.run_bind, hg]; exact run_shr t j x' y' ho, _, h, .pure _ _ (.i _ _)⟩
   ·split at h
    ·rename_i r hr
     obtain ⟨z, hz, hrep⟩ := binI_sound (P := P) (w := w) t hr
     exact ⟨z, by unfold binRun; rw [Sem.run_bind, hg]; exact hz, r, h, .pure _ _ (hrep.stable (fun _ _ h => absurd trivial h) (fun _ _ _ => rfl) (Nat.le_refl _))⟩
    ·exact h.elim
  ·exact h.elim
 ·rename_i x' y'
  obtain rfl := hu.b_inv
  obtain rfl := hv.b_inv
  have hg := fun op => guard_bool (P := P) (w := w) op t x y x' y'
  split at h
  ·rename_i hb
   refine ⟨.bool (x' == y'), ?_, _, h, .pure _ _ (.b _)⟩
   unfold binRun
   rw [Sem.run_bind, hg]
   simp [binOp, boolAt_run hT hb]
  ·rename_i hb
   refine ⟨.bool (x' != y'), ?_, _, h, .pure _ _ (.b _)⟩
   unfold binRun
   rw [Sem.run_bind, hg]
   simp [binOp, boolAt_run hT hb, bne]
  ·exact h.elim
 ·rename_i x' y'
  obtain rfl := hu.s_inv
  obtain rfl := hv.s_inv
  have hg := fun op => guard_string (P := P) (w := w) op t x y x' y'
  split at h
  ·refine ⟨.bool (bytesEq x' y'), ?_, _, h, .pure _ _ (.b _)⟩
   unfold binRun
   rw [Sem.run_bind, hg]
   simp [binOp, Op.stringOp, bytesEq]
  ·refine ⟨.bool (!bytesEq x' y'), ?_, _, h, .pure _ _ (.b _)⟩
   unfold binRun
   rw [Sem.run_bind, hg]
   simp [binOp, Op.stringOp, bytesEq]
  ·exact h.elim
 ·rename_i sz n get v'
  obtain rfl := hv.val_inv
  split at h
  ·rename_i hn ht
   obtain ⟨ho, h⟩ := ob_iff h hgc
   obtain rfl := nilSlice_iff hn
   have hu0 := hu.rs_inv
   cases hu0 with
   | rsnil => omega
   | rsz => omega
   | rs _ _ _ g off cap =>
    refine ⟨.bool false, ?_, _, h, .pure _ _ (.b _)⟩
    unfold binRun
    rw [Sem.run_bind, guard_slice]
    simp [binOp, sliceAt_run hT ht]
  ·rename_i hn ht
   obtain ⟨ho, h⟩ := ob_iff h hgc
   obtain rfl := nilSlice_iff hn
   have hu0 := hu.rs_inv
   cases hu0 with
   | rsnil => omega
   | rsz => omega
   | rs _ _ _ g off cap =>
    refine ⟨.bool true, ?_, _, h, .pure _ _ (.b _)⟩
    unfold binRun
    rw [Sem.run_bind, guard_slice]
    simp [binOp, sliceAt_run hT ht]
  ·exact h.elim
 ·rename_i id v'
  obtain rfl := hv.val_inv
  obtain ⟨hid, rfl⟩ := hu.so_inv
  split at h
  ·rename_i e sz n get hn ht hlk
   obtain ⟨ho, h⟩ := ob_iff h hgc
   obtain rfl := nilSlice_iff hn
   obtain ⟨_, xs, hx, _⟩ := E.obj id _ hlk
   rcases hx.2 with ⟨_, hn0⟩ | ⟨_, _, hn0⟩ | ⟨g, o, cap, cur, hv', _⟩
   ·omega
   ·omega
   ·refine ⟨.bool false, ?_, _, h, .pure _ _ (.b _)⟩
    rw [hv']
    unfold binRun
    rw [Sem.run_bind, guard_slice]
    simp [binOp, sliceAt_run hT ht]
  ·rename_i e sz n get hn ht hlk
   obtain ⟨ho, h⟩ := ob_iff h hgc
   obtain rfl := nilSlice_iff hn
   obtain ⟨_, xs, hx, _⟩ := E.obj id _ hlk
   rcases hx.2 with ⟨_, hn0⟩ | ⟨_, _, hn0⟩ | ⟨g, o, cap, cur, hv', _⟩
   ·omega
   ·omega
   ·refine ⟨.bool true, ?_, _, h, .pure _ _ (.b _)⟩
    rw [hv']
    unfold binRun
    rw [Sem.run_bind, guard_slice]
    simp [binOp, sliceAt_run hT ht]
  ·exact h.elim
 ·rename_i id sz lo n v'
  obtain rfl := hv.val_inv
  obtain ⟨hid, hsv⟩ := hu.sv_inv
  split at h
  ·rename_i hn ht
   obtain ⟨ho, h⟩ := ob_iff h hgc
   obtain rfl := nilSlice_iff hn
   rcases hsv with ⟨_, hn0, _⟩ | ⟨_, _, hn0, _⟩ | ⟨g, o, m, c, hval, hlo, hloc, rfl⟩
   ·omega
   ·omega
   ·refine ⟨.bool false, ?_, _, h, .pure _ _ (.b _)⟩
    unfold binRun
    rw [Sem.run_bind, guard_slice]
    simp [binOp, sliceAt_run hT ht]
  ·rename_i hn ht
   obtain ⟨ho, h⟩ := ob_iff h hgc
   obtain rfl := nilSlice_iff hn
   rcases hsv with ⟨_, hn0, _⟩ | ⟨_, _, hn0, _⟩ | ⟨g, o, m, c, hval, hlo, hloc, rfl⟩
   ·omega
   ·omega
   ·refine ⟨.bool true, ?_, _, h, .pure _ _ (.b _)⟩
    unfold binRun
    rw [Sem.run_bind, guard_slice]
    simp [binOp, sliceAt_run hT ht]
  ·exact h.elim
 ·rename_i xs ys
  split at h
  ·rename_i h1 h2
   obtain ⟨r, hrun, hiff, hk1, hk2⟩ := equal_ag hT h1 h2 hu hv
   refine ⟨.bool (eqAVs xs ys), ?_, _, h, .pure _ _ (.b _)⟩
   unfold binRun
   rw [Sem.run_bind, run_guard_KV .eql x y hk1 hk2, ← hiff]
   obtain ⟨us, rfl, _⟩ := hu.ag_inv
   obtain ⟨vs, rfl, _⟩ := hv.ag_inv
   simp [binOp, hrun]
  ·rename_i h1 h2
   obtain ⟨r, hrun, hiff, hk1, hk2⟩ := equal_ag hT h1 h2 hu hv
   refine ⟨.bool (!eqAVs xs ys), ?_, _, h, .pure _ _ (.b _)⟩
   unfold binRun
   rw [Sem.run_bind, run_guard_KV .neq x y hk1 hk2, ← hiff]
   obtain ⟨us, rfl, _⟩ := hu.ag_inv
   obtain ⟨vs, rfl, _⟩ := hv.ag_inv
   simp [binOp, hrun]
  ·exact h.elim
 ·rename_i id off v'
  obtain rfl := hv.val_inv
  obtain ⟨_, rfl⟩ := hu.p_inv
  split at h
  ·rename_i hn ht
   obtain rfl := nilPtr_iff hn
   refine ⟨.bool false, ?_, _, h, .pure _ _ (.b _)⟩
   unfold binRun
   rw [Sem.run_bind, guard_ptr]
   simp [binOp, ptrAt_run hT ht]
  ·rename_i hn ht
   obtain rfl := nilPtr_iff hn
   refine ⟨.bool true, ?_, _, h, .pure _ _ (.b _)⟩
   unfold binRun
   rw [Sem.run_bind, guard_ptr]
   simp [binOp, ptrAt_run hT ht]
  ·exact h.elim
 ·rename_i cs v'
  obtain rfl := hv.val_inv
  obtain ⟨ad, rfl⟩ := hu.rp_ptr
  split at h
  ·rename_i hn ht
   obtain rfl := nilPtr_iff hn
   refine ⟨.bool false, ?_, _, h, .pure _ _ (.b _)⟩
   unfold binRun
   rw [Sem.run_bind, guard_ptr]
   simp [binOp, ptrAt_run hT ht]
  ·rename_i hn ht
   obtain rfl := nilPtr_iff hn
   refine ⟨.bool true, ?_, _, h, .pure _ _ (.b _)⟩
   unfold binRun
   rw [Sem.run_bind, guard_ptr]
   simp [binOp, ptrAt_run hT ht]
  ·exact h.elim
 ·rename_i u' v'
  obtain rfl := hv.val_inv
  obtain rfl := hu.val_inv
  split at h
  ·rename_i hn1 hn2 ht
   obtain rfl := nilPtr_iff hn1
   obtain rfl := nilPtr_iff hn2
   refine ⟨.bool true, ?_, _, h, .pure _ _ (.b _)⟩
   unfold binRun
   rw [Sem.run_bind, guard_ptr]
   simp [binOp, ptrAt_run hT ht]
  ·rename_i hn1 hn2 ht
   obtain rfl := nilPtr_iff hn1
   obtain rfl := nilPtr_iff hn2
   refine ⟨.bool false, ?_, _, h, .pure _ _ (.b _)⟩
   unfold binRun
   rw [Sem.run_bind, guard_ptr]
   simp [binOp, ptrAt_run hT ht]
  ·split at h
   ·rename_i hn1 hn2 ht _ _
    obtain rfl := nilSlice_iff hn1
    obtain rfl := nilSlice_iff hn2
    refine ⟨.bool true, ?_, _, h, .pure _ _ (.b _)⟩
    unfold binRun
    rw [Sem.run_bind, guard_slice]
    simp [binOp, sliceAt_run hT ht]
   ·rename_i hn1 hn2 ht _ _
    obtain rfl := nilSlice_iff hn1
    obtain rfl := nilSlice_iff hn2
    refine ⟨.bool false, ?_, _, h, .pure _ _ (.b _)⟩
    unfold binRun
    rw [Sem.run_bind, guard_slice]
    simp [binOp, sliceAt_run hT ht]
   ·exact h.elim
 ·exact h.elim
def unA (op : UnOp) (a : AV) (k : Eff → Prop) : Prop :=
 match op, a with
 | .not, .b x => k (.ext [] (.b (!x)))
 | .neg, .i j n => k (.ext [] (.i j (j.wrap (0 - n))))
 | _, _ => False
theorem unA_sound {op : UnOp} {a : AV} {v : Value} (hv : Rep β nid F w a v) (h : unA op a k) : ∃ z, (Op.unary op v).run P w = .ok z w ∧ ∃ r, k (.ext [] r) ∧ Rep β nid F w r z := by
 unfold unA at h
 split at h
 ·obtain rfl := hv.b_inv
  exact ⟨_, rfl, _, h, .pure _ _ (.b _)⟩
 ·obtain rfl := hv.i_inv
  exact ⟨_, rfl, _, h, .pure _ _ (.i _ _)⟩
 ·exact h.elim
def convA (T : List (Nat × TI)) (src dst : Nat) (a : AV) (k : Eff → Prop) : Prop :=
 match tget src T, tget dst T, a with
 | some _, some td, .i _ n => (match intD td.desc with
  | some j => k (.ext [] (.i j (j.wrap n)))
  | none => False)
 | some ts, some td, .s x => (match isStringD ts.desc, isStringD td.desc with
  | true, true => k (.ext [] (.s x))
  | _, _ => False)
 | _, _, _ => False
theorem convA_sound {T : List (Nat × TI)} (hT : TabOk P T) {src dst : Nat} {a : AV} {v : Value} (hv : Rep β nid F w a v) (h : convA T src dst a k) : ∃ z, (convert src dst v).run P w = .ok z w ∧ ∃ r, k (.ext [] r) ∧ Rep β nid F w r z := by
 unfold convA at h
 split at h
 ·rename_i ts td j' n h1 h2
  obtain rfl := hv.i_inv
  split at h
  ·rename_i j hj
   obtain ⟨hu1, _⟩ := hT.get h1
   obtain ⟨hu2, _⟩ := hT.get h2
   refine ⟨.int j (j.wrap n), ?_, _, h, .pure _ _ (.i _ _)⟩
   cases hd : td.desc <;> simp [intD, hd] at hj
   subst hj
   rw [hd] at hu2
   simp [convert, run_underlying hu1, run_underlying hu2, Conv.intToInt]
  ·exact h.elim
 ·rename_i ts td x h1 h2
  obtain rfl := hv.s_inv
  split at h
  ·rename_i hs1 hs2
   obtain ⟨hu1, _⟩ := hT.get h1
   obtain ⟨hu2, _⟩ := hT.get h2
   refine ⟨.string x, ?_, _, h, .pure _ _ (.s _)⟩
   cases hd1 : ts.desc <;> simp [isStringD, hd1] at hs1
   cases hd2 : td.desc <;> simp [isStringD, hd2] at hs2
   rw [hd1] at hu1
   rw [hd2] at hu2
   simp [convert, run_underlying hu1, run_underlying hu2]
  ·exact h.elim
 ·exact h.elim
def nilCheckA (a : AV) (k : Eff → Prop) : Prop :=
 match a with
 | .p id off => k (.ext [] (.p id off))
 | .pe id sz idx off => k (.ext [] (.pe id sz idx off))
 | .rp cs => k (.ext [] (.rp cs))
 | _ => False
def lenA (T : List (Nat × TI)) (lk : Nat → Option AO) (t : Nat) (a : AV) (k : Eff → Prop) : Prop :=
 match tget t T with
 | some ti => (match a with
  | .rs _ n _ => (match sliceD ti.desc with
   | some _ => k (.ext [] (.i .i64 n))
   | none => False)
  | .so id => (match sliceD ti.desc, lk id with
   | some _, some (.row _ _ n _) => k (.ext [] (.i .i64 n))
   | _, _ => False)
  | .val v => (match sliceD ti.desc, nilSlice v with
   | some _, true => k (.ext [] (.i .i64 0))
   | _, _ => False)
  | .sv _ _ _ n => (match sliceD ti.desc with
   | some _ => k (.ext [] (.i .i64 n))
   | none => False)
  | .mo id => (match isMapD ti.desc, lk id with
   | true, some (.mp n _ _ _ _) => k (.ext [] (.i .i64 n))
   | _, _ => False)
  | .rm n _ _ => (match isMapD ti.desc with
   | true => k (.ext [] (.i .i64 n))
   | false => False)
  | .s x => (match isStringD ti.desc with
   | true => k (.ext [] (.i .i64 x.size))
   | false => False)
  | _ => False)
 | none => False
theorem len_slice_run {T : List (Nat × TI)} (hT : TabOk P T) {t e : Nat} {ti : TI} (h1 : tget t T = some ti) (h2 : sliceD ti.desc = some e) (ty : TypeId) (a : Option Addr) (n c : Nat) (ts : Array TypeId) (hts : ts[0]? = some t) :
  (Builtin.len_ ts ty #[.slice a n c]).run P w = .ok (.int .i64 n) w := by
 obtain ⟨hu, _⟩ := hT.get h1
 cases hd : ti.desc <;> simp [sliceD, hd] at h2
 rw [hd] at hu
 simp [Builtin.len_, hts, run_underlying hu, goInt]
theorem lenA_sound (E : Env β nid F w lk) {T : List (Nat × TI)} (hT : TabOk P T) {t : Nat} {a : AV} {v : Value} (ty : TypeId) (ts : Array TypeId) (hts : ts[0]? = some t) (hv : Rep β nid F w a v)
  (h : lenA T lk t a k) : ∃ z, (Builtin.len_ ts ty #[v]).run P w = .ok z w ∧ ∃ r, k (.ext [] r) ∧ Rep β nid F w r z := by
 unfold lenA at h
 split at h
 ·rename_i ti h1
  split at h
  ·rename_i sz n get
   split at h
   ·rename_i e h2
    have hv0 := hv.rs_inv
    cases hv0 with
    | rsnil => exact ⟨_, len_slice_run hT h1 h2 ty none 0 0 ts hts, _, h, .pure _ _ (.i _ _)⟩
    | rsz _ _ a => exact ⟨_, len_slice_run hT h1 h2 ty (some a) 0 0 ts hts, _, h, .pure _ _ (.i _ _)⟩
    | rs _ _ _ g off cap => exact ⟨_, len_slice_run hT h1 h2 ty _ n cap ts hts, _, h, .pure _ _ (.i _ _)⟩
   ·exact h.elim
  ·rename_i id
   obtain ⟨hid, rfl⟩ := hv.so_inv
   split at h
   ·rename_i e _ sz n get h2 hlk
    obtain ⟨_, xs, hx, _⟩ := E.obj id _ hlk
    rcases hx.2 with ⟨hnil, hn0⟩ | ⟨a0, h0, hn0⟩ | ⟨g, o, cap, cur, hv', _⟩
    ·rw [hnil]
     subst hn0
     exact ⟨_, len_slice_run hT h1 h2 ty none 0 0 ts hts, _, h, .pure _ _ (.i _ _)⟩
    ·rw [h0]
     subst hn0
     exact ⟨_, len_slice_run hT h1 h2 ty _ 0 0 ts hts, _, h, .pure _ _ (.i _ _)⟩
    ·rw [hv']
     exact ⟨_, len_slice_run hT h1 h2 ty _ n (cap + 1) ts hts, _, h, .pure _ _ (.i _ _)⟩
   ·exact h.elim
  ·rename_i v'
   obtain rfl := hv.val_inv
   split at h
   ·rename_i e h2 hn
    obtain rfl := nilSlice_iff hn
    exact ⟨_, len_slice_run hT h1 h2 ty none 0 0 ts hts, _, h, .pure _ _ (.i _ _)⟩
   ·exact h.elim
  ·rename_i id sz lo n
   obtain ⟨hid, hsv⟩ := hv.sv_inv
   split at h
   ·rename_i e h2
    rcases hsv with ⟨rfl, hn0, _⟩ | ⟨a0, rfl, hn0, _⟩ | ⟨g, o, m, c, hval, hlo, hloc, rfl⟩
    ·subst hn0
     exact ⟨_, len_slice_run hT h1 h2 ty none 0 0 ts hts, _, h, .pure _ _ (.i _ _)⟩
    ·subst hn0
     exact ⟨_, len_slice_run hT h1 h2 ty _ 0 0 ts hts, _, h, .pure _ _ (.i _ _)⟩
    ·exact ⟨_, len_slice_run hT h1 h2 ty _ n (c - lo) ts hts, _, h, .pure _ _ (.i _ _)⟩
   ·exact h.elim
  ·rename_i id
   obtain ⟨hid, rfl⟩ := hv.mo_inv
   split at h
   ·rename_i n key val born clock hm hlk
    obtain ⟨_, es, hh, hn, _⟩ := E.obj id _ hlk
    obtain ⟨hu, _⟩ := hT.get h1
    cases hd : ti.desc <;> simp [isMapD, hd] at hm
    rw [hd] at hu
    refine ⟨.int .i64 n, ?_, _, h, .pure _ _ (.i _ _)⟩
    simp [Builtin.len_, hts, run_underlying hu, Go.MapKept.run_getObj_map hh, goInt, hn]
   ·exact h.elim
  ·rename_i n key val
   have hv0 := hv.rm_inv
   split at h
   ·rename_i hm
    obtain ⟨hu, _⟩ := hT.get h1
    cases hd : ti.desc <;> simp [isMapD, hd] at hm
    rw [hd] at hu
    cases hv0 with
    | rmnil => exact ⟨.int .i64 0, by simp [Builtin.len_, hts, run_underlying hu, goInt], _, h, .pure _ _ (.i _ _)⟩
    | rm _ _ _ g es clock hF hg hn ho hk hvv => exact ⟨.int .i64 n, by simp [Builtin.len_, hts, run_underlying hu, Go.MapKept.run_getObj_map hg, goInt, hn], _, h, .pure _ _ (.i _ _)⟩
   ·exact h.elim
  ·rename_i x
   obtain rfl := hv.s_inv
   split at h
   ·rename_i hs
    obtain ⟨hu, _⟩ := hT.get h1
    cases hd : ti.desc <;> simp [isStringD, hd] at hs
    rw [hd] at hu
    exact ⟨.int .i64 x.size, by simp [Builtin.len_, hts, run_underlying hu, goInt], _, h, .pure _ _ (.i _ _)⟩
   ·exact h.elim
  ·exact h.elim
 ·exact h.elim
def maxA (a b : AV) (k : Eff → Prop) : Prop :=
 match a, b with
 | .i j x, .i _ y => k (.ext [] (.i j (max x y)))
 | _, _ => False
def minA (a b : AV) (k : Eff → Prop) : Prop :=
 match a, b with
 | .i j x, .i _ y => k (.ext [] (.i j (min x y)))
 | _, _ => False
theorem maxA_sound {a b : AV} {u v : Value} (ts : Array TypeId) (ty : TypeId) (hu : Rep β nid F w a u) (hv : Rep β nid F w b v) (h : maxA a b k) : ∃ z, (Builtin.max_ ts ty #[u, v]).run P w = .ok z w ∧ ∃ r, k (.ext [] r) ∧ Rep β nid F w r z := by
 unfold maxA at h
 split at h
 ·rename_i j x j' y
  obtain rfl := hu.i_inv
  obtain rfl := hv.i_inv
  refine ⟨.int j (max x y), ?_, _, h, .pure _ _ (.i _ _)⟩
  have e : (if x < y then y else x) = max x y := by split <;> omega
  simp [Builtin.max_, Builtin.max2, e]
 ·exact h.elim
theorem minA_sound {a b : AV} {u v : Value} (ts : Array TypeId) (ty : TypeId) (hu : Rep β nid F w a u) (hv : Rep β nid F w b v) (h : minA a b k) : ∃ z, (Builtin.min_ ts ty #[u, v]).run P w = .ok z w ∧ ∃ r, k (.ext [] r) ∧ Rep β nid F w r z := by
 unfold minA at h
 split at h
 ·rename_i j x j' y
  obtain rfl := hu.i_inv
  obtain rfl := hv.i_inv
  refine ⟨.int j (min x y), ?_, _, h, .pure _ _ (.i _ _)⟩
  have e : (if y < x then y else x) = min x y := by split <;> omega
  simp [Builtin.min_, Builtin.min2, e]
 ·exact h.elim
end
end Go.Eng
end

section
namespace Go.Eng
open Go.RowKit
section
variable {P : Program} {β : Bd} {nid : Nat} {F : Nat → Prop} {w : World} {lk : Nat → Option AO} {k : Eff → Prop}
def fillK (pl : Nat → Option (Nat × Nat)) : List (Nat × AV) → List AV → (List AV → Prop) → Prop
 | [], flat, k => k flat
 | (i, a) :: r, flat, k => match pl i with
  | none => False
  | some (off, sz) => cellsK a fun cs => match cs with
   | [] => False
   | c :: cs => (match Nat.beq (c :: cs).length sz with
    | true => overK off (c :: cs) flat fun flat' => fillK pl r flat' k
    | false => False)
theorem fold_set (off : Nat) : ∀ (l : List Value) (m : Nat) (cells : Array Value) , off + m + l.length ≤ cells.size →
  ((l.zipIdx m).foldl (fun cs (c, j) => cs.setIfInBounds (off + j) c) cells).size = cells.size ∧
  ∀ q : Nat, ((l.zipIdx m).foldl (fun cs (c, j) => cs.setIfInBounds (off + j) c) cells)[q]? = if off + m ≤ q ∧ q < off + m + l.length then l[q - (off + m)]? else cells[q]?
 | [], m, cells, _ => ⟨rfl, fun q => by
   rw [if_neg (by simp)]
   rfl⟩
 | c :: l, m, cells, h => by
  have ih := fold_set off l (m + 1) (cells.setIfInBounds (off + m) c) (by simp at h ⊢; omega)
  simp only [List.zipIdx_cons, List.foldl_cons]
  refine ⟨by rw [ih.1]; simp, fun q => ?_⟩
  rw [ih.2 q]
  simp only [List.length_cons] at h ⊢
  by_cases h1 : off + (m + 1) ≤ q ∧ q < off + (m + 1) + l.length
  ·rw [if_pos h1, if_pos (by omega)]
   have e : q - (off + m) = q - (off + (m + 1)) + 1 := by omega
   rw [e, List.getElem?_cons_succ]
  ·rw [if_neg h1, Array.getElem?_setIfInBounds]
   by_cases h2 : off + m = q
   ·subst h2
    rw [if_pos rfl, if_pos (by omega), if_pos (by omega)]
    simp
   ·rw [if_neg h2, if_neg (by omega)]
def CellsRel (β : Bd) (nid : Nat) (F : Nat → Prop) (w : World) (flat : List AV) (cells : Array Value) : Prop :=
 flat.length = cells.size ∧ ∀ (j : Nat) (h1 : j < flat.length) (h2 : j < cells.size), Rep β nid F w flat[j] cells[j] ∧ cells[j].oneCell' = true
theorem fillK_sound (pl : Nat → Option (Nat × Nat)) : ∀ (parts : List (Nat × AV)) (vals : List (Nat × Value)) (flat : List AV) (cells : Array Value) {q : List AV → Prop},
  parts.length = vals.length → (∀ (j : Nat) (h1 : j < parts.length) (h2 : j < vals.length), parts[j].1 = vals[j].1 ∧ Rep β nid F w parts[j].2 vals[j].2) →
  CellsRel β nid F w flat cells → fillK pl parts flat q →
  ∃ flat' cells', Instr.fill pl cells vals = some cells' ∧ CellsRel β nid F w flat' cells' ∧ q flat' ∧ cells'.size = cells.size
 | [], [], flat, cells, q, _, _, hrel, h => ⟨flat, cells, rfl, hrel, h, rfl⟩
 | [], _ :: _, _, _, _, hl, _, _, _ => by simp at hl
 | _ :: _, [], _, _, _, hl, _, _, _ => by simp at hl
 | (i, a) :: r, (i', v) :: rv, flat, cells, q, hl, hr, hrel, h => by
  have h0 := hr 0 (by simp) (by simp)
  simp only [List.getElem_cons_zero] at h0
  obtain ⟨rfl, hv⟩ := h0
  unfold fillK at h
  split at h
  ·exact h.elim
  ·rename_i off sz hpl
   have hq := cellsK_iff h
   clear h
   obtain ⟨cs, h, hcs⟩ := hq
   obtain ⟨vs, hvc, hlen, hus⟩ := cells_rep hv hcs
   split at h
   ·exact h.elim
   ·rename_i c cs
    split at h
    ·rename_i hsz
     have hsz : (c :: cs).length = sz := by simpa using hsz
     obtain ⟨hfit, h⟩ := overK_iff h
     have hfit : off + (c :: cs).length ≤ flat.length := hfit.resolve_left (by simp)
     have hfs := fold_set off vs 0 cells (by rw [← hrel.1, ← hlen]; simpa using hfit)
     simp only [Nat.add_zero] at hfs
     have hrel' : CellsRel β nid F w (over off (c :: cs) flat) ((vs.zipIdx 0).foldl (fun cs (c, j) => cs.setIfInBounds (off + j) c) cells) := by
      refine ⟨by rw [over_len hfit, hfs.1]; exact hrel.1, fun j h1 h2 => ?_⟩
      have hj : ((vs.zipIdx 0).foldl (fun cs (c, j) => cs.setIfInBounds (off + j) c) cells)[j]? = some (((vs.zipIdx 0).foldl (fun cs (c, j) => cs.setIfInBounds (off + j) c) cells)[j]) := Array.getElem?_eq_getElem h2
      rw [hfs.2 j] at hj
      rw [(over_get hfit j h1).2]
      by_cases hin : off ≤ j ∧ j < off + (c :: cs).length
      ·rw [dif_pos hin]
       rw [if_pos (by rw [← hlen]; exact hin), List.getElem?_eq_getElem (by omega)] at hj
       rw [← Option.some.inj hj]
       exact hus (j - off) (by omega) (by omega)
      ·rw [dif_neg hin]
       rw [over_len hfit] at h1
       have h1' := h1
       rw [hrel.1] at h1'
       rw [if_neg (by rw [← hlen]; exact hin), Array.getElem?_eq_getElem h1'] at hj
       rw [← Option.some.inj hj]
       exact hrel.2 j h1 h1'
     obtain ⟨flat', cells', hfill, hrel'', hq, hcsz⟩ := fillK_sound pl r rv _ _ (by simpa using hl) (fun j h1 h2 => hr (j + 1) (Nat.succ_lt_succ h1) (Nat.succ_lt_succ h2)) hrel' h
     refine ⟨flat', cells', ?_, hrel'', hq, hcsz.trans hfs.1⟩
     have hvs : v.cells.size = sz := by rw [hvc]; simp; omega
     have hcond : ¬ (v.cells.size ≠ sz ∨ off + v.cells.size > cells.size) := by
      have := hrel.1
      omega
     have hzip : v.cells.zipIdx.foldl (fun cs (c, j) => cs.setIfInBounds (off + j) c) cells = (vs.zipIdx 0).foldl (fun cs (c, j) => cs.setIfInBounds (off + j) c) cells := by
      rw [hvc]
      simp
     have hc2 : (decide (v.cells.size ≠ sz) || decide (off + v.cells.size > cells.size)) = false := by
      simp only [Bool.or_eq_false_iff, decide_eq_false_iff_not]
      exact ⟨fun h => hcond (.inl h), fun h => hcond (.inr h)⟩
     simp only [Instr.fill, hpl]
     rw [if_neg (by rw [hc2]; simp), hzip]
     exact hfill
    ·exact h.elim
def repL (l : List AV) : Nat → List AV
 | 0 => []
 | n + 1 => l ++ repL l n
def appL : List AV → List AV → List AV
 | [], m => m
 | a :: r, m => a :: appL r m
def repK (z : List AV) : Nat → (List AV → Prop) → Prop
 | 0, k => k []
 | n + 1, k => repK z n fun l => k (appL z l)
theorem appL_eq : ∀ l m : List AV, appL l m = l ++ m
 | [], m => rfl
 | a :: r, m => by simp [appL, appL_eq r m]
theorem repK_iff {z : List AV} : ∀ {n : Nat} {q : List AV → Prop}, repK z n q → q (repL z n)
 | 0, _, h => h
 | n + 1, q, h => by
  have := repK_iff (n := n) h
  rwa [appL_eq] at this
theorem length_repL (z : List AV) : ∀ n, (repL z n).length = n * z.length
 | 0 => by simp [repL]
 | n + 1 => by simp [repL, length_repL z n, Nat.succ_mul, Nat.add_comm]
theorem repL_get (z : List AV) : ∀ (n j : Nat) (h : j < (repL z n).length) (hz : j % z.length < z.length), (repL z n)[j] = z[j % z.length]
 | 0, j, h, _ => by simp [repL] at h
 | n + 1, j, h, hz => by
  simp only [repL] at h ⊢
  by_cases hj : j < z.length
  ·rw [List.getElem_append_left hj]
   congr 1
   exact (Nat.mod_eq_of_lt hj).symm
  ·rw [List.getElem_append_right (by omega)]
   have e : (j - z.length) % z.length = j % z.length := (Nat.mod_eq_sub_mod (by omega)).symm
   rw [repL_get z n _ _ (by rw [e]; exact hz)]
   congr 1
def zeroL (v : Value) : List AV :=
 match avOf v with
 | .ag l => l
 | a => [a]
theorem zeroL_spec (v : Value) : (zeroL v).length = v.cells.size ∧ ∀ (j : Nat) (h1 : j < (zeroL v).length) (h2 : j < v.cells.size), Rep0 F w (zeroL v)[j] v.cells[j] := by
 have base : ∀ v : Value, (∀ l, v ≠ .agg l) → zeroL v = [avOf1 v] ∧ v.cells = #[v] := by
  intro v hv
  cases v <;> first | exact ⟨rfl, rfl⟩ | exact absurd rfl (hv _)
 by_cases hv : ∃ l, v = .agg l
 ·obtain ⟨⟨l⟩, rfl⟩ := hv
  exact ⟨(avOf1s_spec (F := F) (w := w) l).1, fun j h1 h2 => (avOf1s_spec (F := F) (w := w) l).2 j h1 h2⟩
 ·have hb := base v (fun l h => hv ⟨l, h⟩)
  refine ⟨by rw [hb.1, hb.2]; rfl, fun j h1 h2 => ?_⟩
  have h2' := h2
  rw [hb.2] at h2'
  have hj : j = 0 := by simpa using h2'
  subst hj
  have e1 : (zeroL v)[0] = avOf1 v := by simp [hb.1]
  have e2 : v.cells[0] = v := by simp [hb.2]
  rw [e1, e2]
  exact rep_avOf1 v
def rowOf (sz : Nat) (flat : List AV) (q : Nat) : List AV := (flat.drop (q * sz)).take sz
def allOne : List Value → Bool
 | [] => true
 | v :: r => match v.oneCell' with
  | true => allOne r
  | false => false
theorem allOne_get : ∀ {l : List Value}, allOne l = true → ∀ v ∈ l, v.oneCell' = true
 | [], _, v, h => by simp at h
 | c :: r, hl, v, h => by
  unfold allOne at hl
  split at hl
  ·rename_i hc
   rcases List.mem_cons.1 h with rfl | h
   ·exact hc
   ·exact allOne_get hl v h
  ·cases hl
def buildSliceA (T : List (Nat × TI)) (nid t len : Nat) (parts : List (Nat × AV)) (k : Eff → Prop) : Prop :=
 match tget t T with
 | some ti => (match sliceD ti.desc with
  | some e => (match tget e T with
   | some te => (match te.size, allOne te.zero.cells.toList, Nat.ble (len * te.size) 16777216, Nat.beq te.zero.cells.size te.size with
    | m + 1, true, true, true => repK (zeroL te.zero) len fun z => fillK (fun i => some (i * te.size, te.size)) parts z fun flat => match AV.lts 0 flat with
     | true => k (.ext [.row e te.size len (rowOf (m + 1) flat)] (.so nid))
     | false => False
    | _, _, _, _ => False)
   | none => False)
  | none => False)
 | none => False
theorem buildSliceA_sound {T : List (Nat × TI)} (hT : TabOk P T) {t len : Nat} {parts : List (Nat × AV)} {vals : Array (Nat × Value)} (hpl : parts.length = vals.toList.length)
  (hpr : ∀ (j : Nat) (h1 : j < parts.length) (h2 : j < vals.toList.length), parts[j].1 = vals.toList[j].1 ∧ Rep β nid F w parts[j].2 vals.toList[j].2)
  (h : buildSliceA T nid t len parts k) : ∃ x w', (Instr.buildSlice t len vals).run P w = .ok x w' ∧ PostK β nid F lk w k x w' := by
 unfold buildSliceA at h
 split at h
 ·rename_i ti h1
  split at h
  ·rename_i e h2
   split at h
   ·rename_i te h3
    split at h
    ·rename_i m hm hone hbig hzs
     have hbig : len * te.size ≤ 16777216 := by simpa using hbig
     have hzs : te.zero.cells.size = te.size := by simpa using hzs
     have h := repK_iff h
     obtain ⟨hu, _⟩ := hT.get h1
     obtain ⟨_, _, i, hi, hs, _, hz⟩ := hT.get h3
     cases hd : ti.desc <;> simp [sliceD, hd] at h2
     rename_i el
     subst h2
     rw [hd] at hu
     have hzl := zeroL_spec (F := F) (w := w) te.zero
     let zc : Array Value := (Array.range (len * te.size)).map (te.zero.cells[· % te.zero.cells.size]!)
     have hzrel : CellsRel β nid F w (repL (zeroL te.zero) len) zc := by
      refine ⟨by simp [zc, length_repL, hzl.1, hzs], fun j h1 h2 => ?_⟩
      have hjz : j % te.zero.cells.size < te.zero.cells.size := Nat.mod_lt _ (by omega)
      have hjz' : j % (zeroL te.zero).length < (zeroL te.zero).length := by rw [hzl.1]; exact hjz
      have e2 : zc[j] = te.zero.cells[j % te.zero.cells.size] := by simp [zc, hjz]
      rw [repL_get _ _ _ h1 hjz', e2]
      have hz2 := hzl.2 (j % te.zero.cells.size) (by rw [hzl.1]; exact hjz) hjz
      have e3 : (zeroL te.zero)[j % (zeroL te.zero).length] = (zeroL te.zero)[j % te.zero.cells.size]'(by rw [hzl.1]; exact hjz) := by simp only [hzl.1]
      rw [e3]
      exact ⟨.pure _ _ hz2, allOne_get hone _ (by simp)⟩
     obtain ⟨flat, cells, hfill, hrel, hq, hcs'⟩ := fillK_sound (fun i => some (i * te.size, te.size)) parts vals.toList _ zc hpl hpr hzrel h
     split at hq
     ·rename_i hpure
      have hcsz : cells.size = len * te.size := by
       rw [hcs']
       simp [zc]
      have hx : (w.alloc (.cells cells el)).ownsRow w.heap.size el te.size (.slice (some ⟨w.heap.size, 0, none⟩) len len) len cells.toList :=
       World.ownsRow_lit w cells len (Nat.le_refl _) (by
        have : len ≤ len * te.size := Nat.le_mul_of_pos_right _ (by omega)
        simp only [maxLen]
        omega) hcsz
      refine ⟨.slice (some ⟨w.heap.size, 0, none⟩) len len, w.alloc (.cells cells el), ?_, _, _, hq, .row el te.size len _ _ cells.toList (below_alloc _ _) (RowAt.of_owns hx).1 (RowAt.of_owns hx).2 ?_ ?_⟩
      ·have hbig' : ¬ (len * i.size > 2 ^ 24) := by rw [hs]; simp; omega
       have hzc : (if len * i.size = 0 then (#[] : Array Value) else te.zero.cells) = te.zero.cells ∨ len * i.size = 0 := by
        by_cases h0 : len * i.size = 0
        ·exact .inr h0
        ·exact .inl (by rw [if_neg h0])
       by_cases h0 : len * i.size = 0
       ·have hl0 : len = 0 := by
         rcases Nat.mul_eq_zero.1 h0 with h | h
         ·exact h
         ·omega
        subst hl0
        have hzc0 : zc = #[] := by simp [zc]
        rw [hzc0] at hfill
        simp [Instr.buildSlice, run_underlying hu, sizeOf, typeInfo, hi, newRow]
        rw [hs, show (Array.map (fun _ => (default : Value)) (Array.range 0)) = #[] from by simp, hfill]
        simp
       ·simp [Instr.buildSlice, run_underlying hu, sizeOf, typeInfo, hi, hz, zeroValue, newRow, h0]
        rw [hs] at hbig' h0 ⊢
        rw [if_neg (by simpa using hbig')]
        rw [show Instr.fill (fun i => some (i * te.size, te.size)) ((Array.range (len * te.size)).map (te.zero.cells[· % te.zero.cells.size]!)) vals.toList = some cells from hfill]
        simp
      ·intro q hq'
       have : q * te.size + te.size ≤ len * te.size := by rw [← Nat.succ_mul]; exact Nat.mul_le_mul_right _ hq'
       have hfl := hrel.1
       simp only [rowOf, List.length_take, List.length_drop, Nat.succ_eq_add_one] at hm ⊢
       rw [hm] at this hcsz ⊢
       omega
      ·intro q j hq' h1' h2'
       simp [rowOf] at h1'
       have hfl := hrel.1
       have h2'' := h2'
       simp at h2''
       have := hrel.2 (q * te.size + j) (by omega) h2''
       have e : (rowOf (m + 1) flat q)[j]'(by simpa [rowOf] using h1') = flat[q * te.size + j]'(by omega) := by
        simp [rowOf, hm]
       rw [e]
       exact ⟨AV.lts_pure hpure _ _ (by simpa using this.1), by simpa using this.2⟩
     ·exact hq.elim
    ·exact h.elim
   ·exact h.elim
  ·exact h.elim
 ·exact h.elim
def structPl (T : List (Nat × TI)) (d : TypeDesc) (i : Nat) : Option (Nat × Nat) :=
 match fieldD d i with
 | some fld => (match tget fld.type T with
  | some ft => some (fld.offset, ft.size)
  | none => none)
 | none => none
def fieldsIn (T : List (Nat × TI)) : List Field → Bool
 | [] => true
 | f :: r => match tget f.type T with
  | some _ => fieldsIn T r
  | none => false
def structFields : TypeDesc → List Field
 | .struct fs => fs.toList
 | _ => []
def isStructD : TypeDesc → Bool
 | .struct _ => true
 | _ => false
def buildA (T : List (Nat × TI)) (t : Nat) (parts : List (Nat × AV)) (k : Eff → Prop) : Prop :=
 match tget t T with
 | some ti => (match isStructD ti.desc, fieldsIn T (structFields ti.desc), allOne ti.zero.cells.toList with
  | true, true, true => fillK (structPl T ti.desc) parts (zeroL ti.zero) fun flat => k (.ext [] (.ag flat))
  | _, _, _ => False)
 | none => False
theorem fieldsIn_mem {T : List (Nat × TI)} : ∀ {l : List Field}, fieldsIn T l = true → ∀ f ∈ l, ∃ ti, tget f.type T = some ti
 | [], _, f, h => by simp at h
 | c :: r, hl, f, h => by
  unfold fieldsIn at hl
  split at hl
  ·rename_i ti hc
   rcases List.mem_cons.1 h with rfl | h
   ·exact ⟨ti, hc⟩
   ·exact fieldsIn_mem hl f h
  ·cases hl
theorem run_listMapM {α γ : Type} (f : α → Sem γ) (g : α → γ) : ∀ l : List α, (∀ x ∈ l, (f x).run P w = .ok (g x) w) → (l.mapM f).run P w = .ok (l.map g) w
 | [], _ => rfl
 | a :: r, h => by
  rw [List.mapM_cons]
  simp [h a (by simp), run_listMapM f g r (fun x hx => h x (by simp [hx]))]
theorem run_arrayMapM {α γ : Type} (f : α → Sem γ) (g : α → γ) (l : Array α) (h : ∀ x ∈ l, (f x).run P w = .ok (g x) w) : (l.mapM f).run P w = .ok (l.map g) w := by
 rw [Array.mapM_eq_mapM_toList]
 have := run_listMapM (P := P) (w := w) f g l.toList (fun x hx => h x (by simpa using hx))
 have e : (List.map g l.toList).toArray = Array.map g l := Array.ext' (by simp)
 simp only [Sem.run_map, this, Result.andThen_ok, e]
theorem buildA_sound {T : List (Nat × TI)} (hT : TabOk P T) {t : Nat} {parts : List (Nat × AV)} {vals : Array (Nat × Value)} (hpl : parts.length = vals.toList.length)
  (hpr : ∀ (j : Nat) (h1 : j < parts.length) (h2 : j < vals.toList.length), parts[j].1 = vals.toList[j].1 ∧ Rep β nid F w parts[j].2 vals.toList[j].2)
  (h : buildA T t parts k) : ∃ x, (Instr.build t vals).run P w = .ok x w ∧ ∃ r, k (.ext [] r) ∧ Rep β nid F w r x := by
 unfold buildA at h
 split at h
 ·rename_i ti h1
  split at h
  ·rename_i hst hfs hone
   obtain ⟨hu, _, i, hi, _, _, hz⟩ := hT.get h1
   cases hd : ti.desc <;> simp [isStructD, hd] at hst
   rename_i fs
   rw [hd] at hu h hfs
   simp only [structFields] at hfs
   have hzl := zeroL_spec (F := F) (w := w) ti.zero
   have hzrel : CellsRel β nid F w (zeroL ti.zero) ti.zero.cells :=
    ⟨hzl.1, fun j h1 h2 => ⟨.pure _ _ (hzl.2 j h1 h2), allOne_get hone _ (by simp)⟩⟩
   let g : Field → Nat × Nat := fun f => (f.offset, ((tget f.type T).map (·.size)).getD 0)
   have hpl' : ∀ i o s, structPl T (.struct fs) i = some (o, s) → (fs.map g)[i]? = some (o, s) := by
    intro i o s h
    unfold structPl at h
    split at h
    ·rename_i fld hf
     simp only [fieldD] at hf
     split at h
     ·rename_i ft hft
      simp only [Option.some.injEq, Prod.mk.injEq] at h
      simp [hf, g, hft, h]
     ·cases h
    ·cases h
   have hfill' : ∀ (ps : List (Nat × Value)) (c c' : Array Value), Instr.fill (structPl T (.struct fs)) c ps = some c' → Instr.fill ((fs.map g)[·]?) c ps = some c' := by
    intro ps
    induction ps with
    | nil => intro c c' h; simpa [Instr.fill] using h
    | cons p r ih =>
     intro c c' h
     obtain ⟨i, v⟩ := p
     simp only [Instr.fill] at h ⊢
     split at h
     ·cases h
     ·rename_i o s hpl
      rw [hpl' _ _ _ hpl]
      simp only
      split at h
      ·cases h
      ·rename_i hnot
       rw [if_neg hnot]
       exact ih _ _ h
   obtain ⟨flat, cells, hfill, hrel, hq, _⟩ := fillK_sound _ parts vals.toList _ ti.zero.cells hpl hpr hzrel h
   have hfill := hfill' _ _ _ hfill
   refine ⟨.agg cells, ?_, _, hq, ?_⟩
   ·have hm := run_arrayMapM (P := P) (w := w) (fun f : Field => do pure (f.offset, ← sizeOf f.type)) g fs (fun f hf => by
     obtain ⟨ft, hft⟩ := fieldsIn_mem hfs f (by simpa using hf)
     obtain ⟨_, _, j, hj, hs, _⟩ := hT.get hft
     simp [sizeOf, typeInfo, hj, hs, g, hft])
    simp only [Instr.build, Sem.run_bind, zeroValue, typeInfo, run_program, Result.andThen_ok, hi, Sem.run_pure, hz, run_underlying hu, hm, hfill]
   ·have := Rep.ag (β := β) (n := nid) (F := F) (w := w) flat cells.toList (by simpa using hrel.1) (fun j h1 h2 => (hrel.2 j h1 (by simpa using h2)).1)
    simpa using this
  ·exact h.elim
 ·exact h.elim
def makeSliceA (gc : Option Prop) (T : List (Nat × TI)) (nid t : Nat) (a b : AV) (k : Eff → Prop) : Prop :=
 match tget t T, a, b with
 | some ti, .i _ n, .i _ m => (match sliceD ti.desc with
  | some e => (match tget e T with
   | some te => (match te.size, allOne te.zero.cells.toList, Nat.beq te.zero.cells.size te.size, te.bytes with
    | _ + 1, true, true, _ + 1 => ob gc (n = m ∧ 0 ≤ n ∧ te.bytes * n.toNat ≤ 140737488355328) (k (.ext [.row e te.size n.toNat (fun _ => zeroL te.zero)] (.so nid)))
    | _, _, _, _ => False)
   | none => False)
  | none => False)
 | _, _, _ => False
theorem makeSliceA_sound {gc : Option Prop} (hgc : ∀ c, gc = some c → c) {T : List (Nat × TI)} (hT : TabOk P T) {t : Nat} {a b : AV} {u v : Value} (hu : Rep β nid F w a u) (hv : Rep β nid F w b v)
  (h : makeSliceA gc T nid t a b k) : ∃ x w', (Instr.makeSlice t u v).run P w = .ok x w' ∧ PostK β nid F lk w k x w' := by
 unfold makeSliceA at h
 split at h
 ·rename_i ti j n j' m h1
  obtain rfl := hu.i_inv
  obtain rfl := hv.i_inv
  split at h
  ·rename_i e h2
   split at h
   ·rename_i te h3
    split at h
    ·rename_i sz by' hsz hone hzs hby
     have hzs : te.zero.cells.size = te.size := by simpa using hzs
     have hq2 := ob_iff h hgc
     clear h
     obtain ⟨⟨rfl, hn0, hbytes⟩, h⟩ := hq2
     obtain ⟨hut, _⟩ := hT.get h1
     obtain ⟨_, _, i, hi, hs, hb, hz⟩ := hT.get h3
     cases hd : ti.desc <;> simp [sliceD, hd] at h2
     rename_i el
     subst h2
     rw [hd] at hut
     obtain ⟨q, rfl⟩ := Int.eq_ofNat_of_zero_le hn0
     simp only [Int.toNat_natCast] at h hbytes
     have hq : q ≤ te.bytes * q := Nat.le_mul_of_pos_left _ (by omega)
     obtain ⟨w', hrun, hx, hg⟩ := run_make_full (P := P) w w.heap.size t el i te.zero te.size hut hi hz hs j j' q (by rw [hb]; omega) (by simp only [maxLen]; omega) (Nat.le_refl _)
     have hzl := zeroL_spec (F := F) (w := w) te.zero
     refine ⟨_, w', hrun, _, _, h, .row el te.size q _ _ _ ⟨⟨hg.os, hg.tape, hg.output, hg.size, fun g hg' => hg.block g hg' (by simp)⟩, run_drawn _ hrun⟩ (RowAt.of_owns hx).1 (RowAt.of_owns hx).2 ?_ ?_⟩
     ·intro _ _
      rw [hzl.1, hzs]
     ·intro r c hr h1' h2'
      have hcz : c < te.zero.cells.size := by rw [← hzl.1]; exact h1'
      have hmod : (r * te.size + c) % te.zero.cells.size = c := by
       rw [hzs] at hcz ⊢
       rw [Nat.mul_comm, Nat.mul_add_mod]
       exact Nat.mod_eq_of_lt hcz
      have e : ((madeCells te.zero.cells (q * te.size)).toList)[r * te.size + c]'h2' = te.zero.cells[c] := by
       simp [madeCells, hmod, hcz]
      rw [e]
      exact ⟨hzl.2 c h1' hcz, allOne_get hone _ (by simp)⟩
    ·exact h.elim
   ·exact h.elim
  ·exact h.elim
 ·exact h.elim
end
end Go.Eng
end
