/-
  The engine: what can be compared, and is a map's key.
-/
import Derived.Test.YtklmfkejgjhneaaEng4
import Derived.MapKept
import Derived.WideKeyRuns
import Derived.Laws.StructEq
namespace Go.Eng
open Go.RowKit Go.MapKept

def bytesEq (x y : ByteArray) : Bool := x.toList == y.toList
def eqAV : AV → AV → Bool
  | .i _ x, .i _ y => x == y
  | .b x, .b y => x == y
  | .s x, .s y => bytesEq x y
  | _, _ => false
def eqAVs : List AV → List AV → Bool
  | [], [] => true
  | [x], [y] => eqAV x y
  | x :: r, y :: t => eqAV x y && eqAVs r t
  | _, _ => false
def plainFit : TypeDesc → AV → Bool
  | .int q, .i k _ => Nat.beq (kn q) (kn k)
  | .bool, .b _ => true
  | .string, .s _ => true
  | _, _ => false
def fitFs (T : List (Nat × TI)) : List Field → Nat → List AV → Bool
  | [], _, [] => true
  | f :: r, off, a :: cs => (match tget f.type T with
    | some ft => (match Nat.beq f.offset off, plainFit ft.desc a with
      | true, true => fitFs T r (off + 1) cs
      | _, _ => false)
    | none => false)
  | _, _, _ => false
def structFs : TypeDesc → Option (List Field)
  | .struct ⟨fs⟩ => some fs
  | _ => none
/-- It is a value of the type t, which is of numbers, strings and Booleans. -/
def keyFit (T : List (Nat × TI)) (t : Nat) (a : AV) : Bool :=
  match tget t T with
  | some ti => (match structFs ti.desc, a with
    | some fs, .ag cs => (match ti.cmp with
      | true => fitFs T fs 0 cs
      | false => false)
    | some _, _ => false
    | none, a => plainFit ti.desc a)
  | none => false

def FitV (P : Program) : List Field → Nat → List Value → Prop
  | [], _, [] => True
  | f :: r, off, v :: vs => f.offset = off ∧ (∃ d, P.underlying f.type = some d ∧ IsKey d v) ∧ FitV P r (off + 1) vs
  | _, _, _ => False
def KV (P : Program) (t : TypeId) (v : Value) : Prop :=
  (∃ d, P.underlying t = some d ∧ IsKey d v) ∨ ∃ fs vs, P.underlying t = some (.struct fs) ∧ structCmpB P t = true ∧ v = .agg vs.toArray ∧ FitV P fs.toList 0 vs

section
variable {P : Program} {w : World} {F : Nat → Prop}

theorem plainFit_key {d : TypeDesc} {a : AV} {v : Value} (h : plainFit d a = true) (hr : Rep0 F w a v) : IsKey d v := by
  cases d <;> cases a <;> simp only [plainFit, Bool.false_eq_true] at h
  · cases hr; trivial
  · rename_i q k n
    cases hr
    exact (kn_inj h).symm ▸ rfl
  · cases hr; trivial
theorem bytes_eq {x y : ByteArray} : bytesEq x y = true ↔ x = y := by
  unfold bytesEq
  rw [beq_iff_eq]
  constructor
  · intro h
    rw [ByteArray.toList_eq, ByteArray.toList_eq] at h
    obtain ⟨⟨x⟩⟩ := x
    obtain ⟨⟨y⟩⟩ := y
    simp at h
    rw [h]
  · rintro rfl; rfl
theorem plain_eq {d d' : TypeDesc} {a b : AV} {u v : Value} (ha : plainFit d a = true) (hb : plainFit d' b = true) (hd : d = d') (hu : Rep0 F w a u) (hv : Rep0 F w b v) : (eqAV a b = true ↔ u = v) ∧ (a = b ↔ u = v) := by
  subst hd
  cases d <;> cases a <;> simp only [plainFit, Bool.false_eq_true] at ha <;> cases b <;> simp only [plainFit, Bool.false_eq_true] at hb <;> cases hu <;> cases hv
  · simp [eqAV]
  · obtain rfl := kn_inj ha
    obtain rfl := kn_inj hb
    simp [eqAV]
  · simp [eqAV, bytes_eq]
theorem fitFs_get {T : List (Nat × TI)} (hT : TabOk P T) : ∀ {fs : List Field} {off : Nat} {cs : List AV} {vs : List Value}, fitFs T fs off cs = true → cs.length = vs.length →
    (∀ (j : Nat) (h1 : j < cs.length) (h2 : j < vs.length), Rep0 F w cs[j] vs[j]) → FitV P fs off vs
  | [], off, [], vs, _, hl, _ => by
    cases vs with
    | nil => trivial
    | cons => simp at hl
  | [], off, _ :: _, vs, h, _, _ => by simp [fitFs] at h
  | f :: r, off, [], vs, h, _, _ => by simp [fitFs] at h
  | f :: r, off, a :: cs, vs, h, hl, hr => by
    cases vs with
    | nil => simp at hl
    | cons v vs =>
      unfold fitFs at h
      split at h
      · rename_i ft hft
        split at h
        · rename_i h1 h2
          refine ⟨by simpa using h1, ⟨ft.desc, (hT.get hft).1, plainFit_key h2 (hr 0 (by simp) (by simp))⟩, fitFs_get hT h (by simpa using hl) fun j h1 h2 => ?_⟩
          exact hr (j + 1) (Nat.succ_lt_succ h1) (Nat.succ_lt_succ h2)
        · cases h
      · cases h
theorem fitFs_eq {T : List (Nat × TI)} : ∀ {fs : List Field} {off : Nat} {cs ds : List AV} {us vs : List Value}, fitFs T fs off cs = true → fitFs T fs off ds = true → cs.length = us.length → ds.length = vs.length →
    (∀ (j : Nat) (h1 : j < cs.length) (h2 : j < us.length), Rep0 F w cs[j] us[j]) → (∀ (j : Nat) (h1 : j < ds.length) (h2 : j < vs.length), Rep0 F w ds[j] vs[j]) → (eqAVs cs ds = true ↔ us = vs) ∧ (cs = ds ↔ us = vs)
  | [], off, [], [], us, vs, _, _, hl1, hl2, _, _ => by
    cases us <;> cases vs <;> simp at hl1 hl2 ⊢
    simp [eqAVs]
  | [], off, _ :: _, _, us, vs, h, _, _, _, _, _ => by simp [fitFs] at h
  | [], off, [], _ :: _, us, vs, _, h, _, _, _, _ => by simp [fitFs] at h
  | f :: r, off, [], _, us, vs, h, _, _, _, _, _ => by simp [fitFs] at h
  | f :: r, off, _ :: _, [], us, vs, _, h, _, _, _, _ => by simp [fitFs] at h
  | f :: r, off, a :: cs, b :: ds, us, vs, h, h', hl1, hl2, hr1, hr2 => by
    cases us with
    | nil => simp at hl1
    | cons u us =>
      cases vs with
      | nil => simp at hl2
      | cons v vs =>
        unfold fitFs at h h'
        cases hft : tget f.type T with
        | none => rw [hft] at h; cases h
        | some ft =>
          rw [hft] at h h'
          dsimp only at h h'
          split at h
          · rename_i h1 h2
            split at h'
            · rename_i h1' h2'
              have hp := plain_eq h2 h2' rfl (hr1 0 (by simp) (by simp)) (hr2 0 (by simp) (by simp))
              have ih := fitFs_eq h h' (by simpa using hl1) (by simpa using hl2) (fun j h1 h2 => hr1 (j + 1) (Nat.succ_lt_succ h1) (Nat.succ_lt_succ h2)) (fun j h1 h2 => hr2 (j + 1) (Nat.succ_lt_succ h1) (Nat.succ_lt_succ h2))
              have e : eqAVs (a :: cs) (b :: ds) = (eqAV a b && eqAVs cs ds) := by
                cases cs with
                | nil =>
                  cases ds with
                  | nil => simp [eqAVs]
                  | cons => cases r <;> simp [fitFs] at h h'
                | cons =>
                  cases ds with
                  | nil => cases r <;> simp [fitFs] at h h'
                  | cons => rfl
              simp only [List.getElem_cons_zero] at hp
              refine ⟨?_, ?_⟩
              · rw [e, Bool.and_eq_true, hp.1, ih.1, List.cons.injEq]
              · rw [List.cons.injEq, hp.2, ih.2, List.cons.injEq]
            · cases h'
          · cases h

theorem keyFit_KV {T : List (Nat × TI)} (hT : TabOk P T) {t : Nat} {a : AV} {v : Value} (h : keyFit T t a = true) (hr : Rep0 F w a v) : KV P t v := by
  unfold keyFit at h
  split at h
  · rename_i ti ht
    obtain ⟨hu, _⟩ := hT.get ht
    split at h
    · rename_i fs cs hfs
      split at h
      · rename_i hc
        cases hd : ti.desc <;> simp [structFs, hd] at hfs
        rename_i fa
        obtain ⟨fl⟩ := fa
        simp at hfs
        subst hfs
        cases hr with
        | ag _ vs hl hrr =>
          exact .inr ⟨⟨fl⟩, vs, by rw [hu, hd], hT.cmp ht hc, rfl, fitFs_get hT h hl hrr⟩
      · cases h
    · cases h
    · exact .inl ⟨_, hu, plainFit_key h hr⟩
  · cases h
theorem keyFit_eq {T : List (Nat × TI)} {t : Nat} {a b : AV} {u v : Value} (h : keyFit T t a = true) (h' : keyFit T t b = true) (hu : Rep0 F w a u) (hv : Rep0 F w b v) : a = b ↔ u = v := by
  unfold keyFit at h h'
  cases ht : tget t T with
  | none => rw [ht] at h; cases h
  | some ti =>
    rw [ht] at h h'
    dsimp only at h h'
    cases hfs : structFs ti.desc with
    | none =>
      rw [hfs] at h h'
      exact (plain_eq (by cases a <;> exact h) (by cases b <;> exact h') rfl hu hv).2
    | some fs =>
      rw [hfs] at h h'
      cases a <;> try (cases h)
      cases b <;> try (cases h')
      rename_i cs ds
      dsimp only at h h'
      split at h
      · split at h'
        · cases hu with
          | ag _ us hl hr =>
            cases hv with
            | ag _ vs hl' hr' =>
              have := (fitFs_eq h h' hl hl' hr hr').2
              simp [this]
        · cases h'
      · cases h

/-! ### '==' and a map's keys -/
theorem isKey_plain {t : TypeId} {d : TypeDesc} {v : Value} (hu : P.underlying t = some d) (hk : IsKey d v) : P.plainKey t = true := by
  unfold Program.plainKey
  rw [hu]
  cases d <;> cases v <;> simp_all [IsKey]
theorem run_equalIn_key {t : TypeId} {d : TypeDesc} {a b : Value} (hu : P.underlying t = some d) (ha : IsKey d a) (hb : IsKey d b) (n : Nat) : ∃ r : Bool, (Op.equalIn (n + 1) t a b).run P w = .ok r w ∧ (r = true ↔ a = b) := by
  cases d <;> cases a <;> simp only [IsKey] at ha <;> cases b <;> simp only [IsKey] at hb
  · rename_i x y
    exact ⟨x == y, run_equalIn_bool w n t x y hu, by simp⟩
  · rename_i q k x k' y
    subst ha
    subst hb
    exact ⟨x == y, run_equalIn_int w n t _ _ x y hu, by simp⟩
  · rename_i x y
    exact ⟨x.toList == y.toList, run_equalIn_string w n t x y hu, by simp; exact ⟨fun h => bytes_eq.1 (by simpa [bytesEq] using h), fun h => by rw [h]⟩⟩
theorem run_eqFields_fit (n : Nat) : ∀ (fs : List Field) (off : Nat) (us vs : List Value) (xs ys : Array Value), (∀ f ∈ fs, f.name ≠ "_" ∧ P.plainKey f.type = true) → FitV P fs off us → FitV P fs off vs → us.length = vs.length →
    xs.toList.drop off = us → ys.toList.drop off = vs → ∃ r : Bool, (Op.eqFields (n + 1) xs ys fs).run P w = .ok r w ∧ (r = true ↔ us = vs)
  | [], off, us, vs, xs, ys, _, h1, h2, _, _, _ => by
    cases us <;> simp only [FitV] at h1
    cases vs <;> simp only [FitV] at h2
    exact ⟨true, by simp [Op.eqFields], by simp⟩
  | f :: fs, off, us, vs, xs, ys, hall, h1, h2, hl, e1, e2 => by
    cases us with
    | nil => simp only [FitV] at h1
    | cons u us =>
      cases vs with
      | nil => simp only [FitV] at h2
      | cons v vs =>
        obtain ⟨ho, ⟨d, hd, hk⟩, hr1⟩ := h1
        obtain ⟨_, ⟨d', hd', hk'⟩, hr2⟩ := h2
        rw [hd] at hd'
        obtain rfl := Option.some.inj hd'
        obtain ⟨hn, hp⟩ := hall f (by simp)
        have g1 : xs[f.offset]? = some u := by
          have := congrArg (·[0]?) e1
          simpa [ho] using this
        have g2 : ys[f.offset]? = some v := by
          have := congrArg (·[0]?) e2
          simpa [ho] using this
        have n1 : xs.toList.drop (off + 1) = us := by
          have := congrArg (List.drop 1) e1
          simpa using this
        have n2 : ys.toList.drop (off + 1) = vs := by
          have := congrArg (List.drop 1) e2
          simpa using this
        obtain ⟨r, hr, hiff⟩ := run_equalIn_key (w := w) hd hk hk' n
        obtain ⟨r', hr', hiff'⟩ := run_eqFields_fit n fs (off + 1) us vs xs ys (fun g hg => hall g (by simp [hg])) hr1 hr2 (by simpa using hl) n1 n2
        simp only [Op.eqFields, hn, ne_eq, not_false_eq_true, if_true, Sem.run_bind, run_part_plain w hp g1, run_part_plain w hp g2, hr, Result.andThen_ok]
        cases r
        · exact ⟨false, by simp, by simp; intro e; exact absurd (hiff.2 e) (by simp)⟩
        · refine ⟨r', by simpa using hr', ?_⟩
          rw [hiff', List.cons.injEq]
          simp [hiff.1 rfl]
theorem structCmp_iff {t : TypeId} {fs : Array Field} (hu : P.underlying t = some (.struct fs)) (h : structCmpB P t = true) :
    (∀ f ∈ fs.toList, f.name ≠ "_" ∧ P.plainKey f.type = true) ∧ P.stoodInHeld t = false ∧ P.eqGuardType P.depth t = false := by
  unfold structCmpB at h
  rw [hu] at h
  simp only [Bool.and_eq_true, List.all_eq_true, Bool.not_eq_true', bne_iff_ne] at h
  exact ⟨h.1, h.2.1, h.2.2⟩
theorem fieldsOf_eq {t : TypeId} {fs : Array Field} (hu : P.underlying t = some (.struct fs)) : P.fieldsOf t = fs := by
  unfold Program.fieldsOf
  rw [hu]
theorem run_equal_KV {t : TypeId} {a b : Value} (ha : KV P t a) (hb : KV P t b) : ∃ r : Bool, (Op.equal t a b).run P w = .ok r w ∧ (r = true ↔ a = b) := by
  rcases ha with ⟨d, hu, hk⟩ | ⟨fs, us, hu, hc, rfl, hf⟩ <;> rcases hb with ⟨d', hu', hk'⟩ | ⟨fs', vs, hu', hc', rfl, hf'⟩
  · rw [hu] at hu'
    obtain rfl := Option.some.inj hu'
    exact run_equalIn_key (n := 9999) hu hk hk'
  · rw [hu] at hu'
    obtain rfl := Option.some.inj hu'
    cases a <;> simp [IsKey] at hk
  · rw [hu] at hu'
    obtain rfl := Option.some.inj hu'
    cases b <;> simp [IsKey] at hk'
  · rw [hu] at hu'
    obtain rfl := TypeDesc.struct.inj (Option.some.inj hu')
    obtain ⟨h1, h2, _⟩ := structCmp_iff hu hc
    have hlen : ∀ {fs : List Field} {off : Nat} {l : List Value}, FitV P fs off l → l.length = fs.length := by
      intro fs
      induction fs with
      | nil => intro off l h; cases l <;> simp [FitV] at h ⊢
      | cons f r ih => intro off l h; cases l <;> simp only [FitV] at h; simp [ih h.2.2]
    obtain ⟨r, hr, hiff⟩ := run_eqFields_fit (P := P) (w := w) 9998 fs.toList 0 us vs us.toArray vs.toArray h1 hf hf' ((hlen hf).trans (hlen hf').symm) (by simp) (by simp)
    have hrun := run_equalIn_struct (P := P) w 9999 t us.toArray vs.toArray (by rw [fieldsOf_eq hu]; exact hu) h2
    rw [fieldsOf_eq hu] at hrun
    refine ⟨r, hrun.trans hr, ?_⟩
    rw [hiff]
    simp
theorem run_guard_KV {t : TypeId} {a b : Value} (op : BinOp) (x y : Operand) (ha : KV P t a) (hb : KV P t b) : (eqGuard op t x y a b).run P w = .ok () w := by
  rcases ha with ⟨d, hu, hk⟩ | ⟨fs, us, hu, hc, rfl, hf⟩
  · cases d <;> cases a <;> simp only [IsKey] at hk <;> cases op <;> cases b <;> rfl
  · rcases hb with ⟨d', hu', hk'⟩ | ⟨fs', vs, hu', hc', rfl, hf'⟩
    · cases d' <;> cases b <;> simp only [IsKey] at hk' <;> cases op <;> rfl
    · obtain ⟨_, _, h3⟩ := structCmp_iff hu hc
      cases op <;> simp [eqGuard, h3]
theorem run_check_KV {t : TypeId} {a : Value} (em : Bool) (ha : KV P t a) : (Instr.checkKey em 10000 t a).run P w = .ok () w := by
  rcases ha with ⟨d, hu, hk⟩ | ⟨fs, us, hu, hc, rfl, hf⟩
  · exact run_checkKey hu hk em 9999
  · obtain ⟨h1, _, _⟩ := structCmp_iff hu hc
    show (Instr.checkKey em (9999 + 1) t (.agg us.toArray)).run P w = _
    unfold Instr.checkKey
    simp only [Sem.run_bind, run_underlying hu, Result.andThen_ok]
    rw [← Array.forIn_toList]
    obtain ⟨off, l, hoff, hfl⟩ : ∃ off l, us.toArray.toList.drop off = l ∧ FitV P fs.toList off l := ⟨0, us, by simp, hf⟩
    clear hf hc
    generalize fs.toList = L at h1 hfl ⊢
    induction L generalizing off l with
    | nil => simp
    | cons f L ih =>
      cases l with
      | nil => simp only [FitV] at hfl
      | cons u l =>
        obtain ⟨ho, ⟨d, hd, hk⟩, hr1⟩ := hfl
        obtain ⟨hn, hp⟩ := h1 f (by simp)
        have g1 : us.toArray[f.offset]? = some u := by
          have := congrArg (·[0]?) hoff
          simpa [ho] using this
        have n1 : us.toArray.toList.drop (off + 1) = l := by
          have := congrArg (List.drop 1) hoff
          simpa using this
        have p2 := run_checkKey (P := P) (w := w) hd hk em 9998
        simp only [List.forIn_cons, Sem.run_bind, hn, ne_eq, not_false_eq_true, if_true, Result.andThen_ok, run_part_plain w hp g1, p2, Sem.run_pure]
        exact ih (off + 1) l n1 (fun y hy => h1 y (by simp [hy])) hr1
theorem find_asking {t : TypeId} {k : Value} (hk : KV P t k) : ∀ (es : List MapEntry) (i : Nat), (∀ x ∈ es, KV P t x.key) →
    ((Instr.findAsking t k es i).run P w = .ok none w ∧ ∀ x ∈ es, x.key ≠ k) ∨ ∃ j e, (Instr.findAsking t k es i).run P w = .ok (some (i + j, e.val)) w ∧ es[j]? = some e ∧ e.key = k
  | [], i, _ => .inl ⟨by simp [Instr.findAsking], by simp⟩
  | e :: es, i, h => by
    obtain ⟨r, hr, hiff⟩ := run_equal_KV (w := w) hk (h e (by simp))
    cases r with
    | true => exact .inr ⟨0, e, by simp [Instr.findAsking, hr], rfl, (hiff.1 rfl).symm⟩
    | false =>
      have hne : e.key ≠ k := fun q => by have := hiff.2 q.symm; cases this
      rcases find_asking hk es (i + 1) (fun x hx => h x (by simp [hx])) with ⟨h1, h2⟩ | ⟨j, e', h1, h2, h3⟩
      · exact .inl ⟨by simp [Instr.findAsking, hr, h1], fun x hx => by
          rcases List.mem_cons.1 hx with rfl | hx
          · exact hne
          · exact h2 x hx⟩
      · refine .inr ⟨j + 1, e', ?_, by simpa using h2, h3⟩
        have e1 : i + 1 + j = i + (j + 1) := by omega
        rw [e1] at h1
        simp [Instr.findAsking, hr, h1]
theorem run_find_KV {t : TypeId} {k : Value} (hk : KV P t k) (es : List MapEntry) (h : ∀ x ∈ es, KV P t x.key) :
    ((Instr.findKey t k es).run P w = .ok none w ∧ ∀ x ∈ es, x.key ≠ k) ∨ ∃ j e, (Instr.findKey t k es).run P w = .ok (some (j, e.val)) w ∧ es[j]? = some e ∧ e.key = k := by
  rcases hk with ⟨d, hu, hkk⟩ | ⟨fs, us, hu, hc, rfl, hf⟩
  · have hall : ∀ x ∈ es, IsKey d x.key := by
      intro x hx
      rcases h x hx with ⟨d', hu', hk'⟩ | ⟨fs', vs, hu', hc', he, hf'⟩
      · rw [hu] at hu'
        obtain rfl := Option.some.inj hu'
        exact hk'
      · rw [hu] at hu'
        obtain rfl := Option.some.inj hu'
        cases k <;> simp [IsKey] at hkk
    rcases findNow_spec hkk es 0 hall with ⟨h1, h2⟩ | ⟨j, e, h1, h2, h3⟩
    · exact .inl ⟨run_findKey hu h1, h2⟩
    · exact .inr ⟨j, e, by rw [run_findKey hu h1, Nat.zero_add], h2, h3⟩
  · rw [run_findKey_eq w (by rw [hu]) (.agg us.toArray) es]
    rcases find_asking (w := w) (.inr ⟨fs, us, hu, hc, rfl, hf⟩ : KV P t (.agg us.toArray)) es 0 h with ⟨h1, h2⟩ | ⟨j, e, h1, h2, h3⟩
    · exact .inl ⟨h1, h2⟩
    · exact .inr ⟨j, e, by rw [h1, Nat.zero_add], h2, h3⟩
theorem sameBits_key {d : TypeDesc} {v : Value} (h : IsKey d v) (n : Nat) : Instr.sameBits n v v = true := by
  cases d <;> cases v <;> simp only [IsKey] at h <;> cases n <;> simp [Instr.sameBits]
  all_goals exact (bytes_beq _ _).2 rfl
theorem sameBits_KV {t : TypeId} {v : Value} (h : KV P t v) : Instr.sameBits 10000 v v = true := by
  rcases h with ⟨d, hu, hk⟩ | ⟨fs, us, hu, hc, rfl, hf⟩
  · exact sameBits_key hk _
  · have key : ∀ {fs : List Field} {off : Nat} {l : List Value}, FitV P fs off l → (l.zip l).all (fun (x, y) => Instr.sameBits 9999 x y) = true := by
      intro fs
      induction fs with
      | nil => intro off l h; cases l <;> simp [FitV] at h ⊢
      | cons f r ih =>
        intro off l h
        cases l with
        | nil => simp [FitV] at h
        | cons v vs =>
          obtain ⟨_, ⟨d, _, hk⟩, hr⟩ := h
          simp only [List.zip_cons_cons, List.all_cons, Bool.and_eq_true]
          exact ⟨sameBits_key hk _, ih hr⟩
    show Instr.sameBits (9999 + 1) _ _ = true
    unfold Instr.sameBits
    simp only [beq_self_eq_true, Bool.true_and]
    exact key hf
end
end Go.Eng
