/-
  The engine, twelfth part: code, loops, functions.
-/
import Derived.Deep.LoopGhost
import Derived.Test.YtilkcfabbilcbaaEng11c
namespace Go.Eng
open Go.RowKit

theorem TIOk.of {P : Program} {t : TypeId} {d : TypeDesc} {a : Bool} {s b : Nat} {z : Value} (h1 : P.underlying t = some d) (h2 : isAggD d = a)
    (h3 : (P.info? t).map (fun i => (i.zero, i.size, i.bytes)) = some (some z, s, b)) : TIOk P t ⟨d, a, s, b, z⟩ := by
  refine ⟨h1, h2, ?_⟩
  cases hi : P.info? t with
  | none => rw [hi] at h3; cases h3
  | some i =>
    rw [hi] at h3
    simp at h3
    exact ⟨i, rfl, h3.2.1, h3.2.2, h3.1⟩

def condK (v : Option AV) (p q : Prop) : Prop :=
  match v with
  | some (.b c) => (c = true → p) ∧ (c = false → q)
  | _ => False
def exitIs (i j : Nat) (p q : Prop) : Prop :=
  match Nat.beq i j with
  | true => p
  | false => q

/-- The slots that code writes. -/
def writesO : List Oper → List Nat
  | [] => []
  | o :: r => (match o.dst with
    | some d => d :: writesO r
    | none => writesO r)
def writes : Code → List Nat
  | .region _ ⟨ops⟩ _ => writesO ops
  | .seq a b => catN (writes a) (writes b)
  | .cond _ a b => catN (writes a) (writes b)
  | .block _ c => writes c
  | .loop c => writes c
  | _ => []
/-- A piece of code behind which ways may meet again. -/
def meets : Code → Bool
  | .seq _ b => meets b
  | .cond _ _ _ => true
  | .block _ _ => true
  | _ => false

def execC (P : Program) (T : List (Nat × TI)) (N : Nat) : Code → St → (Exit → St → Prop) → Prop
  | .skip, st, Q => Q .normal st
  | .region _ ⟨ops⟩ false, st, Q => execS P T N ops ops st fun st' => cleanS st' (Q .normal)
  | .region _ ⟨ops⟩ true, st, Q => execD P T N ops st fun st' => cleanS st' (Q .normal)
  | .seq x y, st, Q => (match meets x with
    | false => execC P T N x st fun e st' => match e with
      | .normal => execC P T N y st' Q
      | e => Q e st'
    | true => (execC P T N x st fun e st' => match e with
        | .normal => execC P T N y st' Q
        | e => Q e st') ∨
      ∃ (l : List (Nat × TypeId × Nat)), nilK l st fun st => ∃ (X : Type) (I : X → Prop) (u : X → List KE) (ou : X → List OE), (execC P T N x st fun e st' => match e with
        | .normal => ∃ z ρ, I z ∧ toS (writes x) ρ (u z) (ou z) st st'
        | e => Q e st') ∧
        ∀ z, I z → mkSK (writes x) (u z) (ou z) st fun s => execC P T N y s Q)
  | .cond c x y, st, Q => (match st with
    | ⟨K, O, nid⟩ => condK (evalO K [] c) (execC P T N x ⟨K, O, nid⟩ Q) (execC P T N y ⟨K, O, nid⟩ Q))
  | .block i c, st, Q => execC P T N c st fun e st' => match e with
    | .exit j => exitIs j i (Q .normal st') (Q (.exit j) st')
    | e => Q e st'
  | .loop c, st, Q => ∃ (l : List (Nat × TypeId × Nat)), nilK l st fun st => ∃ (X : Type) (I : X → Prop) (u : X → List KE) (ou : X → List OE) (μ : X → Nat),
      (∃ x ρ, I x ∧ toS (writes c) ρ (u x) (ou x) st st) ∧
      ∀ x, I x → mkSK (writes c) (u x) (ou x) st fun s => execC P T N c s fun e st' => match e with
        | .normal => ∃ y ρ, I y ∧ μ y < μ x ∧ toS (writes c) ρ (u y) (ou y) st st'
        | e => Q e st'
  | .exit i, st, Q => Q (.exit i) st
  | .ret, st, Q => Q .ret st
  | _, _, _ => False

section
variable {G : Nat → Prop} {P : Program} {T : List (Nat × TI)} {w0 w : World} {N : Nat} {a : Act}

theorem execC_sound (hT : TabOk P T) : ∀ (c : Code) {st : St} {Q : Exit → St → Prop} {a : Act} {w : World}, Sim G w0 N st a w → execC P T N c st Q →
    c.wp P (fun e a' w' => ∃ st', Sim G w0 N st' a' w' ∧ Q e st') a w := by
  intro c
  induction c with
  | skip => intro st Q a w S h; exact wp_skip ⟨st, S, h⟩
  | region i ops draw =>
    intro st Q a w S h
    obtain ⟨ops⟩ := ops
    cases draw with
    | false =>
      refine wp_region_lit (execS_sound hT S h ?_)
      intro st' a' w' h' S'
      obtain ⟨st2, h2, S2⟩ := cleanS_iff h' S'
      exact ⟨st2, S2, h2⟩
    | true =>
      refine execD_sound hT S h ?_
      intro st' a' w' h' S'
      obtain ⟨st2, h2, S2⟩ := cleanS_iff h' S'
      exact ⟨st2, S2, h2⟩
  | seq x y ihx ihy =>
    intro st Q a w S h
    have direct : ∀ {st : St} {a : Act} {w : World}, Sim G w0 N st a w → (execC P T N x st fun e st' => match e with
        | .normal => execC P T N y st' Q
        | e => Q e st') → (Code.seq x y).wp P (fun e a' w' => ∃ st', Sim G w0 N st' a' w' ∧ Q e st') a w := by
      intro st a w S h
      refine wp_seq (Code.wp_mono ?_ (ihx S h))
      rintro e a' w' ⟨st', S', h'⟩
      cases e with
      | normal => exact ihy S' h'
      | exit => exact ⟨st', S', h'⟩
      | goto => exact ⟨st', S', h'⟩
      | ret => exact ⟨st', S', h'⟩
      | panic => exact ⟨st', S', h'⟩
      | outgrown => exact ⟨st', S', h'⟩
    simp only [execC] at h
    split at h
    · exact direct S h
    · rcases h with h | ⟨l, h⟩
      · exact direct S h
      · obtain ⟨st, ⟨X, I, u, ou, h, hy⟩, S⟩ := nilK_iff h S
        refine wp_seq (Code.wp_mono ?_ (ihx S h))
        rintro e a' w' ⟨st', S', h'⟩
        cases e with
        | normal =>
          obtain ⟨z, ρ, hz, hto⟩ := h'
          exact ihy (S'.le (toS_le hto)) (mkSK_iff (hy z hz))
        | exit => exact ⟨st', S', h'⟩
        | goto => exact ⟨st', S', h'⟩
        | ret => exact ⟨st', S', h'⟩
        | panic => exact ⟨st', S', h'⟩
        | outgrown => exact ⟨st', S', h'⟩
  | cond c x y ihx ihy =>
    intro st Q a w S h
    obtain ⟨K, O, nid⟩ := st
    simp only [execC] at h
    unfold condK at h
    split at h
    · rename_i b hb
      obtain ⟨β, S'⟩ := S
      have hv := (evalO_sound S' (sat_nil a) c _ hb).b_inv
      exact wp_cond_split hv (fun hb => ihx ⟨β, S'⟩ (h.1 hb)) (fun hb => ihy ⟨β, S'⟩ (h.2 hb))
    · exact h.elim
  | block i c ih =>
    intro st Q a w S h
    refine wp_block (Code.wp_mono ?_ (ih S h))
    rintro e a' w' ⟨st', S', h'⟩
    cases e with
    | exit j =>
      simp only [exitIs] at h'
      simp only [Exit.inBlock]
      split at h'
      · rename_i hb
        have hb : j = i := by simpa using hb
        rw [if_pos hb]
        exact ⟨st', S', h'⟩
      · rename_i hb
        have hb : j ≠ i := by
          intro e
          subst e
          simp at hb
        rw [if_neg hb]
        exact ⟨st', S', h'⟩
    | normal => exact ⟨st', S', h'⟩
    | goto => exact ⟨st', S', h'⟩
    | ret => exact ⟨st', S', h'⟩
    | panic => exact ⟨st', S', h'⟩
    | outgrown => exact ⟨st', S', h'⟩
  | loop c ih =>
    intro st Q a w S h
    obtain ⟨l, h⟩ := h
    obtain ⟨st, ⟨X, I, u, ou, μ, ⟨x, ρ, hx, hle⟩, hround⟩, S⟩ := nilK_iff h S
    refine wp_loop_ghost (fun n a w => ∃ x, I x ∧ μ x = n ∧ Sim G w0 N (mkS (writes c) (u x) (ou x) st) a w) (μ x) ⟨x, hx, rfl, S.le (toS_le hle)⟩ ?_
    rintro n a w ⟨x, hx, rfl, S⟩
    refine Code.wp_mono ?_ (ih S (mkSK_iff (hround x hx)))
    rintro e a' w' ⟨st', S', h'⟩
    cases e with
    | normal =>
      obtain ⟨y, ρ, hy, hlt, hle⟩ := h'
      exact ⟨μ y, hlt, y, hy, rfl, S'.le (toS_le hle)⟩
    | exit => exact ⟨st', S', h'⟩
    | goto => exact ⟨st', S', h'⟩
    | ret => exact ⟨st', S', h'⟩
    | panic => exact ⟨st', S', h'⟩
    | outgrown => exact ⟨st', S', h'⟩
  | exit i => intro st Q a w S h; exact wp_exit ⟨st, S, h⟩
  | ret => intro st Q a w S h; exact wp_ret ⟨st, S, h⟩
  | rangeFunc => intro st Q a w S h; exact h.elim
  | scope => intro st Q a w S h; exact h.elim
  | label => intro st Q a w S h; exact h.elim
  | goto => intro st Q a w S h; exact h.elim
  | refuse => intro st Q a w S h; exact h.elim

/-! ### what a function returns -/
def resK (T : List (Nat × TI)) (K : List KE) (O : List OE) : List ResultVar → (List AV → Prop) → Prop
  | [], k => k []
  | .tmp t :: r, k => (match find t K with
    | some ([], av) => resK T K O r fun l => k (av :: l)
    | _ => False)
  | .cell t ty :: r, k => (match find t K, tget ty T with
    | some ([], .p id off), some ti => (match getO id O with
      | some ([], .cells _ cs) => dropTakeK off ti.size cs fun l => packK ti.agg l fun av => resK T K O r fun l => k (av :: l)
      | _ => False)
    | _, _ => False)
def oneOr : List AV → AV
  | [a] => a
  | l => .tup l

mutual
/-- Nothing in it is read-only memory that may be older than the call. -/
def AV.fresh : AV → Bool
  | .rs _ _ _ => false
  | .rp _ => false
  | .fn _ cs => AV.freshs cs
  | .ag cs => AV.freshs cs
  | .tup cs => AV.freshs cs
  | _ => true
def AV.freshs : List AV → Bool
  | [] => true
  | c :: r => match AV.fresh c with
    | true => AV.freshs r
    | false => false
end
theorem AV.freshs_get : ∀ {l : List AV}, AV.freshs l = true → ∀ (j : Nat) (h : j < l.length), AV.fresh l[j] = true
  | [], _, j, h => by simp at h
  | c :: r, hl, j, h => by
    unfold AV.freshs at hl
    split at hl
    · rename_i hc
      cases j with
      | zero => exact hc
      | succ j => exact AV.freshs_get hl j (by simpa using h)
    · cases hl
theorem Rep0.any {F F' : Nat → Prop} {w : World} {x : AV} {v : Value} (h : Rep0 F w x v) (hf : x.fresh = true) : Rep0 F' w x v := by
  induction h with
  | b c => exact .b c
  | i k n => exact .i k n
  | s x => exact .s x
  | val v => exact .val v
  | u v => exact .u v
  | fn f caps vs hl h ih => exact .fn f caps vs hl fun j h1 h2 => ih j h1 h2 (AV.freshs_get (by simpa [AV.fresh] using hf) j h1)
  | ag cs vs hl h ih => exact .ag cs vs hl fun j h1 h2 => ih j h1 h2 (AV.freshs_get (by simpa [AV.fresh] using hf) j h1)
  | tup cs vs hl h ih => exact .tup cs vs hl fun j h1 h2 => ih j h1 h2 (AV.freshs_get (by simpa [AV.fresh] using hf) j h1)
  | rsnil sz get => simp [AV.fresh] at hf
  | rs => simp [AV.fresh] at hf
  | rp => simp [AV.fresh] at hf
theorem Rep.any {β : Bd} {n : Nat} {F F' : Nat → Prop} {w : World} {x : AV} {v : Value} (h : Rep β n F w x v) (hf : x.fresh = true) : Rep β n F' w x v := by
  induction h with
  | pure a v h => exact .pure a v (h.any hf)
  | p id off hi => exact .p id off hi
  | so id hi h1 => exact .so id hi h1
  | pe id sz idx off g m c hi h => exact .pe id sz idx off g m c hi h
  | mo id hi => exact .mo id hi
  | fn f caps vs hl h ih => exact .fn f caps vs hl fun j h1 h2 => ih j h1 h2 (AV.freshs_get (by simpa [AV.fresh] using hf) j h1)
  | ag cs vs hl h ih => exact .ag cs vs hl fun j h1 h2 => ih j h1 h2 (AV.freshs_get (by simpa [AV.fresh] using hf) j h1)
  | tup cs vs hl h ih => exact .tup cs vs hl fun j h1 h2 => ih j h1 h2 (AV.freshs_get (by simpa [AV.fresh] using hf) j h1)

def numO (n : Nat) : List AO → List OE
  | [] => []
  | o :: r => ⟨n, [], o⟩ :: numO (n + 1) r
def freshO : AO → Prop
  | .cells _ cs => AV.freshs cs = true
  | .row _ _ n get => ∀ k, k < n → AV.freshs (get k) = true
  | .dead => True
def freshOs : List AO → Prop
  | [] => True
  | [o] => freshO o
  | o :: r => freshO o ∧ freshOs r

/-- The result (os, r) is what the state has. -/
structure RetIs (os : List AO) (r : AV) (av : AV) (O : List OE) (nid : Nat) : Prop where
  is : ∃ ρ, StLe ρ ⟨[⟨0, [], r⟩], numO 0 os, os.length⟩ ⟨[⟨0, [], av⟩], O, nid⟩ ∧ r.fresh = true ∧ freshOs os
theorem RetIs.b {c d : Bool} {O : List OE} {nid : Nat} (h : d = c) : RetIs [] (.b c) (.b d) O nid := ⟨[], ⟨⟨⟨rfl, rfl, by subst h; exact AVEq.refl (.b d)⟩, trivial⟩, trivial, rfl⟩, rfl, trivial⟩
theorem RetIs.i {k : IntKind} {c d : Int} {O : List OE} {nid : Nat} (h : d = c) : RetIs [] (.i k c) (.i k d) O nid := ⟨[], ⟨⟨⟨rfl, rfl, by subst h; exact AVEq.refl (.i k d)⟩, trivial⟩, trivial, rfl⟩, rfl, trivial⟩
def retK (T : List (Nat × TI)) (res : List ResultVar) (os : List AO) (r : AV) (e : Exit) (st : St) : Prop :=
  match e, st with
  | .normal, ⟨K, O, nid⟩ => resK T K O res fun l => RetIs os r (oneOr l) O nid
  | .ret, ⟨K, O, nid⟩ => resK T K O res fun l => RetIs os r (oneOr l) O nid
  | _, _ => False

theorem run_listMapM' {α γ : Type} (f : α → Sem γ) : ∀ (l : List α) (vs : List γ), l.length = vs.length → (∀ (j : Nat) (h1 : j < l.length) (h2 : j < vs.length), (f l[j]).run P w = .ok vs[j] w) → (l.mapM f).run P w = .ok vs w
  | [], [], _, _ => rfl
  | [], _ :: _, h, _ => by simp at h
  | _ :: _, [], h, _ => by simp at h
  | a :: r, v :: vs, hl, h => by
    rw [List.mapM_cons]
    have h0 := h 0 (by simp) (by simp)
    simp only [List.getElem_cons_zero] at h0
    simp [h0, run_listMapM' f r vs (by simpa using hl) (fun j h1 h2 => h (j + 1) (Nat.succ_lt_succ h1) (Nat.succ_lt_succ h2))]

theorem resK_sound (hT : TabOk P T) {K : List KE} {O : List OE} {nid : Nat} {β : Bd} (S : SimF G w0 N (fun s => find s K) (fun id => getO id O) nid β a w) : ∀ {res : List ResultVar} {k : List AV → Prop}, resK T K O res k →
    ∃ l, k l ∧ ∃ vs : List Value, res.length = vs.length ∧ l.length = vs.length ∧
      (∀ (j : Nat) (h1 : j < res.length) (h2 : j < vs.length), (match res[j] with | .tmp t => (pure (a.tmps.getD t undef) : Sem Value) | .cell t ty => do loadVar ty (← asAddr (a.tmps.getD t undef))).run P w = .ok vs[j] w) ∧
      ∀ (j : Nat) (h1 : j < l.length) (h2 : j < vs.length), Rep β nid (FO G (fun id => getO id O) β a) w l[j] vs[j]
  | [], k, h => ⟨[], h, [], rfl, rfl, fun j h1 => by simp at h1, fun j h1 => by simp at h1⟩
  | .tmp t :: r, k, h => by
    unfold resK at h
    split at h
    · rename_i av hf
      obtain ⟨l, hk, vs, h1, h2, h3, h4⟩ := resK_sound hT S h
      refine ⟨_, hk, a.tmps.getD t undef :: vs, by simp [h1], by simp [h2], fun j hj1 hj2 => ?_, fun j hj1 hj2 => ?_⟩
      · cases j with
        | zero => rfl
        | succ j => exact h3 j (Nat.lt_of_succ_lt_succ hj1) (Nat.lt_of_succ_lt_succ hj2)
      · cases j with
        | zero => exact (S.kf t [] av hf).1 (sat_nil a)
        | succ j => exact h4 j (Nat.lt_of_succ_lt_succ hj1) (Nat.lt_of_succ_lt_succ hj2)
    · exact h.elim
  | .cell t ty :: r, k, h => by
    unfold resK at h
    split at h
    · rename_i id off ti hf ht
      split at h
      · rename_i e cs ho
        obtain ⟨hsz, h⟩ := dropTakeK_iff h
        have hv := ((S.kf t [] _ hf).1 (sat_nil a)).p_inv
        obtain ⟨hb, vs', hh, hl, hc⟩ := (S.of id [] _ ho).2 (sat_nil a)
        have hload := load_run (w := w) (hT.get ht) (β.blk id) off ((vs'.drop off).take ti.size) (by simp; omega) (fun j hj => by
          simp at hj
          rw [cell_of_row w _ _ _ _ _ hh]
          simp)
        have hrep : ∀ (j : Nat) (h1 : j < ((cs.drop off).take ti.size).length) (h2 : j < ((vs'.drop off).take ti.size).length), Rep β nid (FO G (fun id => getO id O) β a) w ((cs.drop off).take ti.size)[j] ((vs'.drop off).take ti.size)[j] := fun j h1 h2 => by
          simp at h1 h2
          simpa using (hc (off + j) (by omega) (by omega)).1
        have key : ∃ (v : Value) (av : AV), (loadVar ty ⟨β.blk id, off, none⟩).run P w = .ok v w ∧ Rep β nid (FO G (fun id => getO id O) β a) w av v ∧ resK T K O r fun l => k (av :: l) := by
          unfold packK at h
          split at h
          · rename_i hagg
            exact ⟨_, _, hload.1 hagg, .ag _ _ (by simp; omega) hrep, h⟩
          · rename_i x hagg hx
            have h0 : 0 < ((vs'.drop off).take ti.size).length := by
              have : ((cs.drop off).take ti.size).length = 1 := by rw [hx]; rfl
              simp at this ⊢
              omega
            refine ⟨_, x, hload.2 hagg h0, ?_, h⟩
            have := hrep 0 (by rw [hx]; simp) h0
            simpa only [hx, List.getElem_cons_zero] using this
          · exact h.elim
        obtain ⟨v, av, hrun, hav, h⟩ := key
        obtain ⟨l, hk, vs, h1, h2, h3, h4⟩ := resK_sound hT S h
        refine ⟨_, hk, v :: vs, by simp [h1], by simp [h2], fun j hj1 hj2 => ?_, fun j hj1 hj2 => ?_⟩
        · cases j with
          | zero => simp [hv.2, asAddr, hrun]
          | succ j => exact h3 j (Nat.lt_of_succ_lt_succ hj1) (Nat.lt_of_succ_lt_succ hj2)
        · cases j with
          | zero => exact hav
          | succ j => exact h4 j (Nat.lt_of_succ_lt_succ hj1) (Nat.lt_of_succ_lt_succ hj2)
      · exact h.elim
    · exact h.elim

theorem numO_get : ∀ (os : List AO) (n i : Nat), getO i (numO n os) = if n ≤ i then (os[i - n]?).map fun o => ([], o) else none
  | [], n, i => by simp [numO, getO]
  | o :: r, n, i => by
    simp only [numO]
    rw [getO_cons, numO_get r (n + 1) i]
    by_cases h : i = n
    · subst h
      simp
    · rw [if_neg h]
      by_cases h1 : n + 1 ≤ i
      · rw [if_pos h1, if_pos (by omega)]
        have e : i - n = (i - (n + 1)) + 1 := by omega
        rw [e, List.getElem?_cons_succ]
      · rw [if_neg h1, if_neg (by omega)]
theorem freshOs_get : ∀ {os : List AO}, freshOs os → ∀ (j : Nat) (o : AO), os[j]? = some o → freshO o
  | [], _, j, o, h => by simp at h
  | [o'], hf, j, o, h => by
    cases j with
    | zero => simp at h; subst h; exact hf
    | succ j => simp at h
  | o' :: o2 :: r, hf, j, o, h => by
    cases j with
    | zero => simp at h; subst h; exact hf.1
    | succ j => exact freshOs_get hf.2 j o (by simpa using h)

def argK (n : Nat) : List AV → List KE
  | [] => []
  | a :: r => ⟨n, [], a⟩ :: argK (n + 1) r
theorem argK_get : ∀ (l : List AV) (n s : Nat), find s (argK n l) = if n ≤ s then (l[s - n]?).map fun a => ([], a) else none
  | [], n, s => by simp [argK, find]
  | a :: r, n, s => by
    simp only [argK, find]
    rw [argK_get r (n + 1) s]
    by_cases h : n = s
    · subst h
      simp
    · have : Nat.beq n s = false := by
        cases hb' : Nat.beq n s
        · rfl
        · exact absurd (by simpa using hb') h
      rw [this]
      by_cases h1 : n + 1 ≤ s
      · rw [if_pos h1, if_pos (by omega)]
        have e : s - n = (s - (n + 1)) + 1 := by omega
        rw [e, List.getElem?_cons_succ]
      · rw [if_neg h1, if_neg (by omega)]

/-- A function's contract, out of its code. -/
theorem fn_of_exec (hT : TabOk P T) {f : FuncId} {fn : Func} {c : Code} {args : List AV} {os : List AO} {r : AV} (hf : P.funcs[f]? = some fn) (hname : (fn.name == "runtime.NumGoroutine") = false) (hb : fn.body = some c)
    {N : Nat} (hN : fn.ntmps = N) {res : List ResultVar} (hres : fn.results = res.toArray) (hle : Nat.ble args.length N = true)
    (h : execC P T N c ⟨argK 0 args, [], 0⟩ (retK T res os r)) : Ctr P f args os r := by
  refine ⟨⟨fn, hf, hname, by rw [hb]; rfl⟩, fun w vs hl hr => ?_⟩
  subst hN
  have hle : args.length ≤ fn.ntmps := by simpa using hle
  refine calls_of_wp hf hb ?_
  have hS : Sim (fun _ => False) w fn.ntmps ⟨argK 0 args, [], 0⟩ { tmps := vs.toArray ++ Array.replicate (fn.ntmps - vs.toArray.size) undef, defers := [] } w := by
    refine ⟨⟨fun _ => 0, fun _ => undef⟩, fun _ h => h.elim, Below.refl _ _, by simp; omega, rfl, ?_, fun id g o h => by simp [getO] at h, fun id id' g g' o o' b h => by simp [getO] at h⟩
    intro s g av hk
    dsimp only at hk
    rw [argK_get, if_pos (Nat.zero_le _), Nat.sub_zero] at hk
    cases hs : args[s]? with
    | none => rw [hs] at hk; cases hk
    | some x =>
      rw [hs] at hk
      simp at hk
      obtain ⟨rfl, rfl⟩ := hk
      obtain ⟨h1, rfl⟩ := List.getElem?_eq_some_iff.1 hs
      refine ⟨fun _ => ?_, fun hn => (hn (sat_nil _)).elim⟩
      have e : (vs.toArray ++ Array.replicate (fn.ntmps - vs.toArray.size) undef).getD s undef = vs[s]'(by omega) := by
        rw [Array.getD_eq_getD_getElem?, Array.getElem?_append_left (by simp; omega)]
        simp [List.getElem?_eq_getElem (show s < vs.length by omega)]
      simp only [e]
      exact .pure _ _ ((hr s h1 (by omega)).stable (fun g _ hn hf => by
        rcases hf with h | ⟨id, g, o, ho, _⟩
        · exact h
        · simp [getO] at ho) (fun _ _ _ => rfl) (Nat.le_refl _))
  refine Code.wp_mono ?_ (execC_sound hT c hS h)
  rintro e a' w' ⟨st, ⟨β, S⟩, hq⟩
  have key : ∀ (_ : resK T st.K st.O res fun l => RetIs os r (oneOr l) st.O st.nid), a'.defers = [] ∧ ∃ v, (results fn a'.tmps).run P w' = .ok v w' ∧ ∃ (v' : Value) (β : Bd), Ending.returned v = .returned v' ∧ Below w.heap.size w w' ∧
      News β os.length (FX (fun g => g < w.heap.size) β 0 os) w.heap.size w' 0 os ∧ Rep β os.length (FX (fun g => g < w.heap.size) β 0 os) w' r v' := by
    intro hq
    obtain ⟨l, ⟨⟨ρ, hle', hfr, hfo⟩⟩, vs', h1, h2, h3, h4⟩ := resK_sound hT S hq
    have hav : Rep β st.nid (FO (fun _ => False) (fun id => getO id st.O) β a') w' (oneOr l) (if h : vs'.length = 1 then vs'[0] else .tuple vs'.toArray) := by
      unfold oneOr
      split
      · rename_i x
        have hl1 : vs'.length = 1 := by simpa using h2.symm
        rw [dif_pos hl1]
        exact h4 0 (by simp) (by omega)
      · rename_i hne
        by_cases hl1 : vs'.length = 1
        · match l, h2.trans hl1 with
          | [x], _ => exact absurd rfl (hne x)
        · rw [dif_neg hl1]
          exact .tup l vs' h2 h4
    refine ⟨S.dfs, (if h : vs'.length = 1 then vs'[0] else .tuple vs'.toArray), ?_, (if h : vs'.length = 1 then vs'[0] else .tuple vs'.toArray), ⟨fun id => β.blk (rn ρ id), fun id => β.val (rn ρ id)⟩, rfl, S.below, ?_, ?_⟩
    · have hm := run_listMapM' (P := P) (w := w') (fun x : ResultVar => match x with | .tmp t => (pure (a'.tmps.getD t undef) : Sem Value) | .cell t ty => do loadVar ty (← asAddr (a'.tmps.getD t undef))) res vs' h1 h3
      have hm2 : (res.toArray.mapM (fun x : ResultVar => match x with | .tmp t => (pure (a'.tmps.getD t undef) : Sem Value) | .cell t ty => do loadVar ty (← asAddr (a'.tmps.getD t undef)))).run P w' = .ok vs'.toArray w' := by
        rw [Array.mapM_eq_mapM_toList]
        simp only [Sem.run_map]
        rw [hm]
        rfl
      unfold results
      rw [hres]
      simp only [Sem.run_bind]
      refine (congrArg (fun z => Result.andThen z _) hm2).trans ?_
      simp
    · obtain ⟨hK, hO, hi⟩ := hle'
      have hget : ∀ (j : Nat) (o : AO), os[j]? = some o → getO j (numO 0 os) = some ([], o) := fun j o ho => by
        rw [numO_get, if_pos (Nat.zero_le _), Nat.sub_zero, ho]
        rfl
      have hown : ∀ (i : Nat) (o : AO), ownB ⟨fun id => β.blk (rn ρ id), fun id => β.val (rn ρ id)⟩ i o = ownB β (rn ρ i) (o.ren (rn ρ)) := by
        intro i o
        cases o <;> simp [ownB, AO.ren]
      refine ⟨fun j o ho => ?_, fun j j' o o' g ho ho' hg hg' => ?_⟩
      · rw [Nat.zero_add]
        obtain ⟨_, hid, hcs, h⟩ := hO.get j [] o (hget j o ho)
        have hfr' := freshOs_get hfo j o ho
        rcases h with rfl | ⟨o', h1, h2⟩
        · trivial
        · have hobj := h2.ok ((S.of _ [] o' h1).2 (sat_nil _))
          cases o with
          | cells e cs =>
            obtain ⟨hb, vs2, hh, hl2, hc⟩ := hobj
            have hl' : cs.length = vs2.length := by rw [← hl2, AV.length_rens]
            refine ⟨hb, vs2, hh, hl', fun i h1 h2 => ⟨?_, (hc i (by rw [AV.length_rens]; exact h1) h2).2⟩⟩
            exact ((hc i (by rw [AV.length_rens]; exact h1) h2).1.ren' _ (AV.rens_get _ cs i _ h1).symm (AV.lts_get (hcs e cs rfl) i h1)).any (AV.freshs_get hfr' i h1)
          | row e sz m g =>
            obtain ⟨xs, hx, hlen, hc⟩ := hobj
            exact ⟨xs, hx, hlen, fun k i hk h1 h2 => ⟨(hc k i hk h1 h2).1.any (AV.freshs_get (hfr' k hk) i h1), (hc k i hk h1 h2).2⟩⟩
          | dead => trivial
      · rw [Nat.zero_add, hown] at hg hg'
        obtain ⟨_, _, _, h⟩ := hO.get j [] o (hget j o ho)
        obtain ⟨_, _, _, h'⟩ := hO.get j' [] o' (hget j' o' ho')
        rcases h with rfl | ⟨p, h1, h2⟩
        · cases hg
        · rcases h' with rfl | ⟨p', h1', h2'⟩
          · cases hg'
          · have := S.dist _ _ [] [] p p' g h1 h1' (sat_nil _) (sat_nil _) (h2.own hg) (h2'.own hg')
            exact inj_get hi j j' [] [] o o' (hget j o ho) (hget j' o' ho') this
    · obtain ⟨_, hl0, av', hf0, he⟩ := hle'.1.get 0 [] r (by simp [find])
      simp [find] at hf0
      subst hf0
      exact ((AVEq.rep he hav).ren' r rfl hl0).any hfr
  cases e with
  | normal => exact key hq
  | ret => exact key hq
  | exit => exact hq.elim
  | goto => exact hq.elim
  | panic => exact hq.elim
  | outgrown => exact hq.elim
end
end Go.Eng
