/-
  The engine: functions that turn their caller's objects, and steps that go on in more than one way.
-/
import Derived.Test.YtklmfkejgjhneaaEng11c
import Derived.Maps.RangeRun
namespace Go.Eng
open Go.RowKit

def OwnOf (β : Bd) (l : List AO) : Nat → Prop := fun g => ∃ j o, l[j]? = some o ∧ ownB β j o = some g
def DistO (β : Bd) (l : List AO) : Prop := ∀ j j' o o' g, l[j]? = some o → l[j']? = some o' → ownB β j o = some g → ownB β j' o' = some g → j = j'
/-- What a result may not lie in. -/
def Fres (al : Bool) (F : Nat → Prop) (w : World) (β : Bd) (l : List AO) : Nat → Prop := fun g => ((al = false ∧ g < w.heap.size) ∨ F g) ∨ OwnOf β l g

/-- What a function that was handed the objects ins hands back: they are outs now, os are new ones, and r is the result. -/
structure Gives (al : Bool) (F : Nat → Prop) (w : World) (ins : List AO) (β : Bd) (outs os : List AO) (r : AV) (v : Value) (w' : World) (β' : Bd) : Prop where
  ag : agree ins.length β β'
  fr : Frame (OwnOf β ins) w w'
  len : outs.length = ins.length
  obj : ∀ j o, (outs ++ os)[j]? = some o → ObjOk β' (outs ++ os).length (Fres al F w β' (outs ++ os)) w' j o
  own : ∀ g, OwnOf β' (outs ++ os) g → OwnOf β ins g ∨ w.heap.size ≤ g
  dist : DistO β' (outs ++ os)
  res : Rep β' (outs ++ os).length (Fres al F w β' (outs ++ os)) w' r v

/-- A function's contract: called with the objects ins and the arguments it hands back one of some results. Where al is true its results may lie in its arguments' memory. -/
def CtrM (P : Program) (f : FuncId) (al : Bool) (ins : List AO) (args : List AV) {Y : Type} (spec : Y → Prop) (outs os : Y → List AO) (r : Y → AV) : Prop :=
  Callable P f ∧ ∀ (F : Nat → Prop) (w : World) (β : Bd) (vs : List Value), (∀ g, OwnOf β ins g → F g) → (∀ g, F g → g < w.heap.size) → (al = false → ∀ g, F g → OwnOf β ins g) →
    (∀ j o, ins[j]? = some o → ObjOk β ins.length F w j o) → DistO β ins → args.length = vs.length → (∀ (j : Nat) (h1 : j < args.length) (h2 : j < vs.length), Rep β ins.length F w args[j] vs[j]) →
    Calls P f vs.toArray w fun e w' => ∃ v β' y, e = .returned v ∧ spec y ∧ Gives al F w ins β (outs y) (os y) (r y) v w' β'

/-! ### the caller's names for what it hands over -/
def bidx : List Nat → Nat → Option Nat
  | [], _ => none
  | b :: r, id => match Nat.beq b id with
    | true => some 0
    | false => (match bidx r id with
      | some j => some (j + 1)
      | none => none)
theorem bidx_some : ∀ {l : List Nat} {id j : Nat}, bidx l id = some j → l[j]? = some id
  | [], _, _, h => by cases h
  | b :: r, id, j, h => by
    unfold bidx at h
    split at h
    · rename_i hb
      have hb : b = id := by simpa using hb
      cases h
      simp [hb]
    · split at h
      · rename_i j' hj
        cases h
        simpa using bidx_some hj
      · cases h
theorem bidx_none : ∀ {l : List Nat} {id : Nat}, bidx l id = none → id ∉ l
  | [], _, _ => by simp
  | b :: r, id, h => by
    unfold bidx at h
    split at h
    · cases h
    · rename_i hb
      split at h
      · cases h
      · rename_i hr
        have hne : b ≠ id := by
          intro e
          subst e
          simp at hb
        rw [List.mem_cons]
        rintro (rfl | hm)
        · exact hne rfl
        · exact bidx_none hr hm
def nodupN : List Nat → Bool
  | [] => true
  | b :: r => match memN b r with
    | true => false
    | false => nodupN r
theorem nodupN_iff : ∀ {l : List Nat}, nodupN l = true → l.Nodup
  | [], _ => by simp
  | b :: r, h => by
    unfold nodupN at h
    split at h
    · cases h
    · rename_i hm
      exact List.nodup_cons.2 ⟨memN_false hm, nodupN_iff h⟩
theorem bidx_get {l : List Nat} (hn : l.Nodup) {j : Nat} (hj : j < l.length) : bidx l l[j] = some j := by
  cases h : bidx l l[j] with
  | none => exact absurd (List.getElem_mem hj) (bidx_none h)
  | some i =>
    have := bidx_some h
    obtain ⟨hi, e⟩ := List.getElem?_eq_some_iff.1 this
    rw [(List.getElem_inj hn).1 e]
def rnb : List Nat → Nat → Nat → Nat
  | [], nid, j => nid + j
  | b :: _, _, 0 => b
  | _ :: r, nid, j + 1 => rnb r nid j
theorem rnb_lt : ∀ {l : List Nat} {nid j : Nat} (h : j < l.length), rnb l nid j = l[j]
  | b :: r, nid, 0, _ => rfl
  | b :: r, nid, j + 1, h => by simpa [rnb] using rnb_lt (l := r) (nid := nid) (by simpa using h)
theorem rnb_ge : ∀ {l : List Nat} {nid j : Nat} (_ : l.length ≤ j), rnb l nid j = nid + (j - l.length)
  | [], nid, j, _ => by simp [rnb]
  | b :: r, nid, 0, h => by simp at h
  | b :: r, nid, j + 1, h => by
    have := rnb_ge (l := r) (nid := nid) (j := j) (by simpa using h)
    simp [rnb, this]

def lkx (lk : Nat → Option AO) (bor : List Nat) (id : Nat) : Option AO :=
  match bidx bor id with
  | some _ => none
  | none => lk id
def orViewK (lk : Nat → Option AO) (al : Bool) (bor : List Nat) (n : Nat) (a : AV) (k : AV → Prop) : Prop :=
  match al with
  | true => False
  | false => viewK (lkx lk bor) n a k
mutual
def bvK (lk : Nat → Option AO) (al : Bool) (bor : List Nat) : Nat → AV → (AV → Prop) → Prop
  | 0, _, _ => False
  | n + 1, .so id, k => (match bidx bor id with
    | some j => k (.so j)
    | none => orViewK lk al bor (n + 1) (.so id) k)
  | n + 1, .p id off, k => (match bidx bor id with
    | some j => k (.p j off)
    | none => orViewK lk al bor (n + 1) (.p id off) k)
  | _ + 1, .pe id sz ix off, k => (match bidx bor id with
    | some j => k (.pe j sz ix off)
    | none => False)
  | n + 1, .mo id, k => (match bidx bor id with
    | some j => k (.mo j)
    | none => orViewK lk al bor (n + 1) (.mo id) k)
  | n + 1, .sv id sz lo m, k => (match bidx bor id with
    | some j => k (.sv j sz lo m)
    | none => orViewK lk al bor (n + 1) (.sv id sz lo m) k)
  | n + 1, .fn f cs, k => bvsK lk al bor n cs fun l => k (.fn f l)
  | n + 1, .ag cs, k => bvsK lk al bor n cs fun l => k (.ag l)
  | n + 1, .tup cs, k => bvsK lk al bor n cs fun l => k (.tup l)
  | _ + 1, a, k => k a
def bvsK (lk : Nat → Option AO) (al : Bool) (bor : List Nat) : Nat → List AV → (List AV → Prop) → Prop
  | _, [], k => k []
  | 0, _ :: _, _ => False
  | n + 1, a :: r, k => bvK lk al bor n a fun b => bvsK lk al bor n r fun l => k (b :: l)
end

section
variable {P : Program} {β : Bd} {nid : Nat} {F Fa : Nat → Prop} {w : World} {lk : Nat → Option AO}

def Bd.sub (β : Bd) (bor : List Nat) : Bd := ⟨fun j => β.blk (bor.getD j 0), fun j => β.val (bor.getD j 0)⟩
theorem sub_at {bor : List Nat} {id j : Nat} (h : bidx bor id = some j) : j < bor.length ∧ (β.sub bor).blk j = β.blk id ∧ (β.sub bor).val j = β.val id := by
  have := bidx_some h
  obtain ⟨hj, e⟩ := List.getElem?_eq_some_iff.1 this
  refine ⟨hj, ?_, ?_⟩ <;> simp [Bd.sub, this]

theorem orView_sound (E : Env β nid F w lk) (hFF : ∀ g, Fa g → F g) {al : Bool} {bor : List Nat} (hFa : al = false → ∀ id o g, lkx lk bor id = some o → ownB β id o = some g → ¬ Fa g) {n : Nat} {a : AV} {v : Value} {q : AV → Prop}
    (hr : Rep β nid F w a v) (h : orViewK lk al bor n a q) : ∃ b, q b ∧ Rep (β.sub bor) bor.length Fa w b v := by
  unfold orViewK at h
  split at h
  · exact h.elim
  · obtain ⟨b, hb, hrb⟩ := (views_sound E hFF (lkv := lkx lk bor) (fun id o h => by
      unfold lkx at h
      split at h
      · cases h
      · exact h) (hFa rfl) n).1 a v q hr h
    exact ⟨b, hb, .pure _ _ hrb⟩
theorem bvs_sound (E : Env β nid F w lk) (hFF : ∀ g, Fa g → F g) {al : Bool} {bor : List Nat} (hFa : al = false → ∀ id o g, lkx lk bor id = some o → ownB β id o = some g → ¬ Fa g) : ∀ n : Nat,
    (∀ (a : AV) (v : Value) (q : AV → Prop), Rep β nid F w a v → bvK lk al bor n a q → ∃ b, q b ∧ Rep (β.sub bor) bor.length Fa w b v) ∧
    (∀ (l : List AV) (vs : List Value) (q : List AV → Prop), l.length = vs.length → (∀ (j : Nat) (h1 : j < l.length) (h2 : j < vs.length), Rep β nid F w l[j] vs[j]) → bvsK lk al bor n l q →
      ∃ m, q m ∧ m.length = vs.length ∧ ∀ (j : Nat) (h1 : j < m.length) (h2 : j < vs.length), Rep (β.sub bor) bor.length Fa w m[j] vs[j]) := by
  have less : ∀ {a : AV} {v : Value}, Rep0 F w a v → Rep (β.sub bor) bor.length Fa w a v := fun h => .pure _ _ (h.stable (fun g _ hn hf => hn (hFF g hf)) (fun _ _ _ => rfl) (Nat.le_refl _))
  intro n
  induction n with
  | zero =>
    refine ⟨fun a v q hr h => by simp only [bvK] at h, fun l vs q hl hr h => ?_⟩
    cases l with
    | nil => simp only [bvsK] at h; exact ⟨[], h, hl, fun j h1 => by simp at h1⟩
    | cons a r => simp only [bvsK] at h
  | succ n ih =>
    refine ⟨fun a v q hr h => ?_, fun l vs q hl hr h => ?_⟩
    · cases a with
      | so id =>
        simp only [bvK] at h
        split at h
        · rename_i j hj
          obtain ⟨h1, _, h2⟩ := sub_at (β := β) hj
          have hone : v.oneCell' = true := leaf_one hr rfl
          obtain ⟨_, rfl⟩ := hr.so_inv
          have := Rep.so (β := β.sub bor) (n := bor.length) (F := Fa) (w := w) j h1 (by rw [h2]; exact hone)
          rw [h2] at this
          exact ⟨_, h, this⟩
        · exact orView_sound E hFF hFa hr h
      | p id off =>
        simp only [bvK] at h
        split at h
        · rename_i j hj
          obtain ⟨h1, h2, _⟩ := sub_at (β := β) hj
          obtain ⟨_, rfl⟩ := hr.p_inv
          have := Rep.p (β := β.sub bor) (n := bor.length) (F := Fa) (w := w) j off h1
          rw [h2] at this
          exact ⟨_, h, this⟩
        · exact orView_sound E hFF hFa hr h
      | pe id sz ix off =>
        simp only [bvK] at h
        split at h
        · rename_i j hj
          obtain ⟨h1, _, h2⟩ := sub_at (β := β) hj
          obtain ⟨_, g, o, m, c, hval, rfl⟩ := hr.pe_inv
          exact ⟨_, h, .pe j sz ix off g o m c h1 (h2.trans hval)⟩
        · exact h.elim
      | mo id =>
        simp only [bvK] at h
        split at h
        · rename_i j hj
          obtain ⟨h1, h2, _⟩ := sub_at (β := β) hj
          obtain ⟨_, rfl⟩ := hr.mo_inv
          have := Rep.mo (β := β.sub bor) (n := bor.length) (F := Fa) (w := w) j h1
          rw [h2] at this
          exact ⟨_, h, this⟩
        · exact orView_sound E hFF hFa hr h
      | sv id sz lo m =>
        simp only [bvK] at h
        split at h
        · rename_i j hj
          obtain ⟨h1, _, h2⟩ := sub_at (β := β) hj
          obtain ⟨_, hsv⟩ := hr.sv_inv
          exact ⟨_, h, .sv j sz lo m v h1 (by rw [h2]; exact hsv)⟩
        · exact orView_sound E hFF hFa hr h
      | fn f cs =>
        simp only [bvK] at h
        obtain ⟨vs, rfl, hl, hc⟩ := hr.fn_inv
        obtain ⟨m, h, hml, hm⟩ := ih.2 cs vs _ hl hc h
        exact ⟨_, h, .fn f m vs hml hm⟩
      | ag cs =>
        simp only [bvK] at h
        obtain ⟨vs, rfl, hl, hc⟩ := hr.ag_inv
        obtain ⟨m, h, hml, hm⟩ := ih.2 cs vs _ hl hc h
        exact ⟨_, h, .ag m vs hml hm⟩
      | tup cs =>
        simp only [bvK] at h
        obtain ⟨vs, rfl, hl, hc⟩ := hr.tup_inv
        obtain ⟨m, h, hml, hm⟩ := ih.2 cs vs _ hl hc h
        exact ⟨_, h, .tup m vs hml hm⟩
      | _ => simp only [bvK] at h; cases hr with | pure _ _ hr => exact ⟨_, h, less hr⟩
    · cases l with
      | nil => simp only [bvsK] at h; exact ⟨[], h, hl, fun j h1 => by simp at h1⟩
      | cons a r =>
        simp only [bvsK] at h
        cases vs with
        | nil => simp at hl
        | cons v vs =>
          obtain ⟨b, h, hb⟩ := ih.1 a v _ (hr 0 (by simp) (by simp)) h
          obtain ⟨m, h, hml, hm⟩ := ih.2 r vs _ (by simpa using hl) (fun j h1 h2 => hr (j + 1) (Nat.succ_lt_succ h1) (Nat.succ_lt_succ h2)) h
          refine ⟨b :: m, h, by simp [hml], fun j h1 h2 => ?_⟩
          cases j with
          | zero => exact hb
          | succ j => exact hm j (by simpa using h1) (by simpa using h2)

def binK (lk : Nat → Option AO) (al : Bool) (bor : List Nat) : List Nat → (List AO → Prop) → Prop
  | [], k => k []
  | id :: r, k => (match lk id with
    | some (.cells e cs) => bvsK lk al bor 60 cs fun cs' => binK lk al bor r fun l => k (.cells e cs' :: l)
    | some (.row e sz n get) => binK lk al bor r fun l => k (.row e sz n get :: l)
    | some (.mp n key val born clock) => binK lk al bor r fun l => k (.mp n key val born clock :: l)
    | some (.it mid since seen) => (match bidx bor mid with
      | some j => binK lk al bor r fun l => k (.it j since seen :: l)
      | none => False)
    | some (.ir n key val seen last) => binK lk al bor r fun l => k (.ir n key val seen last :: l)
    | some .dead => binK lk al bor r fun l => k (.dead :: l)
    | none => False)
theorem bin_sound (E : Env β nid F w lk) (hFF : ∀ g, Fa g → F g) {al : Bool} {bor : List Nat} (hFa : al = false → ∀ id o g, lkx lk bor id = some o → ownB β id o = some g → ¬ Fa g) : ∀ (pre r : List Nat) (q : List AO → Prop), bor = pre ++ r → binK lk al bor r q →
    ∃ l, q l ∧ l.length = r.length ∧ ∀ j o, l[j]? = some o → ∃ id o0, r[j]? = some id ∧ lk id = some o0 ∧ ObjOk (β.sub bor) bor.length Fa w (pre.length + j) o ∧ ownB (β.sub bor) (pre.length + j) o = ownB β id o0
  | _, [], q, _, h => ⟨[], h, rfl, fun j o h => by simp at h⟩
  | pre, id :: r, q, hb, h => by
    have hget : bor.getD pre.length 0 = id := by
      rw [hb]
      simp
    have h1 : (β.sub bor).blk pre.length = β.blk id := by simp only [Bd.sub, hget]
    have h2 : (β.sub bor).val pre.length = β.val id := by simp only [Bd.sub, hget]
    have lessF : ∀ g, ¬ F g → ¬ Fa g := fun g hn hf => hn (hFF g hf)
    have less : ∀ {a : AV} {v : Value}, Rep0 F w a v → Rep0 Fa w a v := fun h => h.stable (fun g _ hn => lessF g hn) (fun _ _ _ => rfl) (Nat.le_refl _)
    have next : ∀ (o o0 : AO) (q2 : List AO → Prop), lk id = some o0 → ObjOk (β.sub bor) bor.length Fa w pre.length o → ownB (β.sub bor) pre.length o = ownB β id o0 → binK lk al bor r q2 → (∀ l, q2 l → q (o :: l)) →
        ∃ l, q l ∧ l.length = (id :: r).length ∧ ∀ j o, l[j]? = some o → ∃ i o0, (id :: r)[j]? = some i ∧ lk i = some o0 ∧ ObjOk (β.sub bor) bor.length Fa w (pre.length + j) o ∧ ownB (β.sub bor) (pre.length + j) o = ownB β i o0 := by
      intro o o0 q2 hlk hobj hown hk hq
      obtain ⟨l, hl, hlen, hl2⟩ := bin_sound E hFF hFa (pre ++ [id]) r q2 (by rw [hb]; simp) hk
      refine ⟨o :: l, hq l hl, by simp [hlen], fun j o' hj => ?_⟩
      cases j with
      | zero =>
        simp at hj
        subst hj
        exact ⟨id, o0, rfl, hlk, hobj, hown⟩
      | succ j =>
        obtain ⟨i, o1, e1, e2, e3, e4⟩ := hl2 j o' (by simpa using hj)
        have e5 : (pre ++ [id]).length + j = pre.length + (j + 1) := by simp; omega
        rw [e5] at e3 e4
        exact ⟨i, o1, by simpa using e1, e2, e3, e4⟩
    unfold binK at h
    split at h
    · rename_i e cs hlk
      obtain ⟨_, vs, hh, hl, hc⟩ := E.obj id _ hlk
      obtain ⟨cs', h, hl', hc'⟩ := (bvs_sound E hFF hFa 60).2 cs vs _ hl (fun j h1 h2 => (hc j h1 h2).1) h
      exact next (.cells e cs') _ _ hlk ⟨vs, by rw [h1]; exact hh, hl', fun j h3 h4 => ⟨hc' j h3 h4, (hc j (by omega) h4).2⟩⟩ (by simp [ownB, h1]) h (fun l hl => hl)
    · rename_i e sz n get hlk
      obtain ⟨_, xs, hx, hlen, hc⟩ := E.obj id _ hlk
      exact next (.row e sz n get) _ _ hlk ⟨xs, by rw [h2]; exact hx, hlen, fun k j hk h3 h4 => ⟨less (hc k j hk h3 h4).1, (hc k j hk h3 h4).2⟩⟩ (by simp [ownB, h2]) h (fun l hl => hl)
    · rename_i n key val born clock hlk
      obtain ⟨_, es, hh, hn, ho, hc⟩ := E.obj id _ hlk
      exact next (.mp n key val born clock) _ _ hlk ⟨es, by rw [h1]; exact hh, hn, ho, fun i h3 h4 => ⟨less (hc i h3 h4).1, less (hc i h3 h4).2.1, (hc i h3 h4).2.2⟩⟩ (by simp [ownB, h1]) h (fun l hl => hl)
    · rename_i mid since seen hlk
      split at h
      · rename_i j hj
        obtain ⟨_, hm, hh⟩ := E.obj id _ hlk
        obtain ⟨h3, h4, _⟩ := sub_at (β := β) hj
        exact next (.it j since seen) _ _ hlk ⟨h3, by rw [h1, h4]; exact hh⟩ (by simp [ownB, h1]) h (fun l hl => hl)
      · exact h.elim
    · rename_i n key val seen last hlk
      obtain ⟨_, g, es, clock, sn, hh, hn, ho, hg0, hg, hc, hlast⟩ := E.obj id _ hlk
      exact next (.ir n key val seen last) _ _ hlk ⟨g, es, clock, sn, by rw [h1]; exact hh, hn, ho, hg0, fun b hb => ⟨lessF b (hg b hb).1, (hg b hb).2⟩, fun i h3 h4 => ⟨less (hc i h3 h4).1, less (hc i h3 h4).2.1, (hc i h3 h4).2.2⟩, hlast⟩ (by simp [ownB, h1]) h (fun l hl => hl)
    · rename_i hlk
      exact next .dead _ _ hlk trivial rfl h (fun l hl => hl)
    · exact h.elim
end

def setOs : List Nat → List AO → List OE → List OE
  | b :: bs, o :: os, O => ⟨b, [], o⟩ :: setOs bs os O
  | _, _, O => O
theorem setOs_get : ∀ {bor : List Nat} {os : List AO} {O : List OE}, bor.length = os.length → ∀ id, getO id (setOs bor os O) = match bidx bor id with
    | some j => (os[j]?).map fun o => ([], o)
    | none => getO id O
  | [], [], O, _, id => rfl
  | [], _ :: _, O, h, id => by simp at h
  | _ :: _, [], O, h, id => by simp at h
  | b :: bs, o :: os, O, h, id => by
    have ih := setOs_get (bor := bs) (os := os) (O := O) (by simpa using h) id
    simp only [setOs]
    rw [getO_cons]
    unfold bidx
    by_cases hid : id = b
    · subst hid
      simp
    · have : Nat.beq b id = false := by
        cases hb' : Nat.beq b id
        · rfl
        · exact absurd (by simpa using hb' : b = id).symm hid
      rw [if_neg hid, ih, this]
      dsimp only
      cases bidx bs id <;> simp

section
variable {C : Cx} {G : Nat → Prop} {P : Program} {w0 w : World} {N : Nat} {a : Act} {K : List KE} {O : List OE} {nid : Nat} {β : Bd}

theorem many_sound (S : SimF C.al G w0 N (fun s => find s K) (fun id => getO id O) nid β a w) (hag : Agr C β nid) {bor : List Nat} (_hnd : bor.Nodup) {ins outs os : List AO} {r : AV} {v : Value} {w' : World} {β1 : Bd} {al : Bool} {F : Nat → Prop} {dst : Option Nat} {k : St → Prop}
    (hil : ins.length = bor.length) (hown : ∀ j o, ins[j]? = some o → ∃ id o0, bor[j]? = some id ∧ getO id O = some ([], o0) ∧ ownB (β.sub bor) j o = ownB β id o0)
    (hb : ∀ id, id ∈ bor → ∃ o0, getO id O = some ([], o0))
    (g : Gives al F w ins (β.sub bor) outs os r v w' β1) (hFr : ∀ b, FO G (fun id => getO id O) β a b → (al = false ∧ b < w.heap.size) ∨ F b)
    (h : addOs [] nid (AO.rens (rnb bor nid) os) (setOs bor (AO.rens (rnb bor nid) outs) O) fun O' n => putS N dst [] (r.ren (rnb bor nid)) K O' n k) :
    ∃ st', k st' ∧ Sim C G w0 N st' (a.put dst v) w' := by
  have hlt : ∀ id g o, getO id O = some (g, o) → id < nid := fun id g o h => (S.of id g o h).1
  have hblt : ∀ id, id ∈ bor → id < nid := fun id hid => by
    obtain ⟨o0, h⟩ := hb id hid
    exact hlt id _ _ h
  obtain ⟨O', h, hO'⟩ := addOs_iff h
  obtain ⟨K', h, hK, hd⟩ := putS_iff h
  rw [AO.length_rens] at h
  have hol : outs.length = bor.length := g.len.trans hil
  have hset : ∀ id, getO id (setOs bor (AO.rens (rnb bor nid) outs) O) = match bidx bor id with
      | some j => ((AO.rens (rnb bor nid) outs)[j]?).map fun o => ([], o)
      | none => getO id O := setOs_get (by rw [AO.length_rens]; exact hol.symm)
  have hO' : ∀ id, getO id O' = if nid ≤ id then ((AO.rens (rnb bor nid) os)[id - nid]?).map (fun o => ([], o)) else getO id (setOs bor (AO.rens (rnb bor nid) outs) O) := fun id => hO' id fun i g' o' hi => by
    rw [hset] at hi
    split at hi
    · rename_i j hj
      exact hblt i (List.mem_of_getElem? (bidx_some hj))
    · exact hlt _ _ _ hi
  let β2 : Bd := ⟨fun id => if id < nid then β.blk id else β1.blk (id - nid + bor.length), fun id => if id < nid then β.val id else β1.val (id - nid + bor.length)⟩
  have hag2 : agree nid β β2 := fun id hid => by simp [β2, hid]
  have hρ : ∀ j, j < (outs ++ os).length → rnb bor nid j < nid + os.length ∧ β2.blk (rnb bor nid j) = β1.blk j ∧ β2.val (rnb bor nid j) = β1.val j := by
    intro j hj
    simp only [List.length_append] at hj
    by_cases hjb : j < bor.length
    · rw [rnb_lt hjb]
      have h1 := hblt _ (List.getElem_mem hjb)
      have h2 := g.ag j (by omega)
      refine ⟨by omega, ?_, ?_⟩
      · rw [h2.1]; simp [β2, h1, Bd.sub, hjb]
      · rw [h2.2]; simp [β2, h1, Bd.sub, hjb]
    · rw [rnb_ge (by omega)]
      have e : nid + (j - bor.length) - nid + bor.length = j := by omega
      refine ⟨by omega, ?_, ?_⟩
      · show (if nid + (j - bor.length) < nid then β.blk (nid + (j - bor.length)) else β1.blk (nid + (j - bor.length) - nid + bor.length)) = _
        rw [if_neg (by omega), e]
      · show (if nid + (j - bor.length) < nid then β.val (nid + (j - bor.length)) else β1.val (nid + (j - bor.length) - nid + bor.length)) = _
        rw [if_neg (by omega), e]
  -- what lies there now
  have key : ∀ id g' o, getO id O' = some (g', o) → (∃ j o0, (outs ++ os)[j]? = some o0 ∧ id = rnb bor nid j ∧ o = o0.ren (rnb bor nid) ∧ g' = []) ∨ (id ∉ bor ∧ id < nid ∧ getO id O = some (g', o)) := by
    intro id g' o ho
    rw [hO'] at ho
    split at ho
    · rename_i hle
      obtain ⟨rfl, hj⟩ := getElem?_map_some ho
      obtain ⟨o0, h0, rfl⟩ := AO.rens_get? _ _ _ _ hj
      refine .inl ⟨id - nid + bor.length, o0, ?_, ?_, rfl, rfl⟩
      · rw [List.getElem?_append_right (by omega), ← h0]
        congr 1
        omega
      · rw [rnb_ge (by omega)]
        omega
    · rename_i hle
      rw [hset] at ho
      split at ho
      · rename_i j hj
        obtain ⟨rfl, hj2⟩ := getElem?_map_some ho
        obtain ⟨o0, h0, rfl⟩ := AO.rens_get? _ _ _ _ hj2
        have hjb := bidx_some hj
        obtain ⟨hjl, e⟩ := List.getElem?_eq_some_iff.1 hjb
        refine .inl ⟨j, o0, ?_, ?_, rfl, rfl⟩
        · rw [List.getElem?_append_left (by omega)]
          exact h0
        · rw [rnb_lt hjl, e]
      · rename_i hj
        exact .inr ⟨bidx_none hj, by omega, ho⟩
  have hownr : ∀ j o0, (outs ++ os)[j]? = some o0 → ownB β2 (rnb bor nid j) (o0.ren (rnb bor nid)) = ownB β1 j o0 := fun j o0 hj => ownB_ren _ (hρ j (List.getElem?_eq_some_iff.1 hj).1).2
  have hown2 : ∀ id g' o, getO id O = some (g', o) → ownB β2 id o = ownB β id o := fun id g' o h => by
    have := hag2 id (hlt id g' o h)
    cases o <;> simp [ownB, this.1, this.2]
  have hinsF : ∀ b, OwnOf (β.sub bor) ins b → ∃ id o0, id ∈ bor ∧ getO id O = some ([], o0) ∧ ownB β id o0 = some b := by
    rintro b ⟨j, o, hj, hbb⟩
    obtain ⟨id, o0, h1, h2, h3⟩ := hown j o hj
    exact ⟨id, o0, List.mem_of_getElem? h1, h2, by rw [← h3]; exact hbb⟩
  have hinsFO : ∀ b, OwnOf (β.sub bor) ins b → FO G (fun id => getO id O) β a b := fun b hb => by
    obtain ⟨id, o0, _, h2, h3⟩ := hinsF b hb
    exact .inr ⟨id, [], o0, h2, sat_nil a, h3⟩
  have hsub : ∀ b, FO G (fun id => getO id O') β2 a b → FO G (fun id => getO id O) β a b ∨ OwnOf β1 (outs ++ os) b := by
    rintro b (hg | ⟨id, g', o, ho, hs, hbb⟩)
    · exact .inl (.inl hg)
    · rcases key id g' o ho with ⟨j, o0, hj, rfl, rfl, rfl⟩ | ⟨_, _, h2⟩
      · rw [hownr j o0 hj] at hbb
        exact .inr ⟨j, o0, hj, hbb⟩
      · exact .inl (.inr ⟨id, g', o, h2, hs, by rw [← hown2 id g' o h2]; exact hbb⟩)
  have hF1 : ∀ b, b < w.heap.size → ¬ FO G (fun id => getO id O) β a b → ¬ FO G (fun id => getO id O') β2 a b := fun b hlt' hn hf => by
    rcases hsub b hf with h | h
    · exact hn h
    · rcases g.own b h with h2 | h2
      · exact hn (hinsFO b h2)
      · omega
  have hFres : ∀ b, ¬ Fres al F w β1 (outs ++ os) b → ¬ FO G (fun id => getO id O') β2 a b := fun b hn hf => by
    rcases hsub b hf with h | h
    · exact hn (.inl (hFr b h))
    · exact hn (.inr h)
  have hw : ∀ b, b < w.heap.size → ¬ FO G (fun id => getO id O) β a b → w'.heap[b]? = w.heap[b]? := fun b hlt' hn => g.fr.block b hlt' fun h => hn (hinsFO b h)
  have hbel : Frame C.al w0 w' := ⟨g.fr.os.trans S.below.os, g.fr.tape.trans S.below.tape, g.fr.output.trans S.below.output, Nat.le_trans S.below.size g.fr.size, fun k hk hA => by
    rw [g.fr.block k (Nat.lt_of_lt_of_le hk S.below.size) (fun hf => by
      obtain ⟨id, o0, _, h2, h3⟩ := hinsF k hf
      rcases S.allow id [] o0 k h2 (sat_nil a) h3 with h | h
      · exact hA h
      · omega)]
    exact S.below.block k hk hA⟩
  have S2 : SimF C.al G w0 N (fun s => find s K) (fun id => getO id O') (nid + os.length) β2 a w' := by
    refine ⟨S.gold, hbel, S.tsz, S.dfs, ?_, ?_, ?_, ?_⟩
    · intro s g' av hk
      refine ⟨fun hs => ?_, fun hs => (S.kf s g' av hk).2 hs⟩
      exact ((((S.kf s g' av hk).1 hs).stable hF1 hw g.fr.size).same hag2).more (by omega)
    · intro id g' o ho
      rcases key id g' o ho with ⟨j, o0, hj, rfl, rfl, rfl⟩ | ⟨hnb, hid, h2⟩
      · have hjl := (List.getElem?_eq_some_iff.1 hj).1
        refine ⟨(hρ j hjl).1, fun _ => ?_⟩
        exact (g.obj j o0 hj).unren _ hρ (hρ j hjl).2 hFres
      · refine ⟨by omega, fun hs => ?_⟩
        refine ((S.of id g' o h2).2 hs).stable hid (by omega) hag2 hF1 hw g.fr.size fun b hbb => ?_
        refine g.fr.block b (((S.of id g' o h2).2 hs).lt hbb) fun hf => ?_
        obtain ⟨id', o0, hm, h3, h4⟩ := hinsF b hf
        have := S.dist id id' g' [] o o0 b h2 h3 hs (sat_nil a) hbb h4
        subst this
        exact hnb hm
    · intro id g' o b ho hs hbb
      rcases key id g' o ho with ⟨j, o0, hj, rfl, rfl, rfl⟩ | ⟨hnb, hid, h2⟩
      · rw [hownr j o0 hj] at hbb
        rcases g.own b ⟨j, o0, hj, hbb⟩ with h3 | h3
        · obtain ⟨id', o1, _, h4, h5⟩ := hinsF b h3
          exact S.allow id' [] o1 b h4 (sat_nil a) h5
        · exact .inr (Nat.le_trans S.below.size h3)
      · rw [hown2 id g' o h2] at hbb
        exact S.allow id g' o b h2 hs hbb
    · intro id id' g1 g2 o o' b ho ho' hs hs' hbb hbb'
      have cross : ∀ j o0 id g' o, (outs ++ os)[j]? = some o0 → ownB β1 j o0 = some b → id ∉ bor → getO id O = some (g', o) → sat g' a → ownB β id o = some b → False := by
        intro j o0 id g' o hj h1 hnb h2 hs h3
        rcases g.own b ⟨j, o0, hj, h1⟩ with h4 | h4
        · obtain ⟨id', o1, hm, h5, h6⟩ := hinsF b h4
          have := S.dist id id' g' [] o o1 b h2 h5 hs (sat_nil a) h3 h6
          subst this
          exact hnb hm
        · have := ((S.of id g' o h2).2 hs).lt h3
          omega
      rcases key id g1 o ho with ⟨j, o0, hj, rfl, rfl, rfl⟩ | ⟨hnb, hid, h2⟩ <;> rcases key id' g2 o' ho' with ⟨j', o0', hj', rfl, rfl, rfl⟩ | ⟨hnb', hid', h2'⟩
      · rw [hownr j o0 hj] at hbb
        rw [hownr j' o0' hj'] at hbb'
        rw [g.dist j j' o0 o0' b hj hj' hbb hbb']
      · rw [hownr j o0 hj] at hbb
        rw [hown2 id' g2 o' h2'] at hbb'
        exact (cross j o0 id' g2 o' hj hbb hnb' h2' hs' hbb').elim
      · rw [hownr j' o0' hj'] at hbb'
        rw [hown2 id g1 o h2] at hbb
        exact (cross j' o0' id g1 o hj' hbb' hnb h2 hs hbb).elim
      · rw [hown2 id g1 o h2] at hbb
        rw [hown2 id' g2 o' h2'] at hbb'
        exact S.dist id id' g1 g2 o o' b h2 h2' hs hs' hbb hbb'
  have hr : Rep β2 (nid + os.length) (FO G (fun id => getO id O') β2 a) w' (r.ren (rnb bor nid)) v := (g.res.unren _ hρ).stable (fun b _ hn => hFres b hn) (fun _ _ _ => rfl) (Nat.le_refl _)
  have S3 := S2.put dst [] _ v hd (fun _ => hr) (fun hn => (hn (sat_nil a)).elim)
  refine ⟨_, h, β2, ?_, hag.of hag2 (by simp)⟩
  rw [hK]
  exact S3
end
end Go.Eng
