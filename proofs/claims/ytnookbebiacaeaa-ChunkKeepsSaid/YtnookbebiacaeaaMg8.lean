/-
  Several texts in one: EngX, EngY, EngZ.
-/
import Derived.Maps.RangeRun
import Derived.Test.YtnookbebiacaeaaMg7

section
namespace Go.Eng
open Go.RowKit
def OwnOf (β : Bd) (l : List AO) : Nat → Prop := fun g => ∃ j o, l[j]? = some o ∧ ownB β j o g
def DistO (β : Bd) (l : List AO) : Prop := ∀ j j' o o' g, l[j]? = some o → l[j']? = some o' → ownB β j o g → ownB β j' o' g → j = j'
def Fres (al : Bool) (F : Nat → Prop) (w : World) (β : Bd) (l : List AO) : Nat → Prop := fun g => ((al = false ∧ g < w.heap.size) ∨ F g) ∨ OwnOf β l g
structure Gives (al : Bool) (F : Nat → Prop) (w : World) (ins : List AO) (β : Bd) (outs os : List AO) (r : AV) (v : Value) (w' : World) (β' : Bd) : Prop where
 ag : agree ins.length β β'
 fr : Frame (OwnOf β ins) w w'
 len : outs.length = ins.length
 obj : ∀ j o, (outs ++ os)[j]? = some o → ObjOk β' (outs ++ os).length (Fres al F w β' (outs ++ os)) w' j o
 own : ∀ g, OwnOf β' (outs ++ os) g → OwnOf β ins g ∨ w.heap.size ≤ g
 dist : DistO β' (outs ++ os)
 res : Rep β' (outs ++ os).length (Fres al F w β' (outs ++ os)) w' r v
def CtrM (P : Program) (f : FuncId) (al : Bool) (ins : List AO) (args : List AV) {Y : Type} (spec : Y → Prop) (outs os : Y → List AO) (r : Y → AV) : Prop :=
 Callable P f ∧ ∀ (F : Nat → Prop) (w : World) (β : Bd) (vs : List Value), (∀ g, OwnOf β ins g → F g) → (∀ g, F g → g < w.heap.size) → (al = false → ∀ g, F g → OwnOf β ins g) →
  (∀ j o, ins[j]? = some o → ObjOk β ins.length F w j o) → DistO β ins → args.length = vs.length → (∀ (j : Nat) (h1 : j < args.length) (h2 : j < vs.length), Rep β ins.length F w args[j] vs[j]) →
  Calls P f vs.toArray w fun e w' => ∃ v β' y, e = .returned v ∧ spec y ∧ Gives al F w ins β (outs y) (os y) (r y) v w' β'
def bidx : List Nat → Nat → Option Nat
 | [], _ => none
 | b :: r, id => match Nat.beq b id with
  | true => some 0
  | false => (match bidx r id with
   | some j => some (j + 1)
   | none => none)
theorem bidx_some : ∀ {l : List Nat} {id j : Nat}, bidx l id = some j → l[j]? = some id
 | [], _, _, h => by cases h
 | b :: r, id, j, h => by
  unfold bidx at h
  split at h
  ·rename_i hb
   have hb : b = id := by simpa using hb
   cases h
   simp [hb]
  ·split at h
   ·rename_i j' hj
    cases h
    simpa using bidx_some hj
   ·cases h
theorem bidx_none : ∀ {l : List Nat} {id : Nat}, bidx l id = none → id ∉ l
 | [], _, _ => by simp
 | b :: r, id, h => by
  unfold bidx at h
  split at h
  ·cases h
  ·rename_i hb
   split at h
   ·cases h
   ·rename_i hr
    have hne : b ≠ id := by
     intro e
     subst e
     simp at hb
    rw [List.mem_cons]
    rintro (rfl | hm)
    ·exact hne rfl
    ·exact bidx_none hr hm
def nodupN : List Nat → Bool
 | [] => true
 | b :: r => match memN b r with
  | true => false
  | false => nodupN r
theorem nodupN_iff : ∀ {l : List Nat}, nodupN l = true → l.Nodup
 | [], _ => by simp
 | b :: r, h => by
  unfold nodupN at h
  split at h
  ·cases h
  ·rename_i hm
   exact List.nodup_cons.2 ⟨memN_false hm, nodupN_iff h⟩
def rnb : List Nat → Nat → Nat → Nat
 | [], nid, j => nid + j
 | b :: _, _, 0 => b
 | _ :: r, nid, j + 1 => rnb r nid j
theorem rnb_lt : ∀ {l : List Nat} {nid j : Nat} (h : j < l.length), rnb l nid j = l[j]
 | b :: r, nid, 0, _ => rfl
 | b :: r, nid, j + 1, h => by simpa [rnb] using rnb_lt (l := r) (nid := nid) (by simpa using h)
theorem rnb_ge : ∀ {l : List Nat} {nid j : Nat} (_ : l.length ≤ j), rnb l nid j = nid + (j - l.length)
 | [], nid, j, _ => by simp [rnb]
 | b :: r, nid, 0, h => by simp at h
 | b :: r, nid, j + 1, h => by
  have := rnb_ge (l := r) (nid := nid) (j := j) (by simpa using h)
  simp [rnb, this]
def lkx (lk : Nat → Option AO) (bor : List Nat) (id : Nat) : Option AO :=
 match bidx bor id with
 | some _ => none
 | none => lk id
def orViewK (lk : Nat → Option AO) (al : Bool) (bor : List Nat) (n : Nat) (a : AV) (k : AV → Prop) : Prop :=
 match al with
 | true => False
 | false => viewK (lkx lk bor) n a k
mutual
def bvK (lk : Nat → Option AO) (al : Bool) (bor : List Nat) : Nat → AV → (AV → Prop) → Prop
 | 0, _, _ => False
 | n + 1, .so id, k => (match bidx bor id with
  | some j => k (.so j)
  | none => orViewK lk al bor (n + 1) (.so id) k)
 | n + 1, .p id off, k => (match bidx bor id with
  | some j => k (.p j off)
  | none => orViewK lk al bor (n + 1) (.p id off) k)
 | _ + 1, .pe id sz ix off, k => (match bidx bor id with
  | some j => k (.pe j sz ix off)
  | none => False)
 | n + 1, .mo id, k => (match bidx bor id with
  | some j => k (.mo j)
  | none => orViewK lk al bor (n + 1) (.mo id) k)
 | n + 1, .sv id sz lo m, k => (match bidx bor id with
  | some j => k (.sv j sz lo m)
  | none => orViewK lk al bor (n + 1) (.sv id sz lo m) k)
 | n + 1, .sc id off m cap, k => (match bidx bor id with
  | some j => k (.sc j off m cap)
  | none => orViewK lk al bor (n + 1) (.sc id off m cap) k)
 | n + 1, .fn f cs, k => bvsK lk al bor n cs fun l => k (.fn f l)
 | n + 1, .ag cs, k => bvsK lk al bor n cs fun l => k (.ag l)
 | n + 1, .tup cs, k => bvsK lk al bor n cs fun l => k (.tup l)
 | _ + 1, a, k => k a
def bvsK (lk : Nat → Option AO) (al : Bool) (bor : List Nat) : Nat → List AV → (List AV → Prop) → Prop
 | _, [], k => k []
 | 0, _ :: _, _ => False
 | n + 1, a :: r, k => bvK lk al bor n a fun b => bvsK lk al bor n r fun l => k (b :: l)
end
section
variable {P : Program} {β : Bd} {nid : Nat} {F Fa : Nat → Prop} {w : World} {lk : Nat → Option AO}
def Bd.sub (β : Bd) (bor : List Nat) : Bd := ⟨fun j => β.blk (bor.getD j 0), fun j => β.val (bor.getD j 0)⟩
theorem sub_at {bor : List Nat} {id j : Nat} (h : bidx bor id = some j) : j < bor.length ∧ (β.sub bor).blk j = β.blk id ∧ (β.sub bor).val j = β.val id := by
 have := bidx_some h
 obtain ⟨hj, e⟩ := List.getElem?_eq_some_iff.1 this
 refine ⟨hj, ?_, ?_⟩ <;> simp [Bd.sub, this]
theorem orView_sound (E : Env β nid F w lk) (hFF : ∀ g, Fa g → F g) {al : Bool} {bor : List Nat} (hFa : al = false → ∀ id o g, lkx lk bor id = some o → ownB β id o g → ¬ Fa g) {n : Nat} {a : AV} {v : Value} {q : AV → Prop}
  (hr : Rep β nid F w a v) (h : orViewK lk al bor n a q) : ∃ b, q b ∧ Rep (β.sub bor) bor.length Fa w b v := by
 unfold orViewK at h
 split at h
 ·exact h.elim
 ·obtain ⟨b, hb, hrb⟩ := (views_sound E hFF (lkv := lkx lk bor) (fun id o h => by
   unfold lkx at h
   split at h
   ·cases h
   ·exact h) (hFa rfl) n).1 a v q hr h
  exact ⟨b, hb, .pure _ _ hrb⟩
theorem bvs_sound (E : Env β nid F w lk) (hFF : ∀ g, Fa g → F g) {al : Bool} {bor : List Nat} (hFa : al = false → ∀ id o g, lkx lk bor id = some o → ownB β id o g → ¬ Fa g) : ∀ n : Nat,
  (∀ (a : AV) (v : Value) (q : AV → Prop), Rep β nid F w a v → bvK lk al bor n a q → ∃ b, q b ∧ Rep (β.sub bor) bor.length Fa w b v) ∧
  (∀ (l : List AV) (vs : List Value) (q : List AV → Prop), l.length = vs.length → (∀ (j : Nat) (h1 : j < l.length) (h2 : j < vs.length), Rep β nid F w l[j] vs[j]) → bvsK lk al bor n l q →
   ∃ m, q m ∧ m.length = vs.length ∧ ∀ (j : Nat) (h1 : j < m.length) (h2 : j < vs.length), Rep (β.sub bor) bor.length Fa w m[j] vs[j]) := by
 have less : ∀ {a : AV} {v : Value}, Rep0 F w a v → Rep (β.sub bor) bor.length Fa w a v := fun h => .pure _ _ (h.stable (fun g _ hn hf => hn (hFF g hf)) (fun _ _ _ => rfl) (Nat.le_refl _))
 intro n
 induction n with
 | zero =>
  refine ⟨fun a v q hr h => by simp only [bvK] at h, fun l vs q hl hr h => ?_⟩
  cases l with
  | nil => simp only [bvsK] at h; exact ⟨[], h, hl, fun j h1 => by simp at h1⟩
  | cons a r => simp only [bvsK] at h
 | succ n ih =>
  refine ⟨fun a v q hr h => ?_, fun l vs q hl hr h => ?_⟩
  ·cases a with
   | so id =>
    simp only [bvK] at h
    split at h
    ·rename_i j hj
     obtain ⟨h1, _, h2⟩ := sub_at (β := β) hj
     have hone : v.oneCell' = true := leaf_one hr rfl
     obtain ⟨_, rfl⟩ := hr.so_inv
     have := Rep.so (β := β.sub bor) (n := bor.length) (F := Fa) (w := w) j h1 (by rw [h2]; exact hone)
     rw [h2] at this
     exact ⟨_, h, this⟩
    ·exact orView_sound E hFF hFa hr h
   | p id off =>
    simp only [bvK] at h
    split at h
    ·rename_i j hj
     obtain ⟨h1, h2, _⟩ := sub_at (β := β) hj
     obtain ⟨_, rfl⟩ := hr.p_inv
     have := Rep.p (β := β.sub bor) (n := bor.length) (F := Fa) (w := w) j off h1
     rw [h2] at this
     exact ⟨_, h, this⟩
    ·exact orView_sound E hFF hFa hr h
   | pe id sz ix off =>
    simp only [bvK] at h
    split at h
    ·rename_i j hj
     obtain ⟨h1, _, h2⟩ := sub_at (β := β) hj
     obtain ⟨_, g, o, m, c, hval, rfl⟩ := hr.pe_inv
     exact ⟨_, h, .pe j sz ix off g o m c h1 (h2.trans hval)⟩
    ·exact h.elim
   | mo id =>
    simp only [bvK] at h
    split at h
    ·rename_i j hj
     obtain ⟨h1, h2, _⟩ := sub_at (β := β) hj
     obtain ⟨_, rfl⟩ := hr.mo_inv
     have := Rep.mo (β := β.sub bor) (n := bor.length) (F := Fa) (w := w) j h1
     rw [h2] at this
     exact ⟨_, h, this⟩
    ·exact orView_sound E hFF hFa hr h
   | sv id sz lo m =>
    simp only [bvK] at h
    split at h
    ·rename_i j hj
     obtain ⟨h1, _, h2⟩ := sub_at (β := β) hj
     obtain ⟨_, hsv⟩ := hr.sv_inv
     exact ⟨_, h, .sv j sz lo m v h1 (by rw [h2]; exact hsv)⟩
    ·exact orView_sound E hFF hFa hr h
   | sc id off m cap =>
    simp only [bvK] at h
    split at h
    ·rename_i j hj
     obtain ⟨h1, h2, _⟩ := sub_at (β := β) hj
     obtain ⟨_, hm, hc, rfl⟩ := hr.sc_inv
     have := Rep.sc (β := β.sub bor) (n := bor.length) (F := Fa) (w := w) j off m cap h1 hm hc
     rw [h2] at this
     exact ⟨_, h, this⟩
    ·exact orView_sound E hFF hFa hr h
   | fn f cs =>
    simp only [bvK] at h
    obtain ⟨vs, rfl, hl, hc⟩ := hr.fn_inv
    obtain ⟨m, h, hml, hm⟩ := ih.2 cs vs _ hl hc h
    exact ⟨_, h, .fn f m vs hml hm⟩
   | ag cs =>
    simp only [bvK] at h
    obtain ⟨vs, rfl, hl, hc⟩ := hr.ag_inv
    obtain ⟨m, h, hml, hm⟩ := ih.2 cs vs _ hl hc h
    exact ⟨_, h, .ag m vs hml hm⟩
   | tup cs =>
    simp only [bvK] at h
    obtain ⟨vs, rfl, hl, hc⟩ := hr.tup_inv
    obtain ⟨m, h, hml, hm⟩ := ih.2 cs vs _ hl hc h
    exact ⟨_, h, .tup m vs hml hm⟩
   | _ => simp only [bvK] at h; cases hr with | pure _ _ hr => exact ⟨_, h, less hr⟩
  ·cases l with
   | nil => simp only [bvsK] at h; exact ⟨[], h, hl, fun j h1 => by simp at h1⟩
   | cons a r =>
    simp only [bvsK] at h
    cases vs with
    | nil => simp at hl
    | cons v vs =>
     obtain ⟨b, h, hb⟩ := ih.1 a v _ (hr 0 (by simp) (by simp)) h
     obtain ⟨m, h, hml, hm⟩ := ih.2 r vs _ (by simpa using hl) (fun j h1 h2 => hr (j + 1) (Nat.succ_lt_succ h1) (Nat.succ_lt_succ h2)) h
     refine ⟨b :: m, h, by simp [hml], fun j h1 h2 => ?_⟩
     cases j with
     | zero => exact hb
     | succ j => exact hm j (by simpa using h1) (by simpa using h2)
def binK (lk : Nat → Option AO) (al : Bool) (bor : List Nat) : List Nat → (List AO → Prop) → Prop
 | [], k => k []
 | id :: r, k => (match lk id with
  | some (.cells e cs) => bvsK lk al bor 60 cs fun cs' => binK lk al bor r fun l => k (.cells e cs' :: l)
  | some (.row e sz n get) => binK lk al bor r fun l => k (.row e sz n get :: l)
  | some (.mp n key val born clock) => binK lk al bor r fun l => k (.mp n key val born clock :: l)
  | some (.it mid since seen) => (match bidx bor mid with
   | some j => binK lk al bor r fun l => k (.it j since seen :: l)
   | none => False)
  | some (.ir n key val seen last) => binK lk al bor r fun l => k (.ir n key val seen last :: l)
  | some (.mr n key kid born clock aux none) => (match bidx bor aux with
   | some j => binK lk al bor r fun l => k (.mr n key kid born clock j none :: l)
   | none => False)
  | some (.mr _ _ _ _ _ _ (some _)) => False
  | some .dead => binK lk al bor r fun l => k (.dead :: l)
  | none => False)
theorem bin_sound (E : Env β nid F w lk) (hFF : ∀ g, Fa g → F g) {al : Bool} {bor : List Nat} (hFa : al = false → ∀ id o g, lkx lk bor id = some o → ownB β id o g → ¬ Fa g) : ∀ (pre r : List Nat) (q : List AO → Prop), bor = pre ++ r → binK lk al bor r q →
  ∃ l, q l ∧ l.length = r.length ∧ ∀ j o, l[j]? = some o → ∃ id o0, r[j]? = some id ∧ lk id = some o0 ∧ ObjOk (β.sub bor) bor.length Fa w (pre.length + j) o ∧ ownB (β.sub bor) (pre.length + j) o = ownB β id o0
 | _, [], q, _, h => ⟨[], h, rfl, fun j o h => by simp at h⟩
 | pre, id :: r, q, hb, h => by
  have hget : bor.getD pre.length 0 = id := by
   rw [hb]
   simp
  have h1 : (β.sub bor).blk pre.length = β.blk id := by simp only [Bd.sub, hget]
  have h2 : (β.sub bor).val pre.length = β.val id := by simp only [Bd.sub, hget]
  have lessF : ∀ g, ¬ F g → ¬ Fa g := fun g hn hf => hn (hFF g hf)
  have less : ∀ {a : AV} {v : Value}, Rep0 F w a v → Rep0 Fa w a v := fun h => h.stable (fun g _ hn => lessF g hn) (fun _ _ _ => rfl) (Nat.le_refl _)
  have next : ∀ (o o0 : AO) (q2 : List AO → Prop), lk id = some o0 → ObjOk (β.sub bor) bor.length Fa w pre.length o → ownB (β.sub bor) pre.length o = ownB β id o0 → binK lk al bor r q2 → (∀ l, q2 l → q (o :: l)) →
    ∃ l, q l ∧ l.length = (id :: r).length ∧ ∀ j o, l[j]? = some o → ∃ i o0, (id :: r)[j]? = some i ∧ lk i = some o0 ∧ ObjOk (β.sub bor) bor.length Fa w (pre.length + j) o ∧ ownB (β.sub bor) (pre.length + j) o = ownB β i o0 := by
   intro o o0 q2 hlk hobj hown hk hq
   obtain ⟨l, hl, hlen, hl2⟩ := bin_sound E hFF hFa (pre ++ [id]) r q2 (by rw [hb]; simp) hk
   refine ⟨o :: l, hq l hl, by simp [hlen], fun j o' hj => ?_⟩
   cases j with
   | zero =>
    simp at hj
    subst hj
    exact ⟨id, o0, rfl, hlk, hobj, hown⟩
   | succ j =>
    obtain ⟨i, o1, e1, e2, e3, e4⟩ := hl2 j o' (by simpa using hj)
    have e5 : (pre ++ [id]).length + j = pre.length + (j + 1) := by simp; omega
    rw [e5] at e3 e4
    exact ⟨i, o1, by simpa using e1, e2, e3, e4⟩
  unfold binK at h
  split at h
  ·rename_i e cs hlk
   obtain ⟨_, vs, hh, hl, hc⟩ := E.obj id _ hlk
   obtain ⟨cs', h, hl', hc'⟩ := (bvs_sound E hFF hFa 60).2 cs vs _ hl (fun j h1 h2 => (hc j h1 h2).1) h
   exact next (.cells e cs') _ _ hlk ⟨vs, by rw [h1]; exact hh, hl', fun j h3 h4 => ⟨hc' j h3 h4, (hc j (by omega) h4).2⟩⟩ (by simp [ownB, h1]) h (fun l hl => hl)
  ·rename_i e sz n get hlk
   obtain ⟨_, xs, hx, hlen, hc⟩ := E.obj id _ hlk
   exact next (.row e sz n get) _ _ hlk ⟨xs, by rw [h2]; exact hx, hlen, fun k j hk h3 h4 => ⟨less (hc k j hk h3 h4).1, (hc k j hk h3 h4).2⟩⟩ (by simp [ownB, h2]) h (fun l hl => hl)
  ·rename_i n key val born clock hlk
   obtain ⟨_, es, hh, hn, ho, hc⟩ := E.obj id _ hlk
   exact next (.mp n key val born clock) _ _ hlk ⟨es, by rw [h1]; exact hh, hn, ho, fun i h3 h4 => ⟨less (hc i h3 h4).1, less (hc i h3 h4).2.1, (hc i h3 h4).2.2⟩⟩ (by simp [ownB, h1]) h (fun l hl => hl)
  ·rename_i mid since seen hlk
   split at h
   ·rename_i j hj
    obtain ⟨_, hm, hh⟩ := E.obj id _ hlk
    obtain ⟨h3, h4, _⟩ := sub_at (β := β) hj
    exact next (.it j since seen) _ _ hlk ⟨h3, by rw [h1, h4]; exact hh⟩ (by simp [ownB, h1]) h (fun l hl => hl)
   ·exact h.elim
  ·rename_i n key val seen last hlk
   obtain ⟨_, g, es, clock, sn, hh, hn, ho, hg0, hg, hc, hlast⟩ := E.obj id _ hlk
   exact next (.ir n key val seen last) _ _ hlk ⟨g, es, clock, sn, by rw [h1]; exact hh, hn, ho, hg0, fun b hb => ⟨lessF b (hg b hb).1, (hg b hb).2⟩, fun i h3 h4 => ⟨less (hc i h3 h4).1, less (hc i h3 h4).2.1, (hc i h3 h4).2.2⟩, hlast⟩ (by simp [ownB, h1]) h (fun l hl => hl)
  ·rename_i n key kid born clock aux hlk
   split at h
   ·rename_i j hj
    obtain ⟨_, ha, _, es, hh, hn, ho, hkey, hk, hd, hne, _⟩ := E.obj id _ hlk
    obtain ⟨h3, _, h5⟩ := sub_at (β := β) hj
    refine next (.mr n key kid born clock j none) _ _ hlk ⟨h3, fun _ _ e => (by cases e), es, by rw [h1]; exact hh, hn, ho, fun i h6 h7 => ⟨less (hkey i h6 h7).1, (hkey i h6 h7).2⟩,
     fun i h6 h7 hno => ⟨by rw [h5]; exact (hk i h6 h7 hno).1, (hk i h6 h7 hno).2.stable (fun g _ hn => lessF g hn) (fun _ _ _ => rfl) (Nat.le_refl _) fun _ _ => rfl⟩, by rw [h5]; exact hd, by rw [h5, h1]; exact hne, fun _ _ e => (by cases e)⟩ (by simp only [ownB, h1, h5]) h (fun l hl => hl)
   ·exact h.elim
  ·exact h.elim
  ·rename_i hlk
   exact next .dead _ _ hlk trivial rfl h (fun l hl => hl)
  ·exact h.elim
end
def setOs : List Nat → List AO → List OE → List OE
 | b :: bs, o :: os, O => ⟨b, [], o⟩ :: setOs bs os O
 | _, _, O => O
theorem setOs_get : ∀ {bor : List Nat} {os : List AO} {O : List OE}, bor.length = os.length → ∀ id, getO id (setOs bor os O) = match bidx bor id with
  | some j => (os[j]?).map fun o => ([], o)
  | none => getO id O
 | [], [], O, _, id => rfl
 | [], _ :: _, O, h, id => by simp at h
 | _ :: _, [], O, h, id => by simp at h
 | b :: bs, o :: os, O, h, id => by
  have ih := setOs_get (bor := bs) (os := os) (O := O) (by simpa using h) id
  simp only [setOs]
  rw [getO_cons]
  unfold bidx
  by_cases hid : id = b
  ·subst hid
   simp
  ·have : Nat.beq b id = false := by
    cases hb' : Nat.beq b id
    ·rfl
    ·exact absurd (by simpa using hb' : b = id).symm hid
   rw [if_neg hid, ih, this]
   dsimp only
   cases bidx bs id <;> simp
section
variable {C : Cx} {G : Nat → Prop} {P : Program} {w0 w : World} {N : Nat} {a : Act} {K : List KE} {O : List OE} {nid : Nat} {β : Bd}
theorem many_sound (S : SimF C.al G w0 N (fun s => find s K) (fun id => getO id O) nid β a w) (hag : Agr C β nid) {bor : List Nat} (_hnd : bor.Nodup) {ins outs os : List AO} {r : AV} {v : Value} {w' : World} {β1 : Bd} {al : Bool} {F : Nat → Prop} {dst : Option Nat} {k : St → Prop}
  (hil : ins.length = bor.length) (hown : ∀ j o, ins[j]? = some o → ∃ id o0, bor[j]? = some id ∧ getO id O = some ([], o0) ∧ ownB (β.sub bor) j o = ownB β id o0)
  (hb : ∀ id, id ∈ bor → ∃ o0, getO id O = some ([], o0))
  (g : Gives al F w ins (β.sub bor) outs os r v w' β1) (hFr : ∀ b, FO G (fun id => getO id O) β a b → (al = false ∧ b < w.heap.size) ∨ F b)
  (h : addOs [] nid (AO.rens (rnb bor nid) os) (setOs bor (AO.rens (rnb bor nid) outs) O) fun O' n => putS N dst [] (r.ren (rnb bor nid)) K O' n k) :
  ∃ st', k st' ∧ Sim C G w0 N st' (a.put dst v) w' := by
 have hlt : ∀ id g o, getO id O = some (g, o) → id < nid := fun id g o h => (S.of id g o h).1
 have hblt : ∀ id, id ∈ bor → id < nid := fun id hid => by
  obtain ⟨o0, h⟩ := hb id hid
  exact hlt id _ _ h
 obtain ⟨O', h, hO'⟩ := addOs_iff h
 obtain ⟨K', h, hK, hd⟩ := putS_iff h
 rw [AO.length_rens] at h
 have hol : outs.length = bor.length := g.len.trans hil
 have hset : ∀ id, getO id (setOs bor (AO.rens (rnb bor nid) outs) O) = match bidx bor id with
   | some j => ((AO.rens (rnb bor nid) outs)[j]?).map fun o => ([], o)
   | none => getO id O := setOs_get (by rw [AO.length_rens]; exact hol.symm)
 have hO' : ∀ id, getO id O' = if nid ≤ id then ((AO.rens (rnb bor nid) os)[id - nid]?).map (fun o => ([], o)) else getO id (setOs bor (AO.rens (rnb bor nid) outs) O) := fun id => hO' id fun i g' o' hi => by
  rw [hset] at hi
  split at hi
  ·rename_i j hj
   exact hblt i (List.mem_of_getElem? (bidx_some hj))
  ·exact hlt _ _ _ hi
 let β2 : Bd := ⟨fun id => if id < nid then β.blk id else β1.blk (id - nid + bor.length), fun id => if id < nid then β.val id else β1.val (id - nid + bor.length)⟩
 have hag2 : agree nid β β2 := fun id hid => by simp [β2, hid]
 have hρ : ∀ j, j < (outs ++ os).length → rnb bor nid j < nid + os.length ∧ β2.blk (rnb bor nid j) = β1.blk j ∧ β2.val (rnb bor nid j) = β1.val j := by
  intro j hj
  simp only [List.length_append] at hj
  by_cases hjb : j < bor.length
  ·rw [rnb_lt hjb]
   have h1 := hblt _ (List.getElem_mem hjb)
   have h2 := g.ag j (by omega)
   refine ⟨by omega, ?_, ?_⟩
   ·rw [h2.1]; simp [β2, h1, Bd.sub, hjb]
   ·rw [h2.2]; simp [β2, h1, Bd.sub, hjb]
  ·rw [rnb_ge (by omega)]
   have e : nid + (j - bor.length) - nid + bor.length = j := by omega
   refine ⟨by omega, ?_, ?_⟩
   ·show (if nid + (j - bor.length) < nid then β.blk (nid + (j - bor.length)) else β1.blk (nid + (j - bor.length) - nid + bor.length)) = _
    rw [if_neg (by omega), e]
   ·show (if nid + (j - bor.length) < nid then β.val (nid + (j - bor.length)) else β1.val (nid + (j - bor.length) - nid + bor.length)) = _
    rw [if_neg (by omega), e]
 have key : ∀ id g' o, getO id O' = some (g', o) → (∃ j o0, (outs ++ os)[j]? = some o0 ∧ id = rnb bor nid j ∧ o = o0.ren (rnb bor nid) ∧ g' = []) ∨ (id ∉ bor ∧ id < nid ∧ getO id O = some (g', o)) := by
  intro id g' o ho
  rw [hO'] at ho
  split at ho
  ·rename_i hle
   obtain ⟨rfl, hj⟩ := getElem?_map_some ho
   obtain ⟨o0, h0, rfl⟩ := AO.rens_get? _ _ _ _ hj
   refine .inl ⟨id - nid + bor.length, o0, ?_, ?_, rfl, rfl⟩
   ·rw [List.getElem?_append_right (by omega), ← h0]
    congr 1
    omega
   ·rw [rnb_ge (by omega)]
    omega
  ·rename_i hle
   rw [hset] at ho
   split at ho
   ·rename_i j hj
    obtain ⟨rfl, hj2⟩ := getElem?_map_some ho
    obtain ⟨o0, h0, rfl⟩ := AO.rens_get? _ _ _ _ hj2
    have hjb := bidx_some hj
    obtain ⟨hjl, e⟩ := List.getElem?_eq_some_iff.1 hjb
    refine .inl ⟨j, o0, ?_, ?_, rfl, rfl⟩
    ·rw [List.getElem?_append_left (by omega)]
     exact h0
    ·rw [rnb_lt hjl, e]
   ·rename_i hj
    exact .inr ⟨bidx_none hj, by omega, ho⟩
 have hownr : ∀ j o0, (outs ++ os)[j]? = some o0 → ownB β2 (rnb bor nid j) (o0.ren (rnb bor nid)) = ownB β1 j o0 := fun j o0 hj => ownB_ren _ (hρ j (List.getElem?_eq_some_iff.1 hj).1).2 fun x hx => (hρ x ((g.obj j o0 hj).aux_lt hx)).2.2
 have hown2 : ∀ id g' o, getO id O = some (g', o) → sat g' a → ownB β2 id o = ownB β id o := fun id g' o h hs =>
  ownB_eq (hag2 id (hlt id g' o h)) fun x hx => (hag2 x (((S.of id g' o h).2 hs).aux_lt hx)).2
 have hinsF : ∀ b, OwnOf (β.sub bor) ins b → ∃ id o0, id ∈ bor ∧ getO id O = some ([], o0) ∧ ownB β id o0 b := by
  rintro b ⟨j, o, hj, hbb⟩
  obtain ⟨id, o0, h1, h2, h3⟩ := hown j o hj
  exact ⟨id, o0, List.mem_of_getElem? h1, h2, by rw [← h3]; exact hbb⟩
 have hinsFO : ∀ b, OwnOf (β.sub bor) ins b → FO G (fun id => getO id O) β a b := fun b hb => by
  obtain ⟨id, o0, _, h2, h3⟩ := hinsF b hb
  exact .inr ⟨id, [], o0, h2, sat_nil a, h3⟩
 have hsub : ∀ b, FO G (fun id => getO id O') β2 a b → FO G (fun id => getO id O) β a b ∨ OwnOf β1 (outs ++ os) b := by
  rintro b (hg | ⟨id, g', o, ho, hs, hbb⟩)
  ·exact .inl (.inl hg)
  ·rcases key id g' o ho with ⟨j, o0, hj, rfl, rfl, rfl⟩ | ⟨_, _, h2⟩
   ·rw [hownr j o0 hj] at hbb
    exact .inr ⟨j, o0, hj, hbb⟩
   ·exact .inl (.inr ⟨id, g', o, h2, hs, by rw [← hown2 id g' o h2 hs]; exact hbb⟩)
 have hF1 : ∀ b, b < w.heap.size → ¬ FO G (fun id => getO id O) β a b → ¬ FO G (fun id => getO id O') β2 a b := fun b hlt' hn hf => by
  rcases hsub b hf with h | h
  ·exact hn h
  ·rcases g.own b h with h2 | h2
   ·exact hn (hinsFO b h2)
   ·omega
 have hFres : ∀ b, ¬ Fres al F w β1 (outs ++ os) b → ¬ FO G (fun id => getO id O') β2 a b := fun b hn hf => by
  rcases hsub b hf with h | h
  ·exact hn (.inl (hFr b h))
  ·exact hn (.inr h)
 have hw : ∀ b, b < w.heap.size → ¬ FO G (fun id => getO id O) β a b → w'.heap[b]? = w.heap[b]? := fun b hlt' hn => g.fr.block b hlt' fun h => hn (hinsFO b h)
 have hbel : Frame C.al w0 w' := ⟨g.fr.os.trans S.below.os, g.fr.tape.trans S.below.tape, g.fr.output.trans S.below.output, Nat.le_trans S.below.size g.fr.size, fun k hk hA => by
  rw [g.fr.block k (Nat.lt_of_lt_of_le hk S.below.size) (fun hf => by
   obtain ⟨id, o0, _, h2, h3⟩ := hinsF k hf
   rcases S.allow id [] o0 k h2 (sat_nil a) h3 with h | h
   ·exact hA h
   ·omega)]
  exact S.below.block k hk hA, Nat.le_trans S.below.drawn g.fr.drawn⟩
 have S2 : SimF C.al G w0 N (fun s => find s K) (fun id => getO id O') (nid + os.length) β2 a w' := by
  refine ⟨S.gold, hbel, S.tsz, S.dfs, ?_, ?_, ?_, ?_⟩
  ·intro s g' av hk
   refine ⟨fun hs => ?_, fun hs => (S.kf s g' av hk).2 hs⟩
   exact ((((S.kf s g' av hk).1 hs).stable hF1 hw g.fr.size).same hag2).more (by omega)
  ·intro id g' o ho
   rcases key id g' o ho with ⟨j, o0, hj, rfl, rfl, rfl⟩ | ⟨hnb, hid, h2⟩
   ·have hjl := (List.getElem?_eq_some_iff.1 hj).1
    refine ⟨(hρ j hjl).1, fun _ => ?_⟩
    exact (g.obj j o0 hj).unren _ hρ (hρ j hjl).2 hFres
   ·refine ⟨by omega, fun hs => ?_⟩
    refine ((S.of id g' o h2).2 hs).stable hid (by omega) hag2 hF1 hw g.fr.size fun b hbb => ?_
    refine g.fr.block b (((S.of id g' o h2).2 hs).lt hbb) fun hf => ?_
    obtain ⟨id', o0, hm, h3, h4⟩ := hinsF b hf
    have := S.dist id id' g' [] o o0 b h2 h3 hs (sat_nil a) hbb h4
    subst this
    exact hnb hm
  ·intro id g' o b ho hs hbb
   rcases key id g' o ho with ⟨j, o0, hj, rfl, rfl, rfl⟩ | ⟨hnb, hid, h2⟩
   ·rw [hownr j o0 hj] at hbb
    rcases g.own b ⟨j, o0, hj, hbb⟩ with h3 | h3
    ·obtain ⟨id', o1, _, h4, h5⟩ := hinsF b h3
     exact S.allow id' [] o1 b h4 (sat_nil a) h5
    ·exact .inr (Nat.le_trans S.below.size h3)
   ·rw [hown2 id g' o h2 hs] at hbb
    exact S.allow id g' o b h2 hs hbb
  ·intro id id' g1 g2 o o' b ho ho' hs hs' hbb hbb'
   have cross : ∀ j o0 id g' o, (outs ++ os)[j]? = some o0 → ownB β1 j o0 b → id ∉ bor → getO id O = some (g', o) → sat g' a → ownB β id o b → False := by
    intro j o0 id g' o hj h1 hnb h2 hs h3
    rcases g.own b ⟨j, o0, hj, h1⟩ with h4 | h4
    ·obtain ⟨id', o1, hm, h5, h6⟩ := hinsF b h4
     have := S.dist id id' g' [] o o1 b h2 h5 hs (sat_nil a) h3 h6
     subst this
     exact hnb hm
    ·have := ((S.of id g' o h2).2 hs).lt h3
     omega
   rcases key id g1 o ho with ⟨j, o0, hj, rfl, rfl, rfl⟩ | ⟨hnb, hid, h2⟩ <;> rcases key id' g2 o' ho' with ⟨j', o0', hj', rfl, rfl, rfl⟩ | ⟨hnb', hid', h2'⟩
   ·rw [hownr j o0 hj] at hbb
    rw [hownr j' o0' hj'] at hbb'
    rw [g.dist j j' o0 o0' b hj hj' hbb hbb']
   ·rw [hownr j o0 hj] at hbb
    rw [hown2 id' g2 o' h2' hs'] at hbb'
    exact (cross j o0 id' g2 o' hj hbb hnb' h2' hs' hbb').elim
   ·rw [hownr j' o0' hj'] at hbb'
    rw [hown2 id g1 o h2 hs] at hbb
    exact (cross j' o0' id g1 o hj' hbb' hnb h2 hs hbb).elim
   ·rw [hown2 id g1 o h2 hs] at hbb
    rw [hown2 id' g2 o' h2' hs'] at hbb'
    exact S.dist id id' g1 g2 o o' b h2 h2' hs hs' hbb hbb'
 have hr : Rep β2 (nid + os.length) (FO G (fun id => getO id O') β2 a) w' (r.ren (rnb bor nid)) v := (g.res.unren _ hρ).stable (fun b _ hn => hFres b hn) (fun _ _ _ => rfl) (Nat.le_refl _)
 have S3 := S2.put dst [] _ v hd (fun _ => hr) (fun hn => (hn (sat_nil a)).elim)
 refine ⟨_, h, β2, ?_, hag.of hag2 (by simp)⟩
 rw [hK]
 exact S3
end
end Go.Eng
end

section
namespace Go.Eng
open Go.RowKit
def callX (P : Program) (N : Nat) (dst : Option Nat) (lk : Nat → Option AO) (K : List KE) (O : List OE) (nid : Nat) (f : AV) (args : List AV) (k : St → Prop) : Prop :=
 match f with
 | .fn fid caps =>
  (viewsK lk 60 (appL args caps) fun vs => ∃ os r, Ctr P fid vs os r ∧ applyS N dst [] K O nid (.ext (AO.rens (· + nid) os) (r.ren (· + nid))) k) ∨
  ((match AV.lts 0 (appL args caps) with
   | true => ∃ r, CtrA P fid (appL args caps) r ∧ applyS N dst [] K O nid (.ext [] r) k
   | false => False) ∨
  ∃ (al : Bool) (bor : List Nat), bvsK lk al bor 60 (appL args caps) fun vs => binK lk al bor bor fun ins => nodupN bor = true ∧ ∃ (Y : Type) (spec : Y → Prop) (outs os : Y → List AO) (r : Y → AV),
   CtrM P fid al ins vs spec outs os r ∧ ∀ y, spec y → addOs [] nid (AO.rens (rnb bor nid) (os y)) (setOs bor (AO.rens (rnb bor nid) (outs y)) O) fun O' n => putS N dst [] ((r y).ren (rnb bor nid)) K O' n k)
 | _ => False
def nextX (N : Nat) (dst : Option Nat) (lk : Nat → Option AO) (K : List KE) (O : List OE) (nid : Nat) (a : AV) (k : St → Prop) : Prop :=
 match a with
 | .p id 0 => (match lk id with
  | some (.ir n key val seen _) =>
   (∀ i, i < n → seen i = false → applyS N dst [] K O nid (.set id (.ir n key val (fun j => if j = i then true else seen j) (some i)) (.tup [.b true, key i, val i])) k) ∧
   ((∀ i, i < n → seen i = true) → applyS N dst [] K O nid (.ext [] (.tup [.b false])) k)
  | some (.it mid since seen) => (match lk mid with
   | some (.mp n key val born clock) => clock = since ∧
    (∀ i, i < n → ¬ born i ∈ seen → applyS N dst [] K O nid (.set id (.it mid since (seen ++ [born i])) (.tup [.b true, key i, val i])) k) ∧
    ((∀ i, i < n → born i ∈ seen) → applyS N dst [] K O nid (.ext [] (.tup [.b false])) k)
   | _ => False)
  | _ => False)
 | _ => False
def nilX (N : Nat) (dst : Option Nat) (tg : Tags) (lk : Nat → Option AO) (K : List KE) (O : List OE) (nid : Nat) (e : Bool) (a : AV) (k : St → Prop) : Prop :=
 match a with
 | .rs _ n _ => ∀ c : Bool, (c = true → n = 0) → applyS N dst tg K O nid (.ext [] (.b (c == e))) k
 | .sv _ _ _ n => ∀ c : Bool, (c = true → n = 0) → applyS N dst tg K O nid (.ext [] (.b (c == e))) k
 | .so id => (match lk id with
  | some (.row _ _ n _) => ∀ c : Bool, (c = true → n = 0) → applyS N dst tg K O nid (.ext [] (.b (c == e))) k
  | _ => False)
 | .val v => (match nilSlice v with
  | true => applyS N dst tg K O nid (.ext [] (.b e)) k
  | false => False)
 | _ => False
def eqNe : BinOp → Option Bool
 | .eql => some true
 | .neq => some false
 | _ => none
def nilable : AV → Bool
 | .rs _ _ _ => true
 | .sv _ _ _ _ => true
 | .so _ => true
 | _ => false
def nilG (P : Program) (T : List (Nat × TI)) (N : Nat) (ops : List Oper) (o : Oper) (op : BinOp) (t : TypeId) (x : Operand) (v : Value) (st : St) (k : St → Prop) : Prop :=
 match st with
 | ⟨K, O, nid⟩ => (match eqNe op, nilSlice v, sliceAt T t, tagsOf ops K o.guard with
  | some e, true, true, some tg => (match evalO K tg x with
   | some a => (match nilable a with
    | true => nilX N o.dst tg (lkOf O tg) K O nid e a k
    | false => stepS P T N ops o ⟨K, O, nid⟩ k)
   | none => stepS P T N ops o ⟨K, O, nid⟩ k)
  | _, _, _, _ => stepS P T N ops o ⟨K, O, nid⟩ k)
def knownT (K : List KE) : Tags → Prop
 | [] => True
 | (t, b) :: r => (match find t K with
  | some (g, .b c) => subTags g r = true ∧ c = b
  | _ => False) ∧ knownT K r
def notT (K : List KE) : Tags → Prop
 | [] => False
 | (t, b) :: r => (match find t K with
  | some (g, .b c) => subTags g r = true ∧ c = !b
  | _ => False) ∧ knownT K r
def callG (P : Program) (T : List (Nat × TI)) (N : Nat) (ops : List Oper) (o : Oper) (f : Operand) (args : List Operand) (st : St) (k : St → Prop) : Prop :=
 stepS P T N ops o st k ∨ (match st with
  | ⟨K, O, nid⟩ => (match tagsOf ops K o.guard with
   | some tg => (knownT K tg ∧ withA (evalO K tg f) fun a => evsK (evalO K tg) args fun l => callX P N o.dst (lkOf O []) K O nid a l k) ∨ (notT K tg ∧ ∃ r, applyS N o.dst tg K O nid (.ext [] r) k)
   | none => False))
def stepX (P : Program) (T : List (Nat × TI)) (N : Nat) (ops : List Oper) (o : Oper) (st : St) (k : St → Prop) : Prop :=
 match st with
 | ⟨K, O, nid⟩ => (match o.guard, o.op with
  | none, .call ⟨.value f, ⟨args⟩, _⟩ => withA (evalO K [] f) fun a => evsK (evalO K []) args fun l => callX P N o.dst (lkOf O []) K O nid a l k
  | none, .next x false => withA (evalO K [] x) fun a => nextX N o.dst (lkOf O []) K O nid a k
  | none, .binOp .eql t x (.const v) y => (match nilSlice v, sliceAt T t with
   | true, true => withA (evalO K [] x) fun a => nilX N o.dst [] (lkOf O []) K O nid true a k
   | _, _ => stepS P T N ops ⟨o.dst, .binOp .eql t x (.const v) y, o.type, o.pos, o.after, none⟩ ⟨K, O, nid⟩ k)
  | none, .binOp .neq t x (.const v) y => (match nilSlice v, sliceAt T t with
   | true, true => withA (evalO K [] x) fun a => nilX N o.dst [] (lkOf O []) K O nid false a k
   | _, _ => stepS P T N ops ⟨o.dst, .binOp .neq t x (.const v) y, o.type, o.pos, o.after, none⟩ ⟨K, O, nid⟩ k)
  | some g, .call ⟨.value f, ⟨args⟩, tys⟩ => callG P T N ops ⟨o.dst, .call ⟨.value f, ⟨args⟩, tys⟩, o.type, o.pos, o.after, some g⟩ f args ⟨K, O, nid⟩ k
  | some g, .binOp op t x (.const v) y => nilG P T N ops ⟨o.dst, .binOp op t x (.const v) y, o.type, o.pos, o.after, some g⟩ op t x v ⟨K, O, nid⟩ k
  | g, op => stepS P T N ops ⟨o.dst, op, o.type, o.pos, o.after, g⟩ ⟨K, O, nid⟩ k)
def execX (P : Program) (T : List (Nat × TI)) (N : Nat) (ops : List Oper) : List Oper → St → (St → Prop) → Prop
 | [], st, k => k st
 | o :: r, st, k => stepX P T N ops o st fun st' => execX P T N ops r st' k
section
variable {C : Cx} {G : Nat → Prop} {P : Program} {T : List (Nat × TI)} {w0 w : World} {N : Nat} {a : Act} {K : List KE} {O : List OE} {nid : Nat} {β : Bd} {k : St → Prop} {dst : Option Nat}
theorem eff_sim (S : SimF C.al G w0 N (fun s => find s K) (fun id => getO id O) nid β a w) (hag : Agr C β nid) {eff : Eff} {β' : Bd} {w' : World} {v : Value}
  (hpost : EffPost β β' nid (FO G (fun id => getO id O) β a) (lkOf O []) w w' v eff) (h : applyS N dst [] K O nid eff k) : ∃ st', k st' ∧ Sim C G w0 N st' (a.put dst v) w' := by
 obtain ⟨st', hk, hfit, hO, hnid, hK, hd⟩ := applyS_iff (fun id g o h => (S.of id g o h).1) h
 obtain ⟨S', hr⟩ := S.eff (lkOf_sound (O := O) (sat_nil a)) (sat_nil a) hfit hpost
 refine ⟨st', hk, β', ?_, by rw [hnid]; exact hag.of hpost.agr (le_effN _ _)⟩
 rw [hK, hO, hnid]
 exact S'.put dst [] _ v hd (fun _ => hr) (fun hns => (hns (sat_nil a)).elim)
theorem eff_simT {tg : Tags} (hs : sat tg a) (S : SimF C.al G w0 N (fun s => find s K) (fun id => getO id O) nid β a w) (hag : Agr C β nid) {eff : Eff} {β' : Bd} {w' : World} {v : Value}
  (hpost : EffPost β β' nid (FO G (fun id => getO id O) β a) (lkOf O tg) w w' v eff) (h : applyS N dst tg K O nid eff k) : ∃ st', k st' ∧ Sim C G w0 N st' (a.put dst v) w' := by
 obtain ⟨st', hk, hfit, hO, hnid, hK, hd⟩ := applyS_iff (fun id g o h => (S.of id g o h).1) h
 obtain ⟨S', hr⟩ := S.eff (lkOf_sound (O := O) hs) hs hfit hpost
 refine ⟨st', hk, β', ?_, by rw [hnid]; exact hag.of hpost.agr (le_effN _ _)⟩
 rw [hK, hO, hnid]
 exact S'.put dst tg _ v hd (fun _ => hr) (fun hns => (hns hs).elim)
theorem lk_get {id : Nat} {o : AO} (h : lkOf O [] id = some o) : getO id O = some ([], o) := by
 unfold lkOf at h
 split at h
 ·rename_i g o' hg
  split at h
  ·rename_i hs
   obtain rfl := Option.some.inj h
   cases g with
   | nil => exact hg
   | cons p r =>
    obtain ⟨t, w⟩ := p
    simp [subTags, hasTag] at hs
  ·cases h
 ·cases h
theorem callX_sound (S : SimF C.al G w0 N (fun s => find s K) (fun id => getO id O) nid β a w) (hag : Agr C β nid) {f : AV} {args : List AV} {u : Value} {vs : List Value} (hu : Rep β nid (FO G (fun id => getO id O) β a) w f u) (hl : args.length = vs.length)
  (hr : ∀ (j : Nat) (h1 : j < args.length) (h2 : j < vs.length), Rep β nid (FO G (fun id => getO id O) β a) w args[j] vs[j]) (h : callX P N dst (lkOf O []) K O nid f args k) :
  Out P (fun v w' => ∃ st', k st' ∧ Sim C G w0 N st' (a.put dst v) w') ((do let d ← Deferred.ofValue u vs.toArray; invoke d.target d.args : Sem Next).run P w) := by
 have E := S.env (lkOf_sound (O := O) (sat_nil a))
 have old : ∀ (q : Eff → Prop), (∀ eff, q eff → applyS N dst [] K O nid eff k) → callA P none (lkOf O []) nid f args q → Out P (fun v w' => ∃ st', k st' ∧ Sim C G w0 N st' (a.put dst v) w') ((do let d ← Deferred.ofValue u vs.toArray; invoke d.target d.args : Sem Next).run P w) := by
  intro q hq hc
  have := callA_sound (P := P) (gc := none) (fun c h => by cases h) E hu hl hr hc
  generalize ((do let d ← Deferred.ofValue u vs.toArray; invoke d.target d.args : Sem Next).run P w) = run at this ⊢
  cases this with
  | value v w' hp =>
   obtain ⟨eff, β', hk, hpost⟩ := hp
   exact .value v w' (eff_sim S hag hpost (hq eff hk))
  | skip w' hp =>
   obtain ⟨eff, β', hk, hpost⟩ := hp
   exact .skip w' (eff_sim S hag hpost (hq eff hk))
  | enter f args w hc =>
   refine .enter f args w (hc.mono ?_)
   rintro e w' ⟨v, rfl, eff, β', hk, hpost⟩
   exact ⟨v, rfl, eff_sim S hag hpost (hq eff hk)⟩
 unfold callX at h
 split at h
 ·rename_i fid caps
  rcases h with h | h | ⟨al, bor, h⟩
  ·exact old (fun eff => applyS N dst [] K O nid eff k) (fun _ h => h) (.inl h)
  ·refine old (fun eff => applyS N dst [] K O nid eff k) (fun _ h => h) (.inr ?_)
   exact h
  ·obtain ⟨cvs, rfl, hcl, hcr⟩ := hu.fn_inv
   have hall : ∀ (j : Nat) (h1 : j < (appL args caps).length) (h2 : j < (vs ++ cvs).length), Rep β nid (FO G (fun id => getO id O) β a) w (appL args caps)[j] (vs ++ cvs)[j] := by
    intro j h1 h2
    simp only [appL_eq] at h1 ⊢
    by_cases hj : j < args.length
    ·rw [List.getElem_append_left hj, List.getElem_append_left (by omega)]
     exact hr j hj (by omega)
    ·rw [List.getElem_append_right (by omega), List.getElem_append_right (by omega)]
     simp only [List.length_append] at h1 h2
     have e : j - args.length = j - vs.length := by omega
     simp only [e]
     exact hcr _ (by omega) (by omega)
   have hlen : (appL args caps).length = (vs ++ cvs).length := by rw [appL_eq]; simp; omega
   let Fa : Nat → Prop := fun g => (al = true ∧ FO G (fun id => getO id O) β a g) ∨ ∃ id o, id ∈ bor ∧ lkOf O [] id = some o ∧ ownB β id o g
   have hFF : ∀ g, Fa g → FO G (fun id => getO id O) β a g := by
    rintro g (⟨_, h⟩ | ⟨id, o, _, h1, h2⟩)
    ·exact h
    ·exact .inr ⟨id, [], o, lk_get h1, sat_nil a, h2⟩
   have hFa : al = false → ∀ id o g, lkx (lkOf O []) bor id = some o → ownB β id o g → ¬ Fa g := by
    rintro hal id o g hlk hog (⟨h, _⟩ | ⟨id', o', hm, h1, h2⟩)
    ·rw [hal] at h; cases h
    ·unfold lkx at hlk
     split at hlk
     ·cases hlk
     ·rename_i hb
      have := S.dist id id' [] [] o o' g (lk_get hlk) (lk_get h1) (sat_nil a) (sat_nil a) hog h2
      subst this
      exact bidx_none hb hm
   obtain ⟨ws, h, hwl, hws⟩ := (bvs_sound E hFF hFa 60).2 _ (vs ++ cvs) _ hlen hall h
   obtain ⟨ins, ⟨hnd, Y, spec, outs, os, r, ⟨hc, hfn⟩, h⟩, hil, hins⟩ := bin_sound E hFF hFa [] bor _ rfl h
   have hins : ∀ j o, ins[j]? = some o → ∃ id o0, bor[j]? = some id ∧ lkOf O [] id = some o0 ∧ ObjOk (β.sub bor) bor.length Fa w j o ∧ ownB (β.sub bor) j o = ownB β id o0 := by simpa using hins
   have hnd := nodupN_iff hnd
   have hbl : ∀ id, id ∈ bor → ∃ o0, lkOf O [] id = some o0 := fun id hid => by
    obtain ⟨j, hj, rfl⟩ := List.getElem_of_mem hid
    obtain ⟨id', o0, h1, h2, _⟩ := hins j _ (List.getElem?_eq_getElem (by omega))
    rw [List.getElem?_eq_getElem hj] at h1
    rw [Option.some.inj h1]
    exact ⟨o0, h2⟩
   have hrun : ((do let d ← Deferred.ofValue (.func (.func fid) #[] cvs.toArray) vs.toArray; invoke d.target d.args : Sem Next).run P w) = .ok (.enter fid (vs ++ cvs).toArray) w := by
    have := callFunc_run (w := w) hc (vs ++ cvs).toArray
    simpa [Deferred.ofValue, invoke] using this
   rw [hrun]
   have hwl' : ws.length = (vs ++ cvs).length := hwl
   refine .enter _ _ _ ((hfn Fa w (β.sub bor) (vs ++ cvs) ?_ ?_ ?_ ?_ ?_ hwl' ?_).mono ?_)
   ·rintro g ⟨j, o, hj, hg⟩
    obtain ⟨id, o0, h1, h2, _, h4⟩ := hins j o hj
    exact .inr ⟨id, o0, List.mem_of_getElem? h1, h2, by rw [← h4]; exact hg⟩
   ·exact fun g hg => E.old g (hFF g hg)
   ·rintro hal g (⟨h, _⟩ | ⟨id, o, hm, h1, h2⟩)
    ·rw [hal] at h; cases h
    ·obtain ⟨j, hj, rfl⟩ := List.getElem_of_mem hm
     have hj' : j < ins.length := by omega
     obtain ⟨id', o0, h3, h4, _, h6⟩ := hins j _ (List.getElem?_eq_getElem hj')
     rw [List.getElem?_eq_getElem hj] at h3
     obtain rfl := Option.some.inj h3
     rw [h1] at h4
     obtain rfl := Option.some.inj h4
     exact ⟨j, _, List.getElem?_eq_getElem hj', by rw [h6]; exact h2⟩
   ·intro j o hj
    obtain ⟨_, _, _, _, h3, _⟩ := hins j o hj
    rw [hil]
    exact h3
   ·intro j j' o o' g hj hj' hg hg'
    obtain ⟨id, o0, h1, h2, _, h4⟩ := hins j o hj
    obtain ⟨id', o0', h1', h2', _, h4'⟩ := hins j' o' hj'
    have := S.dist id id' [] [] o0 o0' g (lk_get h2) (lk_get h2') (sat_nil a) (sat_nil a) (by rw [← h4]; exact hg) (by rw [← h4']; exact hg')
    subst this
    obtain ⟨hjl, e1⟩ := List.getElem?_eq_some_iff.1 h1
    obtain ⟨hjl', e2⟩ := List.getElem?_eq_some_iff.1 h1'
    exact (List.getElem_inj hnd).1 (e1.trans e2.symm)
   ·intro j h1 h2
    rw [hil]
    exact hws j h1 h2
   ·rintro e w' ⟨v, β1, y, rfl, hy, hg⟩
    refine ⟨v, rfl, ?_⟩
    refine many_sound S hag hnd hil ?_ ?_ hg ?_ (h y hy)
    ·intro j o hj
     obtain ⟨id, o0, h1, h2, _, h4⟩ := hins j o hj
     exact ⟨id, o0, h1, lk_get h2, h4⟩
    ·intro id hid
     obtain ⟨o0, h⟩ := hbl id hid
     exact ⟨o0, lk_get h⟩
    ·intro b hb
     cases al with
     | false => exact .inl ⟨rfl, S.old hb⟩
     | true => exact .inr (.inl ⟨rfl, hb⟩)
 ·exact h.elim
theorem same_heap {w1 w : World} (h : w1 = w ∨ w1 = w.drew) : w1.heap = w.heap ∧ w1.os = w.os ∧ w1.tape = w.tape ∧ w1.output = w.output := by
 rcases h with rfl | rfl <;> exact ⟨rfl, rfl, rfl, rfl⟩
theorem rep_tup3 {n : Nat} {F : Nat → Prop} {w : World} {x y : AV} {u z : Value} (h1 : Rep0 F w x u) (h2 : Rep0 F w y z) : Rep β n F w (.tup [.b true, x, y]) (.tuple #[.bool true, u, z]) := by
 refine .pure _ _ (.tup [.b true, x, y] [.bool true, u, z] rfl fun j h3 h4 => ?_)
 match j, h3 with
 | 0, _ => exact .b true
 | 1, _ => exact h1
 | 2, _ => exact h2
theorem rep_over {n : Nat} {F : Nat → Prop} {w : World} : Rep β n F w (.tup [.b false]) (.tuple #[.bool false]) := by
 refine .pure _ _ (.tup [.b false] [.bool false] rfl fun j h3 h4 => ?_)
 match j, h3 with
 | 0, _ => exact .b false
theorem nextX_sound (S : SimF C.al G w0 N (fun s => find s K) (fun id => getO id O) nid β a w) (hag : Agr C β nid) {x : AV} {u : Value} (ty : TypeId) (hu : Rep β nid (FO G (fun id => getO id O) β a) w x u)
  (h : nextX N dst (lkOf O []) K O nid x k) : ∃ v w', (Instr.next u false ty).run P w = .ok v w' ∧ ∃ st', k st' ∧ Sim C G w0 N st' (a.put dst v) w' := by
 have E := S.env (lkOf_sound (O := O) (sat_nil a))
 have over : ∀ {v : Value}, (Instr.next u false ty).run P w = .ok (.tuple #[.bool false]) w → applyS N dst [] K O nid (.ext [] (.tup [.b false])) k → ∃ v w', (Instr.next u false ty).run P w = .ok v w' ∧ ∃ st', k st' ∧ Sim C G w0 N st' (a.put dst v) w' :=
  fun hrun hk => ⟨_, w, hrun, eff_sim S hag (.id rep_over (Below.refl _ _)) hk⟩
 unfold nextX at h
 split at h
 ·rename_i id
  obtain ⟨hid, rfl⟩ := hu.p_inv
  split at h
  ·rename_i n key val seen last hlk
   obtain ⟨_, g, es, clock, sn, hh, hn, ho, hg0, hg, hc, hlast⟩ := E.obj id _ hlk
   have hF := E.own id _ (β.blk id) hlk rfl
   cases g with
   | none =>
    have h0 := hg0 rfl
    refine over (v := undef) ?_ (h.2 fun i hi => by omega)
    simp [Instr.next, getObj, Sem.run, hh]
   | some b =>
    obtain ⟨hFb, hb⟩ := hg b rfl
    rcases run_next_at (P := P) w ty (β.blk id) b clock clock sn es clock hh hb (fun x hx => by
     obtain ⟨j, hj, rfl⟩ := List.getElem_of_mem hx
     have := ho.old j (by simpa using hj)
     simpa using this) (Nat.le_refl _) with ⟨h0, hrun⟩ | ⟨e, he, w1, hw1, hrun⟩
    ·refine over (v := undef) hrun (h.2 fun i hi => ?_)
     have hi2 : i < es.size := by omega
     have := (hc i hi hi2).2.2
     rw [← this]
     cases hcon : sn.contains es[i].born with
     | true => rfl
     | false =>
      have hm : es[i] ∈ leftOf es sn := by
       unfold leftOf
       simp only [Array.mem_filter]
       exact ⟨by simp, by rw [hcon]; rfl⟩
      have := Array.size_pos_of_mem hm
      omega
    ·have hmem : e ∈ es ∧ sn.contains e.born = false := by
      have : e ∈ leftOf es sn := by simpa using he
      unfold leftOf at this
      simp only [Array.mem_filter, Bool.not_eq_true'] at this
      exact this
     obtain ⟨i, hi, rfl⟩ := Array.getElem_of_mem hmem.1
     have hin : i < n := by omega
     obtain ⟨hk1, hv1, hs1⟩ := hc i hin hi
     have hns : seen i = false := by rw [← hs1]; exact hmem.2
     obtain ⟨e1, e2, e3, e4⟩ := same_heap hw1
     have hlt := (Array.getElem?_eq_some_iff.1 hh).1
     have hold : ∀ g2, g2 < w.heap.size → ¬ FO G (fun id => getO id O) β a g2 → (ChangeMaps.setBlock w1 (β.blk id) (.mapIter (some b) clock (sn.push es[i].born) clock)).heap[g2]? = w.heap[g2]? := fun g2 _ hn => by
      have hne : g2 ≠ β.blk id := fun e => hn (by rw [e]; exact hF)
      simp [ChangeMaps.setBlock, e1, Ne.symm hne]
     have hsize : w.heap.size ≤ (ChangeMaps.setBlock w1 (β.blk id) (.mapIter (some b) clock (sn.push es[i].born) clock)).heap.size := by simp [ChangeMaps.setBlock, e1]
     refine ⟨_, _, hrun, eff_sim S hag (β' := β) (eff := .set id (.ir n key val (fun j => if j = i then true else seen j) (some i)) (.tup [.b true, key i, val i])) ⟨rfl, _, hlk, ⟨⟨e2, e3, e4, hsize, fun g2 _ hne => ?_⟩, run_drawn _ hrun⟩, rfl, ?_, ?_⟩ (h.1 i hin hns)⟩
     ·have hne2 : g2 ≠ β.blk id := fun e => hne (by rw [e]; rfl)
      simp [ChangeMaps.setBlock, e1, Ne.symm hne2]
     ·refine ⟨some b, es, clock, sn.push es[i].born, ?_, hn, ho, fun h => (by cases h), fun b' hb' => ?_, fun j hj hj2 => ?_, fun j hj => ?_⟩
      ·simp [ChangeMaps.setBlock, e1, hlt]
      ·obtain rfl := Option.some.inj hb'
       have hltb := (Array.getElem?_eq_some_iff.1 hb).1
       exact ⟨hFb, by rw [hold _ hltb hFb]; exact hb⟩
      ·obtain ⟨hk2, hv2, hs2⟩ := hc j hj hj2
       refine ⟨hk2.stable (fun _ _ hn => hn) hold hsize, hv2.stable (fun _ _ hn => hn) hold hsize, ?_⟩
       by_cases hji : j = i
       ·subst hji
        simp
       ·show (sn.push es[i].born).contains es[j].born = if j = i then true else seen j
        rw [if_neg hji, ← hs2]
        have hne : es[j].born ≠ es[i].born := by
         rcases Nat.lt_or_gt_of_ne hji with h | h
         ·have := ho.asc j i h hj2 hi; omega
         ·have := ho.asc i j h hi hj2; omega
        simp [hne]
      ·obtain rfl := Option.some.inj hj
       exact ⟨hi, by simp⟩
     ·exact rep_tup3 (hk1.stable (fun _ _ hn => hn) hold hsize) (hv1.stable (fun _ _ hn => hn) hold hsize)
  ·rename_i mid since seen hlk
   split at h
   ·rename_i n key val born clock hlk2
    obtain ⟨hcl, h1, h2⟩ := h
    subst hcl
    obtain ⟨_, hmid, hh⟩ := E.obj id _ hlk
    obtain ⟨_, es, hb, hn, ho, hc⟩ := E.obj mid _ hlk2
    have hF := E.own id _ (β.blk id) hlk rfl
    rcases run_next_at (P := P) w ty (β.blk id) (β.blk mid) clock clock seen.toArray es clock hh hb (fun x hx => by
     obtain ⟨j, hj, rfl⟩ := List.getElem_of_mem hx
     have := ho.old j (by simpa using hj)
     simpa using this) (Nat.le_refl _) with ⟨h0, hrun⟩ | ⟨e, he, w1, hw1, hrun⟩
    ·refine over (v := undef) hrun (h2 fun i hi => ?_)
     have hi2 : i < es.size := by omega
     have hbi := (hc i hi hi2).2.2
     rw [← hbi]
     cases hcon : seen.toArray.contains es[i].born with
     | true => simpa using hcon
     | false =>
      have hm : es[i] ∈ leftOf es seen.toArray := by
       unfold leftOf
       simp only [Array.mem_filter]
       exact ⟨by simp, by rw [hcon]; rfl⟩
      have := Array.size_pos_of_mem hm
      omega
    ·have hmem : e ∈ es ∧ seen.toArray.contains e.born = false := by
      have : e ∈ leftOf es seen.toArray := by simpa using he
      unfold leftOf at this
      simp only [Array.mem_filter, Bool.not_eq_true'] at this
      exact this
     obtain ⟨i, hi, rfl⟩ := Array.getElem_of_mem hmem.1
     have hin : i < n := by omega
     obtain ⟨hk1, hv1, hb1⟩ := hc i hin hi
     have hns : ¬ born i ∈ seen := by
      rw [← hb1]
      have := hmem.2
      simpa using this
     obtain ⟨e1, e2, e3, e4⟩ := same_heap hw1
     have hlt := (Array.getElem?_eq_some_iff.1 hh).1
     have hold : ∀ g2, g2 < w.heap.size → ¬ FO G (fun id => getO id O) β a g2 → (ChangeMaps.setBlock w1 (β.blk id) (.mapIter (some (β.blk mid)) clock (seen.toArray.push es[i].born) clock)).heap[g2]? = w.heap[g2]? := fun g2 _ hn => by
      have hne : g2 ≠ β.blk id := fun e => hn (by rw [e]; exact hF)
      simp [ChangeMaps.setBlock, e1, Ne.symm hne]
     have hsize : w.heap.size ≤ (ChangeMaps.setBlock w1 (β.blk id) (.mapIter (some (β.blk mid)) clock (seen.toArray.push es[i].born) clock)).heap.size := by simp [ChangeMaps.setBlock, e1]
     refine ⟨_, _, hrun, eff_sim S hag (β' := β) (eff := .set id (.it mid clock (seen ++ [born i])) (.tup [.b true, key i, val i])) ⟨rfl, _, hlk, ⟨⟨e2, e3, e4, hsize, fun g2 _ hne => ?_⟩, run_drawn _ hrun⟩, rfl, ⟨hmid, ?_⟩, ?_⟩ (h1 i hin hns)⟩
     ·have hne2 : g2 ≠ β.blk id := fun e => hne (by rw [e]; rfl)
      simp [ChangeMaps.setBlock, e1, Ne.symm hne2]
     ·simp [ChangeMaps.setBlock, e1, hlt, hb1]
     ·exact rep_tup3 (hk1.stable (fun _ _ hn => hn) hold hsize) (hv1.stable (fun _ _ hn => hn) hold hsize)
   ·exact h.elim
  ·exact h.elim
 ·exact h.elim
theorem nil_run {t : TypeId} (hT : TabOk P T) (ht : sliceAt T t = true) (x : Operand) (y : Operand) (a : Option Addr) (n c : Nat) :
  (binRun .eql t x y (.slice a n c) (.slice none 0 0)).run P w = .ok (.bool a.isNone) w ∧ (binRun .neq t x y (.slice a n c) (.slice none 0 0)).run P w = .ok (.bool (!a.isNone)) w := by
 constructor <;> (unfold binRun; rw [Sem.run_bind, guard_slice]; simp [binOp, sliceAt_run hT ht])
theorem nilX_sound {tg : Tags} (hs : sat tg a) (hT : TabOk P T) (S : SimF C.al G w0 N (fun s => find s K) (fun id => getO id O) nid β a w) (hag : Agr C β nid) {x : AV} {u : Value} {t : TypeId} (ht : sliceAt T t = true) (p q : Operand) (e : Bool)
  (hu : Rep β nid (FO G (fun id => getO id O) β a) w x u) (h : nilX N dst tg (lkOf O tg) K O nid e x k) :
  ∃ v, (binRun (if e then .eql else .neq) t p q u (.slice none 0 0)).run P w = .ok v w ∧ ∃ st', k st' ∧ Sim C G w0 N st' (a.put dst v) w := by
 have E := S.env (lkOf_sound (O := O) hs)
 have main : ∀ (ad : Option Addr) (n c : Nat), u = .slice ad n c → applyS N dst tg K O nid (.ext [] (.b (ad.isNone == e))) k →
   ∃ v, (binRun (if e then .eql else .neq) t p q u (.slice none 0 0)).run P w = .ok v w ∧ ∃ st', k st' ∧ Sim C G w0 N st' (a.put dst v) w := by
  rintro ad n c rfl hk
  have hr := nil_run (w := w) hT ht p q ad n c
  refine ⟨.bool (ad.isNone == e), ?_, eff_simT hs S hag (.id (.pure _ _ (.b _)) (Below.refl _ _)) hk⟩
  cases e with
  | true => simpa using hr.1
  | false => simpa using hr.2
 unfold nilX at h
 split at h
 ·rename_i sz n get
  have hu0 := hu.rs_inv
  cases hu0 with
  | rsnil => exact main none 0 0 rfl (h true fun _ => rfl)
  | rsz _ _ ad => exact main (some ad) 0 0 rfl (h false fun h => by cases h)
  | rs _ _ _ g off cap => exact main (some _) n cap rfl (h false fun h => by cases h)
 ·rename_i id sz lo n
  obtain ⟨_, hsv⟩ := hu.sv_inv
  rcases hsv with ⟨rfl, hn0, _⟩ | ⟨ad, rfl, hn0, _⟩ | ⟨g, o, m, c, hval, hlo, hloc, rfl⟩
  ·exact main none 0 0 rfl (h true fun _ => hn0)
  ·exact main (some ad) 0 0 rfl (h false fun h => by cases h)
  ·exact main (some _) _ _ rfl (h false fun h => by cases h)
 ·rename_i id
  split at h
  ·rename_i e' sz n get hlk
   obtain ⟨_, rfl⟩ := hu.so_inv
   obtain ⟨_, xs, hx, _⟩ := E.obj id _ hlk
   rcases hx.2 with ⟨hv, hn0⟩ | ⟨ad, hv, hn0⟩ | ⟨g, o, cap, cur, hv, _⟩
   ·exact main none 0 0 hv (h true fun _ => hn0)
   ·exact main (some ad) 0 0 hv (h false fun h => by cases h)
   ·exact main (some _) _ _ hv (h false fun h => by cases h)
  ·exact h.elim
 ·rename_i v
  split at h
  ·rename_i hn
   obtain rfl := hu.val_inv
   refine main none 0 0 (nilSlice_iff hn) ?_
   cases e <;> exact h
  ·exact h.elim
 ·exact h.elim
theorem nilX_ex {tg : Tags} {x : AV} {e : Bool} (h : nilX N dst tg (lkOf O tg) K O nid e x k) : ∃ b, applyS N dst tg K O nid (.ext [] (.b b)) k := by
 unfold nilX at h
 split at h
 ·exact ⟨_, h false fun h => by cases h⟩
 ·exact ⟨_, h false fun h => by cases h⟩
 ·split at h
  ·exact ⟨_, h false fun h => by cases h⟩
  ·exact h.elim
 ·split at h
  ·exact ⟨_, h⟩
  ·exact h.elim
 ·exact h.elim
theorem nilG_sound (hT : TabOk P T) {ops : List Oper} {o : Oper} {op : BinOp} {t : TypeId} {x : Operand} {v : Value} {y : TypeId} (ho : o.op = .binOp op t x (.const v) y) {st : St} {k : St → Prop} {Q : Exit → Act → World → Prop} {next : Act → World → Prop}
  (hn : ∀ st' a' w', k st' → Sim C G w0 N st' a' w' → next a' w') (S : Sim C G w0 N st a w) (h : nilG P T N ops o op t x v st k) :
  if Region.wanted o (yielded ops.toArray a.tmps) then o.wp P a w next Q else next (a.put o.dst undef) w := by
 obtain ⟨K, O, nid⟩ := st
 have S0 := S
 obtain ⟨β, S, hag⟩ := S
 dsimp only at S hag
 have hids : ∀ id g o, getO id O = some (g, o) → id < nid := fun id g o h => (S.of id g o h).1
 unfold nilG at h
 dsimp only at h
 split at h
 ·rename_i e tg he hv ht htg
  split at h
  ·rename_i r hr
   split at h
   ·have hw := wanted_iff S htg
    by_cases hs : sat tg a
    ·rw [if_pos (hw.2 hs)]
     have hv := nilSlice_iff hv
     subst hv
     obtain ⟨z, hrun, st', hk, hsim⟩ := nilX_sound hs hT S hag ht x (.const (.slice none 0 0)) e (evalO_sound S hs x r hr) h
     have heq : (if e then BinOp.eql else BinOp.neq) = op := by
      cases op <;> simp [eqNe] at he <;> subst he <;> rfl
     rw [heq] at hrun
     have hrun2 : (execOp a.eval o).run P w = .ok (.value z) w := by
      obtain ⟨dst, op', ty, pos, after, guard⟩ := o
      dsimp only at ho
      subst ho
      simp only [execOp]
      exact run_value hrun
     refine (show Out P (fun v w' => ∃ st', k st' ∧ Sim C G w0 N st' (a.put o.dst v) w') ((execOp a.eval o).run P w) from ?_).upon ?_
     ·rw [hrun2]
      exact .value z w ⟨st', hk, hsim⟩
     ·rintro v w' ⟨st', hk, hs⟩
      exact hn st' _ w' hk hs
    ·rw [if_neg (fun hwt => hs (hw.1 hwt))]
     obtain ⟨b, hk⟩ := nilX_ex h
     obtain ⟨st', hk, hfit, hO, hnid, hK, hd⟩ := applyS_iff hids hk
     have S' := S.passed hs hfit
     refine hn st' _ w hk ⟨β, ?_, by rw [hnid]; exact hag.more (le_effN _ _)⟩
     rw [hK, hO, hnid]
     exact S'.put o.dst tg _ undef hd (fun hs' => (hs hs').elim) (fun _ => rfl)
   ·exact stepS_sound hT hn S0 h
  ·exact stepS_sound hT hn S0 h
 ·exact stepS_sound hT hn S0 h
theorem knownT_sat {tg : Tags} (S : SimF C.al G w0 N (fun s => find s K) (fun id => getO id O) nid β a w) (h : knownT K tg) : sat tg a := by
 induction tg with
 | nil => exact sat_nil a
 | cons p r ih =>
  obtain ⟨t, b⟩ := p
  obtain ⟨h1, h2⟩ := h
  have hr := ih h2
  split at h1
  ·rename_i g c hf
   obtain ⟨h3, rfl⟩ := h1
   have hrep := (S.kf t g _ hf).1 (subTags_sat h3 hr)
   intro p hp
   rcases List.mem_cons.1 hp with rfl | hp
   ·exact hrep.b_inv
   ·exact hr p hp
  ·exact h1.elim
theorem notT_sat {tg : Tags} (S : SimF C.al G w0 N (fun s => find s K) (fun id => getO id O) nid β a w) (h : notT K tg) : ¬ sat tg a := by
 cases tg with
 | nil => exact h.elim
 | cons p r =>
  obtain ⟨t, b⟩ := p
  obtain ⟨h1, h2⟩ := h
  have hr := knownT_sat S h2
  split at h1
  ·rename_i g c hf
   obtain ⟨h3, rfl⟩ := h1
   have hrep := ((S.kf t g _ hf).1 (subTags_sat h3 hr)).b_inv
   intro hs
   have := hs (t, b) (by simp)
   rw [hrep] at this
   cases b <;> cases this
  ·exact h1.elim
theorem callG_sound (hT : TabOk P T) {ops : List Oper} {o : Oper} {f : Operand} {args : List Operand} {tys : Array TypeId} (ho : o.op = .call ⟨.value f, ⟨args⟩, tys⟩) {st : St} {k : St → Prop} {Q : Exit → Act → World → Prop} {next : Act → World → Prop}
  (hn : ∀ st' a' w', k st' → Sim C G w0 N st' a' w' → next a' w') (S : Sim C G w0 N st a w) (h : callG P T N ops o f args st k) :
  if Region.wanted o (yielded ops.toArray a.tmps) then o.wp P a w next Q else next (a.put o.dst undef) w := by
 obtain ⟨K, O, nid⟩ := st
 have S0 := S
 obtain ⟨β, S, hag⟩ := S
 dsimp only at S hag
 rcases h with h | h
 ·exact stepS_sound hT hn S0 h
 dsimp only at h
 split at h
 ·rename_i tg htg
  have hw := wanted_iff S htg
  rcases h with ⟨hkn, h⟩ | ⟨hkn, h⟩
  ·have hs := knownT_sat S hkn
   rw [if_pos (hw.2 hs)]
   have ev : ∀ x r, evalO K tg x = some r → Rep β nid (FO G (fun id => getO id O) β a) w r (a.eval x) := fun x r hx => evalO_sound S hs x r hx
   obtain ⟨r, hr, h⟩ := withA_iff h
   obtain ⟨m, h, hl, hm⟩ := evsK_iff ev h
   have := callX_sound S hag (ev _ _ hr) hl hm h
   obtain ⟨dst, op, ty, pos, after, guard⟩ := o
   dsimp only at ho
   subst ho
   refine (show Out P (fun v w' => ∃ st', k st' ∧ Sim C G w0 N st' (a.put dst v) w') ((execOp a.eval ⟨dst, .call ⟨.value f, ⟨args⟩, tys⟩, ty, pos, after, guard⟩).run P w) from ?_).upon ?_
   ·simpa [execOp, resolve] using this
   ·rintro v w' ⟨st', hk, hs⟩
    exact hn st' _ w' hk hs
  ·rw [if_neg (fun hwt => notT_sat S hkn (hw.1 hwt))]
   obtain ⟨r, h⟩ := h
   obtain ⟨st', hk, hfit, hO, hnid, hK, hd⟩ := applyS_iff (fun id g o h => (S.of id g o h).1) h
   have S' := S.passed (notT_sat S hkn) hfit
   refine hn st' _ w hk ⟨β, ?_, by rw [hnid]; exact hag.more (le_effN _ _)⟩
   rw [hK, hO, hnid]
   exact S'.put o.dst tg _ undef hd (fun hs' => (notT_sat S hkn hs').elim) (fun _ => rfl)
 ·exact h.elim
theorem stepX_sound (hT : TabOk P T) {ops : List Oper} {o : Oper} {st : St} {k : St → Prop} {Q : Exit → Act → World → Prop} {next : Act → World → Prop}
  (hn : ∀ st' a' w', k st' → Sim C G w0 N st' a' w' → next a' w') (S : Sim C G w0 N st a w) (h : stepX P T N ops o st k) :
  if Region.wanted o (yielded ops.toArray a.tmps) then o.wp P a w next Q else next (a.put o.dst undef) w := by
 obtain ⟨K, O, nid⟩ := st
 have S0 := S
 obtain ⟨β, S, hag⟩ := S
 dsimp only at S hag
 have ev : ∀ x r, evalO K [] x = some r → Rep β nid (FO G (fun id => getO id O) β a) w r (a.eval x) := fun x r hx => evalO_sound S (sat_nil a) x r hx
 obtain ⟨dst, op, ty, pos, after, guard⟩ := o
 have done : ∀ (hg : guard = none) {run : Result Next}, (execOp a.eval ⟨dst, op, ty, pos, after, guard⟩).run P w = run → Out P (fun v w' => ∃ st', k st' ∧ Sim C G w0 N st' (a.put dst v) w') run →
   if Region.wanted ⟨dst, op, ty, pos, after, guard⟩ (yielded ops.toArray a.tmps) then Oper.wp P ⟨dst, op, ty, pos, after, guard⟩ a w next Q else next (a.put dst undef) w := by
  rintro rfl run rfl hout
  have hw : Region.wanted ⟨dst, op, ty, pos, after, none⟩ (yielded ops.toArray a.tmps) = true := by simp [Region.wanted]
  rw [if_pos hw]
  refine hout.upon ?_
  rintro v w' ⟨st', hk, hs⟩
  exact hn st' _ w' hk hs
 unfold stepX at h
 dsimp only at h
 split at h
 ·obtain ⟨r, hr, h⟩ := withA_iff h
  obtain ⟨m, h, hl, hm⟩ := evsK_iff ev h
  have := callX_sound S hag (ev _ _ hr) hl hm h
  refine done rfl ?_ this
  simp [execOp, resolve]
 ·obtain ⟨r, hr, h⟩ := withA_iff h
  obtain ⟨v, w', hrun, hst⟩ := nextX_sound (P := P) S hag ty (ev _ _ hr) h
  exact done rfl (by simp only [execOp]; exact run_value hrun) (.value v w' hst)
 ·rename_i t x v y
  split at h
  ·rename_i hv ht
   obtain ⟨r, hr, h⟩ := withA_iff h
   obtain ⟨z, hrun, hst⟩ := nilX_sound (sat_nil a) hT S hag ht x (.const v) true (ev _ _ hr) h
   have hv := nilSlice_iff hv
   subst hv
   exact done rfl (by simp only [execOp]; exact run_value hrun) (.value z w hst)
  ·exact stepS_sound hT hn S0 h
 ·rename_i t x v y
  split at h
  ·rename_i hv ht
   obtain ⟨r, hr, h⟩ := withA_iff h
   obtain ⟨z, hrun, hst⟩ := nilX_sound (sat_nil a) hT S hag ht x (.const v) false (ev _ _ hr) h
   have hv := nilSlice_iff hv
   subst hv
   exact done rfl (by simp only [execOp]; exact run_value hrun) (.value z w hst)
  ·exact stepS_sound hT hn S0 h
 ·exact callG_sound hT rfl hn S0 h
 ·exact nilG_sound hT rfl hn S0 h
 ·exact stepS_sound hT hn S0 h
theorem execX_sound (hT : TabOk P T) {ops : List Oper} {Q : Exit → Act → World → Prop} : ∀ {l : List Oper} {st : St} {k : St → Prop} {a : Act} {w : World}, Sim C G w0 N st a w → execX P T N ops l st k →
  (∀ st' a' w', k st' → Sim C G w0 N st' a' w' → Q .normal a' w') → wpList P ops.toArray Q l a w
 | [], st, k, a, w, S, h, hq => hq st a w h S
 | o :: r, st, k, a, w, S, h, hq => by
  have := stepX_sound (Q := Q) (next := wpList P ops.toArray Q r) hT (fun st' a' w' h' S' => execX_sound hT S' h' hq) S h
  unfold wpList
  split
  ·rename_i hw
   rw [if_pos hw] at this
   exact .inl this
  ·rename_i hw
   rw [if_neg hw] at this
   exact this
end
end Go.Eng
end

section
namespace Go.Eng
open Go.RowKit
def setOp : Op → Bool
 | .store _ _ _ => true
 | .mapUpdate _ _ _ _ => true
 | .entryStore _ _ _ _ => true
 | .call ⟨.builtin .delete, _, _⟩ => true
 | _ => false
def endsSet : List Oper → Bool
 | [] => false
 | o :: r => match setOp o.op with
  | true => true
  | false => endsSet r
def frontO : List Oper → List Oper
 | [] => []
 | o :: r => match setOp o.op with
  | true => []
  | false => o :: frontO r
def tailO : List Oper → List Oper
 | [] => []
 | o :: r => match setOp o.op with
  | true => o :: r
  | false => tailO r
theorem front_tail : ∀ l : List Oper, l = frontO l ++ tailO l
 | [] => rfl
 | o :: r => by
  unfold frontO tailO
  split
  ·rfl
  ·rw [List.cons_append, ← front_tail r]
def hasE (j : Nat) : List Edge → Bool
 | [] => false
 | e :: r => match Nat.beq e.on j, Region.binds .any e with
  | true, true => true
  | _, _ => hasE j r
theorem hasE_iff {j : Nat} : ∀ {es : List Edge}, hasE j es = true → ∃ e ∈ es, e.on = j ∧ Region.binds .any e = true
 | [], h => by cases h
 | e :: r, h => by
  unfold hasE at h
  split at h
  ·rename_i h1 h2
   exact ⟨e, by simp, Nat.eq_of_beq_eq_true h1, h2⟩
  ·obtain ⟨x, hx, h3⟩ := hasE_iff h
   exact ⟨x, by simp [hx], h3⟩
def covE : Nat → List Edge → Bool
 | 0, _ => true
 | n + 1, es => match hasE n es with
  | true => covE n es
  | false => false
theorem covE_iff : ∀ {n : Nat} {es : List Edge}, covE n es = true → ∀ j, j < n → ∃ e ∈ es, e.on = j ∧ Region.binds .any e = true
 | 0, _, _, j, h => by omega
 | n + 1, es, h, j, hj => by
  unfold covE at h
  split at h
  ·rename_i h1
   by_cases hjn : j = n
   ·subst hjn; exact hasE_iff h1
   ·exact covE_iff h j (by omega)
  ·cases h
def covT : Nat → List Oper → Bool
 | _, [] => true
 | p, o :: r => match o.after with
  | ⟨es⟩ => (match backB p es, covE p es with
   | true, true => covT (p + 1) r
   | _, _ => false)
theorem covT_get : ∀ {p : Nat} {l : List Oper}, covT p l = true → ∀ i, (hi : i < l.length) → (∀ e ∈ l[i].after.toList, Region.binds .any e = true → e.on < p + i) ∧ ∀ j, j < p + i → ∃ e ∈ l[i].after.toList, e.on = j ∧ Region.binds .any e = true
 | _, [], _, i, hi => by simp at hi
 | p, o :: r, h, i, hi => by
  unfold covT at h
  split at h
  rename_i es he
  split at h
  ·rename_i h1 h2
   cases i with
   | zero =>
    have e0 : (o :: r)[0].after.toList = es := by simp [he]
    rw [e0]
    exact ⟨backB_iff h1, covE_iff h2⟩
   | succ i =>
    have := covT_get h i (by simpa using hi)
    have e1 : p + 1 + i = p + (i + 1) := by omega
    rw [e1] at this
    exact this
  ·cases h
def allB : Nat → List Bool → Bool
 | 0, _ => true
 | n + 1, true :: r => allB n r
 | _ + 1, _ => false
theorem allB_iff : ∀ {n : Nat} {l : List Bool}, allB n l = true → ∀ j, j < n → tbL l j = true
 | 0, _, _, j, h => by omega
 | n + 1, true :: r, h, j, hj => by
  cases j with
  | zero => rfl
  | succ j => exact allB_iff (n := n) (l := r) h j (by omega)
 | n + 1, [], h, j, _ => by cases h
 | n + 1, false :: r, h, j, _ => by cases h
def execDT (P : Program) (T : List (Nat × TI)) (N : Nat) (ops : List Oper) (st : St) (k : St → Prop) : Prop :=
 match st, tailO ops with
 | ⟨K, O, nid⟩, o :: tl => (match ltK nid K, ltIds nid O, allO (fun j => Nat.blt j nid) O, o.after with
  | true, true, true, ⟨es⟩ => (match backB (frontO ops).length es, covT ((frontO ops).length + 1) tl with
   | true, true => execDs P T N ops K O (frontO ops) 0 ⟨K, O, nid⟩ [] fun st' L => edgesK L es [] fun b => (match allB (frontO ops).length b with
    | true => stepX P T N ops o st' fun st2 => execX P T N ops tl st2 k
    | false => False)
   | _, _ => False)
  | _, _, _, _ => False)
 | _, _ => False
section
variable {C : Cx} {G : Nat → Prop} {P : Program} {T : List (Nat × TI)} {w0 w : World} {N : Nat} {a : Act}
theorem execDs_factT {ops tl : List Oper} {K0 : List KE} {O0 : List OE} {n0 : Nat} : ∀ {l done : List Oper} {ix : Nat} {st : St} {L : List DR} {k : St → List DR → Prop}, ops = done ++ (l ++ tl) → ix = done.length →
  (∀ id g x, getO id st.O = some (g, x) → id < st.nid) → ix = L.length → (fun s => find s st.K) = kD (fun _ => true) L (fun s => find s K0) → (fun id => getO id st.O) = oD (fun _ => true) L (fun id => getO id O0) → st.nid = endN n0 L →
  Facts P T N ops (fun s => find s K0) (fun id => getO id O0) n0 L → execDs P T N ops K0 O0 l ix st L k →
  ∃ st' L', k st' L' ∧ L'.length = (done ++ l).length ∧ Facts P T N ops (fun s => find s K0) (fun id => getO id O0) n0 L' ∧
   (fun s => find s st'.K) = kD (fun _ => true) L' (fun s => find s K0) ∧ (fun id => getO id st'.O) = oD (fun _ => true) L' (fun id => getO id O0) ∧ st'.nid = endN n0 L'
 | [], done, ix, st, L, k, _, hd, _, hix, hK, hO, hn, hF, h => ⟨st, L, h, by rw [List.append_nil, ← hd, hix], hF, hK, hO, hn⟩
 | o :: r, done, ix, st, L, k, hops, hd, hids, hix, hK, hO, hn, hF, h => by
  obtain ⟨st', d, h, hf, hids', hK', hO', hn'⟩ := stepD_fact hids (by rw [hops, hd]; simp) hix hK hO hn h
  obtain ⟨st2, L2, h1, h2, h3⟩ := execDs_factT (done := done ++ [o]) (tl := tl) (by rw [hops]; simp) (by simp [hd]) hids' (by simp [hix]) hK' hO' hn' ⟨hf, hF⟩ h
  exact ⟨st2, L2, h1, by rw [h2]; simp, h3⟩
theorem ready_of_back {ops : List Oper} {listed : Array Bool} (hsz : listed.size = ops.length) (hr : Region.ready .any ops.toArray listed = [])
  (hback : ∀ i, (hi : i < ops.length) → ∀ e ∈ ops[i].after.toList, Region.binds .any e = true → e.on < i) : ∀ n i, i < n → i < ops.length → listed.getD i false = true := by
 intro n
 induction n with
 | zero => intro i hi; omega
 | succ n ih =>
  intro i hi hlt
  cases hh : listed.getD i false with
  | true => rfl
  | false =>
   exfalso
   have : i ∈ Region.ready .any ops.toArray listed := by
    rw [mem_ready]
    refine ⟨by rw [getD_tf (by omega)]; exact hh, ops[i], by simp [hlt], fun e he hb => ?_⟩
    have := hback i hlt e (by simpa using he) hb
    exact ih e.on (by omega) (by omega)
   rw [hr] at this
   cases this
theorem facts_back {ops : List Oper} {K0 : KF} {O0 : OF} {n0 : Nat} {i : Nat} (hlt : i < ops.length) {e : Edge} (he : e ∈ ops[i].after.toList) (hb : Region.binds .any e = true) : ∀ {M : List DR}, Facts P T N ops K0 O0 n0 M → i < M.length → e.on < i := by
 intro M
 induction M with
 | nil => intro _ h; simp at h
 | cons m r ihm =>
  intro hFM hM
  obtain ⟨o, Kr, Or, hf⟩ := hFM.1
  have hmx := hf.ix
  by_cases hm : m.ix = i
  ·have hop := hf.op
   rw [hm] at hop
   have : o = ops[i] := by
    rw [List.getElem?_eq_getElem hlt] at hop
    exact (Option.some.inj hop).symm
   subst this
   have := hf.back e he hb
   omega
  ·exact ihm hFM.2 (by simp only [List.length_cons] at hM; omega)
theorem tail_loop (hT : TabOk P T) {ops : List Oper} {Q : Exit → Act → World → Prop} {k : St → Prop} (hq : ∀ st' a' w', k st' → Sim C G w0 N st' a' w' → Q .normal a' w') :
  ∀ (tl : List Oper) (p : Nat) (st : St) (a : Act) (w : World) (fuel : Nat) (listed : Array Bool), ops.drop p = tl → p ≤ ops.length → covT p tl = true → listed.size = ops.length →
   (∀ j, j < ops.length → listed.getD j false = decide (j < p)) → unl listed ops.length ≤ fuel → Sim C G w0 N st a w → execX P T N ops tl st k → wpAny P .any ops.toArray Q fuel listed a w
 | [], p, st, a, w, fuel, listed, hd, hp, _, hsz, hl, hu, S, h => by
  have hpl : p = ops.length := by
   have := congrArg List.length hd
   simp at this
   omega
  have hQ := hq st a w h S
  have hr : Region.ready .any ops.toArray listed = [] := by
   cases hr : Region.ready .any ops.toArray listed with
   | nil => rfl
   | cons j r =>
    exfalso
    have hmem : j ∈ Region.ready .any ops.toArray listed := by rw [hr]; simp
    obtain ⟨h2, o2, ho2, _⟩ := mem_ready.1 hmem
    have hjl : j < ops.length := by simpa using (Array.getElem?_eq_some_iff.1 ho2).1
    rw [getD_tf (by omega), hl j hjl, decide_eq_true (by omega)] at h2
    cases h2
  cases fuel with
  | zero => exact ⟨hr, hQ⟩
  | succ fuel => exact ⟨fun _ => hQ, fun j hj => by rw [hr] at hj; cases hj⟩
 | o :: r, p, st, a, w, fuel, listed, hd, hp, hc, hsz, hl, hu, S, h => by
  have hpl : p < ops.length := by
   have := congrArg List.length hd
   simp at this
   omega
  have hgetd : ∀ i, (hi : i < (o :: r).length) → ops[p + i]? = some (o :: r)[i] := fun i hi => by
   have : (ops.drop p)[i]? = some (o :: r)[i] := by rw [hd]; exact List.getElem?_eq_getElem hi
   rwa [List.getElem?_drop] at this
  have hop : ops[p]? = some o := hgetd 0 (Nat.zero_lt_succ _)
  have h0 := covT_get hc 0 (by simp)
  have hnl : listed.getD p false = false := by rw [hl p hpl]; simp
  have hready : p ∈ Region.ready .any ops.toArray listed := by
   rw [mem_ready]
   refine ⟨by rw [getD_tf (by omega)]; exact hnl, o, by simpa using hop, fun e he hb => ?_⟩
   have := h0.1 e (by simpa using he) hb
   rw [hl e.on (by omega)]
   simpa using this
  cases fuel with
  | zero =>
   exfalso
   have := unl_zero (listed := listed) (n := ops.length) (by omega) p hpl
   rw [getD_tf (by omega), hnl] at this
   cases this
  | succ fuel =>
   refine ⟨fun hr => (by rw [hr] at hready; cases hready), fun i hi => ?_⟩
   obtain ⟨h1, o', ho, hafter⟩ := mem_ready.1 hi
   have hlt : i < ops.length := by simpa using (Array.getElem?_eq_some_iff.1 ho).1
   have hop' : ops[i]? = some o' := by simpa using ho
   have hip : p ≤ i := by
    rw [getD_tf (by omega), hl i hlt] at h1
    simpa using h1
   have hie : i = p := by
    rcases Nat.lt_or_ge p i with hlt2 | hge
    ·exfalso
     have hil : i - p < (o :: r).length := by
      have := congrArg List.length hd
      rw [List.length_drop] at this
      omega
     have hg := hgetd (i - p) hil
     rw [show p + (i - p) = i by omega, hop'] at hg
     obtain ⟨e, he, hon, hb⟩ := (covT_get hc (i - p) hil).2 p (by omega)
     rw [← Option.some.inj hg] at he
     have := hafter e (by simpa using he) hb
     rw [hon, hnl] at this
     cases this
    ·omega
   subst hie
   have hoo : o' = o := by
    rw [hop] at hop'
    exact (Option.some.inj hop').symm
   subst hoo
   have hnext := stepX_sound (C := C) (G := G) (w0 := w0) (Q := Q) (next := wpAny P .any ops.toArray Q fuel (listed.setIfInBounds i true)) hT (fun st2 a2 w2 hk2 hs2 =>
    tail_loop hT hq r (i + 1) st2 a2 w2 fuel (listed.setIfInBounds i true) (by rw [← List.drop_drop, hd]; rfl) (by omega) (by
     unfold covT at hc
     split at hc
     split at hc
     ·exact hc
     ·cases hc) (by simp [hsz]) (fun j hj => by
      rw [getD_set (by omega)]
      by_cases hji : j = i
      ·rw [if_pos hji, decide_eq_true (by omega)]
      ·rw [if_neg hji, hl j hj, decide_eq_decide]
       omega) (by have := unl_set (listed := listed) (i := i) (by omega) (by rw [getD_tf (by omega)]; exact hnl) (n := ops.length) hpl; omega) hs2 hk2) S h
   unfold wpOp
   simp only [ho]
   split
   ·rename_i hw
    rw [if_pos hw] at hnext
    exact .inl hnext
   ·rename_i hw
    rw [if_neg hw] at hnext
    exact hnext
theorem execDT_loop (hT : TabOk P T) {ops pre tl : List Oper} {o : Oper} (hops : ops = pre ++ o :: tl) (hcT : covT (pre.length + 1) tl = true) {K0 : KF} {O0 : OF} {n0 : Nat} {L : List DR} (hF : Facts P T N ops K0 O0 n0 L) (hlen : L.length = pre.length)
  (hK0 : ∀ s g av, K0 s = some (g, av) → av.lt n0 = true) (hO0 : ∀ id g x, O0 id = some (g, x) → id < n0 ∧ x.all (fun j => Nat.blt j n0) = true)
  (hbk : ∀ e ∈ o.after.toList, Region.binds .any e = true → e.on < pre.length)
  (hcov : ∀ D : Nat → Bool, (∀ e ∈ o.after.toList, Region.binds .any e = true → D e.on = true) → (∀ e ∈ L, D e.ix = true → ∀ i, tbL e.bits i = true → D i = true) → ∀ i, i < pre.length → D i = true)
  {Q : Exit → Act → World → Prop} {Mid : Act → World → Prop} (hmid : ∀ a' w' fuel (listed : Array Bool), Mid a' w' → listed.size = ops.length → (∀ j, j < ops.length → listed.getD j false = decide (j < pre.length + 1)) → unl listed ops.length ≤ fuel → wpAny P .any ops.toArray Q fuel listed a' w')
  (hlast : ∀ (next : Act → World → Prop), (∀ a' w', Mid a' w' → next a' w') → ∀ a w, SimD C G w0 N K0 O0 n0 L (fun _ => true) a w →
   if Region.wanted o (yielded ops.toArray a.tmps) then o.wp P a w next Q else next (a.put o.dst undef) w) :
  ∀ (fuel : Nat) (listed : Array Bool) (a : Act) (w : World), listed.size = ops.length → unl listed ops.length ≤ fuel → listed.getD pre.length false = false →
   (∀ j, pre.length < j → listed.getD j false = false) → (∀ e ∈ L, listed.getD e.ix false = true → ∀ i, tbL e.bits i = true → listed.getD i false = true) → SimD C G w0 N K0 O0 n0 L (fun j => listed.getD j false) a w →
   wpAny P .any ops.toArray Q fuel listed a w := by
 have hol : ops.length = pre.length + 1 + tl.length := by rw [hops]; simp; omega
 have hoe : ops[pre.length]? = some o := by rw [hops]; simp
 have htl : ∀ i, (hi : i < ops.length) → pre.length < i → ∃ h : i - (pre.length + 1) < tl.length, ops[i] = tl[i - (pre.length + 1)] := fun i hi h => by
  refine ⟨by omega, ?_⟩
  have hlt : i - (pre.length + 1) < tl.length := by omega
  have e : ops[i]? = some tl[i - (pre.length + 1)] := by
   have e0 : (pre ++ o :: tl)[i]? = some tl[i - (pre.length + 1)] := by
    rw [List.getElem?_append_right (by omega), show i - pre.length = (i - (pre.length + 1)) + 1 by omega, List.getElem?_cons_succ]
    exact List.getElem?_eq_getElem hlt
   rw [← hops] at e0
   exact e0
  rw [List.getElem?_eq_getElem hi] at e
  exact Option.some.inj e
 have hback : ∀ i, (hi : i < ops.length) → ∀ e ∈ ops[i].after.toList, Region.binds .any e = true → e.on < i := by
  intro i hi e he hb
  by_cases hil : i < pre.length
  ·exact facts_back hi he hb hF (by omega)
  ·rcases Nat.lt_or_ge pre.length i with hgt | hle
   ·obtain ⟨h1, h2⟩ := htl i hi hgt
    rw [h2] at he
    have := (covT_get hcT _ h1).1 e he hb
    omega
   have hie : i = pre.length := by omega
   subst hie
   have : ops[pre.length] = o := by
    rw [List.getElem?_eq_getElem hi] at hoe
    exact Option.some.inj hoe
   rw [this] at he
   exact hbk e he hb
 intro fuel
 induction fuel with
 | zero =>
  intro listed a w hsz hu hnl hnt hcl S
  exfalso
  have := unl_zero (listed := listed) (n := ops.length) (by omega) pre.length (by omega)
  rw [getD_tf (by omega), hnl] at this
  cases this
 | succ fuel ih =>
  intro listed a w hsz hu hnl hnt hcl S
  refine ⟨fun hr => ?_, fun i hi => ?_⟩
  ·exfalso
   have := ready_of_back hsz hr hback (pre.length + 1) pre.length (by omega) (by omega)
   rw [hnl] at this
   cases this
  obtain ⟨h1, o', ho, hafter⟩ := mem_ready.1 hi
  have hlt : i < ops.length := by simpa using (Array.getElem?_eq_some_iff.1 ho).1
  have hop : ops[i]? = some o' := by simpa using ho
  have hDi : listed.getD i false = false := by rw [← getD_tf (by omega)]; exact h1
  by_cases hil : i < pre.length
  ·have hfun : (fun j => if j = i then true else listed.getD j false) = fun j => (listed.setIfInBounds i true).getD j false := by
    funext j
    rw [getD_set (by omega)]
   have hstep := stepD_sound (C := C) (G := G) (w0 := w0) (a := a) (w := w) (Q := Q) (next := wpAny P .any ops.toArray Q fuel (listed.setIfInBounds i true)) hT hF hK0 hO0 (i := i) (D := fun j => listed.getD j false) (by omega) hDi hcl hop (fun e he hb => hafter e (by simpa using he) hb)
   have hcl' : ∀ e ∈ L, (listed.setIfInBounds i true).getD e.ix false = true → ∀ j, tbL e.bits j = true → (listed.setIfInBounds i true).getD j false = true := by
    intro e he hDe j hj
    rw [getD_set (by omega)] at hDe ⊢
    exact (stepD_sound (Q := Q) (next := fun _ _ => True) hT hF hK0 hO0 (i := i) (D := fun j => listed.getD j false) (by omega) hDi hcl hop (fun e he hb => hafter e (by simpa using he) hb) (fun _ _ _ => trivial) S).2 e he hDe j hj
   have hnext := (hstep (fun a' w' S' => ih (listed.setIfInBounds i true) a' w' (by simp [hsz]) (by have := unl_set (by omega) h1 (n := ops.length) hlt; omega) (by rw [getD_set (by omega), if_neg (by omega)]; exact hnl) (fun j hj => by rw [getD_set (by omega), if_neg (by omega)]; exact hnt j hj) hcl' (by rw [← hfun]; exact S')) S).1
   unfold wpOp
   simp only [ho]
   split
   ·rename_i hw
    rw [if_pos hw] at hnext
    exact .inl hnext
   ·rename_i hw
    rw [if_neg hw] at hnext
    exact hnext
  ·rcases Nat.lt_or_ge pre.length i with hgt | hle
   ·exfalso
    obtain ⟨h3, h4⟩ := htl i hlt hgt
    obtain ⟨e, he, hon, hb⟩ := (covT_get hcT _ h3).2 pre.length (by omega)
    have hoi : ops[i] = o' := by
     rw [List.getElem?_eq_getElem hlt] at hop
     exact Option.some.inj hop
    rw [← h4, hoi] at he
    have := hafter e (by simpa using he) hb
    rw [hon, hnl] at this
    cases this
   have hie : i = pre.length := by omega
   subst hie
   have hoo : o' = o := by
    rw [hoe] at hop
    exact (Option.some.inj hop).symm
   subst hoo
   have hall := hcov (fun j => listed.getD j false) (fun e he hb => hafter e (by simpa using he) hb) hcl
   have S' : SimD C G w0 N K0 O0 n0 L (fun _ => true) a w := by
    obtain ⟨β, S, hag⟩ := S
    refine ⟨β, ?_, hag⟩
    have hix : ∀ e ∈ L, (fun j => listed.getD j false) e.ix = (fun _ => true) e.ix := fun e he => hall _ (by rw [← hlen]; exact hF.ix_lt e he)
    rw [kD_congr (D := fun j => listed.getD j false) (D' := fun _ => true) hix, oD_congr (D := fun j => listed.getD j false) (D' := fun _ => true) hix] at S
    exact S
   have hdone : ∀ a' w', Mid a' w' → wpAny P .any ops.toArray Q fuel (listed.setIfInBounds pre.length true) a' w' := fun a' w' hM => by
    refine hmid a' w' fuel _ hM (by simp [hsz]) (fun j hj => ?_) (by have := unl_set (listed := listed) (i := pre.length) (by omega) (by rw [getD_tf (by omega)]; exact hnl) (n := ops.length) (by omega); omega)
    rw [getD_set (by omega)]
    rcases Nat.lt_trichotomy j pre.length with h | h | h
    ·rw [if_neg (by omega), hall j h, decide_eq_true (by omega)]
    ·rw [if_pos h, decide_eq_true (by omega)]
    ·rw [if_neg (by omega), hnt j h, decide_eq_false (by omega)]
   have hnext := hlast (wpAny P .any ops.toArray Q fuel (listed.setIfInBounds pre.length true)) hdone a w S'
   unfold wpOp
   simp only [ho]
   split
   ·rename_i hw
    rw [if_pos hw] at hnext
    exact .inl hnext
   ·rename_i hw
    rw [if_neg hw] at hnext
    exact hnext
theorem execDT_sound (hT : TabOk P T) {ops : List Oper} {Q : Exit → Act → World → Prop} {id : Nat} {st : St} {k : St → Prop} (S : Sim C G w0 N st a w) (h : execDT P T N ops st k)
  (hq : ∀ st' a' w', k st' → Sim C G w0 N st' a' w' → Q .normal a' w') : (Code.region id ops.toArray true).wp P Q a w := by
 obtain ⟨K, O, nid⟩ := st
 unfold execDT at h
 split at h
 ·rename_i K O nid o tl he ho
  cases he
  have hops := front_tail ops
  rw [ho] at hops
  split at h
  ·rename_i es h1 h2 h3 hes
   split at h
   ·rename_i hb hcT
    obtain ⟨st', L, hk, hlen, hF, hK, hO, hn⟩ := execDs_factT (P := P) (T := T) (N := N) (ops := ops) (tl := o :: tl) (K0 := K) (O0 := O) (l := frontO ops) (ix := 0) (st := ⟨K, O, nid⟩) (done := []) (L := []) (n0 := nid) hops rfl (fun id g x hx => ltIds_get h2 id g x hx) rfl rfl rfl rfl trivial h
    obtain ⟨bits, hk, hcov⟩ := edgesK_iff hk
    split at hk
    ·rename_i hab
     have hab := allB_iff hab
     have hae : o.after.toList = es := by rw [hes]
     refine wp_region_any hT.mixed ?_
     have hS : SimD C G w0 N (fun s => find s K) (fun id => getO id O) nid L (fun j => (Array.replicate ops.toArray.size false).getD j false) a { w with drawn := w.drawn + 1 } := by
      obtain ⟨β, S, hag⟩ := S
      have hfalse : ∀ e ∈ L, (fun j => (Array.replicate ops.toArray.size false).getD j false) e.ix = (fun _ => false) e.ix := fun e he => by
       simp [Array.getElem?_replicate]
       split <;> rfl
      refine ⟨β, ?_, hag⟩
      rw [kD_congr (D' := fun _ => false) hfalse, oD_congr (D' := fun _ => false) hfalse]
      have e1 : ∀ M : List DR, kD (fun _ => false) M (fun s => find s K) = fun s => find s K := by
       intro M
       induction M with
       | nil => rfl
       | cons d r ih => funext s; simp only [kD, ih]; simp
      have e2 : ∀ M : List DR, oD (fun _ => false) M (fun id => getO id O) = fun id => getO id O := by
       intro M
       induction M with
       | nil => rfl
       | cons d r ih => simp only [oD, ih]; simp
      rw [e1, e2]
      have hstab : ∀ {F : Nat → Prop} {av : AV} {v : Value}, Rep β nid F w av v → Rep β (endN nid L) F { w with drawn := w.drawn + 1 } av v := fun h =>
       (h.stable (w' := { w with drawn := w.drawn + 1 }) (fun _ _ h => h) (fun _ _ _ => rfl) (Nat.le_refl _)).more (n0_le hF)
      refine ⟨S.gold, ⟨S.below.os, S.below.tape, S.below.output, S.below.size, S.below.block, S.below.drawn⟩, S.tsz, S.dfs, fun s g av hs => ⟨fun h => hstab ((S.kf s g av hs).1 h), (S.kf s g av hs).2⟩, fun id g x hx => ⟨Nat.lt_of_lt_of_le (S.of id g x hx).1 (n0_le hF), fun h => ?_⟩, S.allow, S.dist⟩
      exact ((S.of id g x hx).2 h).stable (w' := { w with drawn := w.drawn + 1 }) (S.of id g x hx).1 (n0_le hF) (fun _ _ => ⟨rfl, rfl⟩) (fun _ _ h => h) (fun _ _ _ => rfl) (Nat.le_refl _) (fun _ _ => rfl)
     refine execDT_loop (Mid := fun a' w' => ∃ st2, execX P T N ops tl st2 k ∧ Sim C G w0 N st2 a' w') hT hops hcT hF (by simpa using hlen) (fun s g av hs => ltK_get h1 s g av hs) (fun id g x hx => ⟨ltIds_get h2 id g x hx, allO_get h3 id g x hx⟩) ?_ ?_ ?_ ?_ ops.toArray.size _ a _ (by simp) ?_ ?_ ?_ ?_ hS
     ·rw [hae]
      exact backB_iff hb
     ·intro D hD1 hD2 i hi
      exact hcov D (by rw [← hae]; exact hD1) hD2 (fun i hi => by simp [tbL] at hi) i (hab i hi)
     ·rintro a' w' fuel listed ⟨st2, hk2, S2⟩ hsz hl hu
      refine tail_loop hT hq tl ((frontO ops).length + 1) st2 a' w' fuel listed ?_ ?_ hcT hsz hl hu S2 hk2
      ·have e0 : ∀ (l m : List Oper) (x : Oper), (l ++ x :: m).drop (l.length + 1) = m := by
        intro l m x
        rw [List.drop_append, List.drop_of_length_le (by omega), List.nil_append, show l.length + 1 - l.length = 1 by omega]
        rfl
       have := e0 (frontO ops) tl o
       rw [← hops] at this
       exact this
      ·have := congrArg List.length hops
       simp at this
       omega
     ·intro next hnx a' w' S'
      obtain ⟨β, S', hag⟩ := S'
      have S2 : Sim C G w0 N st' a' w' := by
       refine ⟨β, ?_, by rw [hn]; exact hag.more (n0_le hF)⟩
       rw [hK, hO, hn]
       exact S'
      exact stepX_sound (Q := Q) (next := next) hT (fun st2 a2 w2 hk2 hs2 => hnx _ _ ⟨st2, hk2, hs2⟩) S2 hk
     ·have : ∀ (l : Array Bool) n, unl l n ≤ n := by
       intro l n
       induction n with
       | zero => exact Nat.le_refl _
       | succ n ih => simp only [unl]; split <;> omega
      simpa using this _ ops.length
     ·simp [Array.getElem?_replicate]
      split <;> rfl
     ·intro j _
      simp [Array.getElem?_replicate]
      split <;> rfl
     ·intro e he hDe
      exfalso
      simp [Array.getElem?_replicate] at hDe
      split at hDe <;> cases hDe
    ·exact hk.elim
   ·exact h.elim
  ·exact h.elim
 ·exact h.elim
end
end Go.Eng
end
