/-
  Several texts in one: Eng9, Eng9b, Eng9c, Eng10.
-/
import Derived.Test.YtnookbebiacaeaaMg4

section
namespace Go.Eng
open Go.RowKit
section
variable {P : Program} {β : Bd} {nid : Nat} {F : Nat → Prop} {w : World} {lk : Nat → Option AO} {k : Eff → Prop}
def AO.ren (ρ : Nat → Nat) : AO → AO
 | .cells e cs => .cells e (AV.rens ρ cs)
 | .row e sz n get => .row e sz n get
 | .mp n key val born clock => .mp n key val born clock
 | .it mid since seen => .it (ρ mid) since seen
 | .ir n key val seen last => .ir n key val seen last
 | .mr n key kid born clock aux none => .mr n key kid born clock (ρ aux) none
 | .mr n key kid born clock aux (some (i, h)) => .mr n key kid born clock (ρ aux) (some (i, ρ h))
 | .dead => .dead
theorem AO.ren_mr (ρ : Nat → Nat) (n : Nat) (key : Nat → AV) (kid : Nat → KD) (born : Nat → Nat) (clock aux : Nat) (hole : Option (Nat × Nat)) :
  ∃ hole', (AO.mr n key kid born clock aux hole).ren ρ = .mr n key kid born clock (ρ aux) hole' ∧ (∀ i, noHole hole' i ↔ noHole hole i) ∧ (∀ i h, hole' = some (i, h) → ∃ h0, hole = some (i, h0) ∧ h = ρ h0) := by
 rcases hole with _ | ⟨i, h⟩
 ·exact ⟨none, rfl, fun _ => Iff.rfl, fun _ _ e => by cases e⟩
 ·refine ⟨some (i, ρ h), rfl, fun j => ?_, fun j h' e => ?_⟩
  ·unfold noHole
   constructor
   ·intro hh h1 e
    rw [Option.some.injEq, Prod.mk.injEq] at e
    exact hh (ρ h) (by rw [e.1])
   ·intro hh h1 e
    rw [Option.some.injEq, Prod.mk.injEq] at e
    exact hh h (by rw [e.1])
  ·rw [Option.some.injEq, Prod.mk.injEq] at e
   exact ⟨h, by rw [e.1], e.2.symm⟩
theorem AO.ren_mr' (ρ : Nat → Nat) (n : Nat) (key : Nat → AV) (kid : Nat → KD) (born : Nat → Nat) (clock aux : Nat) (hole : Option (Nat × Nat)) :
  ∃ hole', (AO.mr n key kid born clock aux hole).ren ρ = .mr n key kid born clock (ρ aux) hole' ∧ (∀ i, noHole hole' i ↔ noHole hole i) ∧ (∀ i h, hole' = some (i, h) → ∃ h0, hole = some (i, h0) ∧ h = ρ h0) ∧ ∀ i h, hole = some (i, h) → hole' = some (i, ρ h) := by
 obtain ⟨hole', e1, e2, e3⟩ := AO.ren_mr ρ n key kid born clock aux hole
 refine ⟨hole', e1, e2, e3, fun i h e => ?_⟩
 subst e
 cases e1
 rfl
def AO.rens (ρ : Nat → Nat) : List AO → List AO
 | [] => []
 | o :: r => AO.ren ρ o :: AO.rens ρ r
theorem AO.length_rens (ρ : Nat → Nat) : ∀ l : List AO, (AO.rens ρ l).length = l.length
 | [] => rfl
 | o :: r => by simp [AO.rens, AO.length_rens ρ r]
theorem AO.rens_get? (ρ : Nat → Nat) : ∀ (l : List AO) (j : Nat) (o : AO), (AO.rens ρ l)[j]? = some o → ∃ o', l[j]? = some o' ∧ o = AO.ren ρ o'
 | [], j, o, h => by simp [AO.rens] at h
 | c :: r, 0, o, h => by
  simp only [AO.rens, List.getElem?_cons_zero, Option.some.injEq] at h
  exact ⟨c, rfl, h.symm⟩
 | c :: r, j + 1, o, h => by
  simp only [AO.rens, List.getElem?_cons_succ] at h ⊢
  exact AO.rens_get? ρ r j o h
theorem ObjOk.unren {β β' : Bd} {n n' : Nat} {F F' : Nat → Prop} {w : World} {j j' : Nat} {o : AO} (h : ObjOk β n F w j o) (ρ : Nat → Nat)
  (hb : ∀ id, id < n → ρ id < n' ∧ β'.blk (ρ id) = β.blk id ∧ β'.val (ρ id) = β.val id) (hj : β'.blk j' = β.blk j ∧ β'.val j' = β.val j) (hF : ∀ g, ¬ F g → ¬ F' g) :
  ObjOk β' n' F' w j' (o.ren ρ) := by
 cases o with
 | cells e cs =>
  obtain ⟨vs, hh, hl, hc⟩ := h
  refine ⟨vs, by rw [hj.1]; exact hh, (AV.length_rens ρ cs).trans hl, fun i h1 h2 => ?_⟩
  have h1' : i < cs.length := by rw [AV.length_rens] at h1; exact h1
  rw [AV.rens_get ρ cs i h1 h1']
  exact ⟨((hc i h1' h2).1.unren ρ hb).stable (fun g _ hn => hF g hn) (fun _ _ _ => rfl) (Nat.le_refl _), (hc i h1' h2).2⟩
 | row e sz m get =>
  obtain ⟨xs, hx, hlen, hc⟩ := h
  exact ⟨xs, by rw [hj.2]; exact hx, hlen, fun k i hk h1 h2 => ⟨(hc k i hk h1 h2).1.stable (fun g _ hn => hF g hn) (fun _ _ _ => rfl) (Nat.le_refl _), (hc k i hk h1 h2).2⟩⟩
 | mp m key val born clock =>
  obtain ⟨es, hh, hm, ho, hc⟩ := h
  exact ⟨es, by rw [hj.1]; exact hh, hm, ho, fun i h1 h2 => ⟨(hc i h1 h2).1.stable (fun g _ hn => hF g hn) (fun _ _ _ => rfl) (Nat.le_refl _), (hc i h1 h2).2.1.stable (fun g _ hn => hF g hn) (fun _ _ _ => rfl) (Nat.le_refl _), (hc i h1 h2).2.2⟩⟩
 | it mid since seen =>
  obtain ⟨hm, hh⟩ := h
  obtain ⟨h1, h2, _⟩ := hb mid hm
  exact ⟨h1, by rw [hj.1, h2]; exact hh⟩
 | ir m key val seen last =>
  obtain ⟨g, es, clock, sn, hh, hm, ho, hg0, hg, hc, hlast⟩ := h
  exact ⟨g, es, clock, sn, by rw [hj.1]; exact hh, hm, ho, hg0, fun b hb' => ⟨hF b (hg b hb').1, (hg b hb').2⟩,
   fun i h1 h2 => ⟨(hc i h1 h2).1.stable (fun g _ hn => hF g hn) (fun _ _ _ => rfl) (Nat.le_refl _), (hc i h1 h2).2.1.stable (fun g _ hn => hF g hn) (fun _ _ _ => rfl) (Nat.le_refl _), (hc i h1 h2).2.2⟩, hlast⟩
 | mr m key kid born clock aux hole =>
  obtain ⟨ha, hho, es, hh, hm, ho, hkey, hk, hd, hne, hr⟩ := h
  obtain ⟨hole', e1, e2, e3⟩ := AO.ren_mr ρ m key kid born clock aux hole
  obtain ⟨a1, a2, a3⟩ := hb aux ha
  rw [e1]
  refine ⟨a1, fun i h e => ?_, es, by rw [hj.1]; exact hh, hm, ho, fun i hi h2 => ⟨(hkey i hi h2).1.stable (fun g _ hn => hF g hn) (fun _ _ _ => rfl) (Nat.le_refl _), (hkey i hi h2).2⟩, fun i hi h2 hno => ?_, ?_, ?_, fun i h e h2 => ?_⟩
  ·obtain ⟨h0, e4, rfl⟩ := e3 i h e
   exact ⟨(hb h0 (hho i h0 e4).1).1, (hho i h0 e4).2⟩
  ·obtain ⟨h3, h4⟩ := hk i hi h2 ((e2 i).1 hno)
   rw [a3]
   exact ⟨h3, h4.stable (fun g _ hn => hF g hn) (fun _ _ _ => rfl) (Nat.le_refl _) fun _ _ => rfl⟩
  ·rw [a3]
   exact fun i j g h1 h2 h3 h4 => hd i j g h1 h2 ((e2 i).1 h3) ((e2 j).1 h4)
  ·rw [a3, hj.1]
   exact fun i j h1 h2 h3 => hne i j h1 h2 ((e2 i).1 h3)
  ·obtain ⟨h0, e4, rfl⟩ := e3 i h e
   refine ⟨?_, (hr i h0 e4 h2).2⟩
   rw [(hr i h0 e4 h2).1]
   have := hb h0 (hho i h0 e4).1
   cases kid i <;> simp [kidRef, this.2.1, this.2.2]
 | dead => trivial
theorem ownB_ren {β β' : Bd} {j j' : Nat} {o : AO} (ρ : Nat → Nat) (hj : β'.blk j' = β.blk j ∧ β'.val j' = β.val j) (ha : ∀ a, o.aux = some a → β'.val (ρ a) = β.val a) : ownB β' j' (o.ren ρ) = ownB β j o := by
 cases o with
 | mr n key kid born clock aux hole =>
  obtain ⟨hole', e1, e2, _⟩ := AO.ren_mr ρ n key kid born clock aux hole
  rw [e1]
  simp only [ownB, hj.1, ha aux rfl, e2]
 | _ => simp only [AO.ren, ownB, hj.1, hj.2]
def Bd.join (β : Bd) (nid : Nat) (γ : Bd) : Bd := ⟨fun id => if id < nid then β.blk id else γ.blk (id - nid), fun id => if id < nid then β.val id else γ.val (id - nid)⟩
theorem agree_join (β : Bd) (nid : Nat) (γ : Bd) : agree nid β (β.join nid γ) := fun id h => by simp [Bd.join, h]
theorem join_new (β : Bd) (nid : Nat) (γ : Bd) (j : Nat) : (β.join nid γ).blk (j + nid) = γ.blk j ∧ (β.join nid γ).val (j + nid) = γ.val j := by
 have : ¬ (j + nid < nid) := by omega
 simp [Bd.join, this]
theorem EffPost.returned (hold : ∀ g, F g → g < w.heap.size) {w' : World} {γ : Bd} {os : List AO} {r : AV} {v : Value} (hb : Below w.heap.size w w')
  (hn : News γ os.length (FX (fun g => g < w.heap.size) γ 0 os) w.heap.size w' 0 os) (hr : Rep γ os.length (FX (fun g => g < w.heap.size) γ 0 os) w' r v) :
  EffPost β (β.join nid γ) nid F lk w w' v (.ext (AO.rens (· + nid) os) (r.ren (· + nid))) := by
 have hbj : ∀ id, id < os.length → id + nid < nid + (AO.rens (· + nid) os).length ∧ (β.join nid γ).blk (id + nid) = γ.blk id ∧ (β.join nid γ).val (id + nid) = γ.val id := fun id h =>
  ⟨by rw [AO.length_rens]; omega, join_new β nid γ id⟩
 have hj' : ∀ j, (β.join nid γ).blk (nid + j) = γ.blk j ∧ (β.join nid γ).val (nid + j) = γ.val j := fun j => by rw [Nat.add_comm]; exact join_new β nid γ j
 have hF : ∀ g, ¬ FX (fun g => g < w.heap.size) γ 0 os g → ¬ FX F (β.join nid γ) nid (AO.rens (· + nid) os) g := by
  rintro g hn' (hf | ⟨j, o, hj, ho⟩)
  ·exact hn' (.inl (hold g hf))
  ·obtain ⟨o', ho', rfl⟩ := AO.rens_get? _ os j o hj
   rw [ownB_ren _ (hj' j) (fun a _ => (join_new β nid γ a).2)] at ho
   exact hn' (.inr ⟨j, o', ho', by rw [Nat.zero_add]; exact ho⟩)
 refine ⟨hb, agree_join _ _ _, ⟨?_, ?_, ?_⟩, ?_⟩
 ·intro j o hj
  obtain ⟨o', ho', rfl⟩ := AO.rens_get? _ os j o hj
  have := hn.1 j o' ho'
  rw [Nat.zero_add] at this
  exact this.unren _ hbj (hj' j) hF
 ·intro j o g hj hg
  obtain ⟨o', ho', rfl⟩ := AO.rens_get? _ os j o hj
  rw [ownB_ren _ (hj' j) (fun a _ => (join_new β nid γ a).2)] at hg
  exact hn.2.1 j o' g ho' (by rw [Nat.zero_add]; exact hg)
 ·intro j j' o o' g h1 h2 hg1 hg2
  obtain ⟨p, hp, rfl⟩ := AO.rens_get? _ os j o h1
  obtain ⟨p', hp', rfl⟩ := AO.rens_get? _ os j' o' h2
  rw [ownB_ren _ (hj' j) (fun a _ => (join_new β nid γ a).2)] at hg1
  rw [ownB_ren _ (hj' j') (fun a _ => (join_new β nid γ a).2)] at hg2
  exact hn.2.2 j j' p p' g hp hp' (by rw [Nat.zero_add]; exact hg1) (by rw [Nat.zero_add]; exact hg2)
 ·exact (hr.unren _ hbj).stable (fun g _ hn' => hF g hn') (fun _ _ _ => rfl) (Nat.le_refl _)
def callA (P : Program) (gc : Option Prop) (lk : Nat → Option AO) (nid : Nat) (f : AV) (args : List AV) (k : Eff → Prop) : Prop :=
 match f with
 | .fn fid caps =>
  (viewsK lk 60 (appL args caps) fun vs => ∃ os r, ob gc (Ctr P fid vs os r) (k (.ext (AO.rens (· + nid) os) (r.ren (· + nid))))) ∨
  (match AV.lts 0 (appL args caps) with
   | true => ∃ r, ob gc (CtrA P fid (appL args caps) r) (k (.ext [] r))
   | false => False)
 | _ => False
theorem callFunc_run {f : FuncId} (hc : Callable P f) (args : Array Value) : (callFunc f args).run P w = .ok (.enter f args) w := by
 obtain ⟨fn, hf, hn, hb⟩ := hc
 cases hbody : fn.body with
 | none => simp [hbody] at hb
 | some c =>
  simp at hn
  simp [callFunc, hf, hn, hbody]
theorem callA_sound {gc : Option Prop} (hgc : ∀ c, gc = some c → c) (E : Env β nid F w lk) {f : AV} {args : List AV} {u : Value} {vs : List Value} (hu : Rep β nid F w f u) (hl : args.length = vs.length)
  (hr : ∀ (j : Nat) (h1 : j < args.length) (h2 : j < vs.length), Rep β nid F w args[j] vs[j]) (h : callA P gc lk nid f args k) :
  Out P (PostK β nid F lk w k) ((do let d ← Deferred.ofValue u vs.toArray; invoke d.target d.args : Sem Next).run P w) := by
 unfold callA at h
 split at h
 ·rename_i fid caps
  obtain ⟨cvs, rfl, hcl, hcr⟩ := hu.fn_inv
  have hall : ∀ (j : Nat) (h1 : j < (appL args caps).length) (h2 : j < (vs ++ cvs).length), Rep β nid F w (appL args caps)[j] (vs ++ cvs)[j] := by
   intro j h1 h2
   simp only [appL_eq] at h1 ⊢
   by_cases hj : j < args.length
   ·rw [List.getElem_append_left hj, List.getElem_append_left (by omega)]
    exact hr j hj (by omega)
   ·rw [List.getElem_append_right (by omega), List.getElem_append_right (by omega)]
    simp only [List.length_append] at h1 h2
    have e : j - args.length = j - vs.length := by omega
    simp only [e]
    exact hcr _ (by omega) (by omega)
  have hlen : (appL args caps).length = (vs ++ cvs).length := by rw [appL_eq]; simp; omega
  have hrun : ∀ (_ : Callable P fid), ((do let d ← Deferred.ofValue (.func (.func fid) #[] cvs.toArray) vs.toArray; invoke d.target d.args : Sem Next).run P w) = .ok (.enter fid (vs ++ cvs).toArray) w := by
   intro hc
   have := callFunc_run (w := w) hc (vs ++ cvs).toArray
   simpa [Deferred.ofValue, invoke] using this
  rcases h with h | h
  ·obtain ⟨m, ⟨os, r, h⟩, hml, hm⟩ := (views_sound E (Fa := fun _ => False) (fun _ h => h.elim) (fun _ _ h => h) (fun _ _ _ _ _ h => h) 60).2 _ (vs ++ cvs) _ hlen hall h
   obtain ⟨⟨hc, hfn⟩, h⟩ := ob_iff h hgc
   rw [hrun hc]
   refine .enter _ _ _ ((hfn w (vs ++ cvs) hml hm).mono ?_)
   rintro e w' ⟨v, γ, rfl, hb, hn, hrep⟩
   exact ⟨v, rfl, _, _, h, .returned E.old hb hn hrep⟩
  ·split at h
   ·rename_i hpure
    obtain ⟨r, h⟩ := h
    obtain ⟨⟨hc, hfn⟩, h⟩ := ob_iff h hgc
    rw [hrun hc]
    refine .enter _ _ _ ((hfn F w (vs ++ cvs) E.old hlen fun j h1 h2 => AV.lts_pure hpure j h1 (hall j h1 h2)).mono ?_)
    rintro e w' ⟨v, rfl, hb, hrep⟩
    exact ⟨v, rfl, _, β, h, .id (.pure _ _ hrep) hb⟩
   ·exact h.elim
 ·exact h.elim
def withA (a : Option AV) (k : AV → Prop) : Prop :=
 match a with
 | some a => k a
 | none => False
theorem withA_iff {a : Option AV} {q : AV → Prop} (h : withA a q) : ∃ r, a = some r ∧ q r := by
 cases a with
 | none => exact h.elim
 | some r => exact ⟨r, rfl, h⟩
def evsK (ev : Operand → Option AV) : List Operand → (List AV → Prop) → Prop
 | [], k => k []
 | x :: r, k => withA (ev x) fun a => evsK ev r fun l => k (a :: l)
def evpK (ev : Operand → Option AV) : List (Nat × Operand) → (List (Nat × AV) → Prop) → Prop
 | [], k => k []
 | (i, x) :: r, k => withA (ev x) fun a => evpK ev r fun l => k ((i, a) :: l)
def evoK (ev : Operand → Option AV) : Option Operand → (Option AV → Prop) → Prop
 | none, k => k none
 | some x, k => withA (ev x) fun a => k (some a)
theorem evsK_iff {ev : Operand → Option AV} {a : Act} (hev : ∀ x r, ev x = some r → Rep β nid F w r (a.eval x)) : ∀ {l : List Operand} {q : List AV → Prop}, evsK ev l q →
  ∃ m, q m ∧ m.length = (l.map a.eval).length ∧ ∀ (j : Nat) (h1 : j < m.length) (h2 : j < (l.map a.eval).length), Rep β nid F w m[j] (l.map a.eval)[j]
 | [], q, h => ⟨[], h, rfl, fun j h1 => by simp at h1⟩
 | x :: r, q, h => by
  obtain ⟨b, hb, h⟩ := withA_iff h
  obtain ⟨m, h, hl, hm⟩ := evsK_iff hev h
  refine ⟨b :: m, h, by simpa using hl, fun j h1 h2 => ?_⟩
  cases j with
  | zero => exact hev x b hb
  | succ j => exact hm j (by simpa using h1) (by simpa using h2)
theorem evpK_iff {ev : Operand → Option AV} {a : Act} (hev : ∀ x r, ev x = some r → Rep β nid F w r (a.eval x)) : ∀ {l : List (Nat × Operand)} {q : List (Nat × AV) → Prop}, evpK ev l q →
  ∃ m, q m ∧ m.length = (l.map fun p => (p.1, a.eval p.2)).length ∧ ∀ (j : Nat) (h1 : j < m.length) (h2 : j < (l.map fun p => (p.1, a.eval p.2)).length),
   m[j].1 = (l.map fun p => (p.1, a.eval p.2))[j].1 ∧ Rep β nid F w m[j].2 (l.map fun p => (p.1, a.eval p.2))[j].2
 | [], q, h => ⟨[], h, rfl, fun j h1 => by simp at h1⟩
 | (i, x) :: r, q, h => by
  obtain ⟨b, hb, h⟩ := withA_iff h
  obtain ⟨m, h, hl, hm⟩ := evpK_iff hev h
  refine ⟨(i, b) :: m, h, by simpa using hl, fun j h1 h2 => ?_⟩
  cases j with
  | zero => exact ⟨rfl, hev x b hb⟩
  | succ j => exact hm j (by simpa using h1) (by simpa using h2)
theorem evoK_iff {ev : Operand → Option AV} {a : Act} (hev : ∀ x r, ev x = some r → Rep β nid F w r (a.eval x)) {x : Option Operand} {q : Option AV → Prop} (h : evoK ev x q) :
  ∃ m, q m ∧ (∀ y, m = some y → ∃ z, x.map a.eval = some z ∧ Rep β nid F w y z) ∧ (m = none → x.map a.eval = none) := by
 cases x with
 | none => exact ⟨none, h, fun y hy => (by cases hy), fun _ => rfl⟩
 | some x =>
  obtain ⟨b, hb, h⟩ := withA_iff h
  exact ⟨some b, h, fun y hy => (by cases hy; exact ⟨_, rfl, hev x b hb⟩), fun hy => (by cases hy)⟩
def isTrue : Operand → Bool
 | .const (.bool true) => true
 | _ => false
def isFalse : Operand → Bool
 | .const (.bool false) => true
 | _ => false
theorem isTrue_iff {x : Operand} (h : isTrue x = true) : x = .const (.bool true) := by
 unfold isTrue at h
 split at h
 ·rfl
 ·cases h
theorem isFalse_iff {x : Operand} (h : isFalse x = true) : x = .const (.bool false) := by
 unfold isFalse at h
 split at h
 ·rfl
 ·cases h
def pickA (ev : Operand → Option AV) (evx : Nat → Bool → Operand → Option AV) (t : Nat) (x y : Operand) (k : Eff → Prop) : Prop :=
 match ev (.tmp t), isTrue x, isFalse y with
 | some (.b c), true, _ => (match evx t false y with
  | some (.b d) => k (.ext [] (.b (c || d)))
  | _ => False)
 | some (.b c), _, true => (match evx t true x with
  | some (.b d) => k (.ext [] (.b (c && d)))
  | _ => False)
 | _, _, _ => False
theorem pickA_sound {a : Act} {ev : Operand → Option AV} {evx : Nat → Bool → Operand → Option AV}
  (hev : ∀ x r, ev x = some r → Rep β nid F w r (a.eval x)) (hevx : ∀ t b x r, evx t b x = some r → a.eval (.tmp t) = .bool b → Rep β nid F w r (a.eval x)) {t : Nat} {x y : Operand}
  (h : pickA ev evx t x y k) : ∃ c d, a.eval (.tmp t) = .bool c ∧ (if c then a.eval x else a.eval y) = .bool d ∧ k (.ext [] (.b d)) := by
 unfold pickA at h
 split at h
 ·rename_i c hc hx
  obtain rfl := isTrue_iff hx
  have hcv := (hev _ _ hc).b_inv
  split at h
  ·rename_i d hd
   refine ⟨c, _, hcv, ?_, h⟩
   cases c with
   | true => simp [Act.eval]
   | false => simpa using (hevx _ _ _ _ hd hcv).b_inv
  ·exact h.elim
 ·rename_i c hc hy _
  obtain rfl := isFalse_iff hy
  have hcv := (hev _ _ hc).b_inv
  split at h
  ·rename_i d hd
   refine ⟨c, _, hcv, ?_, h⟩
   cases c with
   | false => simp [Act.eval]
   | true => simpa using (hevx _ _ _ _ hd hcv).b_inv
  ·exact h.elim
 ·exact h.elim
def stepA (P : Program) (T : List (Nat × TI)) (gc : Option Prop) (ev : Operand → Option AV) (evx : Nat → Bool → Operand → Option AV) (lk : Nat → Option AO) (nid : Nat) (op : Op) (k : Eff → Prop) : Prop :=
 match op with
 | .move x => withA (ev x) fun a => k (.ext [] a)
 | .assign x => withA (ev x) fun a => k (.ext [] a)
 | .pick (.tmp t) x y => pickA ev evx t x y k
 | .alloc e => (match tget e T with
  | some ti => allocA nid e (avOf ti.zero) k
  | none => False)
 | .box e x => withA (ev x) fun a => allocA nid e a k
 | .load t x => withA (ev x) fun a => (match tget t T with
  | some ti => loadA gc lk ti a k
  | none => False)
 | .store t x y => withA (ev x) fun a => withA (ev y) fun b => (match tget t T with
  | some ti => storeA gc lk ti a b k
  | none => False)
 | .nilCheck x => withA (ev x) fun a => nilCheckA a k
 | .binOp op t x y _ => withA (ev x) fun a => withA (ev y) fun b => binA gc T lk op t a b k
 | .unOp op _ x => withA (ev x) fun a => unA op a k
 | .convert s d x => withA (ev x) fun a => convA T s d a k
 | .fieldAddr s x f => withA (ev x) fun a => fieldAddrA T s f a k
 | .field s x f => withA (ev x) fun a => fieldA T s f a k
 | .indexAddr t x i => withA (ev x) fun a => withA (ev i) fun b => indexAddrX gc T lk t a b k
 | .extract x j => withA (ev x) fun a => extractA j a k
 | .makeFunc (.func f) ⟨[]⟩ ⟨caps⟩ => evsK ev caps fun l => k (.ext [] (.fn f l))
 | .makeSlice t l c => withA (ev l) fun a => withA (ev c) fun b => makeSliceA gc T nid t a b k
 | .slice t x lo hi none => withA (ev x) fun a => evoK ev lo fun l => evoK ev hi fun h => subX gc T lk t a l h k
 | .slice t x (some lo) (some hi) (some mx) => withA (ev x) fun a => withA (ev lo) fun l => withA (ev hi) fun h => withA (ev mx) fun m => sub3A gc T lk t a l h m k
 | .build t ⟨parts⟩ => evpK ev parts fun l => buildA T t l k
 | .buildSlice t n ⟨parts⟩ => evpK ev parts fun l => buildSliceA T nid t n l k
 | .call ⟨.value f, ⟨args⟩, _⟩ => withA (ev f) fun a => evsK ev args fun l => callA P gc lk nid a l k
 | .call ⟨.builtin .len, ⟨[x]⟩, ⟨[t]⟩⟩ => withA (ev x) fun a => lenA T lk t a k
 | .call ⟨.builtin .max, ⟨[x, y]⟩, _⟩ => withA (ev x) fun a => withA (ev y) fun b => maxA a b k
 | .call ⟨.builtin .min, ⟨[x, y]⟩, _⟩ => withA (ev x) fun a => withA (ev y) fun b => minA a b k
 | .call ⟨.builtin .append, ⟨[x, y]⟩, ⟨[t, t']⟩⟩ => (match Nat.beq t t' with
  | true => withA (ev x) fun a => withA (ev y) fun b => (match sameSv a b with
   | true => appendInA gc T lk nid t a b k
   | false => appendA gc T lk nid t a b k)
  | false => False)
 | .makeMap _ none => makeMapA nid k
 | .lookup t x i ok => withA (ev x) fun a => withA (ev i) fun b => lookupA gc T lk t a b ok k
 | .mapUpdate t m x y => withA (ev m) fun a => withA (ev x) fun b => withA (ev y) fun c => updateA gc T lk t a b c k
 | .insert t m x y => withA (ev m) fun a => withA (ev x) fun b => withA (ev y) fun c => updateA gc T lk t a b c k
 | .range t x => withA (ev x) fun a => rangeA T lk nid t a k
 | .entry x => withA (ev x) fun a => entryA gc lk a k
 | .call ⟨.builtin .delete, ⟨[x, y]⟩, ⟨[t, _]⟩⟩ => withA (ev x) fun a => withA (ev y) fun b => deleteA gc T lk t a b k
 | .call ⟨.builtin .clear, ⟨[x]⟩, ⟨[t]⟩⟩ => withA (ev x) fun a => clearA T lk t a k
 | .call ⟨.builtin .copy, ⟨[x, y]⟩, ⟨[t, _]⟩⟩ => withA (ev x) fun a => withA (ev y) fun b => copyA T lk t a b k
 | _ => False
theorem Out.pure {x : Value} {run : Result Next} (hrun : run = .ok (.value x) w) (h : ∃ r, k (.ext [] r) ∧ Rep β nid F w r x) : Out P (PostK β nid F lk w k) run := by
 obtain ⟨r, hk, hr⟩ := h
 exact Out.same hk hr hrun
theorem Out.made {x : Value} {w' : World} {run : Result Next} (hrun : run = .ok (.value x) w') (h : PostK β nid F lk w k x w') : Out P (PostK β nid F lk w k) run := by
 subst hrun
 exact .value x w' h
theorem run_value {s : Sem Value} {x : Value} {w' : World} (h : s.run P w = .ok x w') : (do pure (Next.value (← s)) : Sem Next).run P w = .ok (.value x) w' := by
 simp [h]
theorem stepA_sound {T : List (Nat × TI)} (hT : TabOk P T) {gc : Option Prop} (hgc : ∀ c, gc = some c → c) (E : Env β nid F w lk) {a : Act} {ev : Operand → Option AV} {evx : Nat → Bool → Operand → Option AV}
  (hev : ∀ x r, ev x = some r → Rep β nid F w r (a.eval x)) (hevx : ∀ t b x r, evx t b x = some r → a.eval (.tmp t) = .bool b → Rep β nid F w r (a.eval x)) {o : Oper}
  (h : stepA P T gc ev evx lk nid o.op k) : Out P (PostK β nid F lk w k) ((execOp a.eval o).run P w) := by
 unfold stepA at h
 split at h
 ·rename_i x hop
  obtain ⟨r, hr, h⟩ := withA_iff h
  exact .same h (hev _ _ hr) (by simp [execOp, hop])
 ·rename_i x hop
  obtain ⟨r, hr, h⟩ := withA_iff h
  exact .same h (hev _ _ hr) (by simp [execOp, hop])
 ·rename_i t x y hop
  obtain ⟨c, d, hc, hd, h⟩ := pickA_sound hev hevx h
  refine .same h (.pure _ _ (.b _)) ?_
  simp [execOp, hop, hc, asBool, hd]
 ·rename_i e hop
  split at h
  ·rename_i ti ht
   obtain ⟨x, w', hrun, hp⟩ := allocA_sound (lk := lk) (β := β) (F := F) (w := w) (hT.get ht) h
   exact .made (by simp only [execOp, hop]; exact run_value hrun) hp
  ·exact h.elim
 ·rename_i e x hop
  obtain ⟨r, hr, h⟩ := withA_iff h
  obtain ⟨x, w', hrun, hp⟩ := boxA_sound (P := P) (lk := lk) (hev _ _ hr) h
  exact .made (by simp only [execOp, hop]; exact run_value hrun) hp
 ·rename_i t x hop
  obtain ⟨r, hr, h⟩ := withA_iff h
  split at h
  ·rename_i ti ht
   obtain ⟨x, hrun, hp⟩ := loadA_sound hgc E (hT.get ht) (hev _ _ hr) h
   exact .pure (by simp only [execOp, hop]; exact run_value hrun) hp
  ·exact h.elim
 ·rename_i t x y hop
  obtain ⟨r, hr, h⟩ := withA_iff h
  obtain ⟨r', hr', h⟩ := withA_iff h
  split at h
  ·rename_i ti ht
   obtain ⟨w', hrun, hp⟩ := storeA_sound hgc E (hT.get ht) (hev _ _ hr) (hev _ _ hr') h
   have : (execOp a.eval o).run P w = .ok .skip w' := by
    simp only [execOp, hop, Sem.run_bind, hrun, Result.andThen_ok]
    rfl
   rw [this]
   exact .skip _ hp
  ·exact h.elim
 ·rename_i x hop
  obtain ⟨r, hr, h⟩ := withA_iff h
  have hv := hev _ _ hr
  unfold nilCheckA at h
  split at h
  ·obtain ⟨hid, hv'⟩ := hv.p_inv
   exact .same h hv (by simp [execOp, hop, hv'])
  ·obtain ⟨hid, g, o', m, c, _, hv'⟩ := hv.pe_inv
   exact .same h hv (by simp [execOp, hop, hv'])
  ·have hv0 := hv.rp_inv
   have : ∃ g o, a.eval x = .pointer (some ⟨g, o, none⟩) := by
    generalize a.eval x = v at hv0
    cases hv0 with
    | rp _ g o => exact ⟨g, o, rfl⟩
   obtain ⟨g, o', hv'⟩ := this
   exact .same h hv (by simp [execOp, hop, hv'])
  ·exact h.elim
 ·rename_i op t x y _ hop
  obtain ⟨r, hr, h⟩ := withA_iff h
  obtain ⟨r', hr', h⟩ := withA_iff h
  obtain ⟨z, hrun, hp⟩ := binA_sound (P := P) hgc E hT x y (hev _ _ hr) (hev _ _ hr') h
  exact .pure (by simp only [execOp, hop]; exact run_value hrun) hp
 ·rename_i op _ x hop
  obtain ⟨r, hr, h⟩ := withA_iff h
  obtain ⟨z, hrun, hp⟩ := unA_sound (P := P) (hev _ _ hr) h
  exact .pure (by simp only [execOp, hop]; exact run_value hrun) hp
 ·rename_i s d x hop
  obtain ⟨r, hr, h⟩ := withA_iff h
  obtain ⟨z, hrun, hp⟩ := convA_sound (P := P) hT (hev _ _ hr) h
  exact .pure (by simp only [execOp, hop]; exact run_value hrun) hp
 ·rename_i s x f hop
  obtain ⟨r, hr, h⟩ := withA_iff h
  obtain ⟨z, hrun, hp⟩ := fieldAddrA_sound (P := P) hT (hev _ _ hr) h
  exact .pure (by simp only [execOp, hop]; exact run_value hrun) hp
 ·rename_i s x f hop
  obtain ⟨r, hr, h⟩ := withA_iff h
  obtain ⟨z, hrun, hp⟩ := fieldA_sound (P := P) hT (hev _ _ hr) h
  exact .pure (by simp only [execOp, hop]; exact run_value hrun) hp
 ·rename_i t x i hop
  obtain ⟨r, hr, h⟩ := withA_iff h
  obtain ⟨r', hr', h⟩ := withA_iff h
  obtain ⟨z, hrun, hp⟩ := indexAddrX_sound (P := P) hgc E hT (hev _ _ hr) (hev _ _ hr') h
  exact .pure (by simp only [execOp, hop]; exact run_value hrun) hp
 ·rename_i x j hop
  obtain ⟨r, hr, h⟩ := withA_iff h
  obtain ⟨z, hrun, hp⟩ := extractA_sound (P := P) (hev _ _ hr) h
  exact .pure (by simp only [execOp, hop]; exact run_value hrun) hp
 ·rename_i f caps hop
  obtain ⟨m, h, hl, hm⟩ := evsK_iff hev h
  exact .same h (.fn f m _ hl hm) (by simp [execOp, hop, Instr.makeFunc])
 ·rename_i t l c hop
  obtain ⟨r, hr, h⟩ := withA_iff h
  obtain ⟨r', hr', h⟩ := withA_iff h
  obtain ⟨x, w', hrun, hp⟩ := makeSliceA_sound (P := P) (lk := lk) hgc hT (hev _ _ hr) (hev _ _ hr') h
  exact .made (by simp only [execOp, hop]; exact run_value hrun) hp
 ·rename_i t x lo hi hop
  obtain ⟨r, hr, h⟩ := withA_iff h
  obtain ⟨ml, h, hl1, hl2⟩ := evoK_iff hev h
  obtain ⟨mh, h, hh1, hh2⟩ := evoK_iff hev h
  obtain ⟨z, hrun, hp⟩ := subX_sound (P := P) hgc E hT (hev _ _ hr) hl1 hl2 hh1 hh2 h
  refine .pure (x := z) ?_ hp
  have hsl : (Instr.sliceAt t (a.eval x) (lo.map a.eval) (hi.map a.eval) none).run P w = .ok z w := hrun
  simp only [execOp, hop]
  exact run_value hsl
 ·rename_i t x lo hi mx hop
  obtain ⟨r, hr, h⟩ := withA_iff h
  obtain ⟨rl, hrl, h⟩ := withA_iff h
  obtain ⟨rh, hrh, h⟩ := withA_iff h
  obtain ⟨rm, hrm, h⟩ := withA_iff h
  obtain ⟨z, hrun, hp⟩ := sub3A_sound (P := P) hgc E hT (hev _ _ hr) (hev _ _ hrl) (hev _ _ hrh) (hev _ _ hrm) h
  refine .pure (x := z) ?_ hp
  simp only [execOp, hop, Option.map_some]
  exact run_value hrun
 ·rename_i t parts hop
  obtain ⟨m, h, hl, hm⟩ := evpK_iff hev h
  obtain ⟨z, hrun, hp⟩ := buildA_sound (P := P) (vals := ⟨parts.map fun p => (p.1, a.eval p.2)⟩) hT hl hm h
  refine .pure (x := z) ?_ hp
  simp only [execOp, hop]
  exact run_value (by simpa using hrun)
 ·rename_i t n parts hop
  obtain ⟨m, h, hl, hm⟩ := evpK_iff hev h
  obtain ⟨z, w', hrun, hp⟩ := buildSliceA_sound (P := P) (lk := lk) (vals := ⟨parts.map fun p => (p.1, a.eval p.2)⟩) hT hl hm h
  refine .made (x := z) ?_ hp
  simp only [execOp, hop]
  exact run_value (by simpa using hrun)
 ·rename_i f args _ hop
  obtain ⟨r, hr, h⟩ := withA_iff h
  obtain ⟨m, h, hl, hm⟩ := evsK_iff hev h
  have := callA_sound hgc E (hev _ _ hr) hl hm h
  simpa [execOp, hop, resolve] using this
 ·rename_i x t hop
  obtain ⟨r, hr, h⟩ := withA_iff h
  obtain ⟨z, hrun, hp⟩ := lenA_sound (P := P) E hT o.type #[t] rfl (hev _ _ hr) h
  refine .pure (x := z) ?_ hp
  simp [execOp, hop, resolve, invoke, builtin, hrun]
 ·rename_i x y ts hop
  obtain ⟨r, hr, h⟩ := withA_iff h
  obtain ⟨r', hr', h⟩ := withA_iff h
  obtain ⟨z, hrun, hp⟩ := maxA_sound (P := P) ts o.type (hev _ _ hr) (hev _ _ hr') h
  refine .pure (x := z) ?_ hp
  simp [execOp, hop, resolve, invoke, builtin, hrun]
 ·rename_i x y ts hop
  obtain ⟨r, hr, h⟩ := withA_iff h
  obtain ⟨r', hr', h⟩ := withA_iff h
  obtain ⟨z, hrun, hp⟩ := minA_sound (P := P) ts o.type (hev _ _ hr) (hev _ _ hr') h
  refine .pure (x := z) ?_ hp
  simp [execOp, hop, resolve, invoke, builtin, hrun]
 ·rename_i x y t t' hop
  split at h
  ·rename_i ht
   have ht : t = t' := by simpa using ht
   subst ht
   obtain ⟨r, hr, h⟩ := withA_iff h
   obtain ⟨r', hr', h⟩ := withA_iff h
   split at h
   ·obtain ⟨z, w', hrun, hp⟩ := appendInA_sound (P := P) hgc E hT o.type (hev _ _ hr) (hev _ _ hr') h
    refine .made (x := z) ?_ hp
    simp [execOp, hop, resolve, invoke, builtin, hrun]
   ·obtain ⟨z, w', hrun, hp⟩ := appendA_sound (P := P) hgc E hT o.type (hev _ _ hr) (hev _ _ hr') h
    refine .made (x := z) ?_ hp
    simp [execOp, hop, resolve, invoke, builtin, hrun]
  ·exact h.elim
 ·rename_i t hop
  obtain ⟨x, w', hrun, hp⟩ := makeMapA_sound (P := P) (lk := lk) (β := β) (F := F) (w := w) t h
  exact .made (by simp only [execOp, hop]; exact run_value hrun) hp
 ·rename_i t x i ok hop
  obtain ⟨r, hr, h⟩ := withA_iff h
  obtain ⟨r', hr', h⟩ := withA_iff h
  obtain ⟨z, hrun, hp⟩ := lookupA_sound (P := P) hgc E hT (hev _ _ hr) (hev _ _ hr') h
  exact .pure (by simp only [execOp, hop]; exact run_value hrun) hp
 ·rename_i t m x y hop
  obtain ⟨r, hr, h⟩ := withA_iff h
  obtain ⟨r', hr', h⟩ := withA_iff h
  obtain ⟨r2, hr2, h⟩ := withA_iff h
  obtain ⟨w', hrun, hp⟩ := updateA_sound (P := P) hgc E hT (hev _ _ hr) (hev _ _ hr') (hev _ _ hr2) h
  have : (execOp a.eval o).run P w = .ok .skip w' := by
   simp only [execOp, hop, Sem.run_bind, hrun, Result.andThen_ok]
   rfl
  rw [this]
  exact .skip _ hp
 ·rename_i t m x y hop
  obtain ⟨r, hr, h⟩ := withA_iff h
  obtain ⟨r', hr', h⟩ := withA_iff h
  obtain ⟨r2, hr2, h⟩ := withA_iff h
  obtain ⟨w', hrun, hp⟩ := updateA_sound (P := P) hgc E hT (hev _ _ hr) (hev _ _ hr') (hev _ _ hr2) h
  have : (execOp a.eval o).run P w = .ok .skip w' := by
   simp only [execOp, hop, Sem.run_bind, hrun, Result.andThen_ok]
   rfl
  rw [this]
  exact .skip _ hp
 ·rename_i t x hop
  obtain ⟨r, hr, h⟩ := withA_iff h
  obtain ⟨z, w', hrun, hp⟩ := rangeA_sound (P := P) E hT (hev _ _ hr) h
  exact .made (by simp only [execOp, hop]; exact run_value hrun) hp
 ·rename_i x hop
  obtain ⟨r, hr, h⟩ := withA_iff h
  obtain ⟨z, hrun, hp⟩ := entryA_sound (P := P) hgc E (hev _ _ hr) h
  exact .pure (by simp only [execOp, hop]; exact run_value hrun) hp
 ·rename_i x y t t' hop
  obtain ⟨r, hr, h⟩ := withA_iff h
  obtain ⟨r', hr', h⟩ := withA_iff h
  obtain ⟨z, w', hrun, hp⟩ := deleteA_sound (P := P) hgc E hT #[t, t'] o.type rfl (hev _ _ hr) (hev _ _ hr') h
  refine .made (x := z) ?_ hp
  simp [execOp, hop, resolve, invoke, builtin, hrun]
 ·rename_i x t hop
  obtain ⟨r, hr, h⟩ := withA_iff h
  obtain ⟨z, w', hrun, hp⟩ := clearA_sound (P := P) E hT #[t] o.type rfl (hev _ _ hr) h
  refine .made (x := z) ?_ hp
  simp [execOp, hop, resolve, invoke, builtin, hrun]
 ·rename_i x y t t' hop
  obtain ⟨r, hr, h⟩ := withA_iff h
  obtain ⟨r', hr', h⟩ := withA_iff h
  obtain ⟨z, w', hrun, hp⟩ := copyA_sound (P := P) E hT t' o.type (hev _ _ hr) (hev _ _ hr') h
  refine .made (x := z) ?_ hp
  simp [execOp, hop, resolve, invoke, builtin, hrun]
 ·exact h.elim
end
end Go.Eng
end

section
namespace Go.Eng
open Go.RowKit
section
variable {P : Program} {nid : Nat} {lk : Nat → Option AO} {k : Eff → Prop} {gc : Option Prop} {T : List (Nat × TI)}
theorem ob_right {p rest : Prop} (h : ob gc p rest) : rest := by
 cases gc with
 | none => exact h.2
 | some c => exact h.2
theorem packK_ex {agg : Bool} {l : List AV} (h : packK agg l fun r => k (.ext [] r)) : ∃ eff, k eff := by
 unfold packK at h
 split at h <;> first | exact ⟨_, h⟩ | exact h.elim
theorem loadA_ex {ti : TI} {a : AV} (h : loadA gc lk ti a k) : ∃ eff, k eff := by
 unfold loadA at h
 split at h
 ·split at h
  ·exact packK_ex (dropTakeK_iff h).2
  ·exact h.elim
 ·exact packK_ex (dropTakeK_iff h).2
 ·split at h
  ·split at h
   ·exact packK_ex (dropTakeK_iff (ob_right h)).2
   ·exact h.elim
  ·exact h.elim
 ·exact h.elim
theorem storeA_ex {ti : TI} {a b : AV} (h : storeA gc lk ti a b k) : ∃ eff, k eff := by
 unfold storeA at h
 have hq := cellsK_iff h
 clear h
 obtain ⟨cs, h, _⟩ := hq
 split at h
 ·exact h.elim
 ·split at h
  ·split at h
   ·exact ⟨_, (overK_iff h).2⟩
   ·exact h.elim
  ·split at h
   ·split at h
    ·exact ⟨_, ob_right h⟩
    ·exact h.elim
   ·exact h.elim
  ·exact h.elim
theorem allocA_ex {e : TypeId} {a : AV} (h : allocA nid e a k) : ∃ eff, k eff := by
 obtain ⟨cs, h, _⟩ := cellsK_iff h
 exact ⟨_, h⟩
theorem fieldAddrA_ex {s f : Nat} {a : AV} (h : fieldAddrA T s f a k) : ∃ eff, k eff := by
 unfold fieldAddrA at h
 split at h
 ·split at h
  ·split at h
   ·split at h
    ·exact h.elim
    ·split at h
     ·exact ⟨_, h⟩
     ·exact ⟨_, h⟩
     ·exact ⟨_, (dropK_iff h).2⟩
     ·exact h.elim
   ·exact h.elim
  ·exact h.elim
 ·exact h.elim
theorem fieldA_ex {s f : Nat} {a : AV} (h : fieldA T s f a k) : ∃ eff, k eff := by
 unfold fieldA at h
 split at h
 ·split at h
  ·split at h
   ·exact packK_ex (dropTakeK_iff h).2
   ·exact h.elim
  ·exact h.elim
 ·exact h.elim
theorem indexAddrA_ex {t : Nat} {a b : AV} (h : indexAddrA gc T lk t a b k) : ∃ eff, k eff := by
 unfold indexAddrA at h
 repeat' (first | exact h.elim | exact ⟨_, ob_right h⟩ | split at h)
theorem indexAddrX_ex {t : Nat} {a b : AV} (h : indexAddrX gc T lk t a b k) : ∃ eff, k eff := by
 unfold indexAddrX at h
 split at h
 ·repeat' (first | exact h.elim | exact ⟨_, ob_right h⟩ | split at h)
 ·repeat' (first | exact h.elim | exact ⟨_, ob_right (dropK_iff h).2⟩ | split at h)
 ·exact indexAddrA_ex h
theorem extractA_ex {j : Nat} {a : AV} (h : extractA j a k) : ∃ eff, k eff := by
 unfold extractA at h
 split at h
 ·obtain ⟨_, h⟩ := nthK_iff h
  exact ⟨_, h⟩
 ·exact h.elim
theorem binA_ex {op : BinOp} {t : Nat} {a b : AV} (h : binA gc T lk op t a b k) : ∃ eff, k eff := by
 unfold binA at h
 repeat' (first | exact h.elim | exact ⟨_, h⟩ | exact ⟨_, ob_right h⟩ | split at h)
theorem unA_ex {op : UnOp} {a : AV} (h : unA op a k) : ∃ eff, k eff := by
 unfold unA at h
 repeat' (first | exact h.elim | exact ⟨_, h⟩ | split at h)
theorem convA_ex {s d : Nat} {a : AV} (h : convA T s d a k) : ∃ eff, k eff := by
 unfold convA at h
 repeat' (first | exact h.elim | exact ⟨_, h⟩ | split at h)
theorem nilCheckA_ex {a : AV} (h : nilCheckA a k) : ∃ eff, k eff := by
 unfold nilCheckA at h
 repeat' (first | exact h.elim | exact ⟨_, h⟩ | split at h)
theorem lenA_ex {t : Nat} {a : AV} (h : lenA T lk t a k) : ∃ eff, k eff := by
 unfold lenA at h
 repeat' (first | exact h.elim | exact ⟨_, h⟩ | split at h)
theorem maxA_ex {a b : AV} (h : maxA a b k) : ∃ eff, k eff := by
 unfold maxA at h
 repeat' (first | exact h.elim | exact ⟨_, h⟩ | split at h)
theorem minA_ex {a b : AV} (h : minA a b k) : ∃ eff, k eff := by
 unfold minA at h
 repeat' (first | exact h.elim | exact ⟨_, h⟩ | split at h)
theorem fillK_ex (pl : Nat → Option (Nat × Nat)) : ∀ (parts : List (Nat × AV)) (flat : List AV) {q : List AV → Prop}, fillK pl parts flat q → ∃ f, q f
 | [], flat, q, h => ⟨flat, h⟩
 | (i, a) :: r, flat, q, h => by
  unfold fillK at h
  split at h
  ·exact h.elim
  ·have hq := cellsK_iff h
   clear h
   obtain ⟨cs, h, _⟩ := hq
   split at h
   ·exact h.elim
   ·split at h
    ·exact fillK_ex pl r _ (overK_iff h).2
    ·exact h.elim
theorem buildSliceA_ex {t n : Nat} {parts : List (Nat × AV)} (h : buildSliceA T nid t n parts k) : ∃ eff, k eff := by
 unfold buildSliceA at h
 split at h
 ·split at h
  ·split at h
   ·split at h
    ·obtain ⟨f, h⟩ := fillK_ex _ _ _ (repK_iff h)
     split at h
     ·exact ⟨_, h⟩
     ·exact h.elim
    ·exact h.elim
   ·exact h.elim
  ·exact h.elim
 ·exact h.elim
theorem buildA_ex {t : Nat} {parts : List (Nat × AV)} (h : buildA T t parts k) : ∃ eff, k eff := by
 unfold buildA at h
 split at h
 ·split at h
  ·obtain ⟨f, h⟩ := fillK_ex _ _ _ h
   exact ⟨_, h⟩
  ·exact h.elim
 ·exact h.elim
theorem makeSliceA_ex {t : Nat} {a b : AV} (h : makeSliceA gc T nid t a b k) : ∃ eff, k eff := by
 unfold makeSliceA at h
 repeat' (first | exact h.elim | exact ⟨_, ob_right h⟩ | split at h)
theorem srcK_ex {x : AV} {sz : Nat} {q : Nat → (Nat → List AV) → Prop} (h : srcK lk x sz q) : ∃ n g, q n g := by
 unfold srcK at h
 repeat' (first | exact h.elim | exact ⟨_, _, h⟩ | split at h)
theorem appendA_ex {t : Nat} {a b : AV} (h : appendA gc T lk nid t a b k) : ∃ eff, k eff := by
 unfold appendA at h
 split at h
 ·split at h
  ·split at h
   ·split at h
    ·split at h
     ·split at h
      ·split at h
       ·obtain ⟨n, g, h⟩ := srcK_ex h
        exact ⟨_, ob_right h⟩
       ·exact h.elim
      ·exact h.elim
     ·split at h
      ·split at h
       ·obtain ⟨n, g, h⟩ := srcK_ex h
        exact ⟨_, ob_right h⟩
       ·exact h.elim
      ·exact h.elim
     ·split at h
      ·obtain ⟨n, g, h⟩ := srcK_ex h
       exact ⟨_, ob_right h⟩
      ·exact h.elim
     ·exact h.elim
    ·exact h.elim
   ·exact h.elim
  ·exact h.elim
 ·exact h.elim
theorem appendInA_ex {t : Nat} {a b : AV} (h : appendInA gc T lk nid t a b k) : ∃ eff, k eff := by
 unfold appendInA at h
 repeat' (first | exact h.elim | exact ⟨_, ob_right h⟩ | split at h)
theorem sub3A_ex {t : Nat} {a lo hi mx : AV} (h : sub3A gc T lk t a lo hi mx k) : ∃ eff, k eff := by
 unfold sub3A at h
 repeat' (first | exact h.elim | exact ⟨_, ob_right h⟩ | split at h)
theorem subA_ex {t : Nat} {a : AV} {lo hi : Option AV} (h : subA gc T lk t a lo hi k) : ∃ eff, k eff := by
 unfold subA at h
 repeat' (first | exact h.elim | exact ⟨_, ob_right h⟩ | split at h)
theorem subX_ex {t : Nat} {a : AV} {lo hi : Option AV} (h : subX gc T lk t a lo hi k) : ∃ eff, k eff := by
 unfold subX at h
 split at h
 ·repeat' (first | exact h.elim | exact ⟨_, ob_right h⟩ | split at h)
 ·repeat' (first | exact h.elim | exact ⟨_, ob_right h⟩ | split at h)
 ·exact subA_ex h
theorem copyA_ex {t : Nat} {a b : AV} (h : copyA T lk t a b k) : ∃ eff, k eff := by
 unfold copyA at h
 repeat' (first | exact h.elim | (obtain ⟨m, h, _⟩ := cpK_iff _ h; exact ⟨_, h⟩) | split at h)
theorem views_ex : ∀ n : Nat, (∀ (a : AV) (q : AV → Prop), viewK lk n a q → ∃ b, q b) ∧ (∀ (l : List AV) (q : List AV → Prop), viewsK lk n l q → ∃ m, q m) := by
  intro n
  induction n with
  | zero =>
    refine ⟨fun a q h => ?_, fun l q h => ?_⟩
    · cases a <;> simp only [viewK] at h <;> first | exact h.elim | exact ⟨_, h⟩
    · cases l with
      | nil => simp only [viewsK] at h; exact ⟨_, h⟩
      | cons a r => simp only [viewsK] at h
  | succ n ih =>
    refine ⟨fun a q h => ?_, fun l q h => ?_⟩
    · cases a <;> simp only [viewK] at h <;> first
        | exact h.elim
        | exact ⟨_, h⟩
        | (obtain ⟨m, h⟩ := ih.2 _ _ h; exact ⟨_, h⟩)
        | (split at h
           · first
              | exact ⟨_, h⟩
              | (split at h
                 · exact ⟨_, h⟩
                 · exact h.elim)
              | (obtain ⟨m, h⟩ := ih.2 _ _ h; exact ⟨_, (dropK_iff h).2⟩)
              | (obtain ⟨m, h⟩ := ih.2 _ _ h
                 have h := (dropK_iff h).2
                 split at h
                 · exact ⟨_, h⟩
                 · exact h.elim)
           · first | exact h.elim | exact ⟨_, h⟩
           all_goals first | exact h.elim | exact ⟨_, h⟩)
    · cases l with
      | nil => simp only [viewsK] at h; exact ⟨_, h⟩
      | cons a r =>
        simp only [viewsK] at h
        obtain ⟨b, h⟩ := ih.1 _ _ h
        obtain ⟨m, h⟩ := ih.2 _ _ h
        exact ⟨_, h⟩
theorem mapK_ex {a : AV} {q : Nat → (Nat → AV) → (Nat → AV) → Prop} (h : mapK lk a q) : ∃ n x y, q n x y := by
 unfold mapK at h
 repeat' (first | exact h.elim | exact ⟨_, _, _, h⟩ | split at h)
theorem lookupA0_ex {t : Nat} {a b : AV} {ok : Bool} (h : lookupA0 gc T lk t a b ok k) : ∃ eff, k eff := by
 unfold lookupA0 at h
 split at h
 ·split at h
  ·split at h
   ·obtain ⟨_, _, _, c, v, h⟩ := mapK_ex h
    have h := ob_right h
    split at h <;> exact ⟨_, h⟩
   ·exact h.elim
  ·exact h.elim
 ·exact h.elim
theorem lookupA_ex {t : Nat} {a b : AV} {ok : Bool} (h : lookupA gc T lk t a b ok k) : ∃ eff, k eff := by
 unfold lookupA at h
 split at h
 ·split at h
  ·unfold lookupR at h
   split at h
   ·split at h
    ·split at h
     ·obtain ⟨c, h⟩ := h
      cases c with
      | true =>
       dsimp only at h
       split at h
       ·have h := ob_right h
        split at h <;> exact ⟨_, h⟩
       ·exact h.elim
      | false =>
       have h := ob_right h
       split at h <;> exact ⟨_, h⟩
     ·exact h.elim
    ·exact h.elim
   ·exact h.elim
  ·exact lookupA0_ex h
 ·exact lookupA0_ex h
theorem updateA0_ex {t : Nat} {a b c : AV} (h : updateA0 gc T lk t a b c k) : ∃ eff, k eff := by
 unfold updateA0 at h
 split at h
 ·split at h
  ·split at h
   ·obtain ⟨_, _, _, _, _, h⟩ := h
    exact ⟨_, ob_right h⟩
   ·exact h.elim
  ·exact h.elim
 ·exact h.elim
theorem updateA_ex {t : Nat} {a b c : AV} (h : updateA gc T lk t a b c k) : ∃ eff, k eff := by
 unfold updateA at h
 split at h
 ·split at h
  ·unfold updateR at h
   split at h
   ·split at h
    ·obtain ⟨_, _, _, _, _, h⟩ := h
     exact ⟨_, ob_right h⟩
    ·exact h.elim
   ·exact h.elim
  ·exact updateA0_ex h
 ·exact updateA0_ex h
theorem deleteA_ex {t : Nat} {a b : AV} (h : deleteA gc T lk t a b k) : ∃ eff, k eff := by
 unfold deleteA at h
 split at h
 ·split at h
  ·obtain ⟨_, _, _, _, h⟩ := h
   exact ⟨_, ob_right h⟩
  ·exact h.elim
 ·exact h.elim
theorem rangeA_ex {t : Nat} {a : AV} (h : rangeA T lk nid t a k) : ∃ eff, k eff := by
 unfold rangeA at h
 repeat' (first | exact h.elim | exact ⟨_, h⟩ | split at h)
theorem entryA_ex {a : AV} (h : entryA gc lk a k) : ∃ eff, k eff := by
 unfold entryA at h
 split at h
 ·split at h
  ·exact ⟨_, h⟩
  ·split at h
   ·obtain ⟨_, h⟩ := h
    exact ⟨_, ob_right h⟩
   ·exact h.elim
  ·exact h.elim
 ·exact h.elim
theorem clearA_ex {t : Nat} {a : AV} (h : clearA T lk t a k) : ∃ eff, k eff := by
 unfold clearA at h
 repeat' (first | exact h.elim | exact ⟨_, h⟩ | split at h)
theorem callA_ex {f : AV} {args : List AV} (h : callA P gc lk nid f args k) : ∃ eff, k eff := by
 unfold callA at h
 split at h
 ·rcases h with h | h
  ·obtain ⟨m, os, r, h⟩ := (views_ex 60).2 _ _ h
   exact ⟨_, ob_right h⟩
  ·split at h
   ·obtain ⟨r, h⟩ := h
    exact ⟨_, ob_right h⟩
   ·exact h.elim
 ·exact h.elim
theorem evsK_ex {ev : Operand → Option AV} : ∀ {l : List Operand} {q : List AV → Prop}, evsK ev l q → ∃ m, q m
 | [], q, h => ⟨_, h⟩
 | x :: r, q, h => by
  obtain ⟨_, _, h⟩ := withA_iff h
  obtain ⟨m, h⟩ := evsK_ex h
  exact ⟨_, h⟩
theorem evpK_ex {ev : Operand → Option AV} : ∀ {l : List (Nat × Operand)} {q : List (Nat × AV) → Prop}, evpK ev l q → ∃ m, q m
 | [], q, h => ⟨_, h⟩
 | (i, x) :: r, q, h => by
  obtain ⟨_, _, h⟩ := withA_iff h
  obtain ⟨m, h⟩ := evpK_ex h
  exact ⟨_, h⟩
theorem evoK_ex {ev : Operand → Option AV} {x : Option Operand} {q : Option AV → Prop} (h : evoK ev x q) : ∃ m, q m := by
 cases x with
 | none => exact ⟨_, h⟩
 | some x =>
  obtain ⟨_, _, h⟩ := withA_iff h
  exact ⟨_, h⟩
theorem pickA_ex {ev : Operand → Option AV} {evx : Nat → Bool → Operand → Option AV} {t : Nat} {x y : Operand} (h : pickA ev evx t x y k) : ∃ eff, k eff := by
 unfold pickA at h
 repeat' (first | exact h.elim | exact ⟨_, h⟩ | split at h)
theorem stepA_ex {ev : Operand → Option AV} {evx : Nat → Bool → Operand → Option AV} {op : Op} (h : stepA P T gc ev evx lk nid op k) : ∃ eff, k eff := by
 unfold stepA at h
 split at h
 ·obtain ⟨_, _, h⟩ := withA_iff h; exact ⟨_, h⟩
 ·obtain ⟨_, _, h⟩ := withA_iff h; exact ⟨_, h⟩
 ·exact pickA_ex h
 ·split at h
  ·exact allocA_ex h
  ·exact h.elim
 ·obtain ⟨_, _, h⟩ := withA_iff h; exact allocA_ex h
 ·obtain ⟨_, _, h⟩ := withA_iff h
  split at h
  ·exact loadA_ex h
  ·exact h.elim
 ·obtain ⟨_, _, h⟩ := withA_iff h
  obtain ⟨_, _, h⟩ := withA_iff h
  split at h
  ·exact storeA_ex h
  ·exact h.elim
 ·obtain ⟨_, _, h⟩ := withA_iff h; exact nilCheckA_ex h
 ·obtain ⟨_, _, h⟩ := withA_iff h
  obtain ⟨_, _, h⟩ := withA_iff h
  exact binA_ex h
 ·obtain ⟨_, _, h⟩ := withA_iff h; exact unA_ex h
 ·obtain ⟨_, _, h⟩ := withA_iff h; exact convA_ex h
 ·obtain ⟨_, _, h⟩ := withA_iff h; exact fieldAddrA_ex h
 ·obtain ⟨_, _, h⟩ := withA_iff h; exact fieldA_ex h
 ·obtain ⟨_, _, h⟩ := withA_iff h
  obtain ⟨_, _, h⟩ := withA_iff h
  exact indexAddrX_ex h
 ·obtain ⟨_, _, h⟩ := withA_iff h; exact extractA_ex h
 ·obtain ⟨_, h⟩ := evsK_ex h; exact ⟨_, h⟩
 ·obtain ⟨_, _, h⟩ := withA_iff h
  obtain ⟨_, _, h⟩ := withA_iff h
  exact makeSliceA_ex h
 ·obtain ⟨_, _, h⟩ := withA_iff h
  obtain ⟨_, h⟩ := evoK_ex h
  obtain ⟨_, h⟩ := evoK_ex h
  exact subX_ex h
 ·obtain ⟨_, _, h⟩ := withA_iff h
  obtain ⟨_, _, h⟩ := withA_iff h
  obtain ⟨_, _, h⟩ := withA_iff h
  obtain ⟨_, _, h⟩ := withA_iff h
  exact sub3A_ex h
 ·obtain ⟨_, h⟩ := evpK_ex h; exact buildA_ex h
 ·obtain ⟨_, h⟩ := evpK_ex h; exact buildSliceA_ex h
 ·obtain ⟨_, _, h⟩ := withA_iff h
  obtain ⟨_, h⟩ := evsK_ex h
  exact callA_ex h
 ·obtain ⟨_, _, h⟩ := withA_iff h; exact lenA_ex h
 ·obtain ⟨_, _, h⟩ := withA_iff h
  obtain ⟨_, _, h⟩ := withA_iff h
  exact maxA_ex h
 ·obtain ⟨_, _, h⟩ := withA_iff h
  obtain ⟨_, _, h⟩ := withA_iff h
  exact minA_ex h
 ·split at h
  ·obtain ⟨_, _, h⟩ := withA_iff h
   obtain ⟨_, _, h⟩ := withA_iff h
   split at h
   ·exact appendInA_ex h
   ·exact appendA_ex h
  ·exact h.elim
 ·exact ⟨_, h⟩
 ·obtain ⟨_, _, h⟩ := withA_iff h
  obtain ⟨_, _, h⟩ := withA_iff h
  exact lookupA_ex h
 ·obtain ⟨_, _, h⟩ := withA_iff h
  obtain ⟨_, _, h⟩ := withA_iff h
  obtain ⟨_, _, h⟩ := withA_iff h
  exact updateA_ex h
 ·obtain ⟨_, _, h⟩ := withA_iff h
  obtain ⟨_, _, h⟩ := withA_iff h
  obtain ⟨_, _, h⟩ := withA_iff h
  exact updateA_ex h
 ·obtain ⟨_, _, h⟩ := withA_iff h
  exact rangeA_ex h
 ·obtain ⟨_, _, h⟩ := withA_iff h
  exact entryA_ex h
 ·obtain ⟨_, _, h⟩ := withA_iff h
  obtain ⟨_, _, h⟩ := withA_iff h
  exact deleteA_ex h
 ·obtain ⟨_, _, h⟩ := withA_iff h
  exact clearA_ex h
 ·obtain ⟨_, _, h⟩ := withA_iff h
  obtain ⟨_, _, h⟩ := withA_iff h
  exact copyA_ex h
 ·exact h.elim
end
end Go.Eng
end

section
namespace Go.Eng
open Go.RowKit
structure Shot {α : Type} (f : (α → Prop) → Prop) : Prop where
 mono : ∀ k k' : α → Prop, (∀ x, k x → k' x) → f k → f k'
 shot : ∀ k, f k → ∃ x, k x ∧ f (fun y => y = x)
theorem Shot.pure {α : Type} (x : α) : Shot (fun k : α → Prop => k x) := ⟨fun _ _ h hk => h x hk, fun _ h => ⟨x, h, rfl⟩⟩
theorem Shot.none {α : Type} : Shot (fun _ : α → Prop => False) := ⟨fun _ _ _ h => h, fun _ h => h.elim⟩
theorem Shot.ob {α : Type} {f : (α → Prop) → Prop} (gc : Option Prop) (p : Prop) (h : Shot f) : Shot (fun k => Go.Eng.ob gc p (f k)) := by
 cases gc with
 | none => exact ⟨fun k k' hk hf => ⟨hf.1, h.mono k k' hk hf.2⟩, fun k hf => by obtain ⟨x, h1, h2⟩ := h.shot k hf.2; exact ⟨x, h1, hf.1, h2⟩⟩
 | some c => exact ⟨fun k k' hk hf => ⟨hf.1, h.mono k k' hk hf.2⟩, fun k hf => by obtain ⟨x, h1, h2⟩ := h.shot k hf.2; exact ⟨x, h1, hf.1, h2⟩⟩
theorem Shot.ex {α ι : Type} {f : ι → (α → Prop) → Prop} (h : ∀ i, Shot (f i)) : Shot (fun k => ∃ i, f i k) :=
 ⟨fun k k' hk ⟨i, hf⟩ => ⟨i, (h i).mono k k' hk hf⟩, fun k ⟨i, hf⟩ => by obtain ⟨x, h1, h2⟩ := (h i).shot k hf; exact ⟨x, h1, i, h2⟩⟩
theorem Shot.or {α : Type} {f g : (α → Prop) → Prop} (hf : Shot f) (hg : Shot g) : Shot (fun k => f k ∨ g k) :=
 ⟨fun k k' hk h => h.imp (hf.mono k k' hk) (hg.mono k k' hk), fun k h => by
  rcases h with h | h
  ·obtain ⟨x, h1, h2⟩ := hf.shot k h; exact ⟨x, h1, .inl h2⟩
  ·obtain ⟨x, h1, h2⟩ := hg.shot k h; exact ⟨x, h1, .inr h2⟩⟩
theorem Shot.bind {α γ : Type} {f : (γ → Prop) → Prop} {g : γ → (α → Prop) → Prop} (hf : Shot f) (hg : ∀ y, Shot (g y)) : Shot (fun k => f fun y => g y k) :=
 ⟨fun k k' hk h => hf.mono _ _ (fun y => (hg y).mono k k' hk) h, fun k h => by
  obtain ⟨y, h1, h2⟩ := hf.shot _ h
  obtain ⟨x, h3, h4⟩ := (hg y).shot k h1
  exact ⟨x, h3, hf.mono _ _ (fun y' e => by subst e; exact h4) h2⟩⟩
theorem takeK_shot : ∀ (n : Nat) (l : List AV), Shot (takeK n l)
 | 0, _ => Shot.pure []
 | n + 1, a :: r => show Shot (fun k => takeK n r fun l => k (a :: l)) from Shot.bind (f := takeK n r) (g := fun l k => k (a :: l)) (takeK_shot n r) fun l => Shot.pure (a :: l)
 | _ + 1, [] => Shot.none
theorem dropTakeK_shot : ∀ (off n : Nat) (l : List AV), Shot (dropTakeK off n l)
 | 0, n, l => takeK_shot n l
 | off + 1, n, _ :: r => dropTakeK_shot off n r
 | _ + 1, _, [] => Shot.none
theorem dropK_shot : ∀ (off : Nat) (l : List AV), Shot (dropK off l)
 | 0, l => Shot.pure l
 | off + 1, _ :: r => dropK_shot off r
 | _ + 1, [] => Shot.none
theorem overK_shot : ∀ (off : Nat) (cs l : List AV), Shot (overK off cs l)
 | off, [], l => by
  have : overK off [] l = fun k => k l := by funext k; unfold overK; rfl
  rw [this]
  exact Shot.pure l
 | 0, c :: cs, _ :: r => show Shot (fun k => overK 0 cs r fun l => k (c :: l)) from Shot.bind (f := overK 0 cs r) (g := fun l k => k (c :: l)) (overK_shot 0 cs r) fun l => Shot.pure (c :: l)
 | off + 1, c :: cs, a :: r => show Shot (fun k => overK off (c :: cs) r fun l => k (a :: l)) from Shot.bind (f := overK off (c :: cs) r) (g := fun l k => k (a :: l)) (overK_shot off (c :: cs) r) fun l => Shot.pure (a :: l)
 | 0, _ :: _, [] => Shot.none
 | _ + 1, _ :: _, [] => Shot.none
theorem repK_shot (z : List AV) : ∀ n : Nat, Shot (repK z n)
 | 0 => Shot.pure []
 | n + 1 => show Shot (fun k => repK z n fun l => k (appL z l)) from Shot.bind (f := repK z n) (g := fun l k => k (appL z l)) (repK_shot z n) fun l => Shot.pure (appL z l)
theorem nthK_shot : ∀ (n : Nat) (l : List AV), Shot (nthK n l)
 | _, [] => by
  rename_i n
  have : nthK n [] = fun _ => False := by funext k; simp [nthK]
  rw [this]
  exact Shot.none
 | 0, a :: _ => Shot.pure a
 | n + 1, _ :: r => nthK_shot n r
theorem cellsK_shot (a : AV) : Shot (cellsK a) := by
 unfold cellsK
 cases a <;> simp only <;> first
  | (split <;> first | exact Shot.pure _ | exact Shot.none)
theorem packK_shot (agg : Bool) (l : List AV) : Shot (packK agg l) := by
 unfold packK
 cases agg with
 | true => exact Shot.pure _
 | false =>
  match l with
  | [] => exact Shot.none
  | [a] => exact Shot.pure a
  | _ :: _ :: _ => exact Shot.none
theorem extR (r : AV) : Shot (fun k : Eff → Prop => k (.ext [] r)) := Shot.pure _
section
variable {P : Program} {nid : Nat} {lk : Nat → Option AO} {gc : Option Prop} {T : List (Nat × TI)}
theorem packR_shot (agg : Bool) (l : List AV) : Shot (fun k : Eff → Prop => packK agg l fun r => k (.ext [] r)) := Shot.bind (packK_shot agg l) fun r => extR r
theorem loadA_shot (ti : TI) (a : AV) : Shot (loadA gc lk ti a) := by
 unfold loadA
 cases a <;> simp only <;> try exact Shot.none
 ·rename_i id off
  cases lk id with
  | none => exact Shot.none
  | some o => cases o <;> first | exact Shot.none | exact Shot.bind (dropTakeK_shot _ _ _) fun l => packR_shot _ l
 ·rename_i id sz idx off
  cases lk id with
  | none => exact Shot.none
  | some o =>
   cases o <;> simp only <;> try exact Shot.none
   split
   ·exact Shot.ob _ _ (Shot.bind (dropTakeK_shot _ _ _) fun l => packR_shot _ l)
   ·exact Shot.none
 ·exact Shot.bind (dropTakeK_shot _ _ _) fun l => packR_shot _ l
theorem storeA_shot (ti : TI) (a b : AV) : Shot (storeA gc lk ti a b) := by
 unfold storeA
 refine Shot.bind (cellsK_shot b) fun cs => ?_
 split
 ·exact Shot.none
 ·cases a <;> simp only <;> try exact Shot.none
  ·rename_i id off
   cases lk id with
   | none => exact Shot.none
   | some o => cases o <;> first | exact Shot.none | exact Shot.bind (overK_shot _ _ _) fun l => Shot.pure _
  ·rename_i id sz idx off
   cases lk id with
   | none => exact Shot.none
   | some o =>
    cases o <;> simp only <;> try exact Shot.none
    split
    ·exact Shot.ob _ _ (Shot.pure _)
    ·exact Shot.none
theorem allocA_shot (e : TypeId) (a : AV) : Shot (allocA nid e a) :=
 show Shot (fun k => cellsK a fun cs => k (Eff.ext [.cells e cs] (.p nid 0))) from Shot.bind (f := cellsK a) (g := fun cs k => k (Eff.ext [.cells e cs] (.p nid 0))) (cellsK_shot a) fun _ => Shot.pure _
theorem fieldAddrA_shot (s f : Nat) (a : AV) : Shot (fieldAddrA T s f a) := by
 unfold fieldAddrA
 split
 ·split
  ·split
   ·split
    ·exact Shot.none
    ·cases a <;> simp only <;> first | exact Shot.none | exact Shot.pure _ | exact Shot.bind (dropK_shot _ _) fun l => Shot.pure _
   ·exact Shot.none
  ·exact Shot.none
 ·exact Shot.none
theorem fieldA_shot (s f : Nat) (a : AV) : Shot (fieldA T s f a) := by
 unfold fieldA
 split
 ·split
  ·split
   ·exact Shot.bind (dropTakeK_shot _ _ _) fun l => packR_shot _ l
   ·exact Shot.none
  ·exact Shot.none
 ·exact Shot.none
theorem indexAddrA_shot (t : Nat) (a b : AV) : Shot (indexAddrA gc T lk t a b) := by
 unfold indexAddrA
 repeat' (first | exact Shot.none | exact Shot.ob _ _ (Shot.pure _) | split)
theorem indexAddrX_shot (t : Nat) (a b : AV) : Shot (indexAddrX gc T lk t a b) := by
 unfold indexAddrX
 split
 ·repeat' (first | exact Shot.none | exact Shot.ob _ _ (Shot.pure _) | split)
 ·repeat' (first | exact Shot.none | exact Shot.bind (dropK_shot _ _) fun l => Shot.ob _ _ (Shot.pure _) | split)
 ·exact indexAddrA_shot _ _ _
theorem extractA_shot (j : Nat) (a : AV) : Shot (extractA j a) := by
 unfold extractA
 split
 ·exact Shot.bind (nthK_shot _ _) fun r => extR r
 ·exact Shot.none
theorem binA_shot (op : BinOp) (t : Nat) (a b : AV) : Shot (binA gc T lk op t a b) := by
 unfold binA
 repeat' (first | exact Shot.none | exact Shot.pure _ | exact Shot.ob _ _ (Shot.pure _) | split)
theorem unA_shot (op : UnOp) (a : AV) : Shot (unA op a) := by
 unfold unA
 repeat' (first | exact Shot.none | exact Shot.pure _ | split)
theorem convA_shot (s d : Nat) (a : AV) : Shot (convA T s d a) := by
 unfold convA
 repeat' (first | exact Shot.none | exact Shot.pure _ | split)
theorem nilCheckA_shot (a : AV) : Shot (nilCheckA a) := by
 unfold nilCheckA
 repeat' (first | exact Shot.none | exact Shot.pure _ | split)
theorem lenA_shot (t : Nat) (a : AV) : Shot (lenA T lk t a) := by
 unfold lenA
 repeat' (first | exact Shot.none | exact Shot.pure _ | split)
theorem maxA_shot (a b : AV) : Shot (maxA a b) := by
 unfold maxA
 repeat' (first | exact Shot.none | exact Shot.pure _ | split)
theorem minA_shot (a b : AV) : Shot (minA a b) := by
 unfold minA
 repeat' (first | exact Shot.none | exact Shot.pure _ | split)
theorem fillK_shot (pl : Nat → Option (Nat × Nat)) : ∀ (parts : List (Nat × AV)) (flat : List AV), Shot (fillK pl parts flat)
 | [], flat => Shot.pure flat
 | (i, a) :: r, flat => by
  have e : fillK pl ((i, a) :: r) flat = fun k => match pl i with
    | none => False
    | some (off, sz) => cellsK a fun cs => match cs with
     | [] => False
     | c :: cs => (match Nat.beq (c :: cs).length sz with
      | true => overK off (c :: cs) flat fun flat' => fillK pl r flat' k
      | false => False) := rfl
  rw [e]
  cases pl i with
  | none => exact Shot.none
  | some p =>
   obtain ⟨off, sz⟩ := p
   refine Shot.bind (f := cellsK a) (g := fun cs k => match cs with
     | [] => False
     | c :: cs => (match Nat.beq (c :: cs).length sz with
      | true => overK off (c :: cs) flat fun flat' => fillK pl r flat' k
      | false => False)) (cellsK_shot a) fun cs => ?_
   cases cs with
   | nil => exact Shot.none
   | cons c cs =>
    cases hb : Nat.beq (c :: cs).length sz with
    | false => simp only [hb]; exact Shot.none
    | true => simp only [hb]; exact Shot.bind (f := overK off (c :: cs) flat) (g := fun flat' k => fillK pl r flat' k) (overK_shot _ _ _) fun l => fillK_shot pl r l
theorem buildSliceA_shot (t n : Nat) (parts : List (Nat × AV)) : Shot (buildSliceA T nid t n parts) := by
 unfold buildSliceA
 split
 ·split
  ·split
   ·split
    ·refine Shot.bind (repK_shot _ _) fun z => Shot.bind (fillK_shot _ _ _) fun flat => ?_
     split
     ·exact Shot.pure _
     ·exact Shot.none
    ·exact Shot.none
   ·exact Shot.none
  ·exact Shot.none
 ·exact Shot.none
theorem buildA_shot (t : Nat) (parts : List (Nat × AV)) : Shot (buildA T t parts) := by
 unfold buildA
 split
 ·split
  ·exact Shot.bind (fillK_shot _ _ _) fun flat => Shot.pure _
  ·exact Shot.none
 ·exact Shot.none
theorem makeSliceA_shot (t : Nat) (a b : AV) : Shot (makeSliceA gc T nid t a b) := by
 unfold makeSliceA
 repeat' (first | exact Shot.none | exact Shot.ob _ _ (Shot.pure _) | split)
theorem srcK_shot (x : AV) (sz : Nat) : Shot (fun k : Nat × (Nat → List AV) → Prop => srcK lk x sz fun n g => k (n, g)) := by
 unfold srcK
 repeat' (first | exact Shot.none | exact Shot.pure _ | split)
theorem srcB {x : AV} {sz : Nat} {c : Nat → (Nat → List AV) → Prop} {e : Nat → (Nat → List AV) → Eff} : Shot (fun k : Eff → Prop => srcK lk x sz fun m g => ob gc (c m g) (k (e m g))) :=
 show Shot (fun k : Eff → Prop => srcK lk x sz fun m g => (fun (p : Nat × (Nat → List AV)) (k : Eff → Prop) => ob gc (c p.1 p.2) (k (e p.1 p.2))) (m, g) k) from
  Shot.bind (f := fun k : Nat × (Nat → List AV) → Prop => srcK lk x sz fun n g => k (n, g)) (g := fun p k => ob gc (c p.1 p.2) (k (e p.1 p.2))) (srcK_shot x sz) fun _ => Shot.ob _ _ (Shot.pure _)
theorem appendA_shot (t : Nat) (a b : AV) : Shot (appendA gc T lk nid t a b) := by
 unfold appendA
 split
 ·split
  ·split
   ·split
    ·split
     ·split
      ·split
       ·exact srcB (c := fun m _ => _) (e := fun m g => _)
       ·exact Shot.none
      ·exact Shot.none
     ·split
      ·split
       ·exact srcB (c := fun m _ => _) (e := fun m g => _)
       ·exact Shot.none
      ·exact Shot.none
     ·split
      ·exact srcB (c := fun m _ => _) (e := fun m g => _)
      ·exact Shot.none
     ·exact Shot.none
    ·exact Shot.none
   ·exact Shot.none
  ·exact Shot.none
 ·exact Shot.none
theorem appendInA_shot (t : Nat) (a b : AV) : Shot (appendInA gc T lk nid t a b) := by
 unfold appendInA
 repeat' (first | exact Shot.none | exact Shot.ob _ _ (Shot.pure _) | split)
theorem sub3A_shot (t : Nat) (a lo hi mx : AV) : Shot (sub3A gc T lk t a lo hi mx) := by
 unfold sub3A
 repeat' (first | exact Shot.none | exact Shot.ob _ _ (Shot.pure _) | split)
theorem subA_shot (t : Nat) (a : AV) (lo hi : Option AV) : Shot (subA gc T lk t a lo hi) := by
 unfold subA
 repeat' (first | exact Shot.none | exact Shot.ob _ _ (Shot.pure _) | split)
theorem subX_shot (t : Nat) (a : AV) (lo hi : Option AV) : Shot (subX gc T lk t a lo hi) := by
 unfold subX
 split
 ·repeat' (first | exact Shot.none | exact Shot.ob _ _ (Shot.pure _) | split)
 ·repeat' (first | exact Shot.none | exact Shot.ob _ _ (Shot.pure _) | split)
 ·exact subA_shot _ _ _ _
theorem cpK_shot (x : ByteArray) : ∀ (off n j : Nat) (l : List AV), Shot (cpK x off n j l)
 | 0, 0, j, l => by
  have : cpK x 0 0 j l = fun k => k l := by funext k; unfold cpK; rfl
  rw [this]; exact Shot.pure _
 | 0, n + 1, j, [] => by
  have : cpK x 0 (n + 1) j [] = fun _ => False := by funext k; unfold cpK; rfl
  rw [this]; exact Shot.none
 | 0, n + 1, j, a :: r => by
  cases hv : u8Of a with
  | none =>
   have : cpK x 0 (n + 1) j (a :: r) = fun _ => False := by funext k; unfold cpK; rw [hv]
   rw [this]; exact Shot.none
  | some v =>
   have : cpK x 0 (n + 1) j (a :: r) = fun k => cpK x 0 n (j + 1) r fun l => k (.i .u8 (bAt x j v) :: l) := by funext k; conv => lhs; unfold cpK; rw [hv]
   rw [this]; exact Shot.bind (cpK_shot x 0 n (j + 1) r) fun l => Shot.pure _
 | off + 1, n, j, [] => by
  have : cpK x (off + 1) n j [] = fun _ => False := by funext k; unfold cpK; rfl
  rw [this]; exact Shot.none
 | off + 1, n, j, a :: r => by
  have : cpK x (off + 1) n j (a :: r) = fun k => cpK x off n j r fun l => k (a :: l) := by funext k; conv => lhs; unfold cpK
  rw [this]; exact Shot.bind (cpK_shot x off n j r) fun l => Shot.pure _
theorem copyA_shot (t : Nat) (a b : AV) : Shot (copyA T lk t a b) := by
 unfold copyA
 repeat' (first | exact Shot.none | exact Shot.bind (cpK_shot _ _ _ _ _) fun l => Shot.pure _ | split)
theorem views_shot : ∀ n : Nat, (∀ a : AV, Shot (viewK lk n a)) ∧ (∀ l : List AV, Shot (viewsK lk n l)) := by
  intro n
  induction n with
  | zero =>
    refine ⟨fun a => ?_, fun l => ?_⟩
    · cases a <;> simp only [viewK] <;> first | exact Shot.none | exact Shot.pure _
    · cases l with
      | nil => simp only [viewsK]; exact Shot.pure _
      | cons a r => simp only [viewsK]; exact Shot.none
  | succ n ih =>
    refine ⟨fun a => ?_, fun l => ?_⟩
    · cases a <;> simp only [viewK] <;> first
        | exact Shot.none
        | exact Shot.pure _
        | exact Shot.bind (ih.2 _) fun l => Shot.pure _
        | (rename_i id
           cases lk id with
           | none => exact Shot.none
           | some o => cases o <;> first | exact Shot.none | exact Shot.pure _)
        | (rename_i id
           cases lk id with
           | none => exact Shot.none
           | some o => cases o <;> first
             | exact Shot.none
             | exact Shot.pure _
             | (rename_i hole
                cases hole <;> first | exact Shot.none | exact Shot.pure _))
        | (rename_i id _ _ _
           cases lk id with
           | none => exact Shot.none
           | some o =>
             cases o <;> simp only <;> first
               | exact Shot.none
               | (split
                  · exact Shot.pure _
                  · exact Shot.none))
        | (rename_i id off
           cases lk id with
           | none => exact Shot.none
           | some o => cases o <;> first | exact Shot.none | exact Shot.bind (ih.2 _) fun l => Shot.bind (dropK_shot _ _) fun l' => Shot.pure _)
        | (rename_i id off m cap
           cases lk id with
           | none => exact Shot.none
           | some o =>
             cases o <;> first
               | exact Shot.none
               | (refine Shot.bind (ih.2 _) fun l => Shot.bind (dropK_shot _ _) fun l' => ?_
                  split
                  · exact Shot.pure _
                  · exact Shot.none))
    · cases l with
      | nil => simp only [viewsK]; exact Shot.pure _
      | cons a r =>
        simp only [viewsK]
        exact Shot.bind (ih.1 _) fun b => Shot.bind (ih.2 _) fun l => Shot.pure _
theorem mapK_shot (a : AV) : Shot (fun k : Nat × (Nat → AV) × (Nat → AV) → Prop => mapK lk a fun n x y => k (n, x, y)) := by
 unfold mapK
 repeat' (first | exact Shot.none | exact Shot.pure _ | split)
theorem mapB {a : AV} {f : Nat → (Nat → AV) → (Nat → AV) → (Eff → Prop) → Prop} (h : ∀ n x y, Shot (f n x y)) : Shot (fun k : Eff → Prop => mapK lk a fun n x y => f n x y k) :=
 show Shot (fun k : Eff → Prop => mapK lk a fun n x y => (fun (p : Nat × (Nat → AV) × (Nat → AV)) (k : Eff → Prop) => f p.1 p.2.1 p.2.2 k) (n, x, y) k) from
  Shot.bind (f := fun k : Nat × (Nat → AV) × (Nat → AV) → Prop => mapK lk a fun n x y => k (n, x, y)) (g := fun p k => f p.1 p.2.1 p.2.2 k) (mapK_shot a) fun p => h p.1 p.2.1 p.2.2
theorem lookupA0_shot (t : Nat) (a b : AV) (ok : Bool) : Shot (lookupA0 gc T lk t a b ok) := by
 unfold lookupA0
 split
 ·split
  ·split
   ·refine mapB fun n x y => Shot.ex fun c => Shot.ex fun v => Shot.ob _ _ ?_
    cases ok <;> exact Shot.pure _
   ·exact Shot.none
  ·exact Shot.none
 ·exact Shot.none
theorem lookupR_shot (t n : Nat) (key : Nat → AV) (kid : Nat → KD) (hole : Option (Nat × Nat)) (b : AV) (ok : Bool) : Shot (lookupR gc T t n key kid hole b ok) := by
 unfold lookupR
 split
 ·split
  ·split
   ·refine Shot.ex fun c => ?_
    cases c with
    | true =>
     dsimp only
     split
     ·refine Shot.ob _ _ ?_
      cases ok <;> exact Shot.pure _
     ·exact Shot.none
    | false =>
     refine Shot.ob _ _ ?_
     cases ok <;> exact Shot.pure _
   ·exact Shot.none
  ·exact Shot.none
 ·exact Shot.none
theorem lookupA_shot (t : Nat) (a b : AV) (ok : Bool) : Shot (lookupA gc T lk t a b ok) := by
 unfold lookupA
 split
 ·split
  ·exact lookupR_shot _ _ _ _ _ _ _
  ·exact lookupA0_shot _ _ _ _
 ·exact lookupA0_shot _ _ _ _
theorem updateA0_shot (t : Nat) (a b c : AV) : Shot (updateA0 gc T lk t a b c) := by
 unfold updateA0
 split
 ·split
  ·split
   ·exact Shot.ex fun _ => Shot.ex fun _ => Shot.ex fun _ => Shot.ex fun _ => Shot.ex fun _ => Shot.ob _ _ (Shot.pure _)
   ·exact Shot.none
  ·exact Shot.none
 ·exact Shot.none
theorem updateR_shot (t id n : Nat) (key : Nat → AV) (kid : Nat → KD) (born : Nat → Nat) (clock aux : Nat) (hole : Option (Nat × Nat)) (b c : AV) : Shot (updateR gc T t id n key kid born clock aux hole b c) := by
 unfold updateR
 split
 ·split
  ·exact Shot.ex fun _ => Shot.ex fun _ => Shot.ex fun _ => Shot.ex fun _ => Shot.ex fun _ => Shot.ob _ _ (Shot.pure _)
  ·exact Shot.none
 ·exact Shot.none
theorem updateA_shot (t : Nat) (a b c : AV) : Shot (updateA gc T lk t a b c) := by
 unfold updateA
 split
 ·split
  ·exact updateR_shot _ _ _ _ _ _ _ _ _ _ _
  ·exact updateA0_shot _ _ _ _
 ·exact updateA0_shot _ _ _ _
theorem deleteA_shot (t : Nat) (a b : AV) : Shot (deleteA gc T lk t a b) := by
 unfold deleteA
 split
 ·split
  ·exact Shot.ex fun _ => Shot.ex fun _ => Shot.ex fun _ => Shot.ex fun _ => Shot.ob _ _ (Shot.pure _)
  ·exact Shot.none
 ·exact Shot.none
theorem rangeA_shot (t : Nat) (a : AV) : Shot (rangeA T lk nid t a) := by
 unfold rangeA
 repeat' (first | exact Shot.none | exact Shot.pure _ | split)
theorem entryA_shot (a : AV) : Shot (entryA gc lk a) := by
 unfold entryA
 split
 ·split
  ·exact Shot.pure _
  ·split
   ·exact Shot.ex fun _ => Shot.ob _ _ (Shot.pure _)
   ·exact Shot.none
  ·exact Shot.none
 ·exact Shot.none
theorem clearA_shot (t : Nat) (a : AV) : Shot (clearA T lk t a) := by
 unfold clearA
 repeat' (first | exact Shot.none | exact Shot.pure _ | split)
theorem callA_shot (f : AV) (args : List AV) : Shot (callA P gc lk nid f args) := by
 unfold callA
 split
 ·refine Shot.or (Shot.bind ((views_shot 60).2 _) fun vs => Shot.ex fun os => Shot.ex fun r => Shot.ob _ _ (Shot.pure _)) ?_
  split
  ·exact Shot.ex fun r => Shot.ob _ _ (Shot.pure _)
  ·exact Shot.none
 ·exact Shot.none
theorem withA_shot (x : Option AV) : Shot (withA x) := by
 cases x with
 | none => exact Shot.none
 | some r => exact Shot.pure r
theorem evsK_shot (ev : Operand → Option AV) : ∀ l : List Operand, Shot (evsK ev l)
 | [] => Shot.pure []
 | x :: r => show Shot (fun k => withA (ev x) fun a => evsK ev r fun l => k (a :: l)) from
   Shot.bind (f := withA (ev x)) (g := fun a k => evsK ev r fun l => k (a :: l)) (withA_shot _) fun a => Shot.bind (f := evsK ev r) (g := fun l k => k (a :: l)) (evsK_shot ev r) fun l => Shot.pure (a :: l)
theorem evpK_shot (ev : Operand → Option AV) : ∀ l : List (Nat × Operand), Shot (evpK ev l)
 | [] => Shot.pure []
 | (i, x) :: r => show Shot (fun k => withA (ev x) fun a => evpK ev r fun l => k ((i, a) :: l)) from
   Shot.bind (f := withA (ev x)) (g := fun a k => evpK ev r fun l => k ((i, a) :: l)) (withA_shot _) fun a => Shot.bind (f := evpK ev r) (g := fun l k => k ((i, a) :: l)) (evpK_shot ev r) fun l => Shot.pure ((i, a) :: l)
theorem evoK_shot (ev : Operand → Option AV) (x : Option Operand) : Shot (evoK ev x) := by
 cases x with
 | none => exact Shot.pure _
 | some x => exact (show Shot (fun k => withA (ev x) fun a => k (some a)) from Shot.bind (f := withA (ev x)) (g := fun a k => k (some a)) (withA_shot _) fun a => Shot.pure _)
theorem pickA_shot (ev : Operand → Option AV) (evx : Nat → Bool → Operand → Option AV) (t : Nat) (x y : Operand) : Shot (pickA ev evx t x y) := by
 unfold pickA
 repeat' (first | exact Shot.none | exact Shot.pure _ | split)
theorem stepA_shot (ev : Operand → Option AV) (evx : Nat → Bool → Operand → Option AV) (op : Op) : Shot (stepA P T gc ev evx lk nid op) := by
 unfold stepA
 split
 ·exact Shot.bind (withA_shot _) fun a => extR a
 ·exact Shot.bind (withA_shot _) fun a => extR a
 ·exact pickA_shot _ _ _ _ _
 ·split
  ·exact allocA_shot _ _
  ·exact Shot.none
 ·exact Shot.bind (withA_shot _) fun a => allocA_shot _ _
 ·refine Shot.bind (withA_shot _) fun a => ?_
  split
  ·exact loadA_shot _ _
  ·exact Shot.none
 ·refine Shot.bind (withA_shot _) fun a => Shot.bind (withA_shot _) fun b => ?_
  split
  ·exact storeA_shot _ _ _
  ·exact Shot.none
 ·exact Shot.bind (withA_shot _) fun a => nilCheckA_shot _
 ·exact Shot.bind (withA_shot _) fun a => Shot.bind (withA_shot _) fun b => binA_shot _ _ _ _
 ·exact Shot.bind (withA_shot _) fun a => unA_shot _ _
 ·exact Shot.bind (withA_shot _) fun a => convA_shot _ _ _
 ·exact Shot.bind (withA_shot _) fun a => fieldAddrA_shot _ _ _
 ·exact Shot.bind (withA_shot _) fun a => fieldA_shot _ _ _
 ·exact Shot.bind (withA_shot _) fun a => Shot.bind (withA_shot _) fun b => indexAddrX_shot _ _ _
 ·exact Shot.bind (withA_shot _) fun a => extractA_shot _ _
 ·exact Shot.bind (evsK_shot _ _) fun l => extR _
 ·exact Shot.bind (withA_shot _) fun a => Shot.bind (withA_shot _) fun b => makeSliceA_shot _ _ _
 ·exact Shot.bind (withA_shot _) fun a => Shot.bind (evoK_shot _ _) fun l => Shot.bind (evoK_shot _ _) fun h => subX_shot _ _ _ _
 ·exact Shot.bind (withA_shot _) fun a => Shot.bind (withA_shot _) fun l => Shot.bind (withA_shot _) fun h => Shot.bind (withA_shot _) fun m => sub3A_shot _ _ _ _ _
 ·exact Shot.bind (evpK_shot _ _) fun l => buildA_shot _ _
 ·exact Shot.bind (evpK_shot _ _) fun l => buildSliceA_shot _ _ _
 ·exact Shot.bind (withA_shot _) fun a => Shot.bind (evsK_shot _ _) fun l => callA_shot _ _
 ·exact Shot.bind (withA_shot _) fun a => lenA_shot _ _
 ·exact Shot.bind (withA_shot _) fun a => Shot.bind (withA_shot _) fun b => maxA_shot _ _
 ·exact Shot.bind (withA_shot _) fun a => Shot.bind (withA_shot _) fun b => minA_shot _ _
 ·split
  ·refine Shot.bind (withA_shot _) fun a => Shot.bind (withA_shot _) fun b => ?_
   split
   ·exact appendInA_shot _ _ _
   ·exact appendA_shot _ _ _
  ·exact Shot.none
 ·exact Shot.pure _
 ·exact Shot.bind (withA_shot _) fun a => Shot.bind (withA_shot _) fun b => lookupA_shot _ _ _ _
 ·exact Shot.bind (withA_shot _) fun a => Shot.bind (withA_shot _) fun b => Shot.bind (withA_shot _) fun c => updateA_shot _ _ _ _
 ·exact Shot.bind (withA_shot _) fun a => Shot.bind (withA_shot _) fun b => Shot.bind (withA_shot _) fun c => updateA_shot _ _ _ _
 ·exact Shot.bind (withA_shot _) fun a => rangeA_shot _ _
 ·exact Shot.bind (withA_shot _) fun a => entryA_shot _
 ·exact Shot.bind (withA_shot _) fun a => Shot.bind (withA_shot _) fun b => deleteA_shot _ _ _
 ·exact Shot.bind (withA_shot _) fun a => clearA_shot _ _
 ·exact Shot.bind (withA_shot _) fun a => Shot.bind (withA_shot _) fun b => copyA_shot _ _ _
 ·exact Shot.none
end
end Go.Eng
end

section
namespace Go.Eng
open Go.RowKit
abbrev Tags := List (Nat × Bool)
def sat (g : Tags) (a : Act) : Prop := ∀ p ∈ g, a.tmps.getD p.1 undef = .bool p.2
theorem sat_nil (a : Act) : sat [] a := fun p hp => by simp at hp
theorem hasTag_mem {t : Nat} {w : Bool} : ∀ {l : Tags}, hasTag t w l = true → (t, w) ∈ l
 | [], h => by simp [hasTag] at h
 | (s, x) :: r, h => by
  unfold hasTag at h
  split at h
  ·rename_i hb
   have hb : s = t := by simpa using hb
   subst hb
   split at h
   ·simp
   ·simp
   ·exact List.mem_cons_of_mem _ (hasTag_mem h)
  ·exact List.mem_cons_of_mem _ (hasTag_mem h)
theorem subTags_sat : ∀ {g h : Tags} {a : Act}, subTags g h = true → sat h a → sat g a
 | [], _, a, _, _ => sat_nil a
 | (t, w) :: r, l, a, h, hs => by
  unfold subTags at h
  split at h
  ·rename_i ht
   intro p hp
   rcases List.mem_cons.1 hp with rfl | hp
   ·exact hs _ (hasTag_mem ht)
   ·exact subTags_sat h hs p hp
  ·cases h
theorem inTags_false {t : Nat} : ∀ {g : Tags}, inTags t g = false → ∀ p ∈ g, p.1 ≠ t
 | [], _, p, hp => by simp at hp
 | (s, x) :: r, h, p, hp => by
  unfold inTags at h
  split at h
  ·cases h
  ·rename_i hb
   rcases List.mem_cons.1 hp with rfl | hp
   ·intro e
    simp only at e
    subst e
    simp at hb
   ·exact inTags_false h p hp
theorem sat_put {g : Tags} {a : Act} {d : Nat} {v : Value} (h : inTags d g = false) : sat g (a.put (some d) v) ↔ sat g a := by
 have key : ∀ p ∈ g, (a.put (some d) v).tmps.getD p.1 undef = a.tmps.getD p.1 undef := fun p hp => by
  have hne := inTags_false h p hp
  simp only [Act.put, Array.getD_eq_getD_getElem?, Array.getElem?_setIfInBounds]
  rw [if_neg (Ne.symm hne)]
 constructor
 ·intro hs p hp
  rw [← key p hp]
  exact hs p hp
 ·intro hs p hp
  rw [key p hp]
  exact hs p hp
abbrev KF := Nat → Option (Tags × AV)
abbrev OF := Nat → Option (Tags × AO)
def FO (G : Nat → Prop) (O : OF) (β : Bd) (a : Act) : Nat → Prop := fun b => G b ∨ ∃ id g o, O id = some (g, o) ∧ sat g a ∧ ownB β id o b
structure Frame (A : Nat → Prop) (w w' : World) : Prop where
 os : w'.os = w.os
 tape : w'.tape = w.tape
 output : w'.output = w.output
 size : w.heap.size ≤ w'.heap.size
 block : ∀ k, k < w.heap.size → ¬ A k → w'.heap[k]? = w.heap[k]?
 drawn : dz w ≤ dz w'
theorem Frame.refl (A : Nat → Prop) (w : World) : Frame A w w := ⟨rfl, rfl, rfl, Nat.le_refl _, fun _ _ _ => rfl, Nat.le_refl _⟩
theorem Frame.below {A : Nat → Prop} {w w' : World} (h : Frame A w w') (hA : ∀ k, ¬ A k) : Below w.heap.size w w' := ⟨⟨h.os, h.tape, h.output, h.size, fun k hk => h.block k hk (hA k)⟩, h.drawn⟩
structure SimF (A G : Nat → Prop) (w0 : World) (N : Nat) (K : KF) (O : OF) (nid : Nat) (β : Bd) (a : Act) (w : World) : Prop where
 gold : ∀ b, G b → b < w0.heap.size
 below : Frame A w0 w
 tsz : a.tmps.size = N
 dfs : a.defers = []
 kf : ∀ s g av, K s = some (g, av) → (sat g a → Rep β nid (FO G O β a) w av (a.tmps.getD s undef)) ∧ (¬ sat g a → a.tmps.getD s undef = undef)
 of : ∀ id g o, O id = some (g, o) → id < nid ∧ (sat g a → ObjOk β nid (FO G O β a) w id o)
 allow : ∀ id g o b, O id = some (g, o) → sat g a → ownB β id o b → A b ∨ w0.heap.size ≤ b
 dist : ∀ id id' g g' o o' b, O id = some (g, o) → O id' = some (g', o') → sat g a → sat g' a → ownB β id o b → ownB β id' o' b → id = id'
section
variable {A G : Nat → Prop} {w0 w : World} {N : Nat} {K : KF} {O : OF} {nid : Nat} {β : Bd} {a : Act}
theorem SimF.old (S : SimF A G w0 N K O nid β a w) {b : Nat} (h : FO G O β a b) : b < w.heap.size := by
 rcases h with hg | ⟨id, g, o, ho, hs, hb⟩
 ·exact Nat.lt_of_lt_of_le (S.gold b hg) S.below.size
 ·exact ((S.of id g o ho).2 hs).lt hb
theorem SimF.env (S : SimF A G w0 N K O nid β a w) {lk : Nat → Option AO} (h : ∀ id o, lk id = some o → ∃ g, O id = some (g, o) ∧ sat g a) : Env β nid (FO G O β a) w lk where
 obj := fun id o hl => by
  obtain ⟨g, ho, hs⟩ := h id o hl
  exact ⟨(S.of id g o ho).1, (S.of id g o ho).2 hs⟩
 own := fun id o b hl hb => by
  obtain ⟨g, ho, hs⟩ := h id o hl
  exact .inr ⟨id, g, o, ho, hs, hb⟩
 old := fun b hb => S.old hb
theorem SimF.put (S : SimF A G w0 N K O nid β a w) (d : Option Nat) (tg : Tags) (r : AV) (v : Value)
  (hd : ∀ n, d = some n → n < N ∧ inTags n tg = false ∧ (∀ s g av, K s = some (g, av) → inTags n g = false) ∧ (∀ id g o, O id = some (g, o) → inTags n g = false))
  (hr : sat tg a → Rep β nid (FO G O β a) w r v) (hu : ¬ sat tg a → v = undef) :
  SimF A G w0 N (fun s => if d = some s then some (tg, r) else K s) O nid β (a.put d v) w := by
 cases d with
 | none =>
  have e : (fun s => if (none : Option Nat) = some s then some (tg, r) else K s) = K := by funext s; simp
  rw [e]
  exact S
 | some n =>
  obtain ⟨hn, htg, hK, hO⟩ := hd n rfl
  have hFO : FO G O β (a.put (some n) v) = FO G O β a := by
   funext b
   apply propext
   constructor
   ·rintro (hg | ⟨id, g, o, ho, hs, hb⟩)
    ·exact .inl hg
    ·exact .inr ⟨id, g, o, ho, (sat_put (hO id g o ho)).1 hs, hb⟩
   ·rintro (hg | ⟨id, g, o, ho, hs, hb⟩)
    ·exact .inl hg
    ·exact .inr ⟨id, g, o, ho, (sat_put (hO id g o ho)).2 hs, hb⟩
  have hslot : ∀ s, (a.put (some n) v).tmps.getD s undef = if s = n then v else a.tmps.getD s undef := by
   intro s
   simp only [Act.put, Array.getD_eq_getD_getElem?, Array.getElem?_setIfInBounds]
   by_cases h : n = s
   ·subst h
    rw [if_pos rfl, if_pos (by rw [S.tsz]; exact hn)]
    simp
   ·rw [if_neg h, if_neg (Ne.symm h)]
  refine ⟨S.gold, S.below, ?_, S.dfs, ?_, ?_, fun id g o b h hs hb => S.allow id g o b h ((sat_put (hO id g o h)).1 hs) hb, ?_⟩
  ·simp [Act.put, S.tsz]
  ·intro s g av h
   rw [hFO, hslot s]
   by_cases hs : s = n
   ·subst hs
    rw [if_pos rfl] at h
    simp only [Option.some.injEq, Prod.mk.injEq] at h
    obtain ⟨rfl, rfl⟩ := h
    rw [if_pos rfl]
    exact ⟨fun h => hr ((sat_put htg).1 h), fun h => hu (fun h' => h ((sat_put htg).2 h'))⟩
   ·rw [if_neg (by simpa using Ne.symm hs)] at h
    rw [if_neg hs]
    have := S.kf s g av h
    exact ⟨fun h' => this.1 ((sat_put (hK s g av h)).1 h'), fun h' => this.2 (fun h2 => h' ((sat_put (hK s g av h)).2 h2))⟩
  ·intro id g o h
   rw [hFO]
   exact ⟨(S.of id g o h).1, fun h' => (S.of id g o h).2 ((sat_put (hO id g o h)).1 h')⟩
  ·intro id id' g g' o o' b h h' hs hs' hb hb'
   exact S.dist id id' g g' o o' b h h' ((sat_put (hO id g o h)).1 hs) ((sat_put (hO id' g' o' h')).1 hs') hb hb'
def effO (tg : Tags) (nid : Nat) (O : OF) : Eff → OF
 | .ext os _ => fun id => if nid ≤ id then (os[id - nid]?).map fun o => (tg, o) else O id
 | .set i o' _ => fun id => if id = i then (O i).map fun p => (p.1, o') else O id
 | .app i o' _ => fun id => if id = nid then some (tg, o') else if id = i then (O i).map fun p => (p.1, .dead) else O id
def effN (nid : Nat) : Eff → Nat
 | .ext os _ => nid + os.length
 | .set _ _ _ => nid
 | .app _ _ _ => nid + 1
def effR : Eff → AV
 | .ext _ r => r
 | .set _ _ r => r
 | .app _ _ r => r
def effFit (tg : Tags) (O : OF) : Eff → Prop
 | .ext _ _ => True
 | .set i _ _ => ∀ g o, O i = some (g, o) → subTags tg g = true
 | .app i _ _ => ∀ g o, O i = some (g, o) → subTags tg g = true
theorem getElem?_map_some {os : List AO} {j : Nat} {tg g : Tags} {o : AO} (h : (os[j]?).map (fun o => (tg, o)) = some (g, o)) : g = tg ∧ os[j]? = some o := by
 cases hj : os[j]? with
 | none => rw [hj] at h; cases h
 | some o' => rw [hj] at h; simp at h; exact ⟨h.1.symm, by rw [h.2]⟩
theorem SimF.eff (S : SimF A G w0 N K O nid β a w) {lk : Nat → Option AO} (hlk : ∀ id o, lk id = some o → ∃ g, O id = some (g, o) ∧ sat g a) {tg : Tags} (hsat : sat tg a) {eff : Eff} {β' : Bd} {w' : World} {v : Value}
  (hfit : effFit tg O eff) (h : EffPost β β' nid (FO G O β a) lk w w' v eff) :
  SimF A G w0 N K (effO tg nid O eff) (effN nid eff) β' a w' ∧ Rep β' (effN nid eff) (FO G (effO tg nid O eff) β' a) w' (effR eff) v := by
 have hlt : ∀ id g o, O id = some (g, o) → id < nid := fun id g o h => (S.of id g o h).1
 cases eff with
 | ext os r =>
  obtain ⟨hb, hag, ⟨hn1, hnB, hn2⟩, hr⟩ := h
  have hown : ∀ id g o, O id = some (g, o) → sat g a → ownB β' id o = ownB β id o := fun id g o h hs =>
   ownB_eq (hag id (hlt id g o h)) fun x hx => (hag x (((S.of id g o h).2 hs).aux_lt hx)).2
  have hFO : ∀ b, FO G (effO tg nid O (.ext os r)) β' a b ↔ FX (FO G O β a) β' nid os b := by
   intro b
   constructor
   ·rintro (hg | ⟨id, g, o, ho, hs, hbb⟩)
    ·exact .inl (.inl hg)
    simp only [effO] at ho
    split at ho
    ·rename_i hle
     obtain ⟨_, hj⟩ := getElem?_map_some ho
     exact .inr ⟨id - nid, o, hj, by rw [Nat.add_sub_cancel' hle]; exact hbb⟩
    ·exact .inl (.inr ⟨id, g, o, ho, hs, by rw [← hown id g o ho hs]; exact hbb⟩)
   ·rintro ((hg | ⟨id, g, o, ho, hs, hbb⟩) | ⟨j, o, hj, hbb⟩)
    ·exact .inl hg
    ·have hid := hlt id g o ho
     exact .inr ⟨id, g, o, by simp [effO, Nat.not_le.2 hid, ho], hs, by rw [hown id g o ho hs]; exact hbb⟩
    ·exact .inr ⟨nid + j, tg, o, by simp [effO, hj], hsat, hbb⟩
  have hFOe : FO G (effO tg nid O (.ext os r)) β' a = FX (FO G O β a) β' nid os := funext fun b => propext (hFO b)
  have hF : ∀ g, g < w.heap.size → ¬ FO G O β a g → ¬ FX (FO G O β a) β' nid os g := by
   rintro g hg hnot (hf | ⟨j, o, hj, ho⟩)
   ·exact hnot hf
   ·have := hnB j o g hj ho; omega
  have hw : ∀ g, g < w.heap.size → w'.heap[g]? = w.heap[g]? := fun g hg => hb.block g hg
  have hbel : Frame A w0 w' := ⟨hb.os.trans S.below.os, hb.tape.trans S.below.tape, hb.output.trans S.below.output, Nat.le_trans S.below.size hb.size, fun k hk hA => by
   rw [hw k (Nat.lt_of_lt_of_le hk S.below.size)]
   exact S.below.block k hk hA, Nat.le_trans S.below.drawn hb.drawn⟩
  refine ⟨⟨S.gold, hbel, S.tsz, S.dfs, ?_, ?_, ?_, ?_⟩, ?_⟩
  ·intro s g av hk
   refine ⟨fun hs => ?_, fun hs => (S.kf s g av hk).2 hs⟩
   rw [hFOe]
   exact ((((S.kf s g av hk).1 hs).stable hF (fun g hg _ => hw g hg) hb.size).same hag).more (by simp [effN])
  ·intro id g o ho
   simp only [effO] at ho
   split at ho
   ·rename_i hle
    obtain ⟨rfl, hj⟩ := getElem?_map_some ho
    have hjl := (List.getElem?_eq_some_iff.1 hj).1
    refine ⟨by simp [effN]; omega, fun _ => ?_⟩
    rw [hFOe]
    have := hn1 (id - nid) o hj
    rw [Nat.add_sub_cancel' hle] at this
    exact this
   ·have hid := hlt id g o ho
    refine ⟨by simp [effN]; omega, fun hs => ?_⟩
    rw [hFOe]
    exact ((S.of id g o ho).2 hs).stable hid (by simp [effN]) hag hF (fun g hg _ => hw g hg) hb.size (fun b hbb => hw b (((S.of id g o ho).2 hs).lt hbb))
  ·intro id g o b ho hs hbb
   simp only [effO] at ho
   split at ho
   ·rename_i hle
    obtain ⟨_, hj⟩ := getElem?_map_some ho
    have := hnB (id - nid) o b hj (by rw [Nat.add_sub_cancel' hle]; exact hbb)
    exact .inr (Nat.le_trans S.below.size this)
   ·rw [hown id g o ho hs] at hbb
    exact S.allow id g o b ho hs hbb
  ·intro id id' g g' o o' b ho ho' hs hs' hbb hbb'
   simp only [effO] at ho ho'
   split at ho <;> split at ho'
   ·rename_i h1 h2
    obtain ⟨_, hj⟩ := getElem?_map_some ho
    obtain ⟨_, hj'⟩ := getElem?_map_some ho'
    have := hn2 _ _ o o' b hj hj' (by rw [Nat.add_sub_cancel' h1]; exact hbb) (by rw [Nat.add_sub_cancel' h2]; exact hbb')
    omega
   ·rename_i h1 h2
    obtain ⟨_, hj⟩ := getElem?_map_some ho
    have h3 := hnB _ o b hj (by rw [Nat.add_sub_cancel' h1]; exact hbb)
    rw [hown id' g' o' ho' hs'] at hbb'
    have := ((S.of id' g' o' ho').2 hs').lt hbb'
    omega
   ·rename_i h1 h2
    obtain ⟨_, hj⟩ := getElem?_map_some ho'
    have h3 := hnB _ o' b hj (by rw [Nat.add_sub_cancel' h2]; exact hbb')
    rw [hown id g o ho hs] at hbb
    have := ((S.of id g o ho).2 hs).lt hbb
    omega
   ·rw [hown id g o ho hs] at hbb
    rw [hown id' g' o' ho' hs'] at hbb'
    exact S.dist id id' g g' o o' b ho ho' hs hs' hbb hbb'
  ·rw [hFOe]
   exact hr
 | set i o1 r =>
  obtain ⟨rfl, o0, hl, hg, hb1, hobj, hr⟩ := h
  obtain ⟨gi, hoi, hsi⟩ := hlk i o0 hl
  have hFO : ∀ b, FO G (effO tg nid O (.set i o1 r)) β' a b ↔ FO G O β' a b := by
   intro b
   constructor
   ·rintro (hg | ⟨id, g, o, ho, hs, hbb⟩)
    ·exact .inl hg
    simp only [effO] at ho
    split at ho
    ·rename_i he
     subst he
     rw [hoi] at ho
     simp at ho
     obtain ⟨rfl, rfl⟩ := ho
     exact .inr ⟨id, _, o0, hoi, hs, by rw [← hb1]; exact hbb⟩
    ·exact .inr ⟨id, g, o, ho, hs, hbb⟩
   ·rintro (hg | ⟨id, g, o, ho, hs, hbb⟩)
    ·exact .inl hg
    by_cases he : id = i
    ·subst he
     rw [hoi] at ho
     simp at ho
     obtain ⟨rfl, rfl⟩ := ho
     exact .inr ⟨id, gi, o1, by simp [effO, hoi], hs, by rw [hb1]; exact hbb⟩
    ·exact .inr ⟨id, g, o, by simp [effO, he, ho], hs, hbb⟩
  have hFOe : FO G (effO tg nid O (.set i o1 r)) β' a = FO G O β' a := funext fun b => propext (hFO b)
  have hFb : ∀ b0, ownB β' i o0 b0 → FO G O β' a b0 := fun b0 hb0 => .inr ⟨i, gi, o0, hoi, hsi, hb0⟩
  have hw : ∀ g, g < w.heap.size → ¬ FO G O β' a g → w'.heap[g]? = w.heap[g]? := fun g hg' hn => hg.block g hg' (fun e => hn (hFb g (ownB_of_wr e.symm)))
  have key : ∀ id g o b, effO tg nid O (.set i o1 r) id = some (g, o) → ownB β' id o b → ∃ o2, O id = some (g, o2) ∧ ownB β' id o2 b := by
   intro id g o b ho hbb
   simp only [effO] at ho
   split at ho
   ·rename_i he
    subst he
    rw [hoi] at ho
    simp at ho
    obtain ⟨rfl, rfl⟩ := ho
    exact ⟨o0, hoi, by rw [← hb1]; exact hbb⟩
   ·exact ⟨o, ho, hbb⟩
  refine ⟨⟨S.gold, ⟨hg.os.trans S.below.os, hg.tape.trans S.below.tape, hg.output.trans S.below.output, Nat.le_trans S.below.size hg.size, fun k hk hA => ?_, Nat.le_trans S.below.drawn hg.drawn⟩, S.tsz, S.dfs, ?_, ?_, ?_, ?_⟩, ?_⟩
  ·rw [hg.block k (Nat.lt_of_lt_of_le hk S.below.size) (fun e => by
    rcases S.allow i gi o0 k hoi hsi (ownB_of_wr e.symm) with h | h
    ·exact hA h
    ·omega)]
   exact S.below.block k hk hA
  ·intro s g av hk
   refine ⟨fun hs => ?_, fun hs => (S.kf s g av hk).2 hs⟩
   rw [hFOe]
   exact ((S.kf s g av hk).1 hs).stable (fun _ _ h => h) hw hg.size
  ·intro id g o ho
   simp only [effO] at ho
   split at ho
   ·rename_i he
    subst he
    rw [hoi] at ho
    simp at ho
    obtain ⟨rfl, rfl⟩ := ho
    refine ⟨hlt _ _ _ hoi, fun _ => ?_⟩
    rw [hFOe]
    exact hobj
   ·rename_i he
    refine ⟨hlt _ _ _ ho, fun hs => ?_⟩
    rw [hFOe]
    refine ((S.of id g o ho).2 hs).stable (hlt _ _ _ ho) (Nat.le_refl _) (fun _ _ => ⟨rfl, rfl⟩) (fun _ _ h => h) hw hg.size (fun b hbb => hg.block b (((S.of id g o ho).2 hs).lt hbb) (fun e => he ?_))
    exact S.dist id i g gi o o0 b ho hoi hs hsi hbb (ownB_of_wr e.symm)
  ·intro id g o b ho hs hbb
   obtain ⟨p, hp, hpb⟩ := key id g o b ho hbb
   exact S.allow id g p b hp hs hpb
  ·intro id id' g g' o o' b ho ho' hs hs' hbb hbb'
   obtain ⟨p, hp, hpb⟩ := key id g o b ho hbb
   obtain ⟨p', hp', hpb'⟩ := key id' g' o' b ho' hbb'
   exact S.dist id id' g g' p p' b hp hp' hs hs' hpb hpb'
  ·rw [hFOe]
   exact hr
 | app i o1 r =>
  obtain ⟨hag, o0, hl, hg, hblk, hobj, hr⟩ := h
  obtain ⟨gi, hoi, hsi⟩ := hlk i o0 hl
  have hin : i < nid := hlt _ _ _ hoi
  have hown : ∀ id g o, O id = some (g, o) → sat g a → ownB β' id o = ownB β id o := fun id g o h hs =>
   ownB_eq (hag id (hlt id g o h)) fun x hx => (hag x (((S.of id g o h).2 hs).aux_lt hx)).2
  have hOi : ∀ b, ownB β i o0 b → FO G O β a b := fun b hb => .inr ⟨i, gi, o0, hoi, hsi, hb⟩
  have hsub : ∀ b, FO G (effO tg nid O (.app i o1 r)) β' a b → FX (FO G O β a) β' nid [o1] b := by
   rintro b (hg | ⟨id, g, o, ho, hs, hbb⟩)
   ·exact .inl (.inl hg)
   simp only [effO] at ho
   split at ho
   ·rename_i he
    simp at ho
    obtain ⟨rfl, rfl⟩ := ho
    exact .inr ⟨0, o1, rfl, by rw [Nat.add_zero, ← he]; exact hbb⟩
   ·split at ho
    ·rename_i he
     subst he
     rw [hoi] at ho
     simp at ho
     obtain ⟨rfl, rfl⟩ := ho
     simp [ownB] at hbb
    ·exact .inl (.inr ⟨id, g, o, ho, hs, by rw [← hown id g o ho hs]; exact hbb⟩)
  have hF : ∀ g, g < w.heap.size → ¬ FO G O β a g → ¬ FO G (effO tg nid O (.app i o1 r)) β' a g := by
   intro g hg' hnot hf
   rcases hsub g hf with h | ⟨j, o, hj, ho⟩
   ·exact hnot h
   ·cases j with
    | succ j => simp at hj
    | zero =>
     simp at hj
     subst hj
     rw [Nat.add_zero] at ho
     rcases hblk with h | h
     ·exact hnot (hOi g (by rw [← h]; exact ho))
     ·have := h g ho; omega
  have hw : ∀ g, g < w.heap.size → ¬ FO G O β a g → w'.heap[g]? = w.heap[g]? := fun g hg' hn => hg.block g hg' (fun e => hn (hOi g (ownB_of_wr e.symm)))
  refine ⟨⟨S.gold, ⟨hg.os.trans S.below.os, hg.tape.trans S.below.tape, hg.output.trans S.below.output, Nat.le_trans S.below.size hg.size, fun k hk hA => ?_, Nat.le_trans S.below.drawn hg.drawn⟩, S.tsz, S.dfs, ?_, ?_, ?_, ?_⟩, ?_⟩
  ·rw [hg.block k (Nat.lt_of_lt_of_le hk S.below.size) (fun e => by
    rcases S.allow i gi o0 k hoi hsi (ownB_of_wr e.symm) with h | h
    ·exact hA h
    ·omega)]
   exact S.below.block k hk hA
  ·intro s g av hk
   refine ⟨fun hs => ?_, fun hs => (S.kf s g av hk).2 hs⟩
   exact ((((S.kf s g av hk).1 hs).stable hF hw hg.size).same hag).more (by simp [effN])
  ·intro id g o ho
   simp only [effO] at ho
   split at ho
   ·rename_i he
    simp at ho
    obtain ⟨rfl, rfl⟩ := ho
    subst he
    refine ⟨by simp [effN], fun _ => ?_⟩
    exact hobj.stable (by omega) (Nat.le_refl _) (fun _ _ => ⟨rfl, rfl⟩) (fun b _ hn hf => hn (hsub b hf)) (fun _ _ _ => rfl) (Nat.le_refl _) (fun _ _ => rfl)
   ·rename_i hne
    split at ho
    ·rename_i he
     subst he
     rw [hoi] at ho
     simp at ho
     obtain ⟨rfl, rfl⟩ := ho
     exact ⟨by simp [effN]; omega, fun _ => trivial⟩
    ·rename_i hne2
     have hid := hlt id g o ho
     refine ⟨by simp [effN]; omega, fun hs => ?_⟩
     refine ((S.of id g o ho).2 hs).stable hid (by simp [effN]) hag hF hw hg.size (fun b hbb => hg.block b (((S.of id g o ho).2 hs).lt hbb) (fun e => hne2 ?_))
     exact S.dist id i g gi o o0 b ho hoi hs hsi hbb (ownB_of_wr e.symm)
  ·intro id g o b ho hs hbb
   simp only [effO] at ho
   split at ho
   ·rename_i he
    simp at ho
    obtain ⟨rfl, rfl⟩ := ho
    subst he
    rcases hblk with h | h
    ·exact S.allow i gi o0 b hoi hsi (by rw [← h]; exact hbb)
    ·exact .inr (Nat.le_trans S.below.size (h b hbb))
   ·split at ho
    ·rename_i he
     subst he
     rw [hoi] at ho
     simp at ho
     obtain ⟨rfl, rfl⟩ := ho
     simp [ownB] at hbb
    ·rw [hown id g o ho hs] at hbb
     exact S.allow id g o b ho hs hbb
  ·intro id id' g g' o o' b ho ho' hs hs' hbb hbb'
   have key : ∀ id g o, effO tg nid O (.app i o1 r) id = some (g, o) → sat g a → ownB β' id o b → (id = nid ∧ ownB β' nid o1 b) ∨ (id ≠ i ∧ O id = some (g, o) ∧ ownB β id o b) := by
    intro id g o ho hs hbb
    simp only [effO] at ho
    split at ho
    ·rename_i he
     simp at ho
     obtain ⟨rfl, rfl⟩ := ho
     exact .inl ⟨he, by rw [← he]; exact hbb⟩
    ·split at ho
     ·rename_i he
      subst he
      rw [hoi] at ho
      simp at ho
      obtain ⟨rfl, rfl⟩ := ho
      simp [ownB] at hbb
     ·rename_i hne
      exact .inr ⟨hne, ho, by rw [← hown id g o ho hs]; exact hbb⟩
   have cross : ∀ id g o, id ≠ i → O id = some (g, o) → sat g a → ownB β id o b → ownB β' nid o1 b → False := by
    intro id g o hne ho hs hbb hnb
    rcases hblk with h | h
    ·exact hne (S.dist id i g gi o o0 b ho hoi hs hsi hbb (by rw [← h]; exact hnb))
    ·have h1 := h b hnb
     have h2 := ((S.of id g o ho).2 hs).lt hbb
     omega
   rcases key id g o ho hs hbb with ⟨rfl, h1⟩ | ⟨h1, h2, h3⟩ <;> rcases key id' g' o' ho' hs' hbb' with ⟨rfl, h1'⟩ | ⟨h1', h2', h3'⟩
   ·rfl
   ·exact (cross id' g' o' h1' h2' hs' h3' h1).elim
   ·exact (cross id g o h1 h2 hs h3 h1').elim
   ·exact S.dist id id' g g' o o' b h2 h2' hs hs' h3 h3'
  ·exact hr.stable (fun b _ hn hf => hn (hsub b hf)) (fun _ _ _ => rfl) (Nat.le_refl _)
theorem SimF.passed (S : SimF A G w0 N K O nid β a w) {tg : Tags} (hsat : ¬ sat tg a) {eff : Eff} (hfit : effFit tg O eff) : SimF A G w0 N K (effO tg nid O eff) (effN nid eff) β a w := by
 have hlt : ∀ id g o, O id = some (g, o) → id < nid := fun id g o h => (S.of id g o h).1
 have key : ∀ id g o, effO tg nid O eff id = some (g, o) → sat g a → O id = some (g, o) := by
  intro id g o ho hs
  cases eff with
  | ext os r =>
   simp only [effO] at ho
   split at ho
   ·obtain ⟨rfl, _⟩ := getElem?_map_some ho
    exact (hsat hs).elim
   ·exact ho
  | set i o1 r =>
   simp only [effO] at ho
   split at ho
   ·rename_i he
    subst he
    cases hoi : O id with
    | none => rw [hoi] at ho; cases ho
    | some p =>
     rw [hoi] at ho
     simp at ho
     obtain ⟨rfl, rfl⟩ := ho
     exact (hsat (subTags_sat (hfit p.1 p.2 hoi) hs)).elim
   ·exact ho
  | app i o1 r =>
   simp only [effO] at ho
   split at ho
   ·simp at ho
    obtain ⟨rfl, rfl⟩ := ho
    exact (hsat hs).elim
   ·split at ho
    ·rename_i he
     subst he
     cases hoi : O id with
     | none => rw [hoi] at ho; cases ho
     | some p =>
      rw [hoi] at ho
      simp at ho
      obtain ⟨rfl, rfl⟩ := ho
      exact (hsat (subTags_sat (hfit p.1 p.2 hoi) hs)).elim
    ·exact ho
 have hsub : ∀ b, FO G (effO tg nid O eff) β a b → FO G O β a b := by
  rintro b (hg | ⟨id, g, o, ho, hs, hbb⟩)
  ·exact .inl hg
  ·exact .inr ⟨id, g, o, key id g o ho hs, hs, hbb⟩
 have hN : nid ≤ effN nid eff := by cases eff <;> simp [effN]
 have hstab : ∀ {av v}, Rep β nid (FO G O β a) w av v → Rep β (effN nid eff) (FO G (effO tg nid O eff) β a) w av v := fun h => (h.stable (fun b _ hn hf => hn (hsub b hf)) (fun _ _ _ => rfl) (Nat.le_refl _)).more hN
 have hids : ∀ id g o, effO tg nid O eff id = some (g, o) → id < effN nid eff := by
  intro id g o ho
  cases eff with
  | ext os r =>
   simp only [effO] at ho
   split at ho
   ·obtain ⟨_, hj⟩ := getElem?_map_some ho
    have := (List.getElem?_eq_some_iff.1 hj).1
    simp only [effN]; omega
   ·have := hlt _ _ _ ho; simp only [effN]; omega
  | set i o1 r =>
   simp only [effO] at ho
   split at ho
   ·rename_i he
    subst he
    cases hoi : O id with
    | none => rw [hoi] at ho; cases ho
    | some p => exact hlt id p.1 p.2 hoi
   ·exact hlt _ _ _ ho
  | app i o1 r =>
   simp only [effO] at ho
   split at ho
   ·rename_i he; subst he; simp [effN]
   ·split at ho
    ·rename_i he
     subst he
     cases hoi : O id with
     | none => rw [hoi] at ho; cases ho
     | some p => have := hlt id p.1 p.2 hoi; simp only [effN]; omega
    ·have := hlt _ _ _ ho; simp only [effN]; omega
 refine ⟨S.gold, S.below, S.tsz, S.dfs, ?_, ?_, fun id g o b ho hs hbb => S.allow id g o b (key id g o ho hs) hs hbb, ?_⟩
 ·intro s g av hk
  exact ⟨fun hs => hstab ((S.kf s g av hk).1 hs), (S.kf s g av hk).2⟩
 ·intro id g o ho
  refine ⟨hids id g o ho, fun hs => ?_⟩
  have ho' := key id g o ho hs
  exact ((S.of id g o ho').2 hs).stable (hlt _ _ _ ho') hN (fun _ _ => ⟨rfl, rfl⟩) (fun b _ hn hf => hn (hsub b hf)) (fun _ _ _ => rfl) (Nat.le_refl _) (fun _ _ => rfl)
 ·intro id id' g g' o o' b ho ho' hs hs' hbb hbb'
  exact S.dist id id' g g' o o' b (key _ _ _ ho hs) (key _ _ _ ho' hs') hs hs' hbb hbb'
end
end Go.Eng
end
