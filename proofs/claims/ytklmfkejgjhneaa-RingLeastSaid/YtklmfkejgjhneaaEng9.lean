/-
  The engine, ninth part: calls, and one operation.
-/
import Derived.Test.YtklmfkejgjhneaaEngM
namespace Go.Eng
open Go.RowKit
section
variable {P : Program} {β : Bd} {nid : Nat} {F : Nat → Prop} {w : World} {lk : Nat → Option AO} {k : Eff → Prop}

/-! ### calls -/
def AO.ren (ρ : Nat → Nat) : AO → AO
  | .cells e cs => .cells e (AV.rens ρ cs)
  | .row e sz n get => .row e sz n get
  | .mp n key val born clock => .mp n key val born clock
  | .it mid since seen => .it (ρ mid) since seen
  | .ir n key val seen last => .ir n key val seen last
  | .dead => .dead
def AO.rens (ρ : Nat → Nat) : List AO → List AO
  | [] => []
  | o :: r => AO.ren ρ o :: AO.rens ρ r
theorem AO.length_rens (ρ : Nat → Nat) : ∀ l : List AO, (AO.rens ρ l).length = l.length
  | [] => rfl
  | o :: r => by simp [AO.rens, AO.length_rens ρ r]
theorem AO.rens_get? (ρ : Nat → Nat) : ∀ (l : List AO) (j : Nat) (o : AO), (AO.rens ρ l)[j]? = some o → ∃ o', l[j]? = some o' ∧ o = AO.ren ρ o'
  | [], j, o, h => by simp [AO.rens] at h
  | c :: r, 0, o, h => by
    simp only [AO.rens, List.getElem?_cons_zero, Option.some.injEq] at h
    exact ⟨c, rfl, h.symm⟩
  | c :: r, j + 1, o, h => by
    simp only [AO.rens, List.getElem?_cons_succ] at h ⊢
    exact AO.rens_get? ρ r j o h

theorem ObjOk.unren {β β' : Bd} {n n' : Nat} {F F' : Nat → Prop} {w : World} {j j' : Nat} {o : AO} (h : ObjOk β n F w j o) (ρ : Nat → Nat)
    (hb : ∀ id, id < n → ρ id < n' ∧ β'.blk (ρ id) = β.blk id ∧ β'.val (ρ id) = β.val id) (hj : β'.blk j' = β.blk j ∧ β'.val j' = β.val j) (hF : ∀ g, ¬ F g → ¬ F' g) :
    ObjOk β' n' F' w j' (o.ren ρ) := by
  cases o with
  | cells e cs =>
    obtain ⟨vs, hh, hl, hc⟩ := h
    refine ⟨vs, by rw [hj.1]; exact hh, (AV.length_rens ρ cs).trans hl, fun i h1 h2 => ?_⟩
    have h1' : i < cs.length := by rw [AV.length_rens] at h1; exact h1
    rw [AV.rens_get ρ cs i h1 h1']
    exact ⟨((hc i h1' h2).1.unren ρ hb).stable (fun g _ hn => hF g hn) (fun _ _ _ => rfl) (Nat.le_refl _), (hc i h1' h2).2⟩
  | row e sz m get =>
    obtain ⟨xs, hx, hlen, hc⟩ := h
    exact ⟨xs, by rw [hj.2]; exact hx, hlen, fun k i hk h1 h2 => ⟨(hc k i hk h1 h2).1.stable (fun g _ hn => hF g hn) (fun _ _ _ => rfl) (Nat.le_refl _), (hc k i hk h1 h2).2⟩⟩
  | mp m key val born clock =>
    obtain ⟨es, hh, hm, ho, hc⟩ := h
    exact ⟨es, by rw [hj.1]; exact hh, hm, ho, fun i h1 h2 => ⟨(hc i h1 h2).1.stable (fun g _ hn => hF g hn) (fun _ _ _ => rfl) (Nat.le_refl _), (hc i h1 h2).2.1.stable (fun g _ hn => hF g hn) (fun _ _ _ => rfl) (Nat.le_refl _), (hc i h1 h2).2.2⟩⟩
  | it mid since seen =>
    obtain ⟨hm, hh⟩ := h
    obtain ⟨h1, h2, _⟩ := hb mid hm
    exact ⟨h1, by rw [hj.1, h2]; exact hh⟩
  | ir m key val seen last =>
    obtain ⟨g, es, clock, sn, hh, hm, ho, hg0, hg, hc, hlast⟩ := h
    exact ⟨g, es, clock, sn, by rw [hj.1]; exact hh, hm, ho, hg0, fun b hb' => ⟨hF b (hg b hb').1, (hg b hb').2⟩,
      fun i h1 h2 => ⟨(hc i h1 h2).1.stable (fun g _ hn => hF g hn) (fun _ _ _ => rfl) (Nat.le_refl _), (hc i h1 h2).2.1.stable (fun g _ hn => hF g hn) (fun _ _ _ => rfl) (Nat.le_refl _), (hc i h1 h2).2.2⟩, hlast⟩
  | dead => trivial
theorem ownB_ren {β β' : Bd} {j j' : Nat} {o : AO} (ρ : Nat → Nat) (hj : β'.blk j' = β.blk j ∧ β'.val j' = β.val j) : ownB β' j' (o.ren ρ) = ownB β j o := by
  cases o <;> simp [AO.ren, ownB, hj.1, hj.2]

def Bd.join (β : Bd) (nid : Nat) (γ : Bd) : Bd := ⟨fun id => if id < nid then β.blk id else γ.blk (id - nid), fun id => if id < nid then β.val id else γ.val (id - nid)⟩
theorem agree_join (β : Bd) (nid : Nat) (γ : Bd) : agree nid β (β.join nid γ) := fun id h => by simp [Bd.join, h]
theorem join_new (β : Bd) (nid : Nat) (γ : Bd) (j : Nat) : (β.join nid γ).blk (j + nid) = γ.blk j ∧ (β.join nid γ).val (j + nid) = γ.val j := by
  have : ¬ (j + nid < nid) := by omega
  simp [Bd.join, this]

/-- What a call has returned. -/
theorem EffPost.returned (hold : ∀ g, F g → g < w.heap.size) {w' : World} {γ : Bd} {os : List AO} {r : AV} {v : Value} (hb : Below w.heap.size w w')
    (hn : News γ os.length (FX (fun g => g < w.heap.size) γ 0 os) w.heap.size w' 0 os) (hr : Rep γ os.length (FX (fun g => g < w.heap.size) γ 0 os) w' r v) :
    EffPost β (β.join nid γ) nid F lk w w' v (.ext (AO.rens (· + nid) os) (r.ren (· + nid))) := by
  have hbj : ∀ id, id < os.length → id + nid < nid + (AO.rens (· + nid) os).length ∧ (β.join nid γ).blk (id + nid) = γ.blk id ∧ (β.join nid γ).val (id + nid) = γ.val id := fun id h =>
    ⟨by rw [AO.length_rens]; omega, join_new β nid γ id⟩
  have hj' : ∀ j, (β.join nid γ).blk (nid + j) = γ.blk j ∧ (β.join nid γ).val (nid + j) = γ.val j := fun j => by rw [Nat.add_comm]; exact join_new β nid γ j
  have hF : ∀ g, ¬ FX (fun g => g < w.heap.size) γ 0 os g → ¬ FX F (β.join nid γ) nid (AO.rens (· + nid) os) g := by
    rintro g hn' (hf | ⟨j, o, hj, ho⟩)
    · exact hn' (.inl (hold g hf))
    · obtain ⟨o', ho', rfl⟩ := AO.rens_get? _ os j o hj
      rw [ownB_ren _ (hj' j)] at ho
      exact hn' (.inr ⟨j, o', ho', by rw [Nat.zero_add]; exact ho⟩)
  refine ⟨hb, agree_join _ _ _, ⟨?_, ?_, ?_⟩, ?_⟩
  · intro j o hj
    obtain ⟨o', ho', rfl⟩ := AO.rens_get? _ os j o hj
    have := hn.1 j o' ho'
    rw [Nat.zero_add] at this
    exact this.unren _ hbj (hj' j) hF
  · intro j o g hj hg
    obtain ⟨o', ho', rfl⟩ := AO.rens_get? _ os j o hj
    rw [ownB_ren _ (hj' j)] at hg
    exact hn.2.1 j o' g ho' (by rw [Nat.zero_add]; exact hg)
  · intro j j' o o' g h1 h2 hg1 hg2
    obtain ⟨p, hp, rfl⟩ := AO.rens_get? _ os j o h1
    obtain ⟨p', hp', rfl⟩ := AO.rens_get? _ os j' o' h2
    rw [ownB_ren _ (hj' j)] at hg1
    rw [ownB_ren _ (hj' j')] at hg2
    exact hn.2.2 j j' p p' g hp hp' (by rw [Nat.zero_add]; exact hg1) (by rw [Nat.zero_add]; exact hg2)
  · exact (hr.unren _ hbj).stable (fun g _ hn' => hF g hn') (fun _ _ _ => rfl) (Nat.le_refl _)

def callA (P : Program) (gc : Option Prop) (lk : Nat → Option AO) (nid : Nat) (f : AV) (args : List AV) (k : Eff → Prop) : Prop :=
  match f with
  | .fn fid caps =>
    (viewsK lk 60 (appL args caps) fun vs => ∃ os r, ob gc (Ctr P fid vs os r) (k (.ext (AO.rens (· + nid) os) (r.ren (· + nid))))) ∨
    (match AV.lts 0 (appL args caps) with
      | true => ∃ r, ob gc (CtrA P fid (appL args caps) r) (k (.ext [] r))
      | false => False)
  | _ => False

theorem callFunc_run {f : FuncId} (hc : Callable P f) (args : Array Value) : (callFunc f args).run P w = .ok (.enter f args) w := by
  obtain ⟨fn, hf, hn, hb⟩ := hc
  cases hbody : fn.body with
  | none => simp [hbody] at hb
  | some c =>
    simp at hn
    simp [callFunc, hf, hn, hbody]

theorem callA_sound {gc : Option Prop} (hgc : ∀ c, gc = some c → c) (E : Env β nid F w lk) {f : AV} {args : List AV} {u : Value} {vs : List Value} (hu : Rep β nid F w f u) (hl : args.length = vs.length)
    (hr : ∀ (j : Nat) (h1 : j < args.length) (h2 : j < vs.length), Rep β nid F w args[j] vs[j]) (h : callA P gc lk nid f args k) :
    Out P (PostK β nid F lk w k) ((do let d ← Deferred.ofValue u vs.toArray; invoke d.target d.args : Sem Next).run P w) := by
  unfold callA at h
  split at h
  · rename_i fid caps
    obtain ⟨cvs, rfl, hcl, hcr⟩ := hu.fn_inv
    have hall : ∀ (j : Nat) (h1 : j < (appL args caps).length) (h2 : j < (vs ++ cvs).length), Rep β nid F w (appL args caps)[j] (vs ++ cvs)[j] := by
      intro j h1 h2
      simp only [appL_eq] at h1 ⊢
      by_cases hj : j < args.length
      · rw [List.getElem_append_left hj, List.getElem_append_left (by omega)]
        exact hr j hj (by omega)
      · rw [List.getElem_append_right (by omega), List.getElem_append_right (by omega)]
        simp only [List.length_append] at h1 h2
        have e : j - args.length = j - vs.length := by omega
        simp only [e]
        exact hcr _ (by omega) (by omega)
    have hlen : (appL args caps).length = (vs ++ cvs).length := by rw [appL_eq]; simp; omega
    have hrun : ∀ (_ : Callable P fid), ((do let d ← Deferred.ofValue (.func (.func fid) #[] cvs.toArray) vs.toArray; invoke d.target d.args : Sem Next).run P w) = .ok (.enter fid (vs ++ cvs).toArray) w := by
      intro hc
      have := callFunc_run (w := w) hc (vs ++ cvs).toArray
      simpa [Deferred.ofValue, invoke] using this
    rcases h with h | h
    · obtain ⟨m, ⟨os, r, h⟩, hml, hm⟩ := (views_sound E (Fa := fun _ => False) (fun _ h => h.elim) (fun _ _ h => h) (fun _ _ _ _ _ h => h) 60).2 _ (vs ++ cvs) _ hlen hall h
      obtain ⟨⟨hc, hfn⟩, h⟩ := ob_iff h hgc
      rw [hrun hc]
      refine .enter _ _ _ ((hfn w (vs ++ cvs) hml hm).mono ?_)
      rintro e w' ⟨v, γ, rfl, hb, hn, hrep⟩
      exact ⟨v, rfl, _, _, h, .returned E.old hb hn hrep⟩
    · split at h
      · rename_i hpure
        obtain ⟨r, h⟩ := h
        obtain ⟨⟨hc, hfn⟩, h⟩ := ob_iff h hgc
        rw [hrun hc]
        refine .enter _ _ _ ((hfn F w (vs ++ cvs) E.old hlen fun j h1 h2 => AV.lts_pure hpure j h1 (hall j h1 h2)).mono ?_)
        rintro e w' ⟨v, rfl, hb, hrep⟩
        exact ⟨v, rfl, _, β, h, .id (.pure _ _ hrep) hb⟩
      · exact h.elim
  · exact h.elim

/-! ### one operation -/
def withA (a : Option AV) (k : AV → Prop) : Prop :=
  match a with
  | some a => k a
  | none => False
theorem withA_iff {a : Option AV} {q : AV → Prop} (h : withA a q) : ∃ r, a = some r ∧ q r := by
  cases a with
  | none => exact h.elim
  | some r => exact ⟨r, rfl, h⟩
def evsK (ev : Operand → Option AV) : List Operand → (List AV → Prop) → Prop
  | [], k => k []
  | x :: r, k => withA (ev x) fun a => evsK ev r fun l => k (a :: l)
def evpK (ev : Operand → Option AV) : List (Nat × Operand) → (List (Nat × AV) → Prop) → Prop
  | [], k => k []
  | (i, x) :: r, k => withA (ev x) fun a => evpK ev r fun l => k ((i, a) :: l)
def evoK (ev : Operand → Option AV) : Option Operand → (Option AV → Prop) → Prop
  | none, k => k none
  | some x, k => withA (ev x) fun a => k (some a)
theorem evsK_iff {ev : Operand → Option AV} {a : Act} (hev : ∀ x r, ev x = some r → Rep β nid F w r (a.eval x)) : ∀ {l : List Operand} {q : List AV → Prop}, evsK ev l q →
    ∃ m, q m ∧ m.length = (l.map a.eval).length ∧ ∀ (j : Nat) (h1 : j < m.length) (h2 : j < (l.map a.eval).length), Rep β nid F w m[j] (l.map a.eval)[j]
  | [], q, h => ⟨[], h, rfl, fun j h1 => by simp at h1⟩
  | x :: r, q, h => by
    obtain ⟨b, hb, h⟩ := withA_iff h
    obtain ⟨m, h, hl, hm⟩ := evsK_iff hev h
    refine ⟨b :: m, h, by simpa using hl, fun j h1 h2 => ?_⟩
    cases j with
    | zero => exact hev x b hb
    | succ j => exact hm j (by simpa using h1) (by simpa using h2)
theorem evpK_iff {ev : Operand → Option AV} {a : Act} (hev : ∀ x r, ev x = some r → Rep β nid F w r (a.eval x)) : ∀ {l : List (Nat × Operand)} {q : List (Nat × AV) → Prop}, evpK ev l q →
    ∃ m, q m ∧ m.length = (l.map fun p => (p.1, a.eval p.2)).length ∧ ∀ (j : Nat) (h1 : j < m.length) (h2 : j < (l.map fun p => (p.1, a.eval p.2)).length),
      m[j].1 = (l.map fun p => (p.1, a.eval p.2))[j].1 ∧ Rep β nid F w m[j].2 (l.map fun p => (p.1, a.eval p.2))[j].2
  | [], q, h => ⟨[], h, rfl, fun j h1 => by simp at h1⟩
  | (i, x) :: r, q, h => by
    obtain ⟨b, hb, h⟩ := withA_iff h
    obtain ⟨m, h, hl, hm⟩ := evpK_iff hev h
    refine ⟨(i, b) :: m, h, by simpa using hl, fun j h1 h2 => ?_⟩
    cases j with
    | zero => exact ⟨rfl, hev x b hb⟩
    | succ j => exact hm j (by simpa using h1) (by simpa using h2)
theorem evoK_iff {ev : Operand → Option AV} {a : Act} (hev : ∀ x r, ev x = some r → Rep β nid F w r (a.eval x)) {x : Option Operand} {q : Option AV → Prop} (h : evoK ev x q) :
    ∃ m, q m ∧ (∀ y, m = some y → ∃ z, x.map a.eval = some z ∧ Rep β nid F w y z) ∧ (m = none → x.map a.eval = none) := by
  cases x with
  | none => exact ⟨none, h, fun y hy => (by cases hy), fun _ => rfl⟩
  | some x =>
    obtain ⟨b, hb, h⟩ := withA_iff h
    exact ⟨some b, h, fun y hy => (by cases hy; exact ⟨_, rfl, hev x b hb⟩), fun hy => (by cases hy)⟩

def isNilMax : Option Operand → Bool
  | none => true
  | some _ => false

def isTrue : Operand → Bool
  | .const (.bool true) => true
  | _ => false
def isFalse : Operand → Bool
  | .const (.bool false) => true
  | _ => false
theorem isTrue_iff {x : Operand} (h : isTrue x = true) : x = .const (.bool true) := by
  unfold isTrue at h
  split at h
  · rfl
  · cases h
theorem isFalse_iff {x : Operand} (h : isFalse x = true) : x = .const (.bool false) := by
  unfold isFalse at h
  split at h
  · rfl
  · cases h
def pickA (ev : Operand → Option AV) (evx : Nat → Bool → Operand → Option AV) (t : Nat) (x y : Operand) (k : Eff → Prop) : Prop :=
  match ev (.tmp t), isTrue x, isFalse y with
  | some (.b c), true, _ => (match evx t false y with
    | some (.b d) => k (.ext [] (.b (c || d)))
    | _ => False)
  | some (.b c), _, true => (match evx t true x with
    | some (.b d) => k (.ext [] (.b (c && d)))
    | _ => False)
  | _, _, _ => False
theorem pickA_sound {a : Act} {ev : Operand → Option AV} {evx : Nat → Bool → Operand → Option AV}
    (hev : ∀ x r, ev x = some r → Rep β nid F w r (a.eval x)) (hevx : ∀ t b x r, evx t b x = some r → a.eval (.tmp t) = .bool b → Rep β nid F w r (a.eval x)) {t : Nat} {x y : Operand}
    (h : pickA ev evx t x y k) : ∃ c d, a.eval (.tmp t) = .bool c ∧ (if c then a.eval x else a.eval y) = .bool d ∧ k (.ext [] (.b d)) := by
  unfold pickA at h
  split at h
  · rename_i c hc hx
    obtain rfl := isTrue_iff hx
    have hcv := (hev _ _ hc).b_inv
    split at h
    · rename_i d hd
      refine ⟨c, _, hcv, ?_, h⟩
      cases c with
      | true => simp [Act.eval]
      | false => simpa using (hevx _ _ _ _ hd hcv).b_inv
    · exact h.elim
  · rename_i c hc hy _
    obtain rfl := isFalse_iff hy
    have hcv := (hev _ _ hc).b_inv
    split at h
    · rename_i d hd
      refine ⟨c, _, hcv, ?_, h⟩
      cases c with
      | false => simp [Act.eval]
      | true => simpa using (hevx _ _ _ _ hd hcv).b_inv
    · exact h.elim
  · exact h.elim

def stepA (P : Program) (T : List (Nat × TI)) (gc : Option Prop) (ev : Operand → Option AV) (evx : Nat → Bool → Operand → Option AV) (lk : Nat → Option AO) (nid : Nat) (op : Op) (k : Eff → Prop) : Prop :=
  match op with
  | .move x => withA (ev x) fun a => k (.ext [] a)
  | .assign x => withA (ev x) fun a => k (.ext [] a)
  | .pick (.tmp t) x y => pickA ev evx t x y k
  | .alloc e => (match tget e T with
    | some ti => allocA nid e (avOf ti.zero) k
    | none => False)
  | .box e x => withA (ev x) fun a => allocA nid e a k
  | .load t x => withA (ev x) fun a => (match tget t T with
    | some ti => loadA gc lk ti a k
    | none => False)
  | .store t x y => withA (ev x) fun a => withA (ev y) fun b => (match tget t T with
    | some ti => storeA gc lk ti a b k
    | none => False)
  | .nilCheck x => withA (ev x) fun a => nilCheckA a k
  | .binOp op t x y _ => withA (ev x) fun a => withA (ev y) fun b => binA gc T lk op t a b k
  | .unOp op _ x => withA (ev x) fun a => unA op a k
  | .convert s d x => withA (ev x) fun a => convA T s d a k
  | .fieldAddr s x f => withA (ev x) fun a => fieldAddrA T s f a k
  | .field s x f => withA (ev x) fun a => fieldA T s f a k
  | .indexAddr t x i => withA (ev x) fun a => withA (ev i) fun b => indexAddrA gc T lk t a b k
  | .extract x j => withA (ev x) fun a => extractA j a k
  | .makeFunc (.func f) ⟨[]⟩ ⟨caps⟩ => evsK ev caps fun l => k (.ext [] (.fn f l))
  | .makeSlice t l c => withA (ev l) fun a => withA (ev c) fun b => makeSliceA gc T nid t a b k
  | .slice t x lo hi none => withA (ev x) fun a => evoK ev lo fun l => evoK ev hi fun h => subA gc T lk t a l h k
  | .build t ⟨parts⟩ => evpK ev parts fun l => buildA T t l k
  | .buildSlice t n ⟨parts⟩ => evpK ev parts fun l => buildSliceA T nid t n l k
  | .call ⟨.value f, ⟨args⟩, _⟩ => withA (ev f) fun a => evsK ev args fun l => callA P gc lk nid a l k
  | .call ⟨.builtin .len, ⟨[x]⟩, ⟨[t]⟩⟩ => withA (ev x) fun a => lenA T lk t a k
  | .call ⟨.builtin .max, ⟨[x, y]⟩, _⟩ => withA (ev x) fun a => withA (ev y) fun b => maxA a b k
  | .call ⟨.builtin .min, ⟨[x, y]⟩, _⟩ => withA (ev x) fun a => withA (ev y) fun b => minA a b k
  | .call ⟨.builtin .append, ⟨[x, y]⟩, ⟨[t, t']⟩⟩ => (match Nat.beq t t' with
    | true => withA (ev x) fun a => withA (ev y) fun b => appendA gc T lk nid t a b k
    | false => False)
  | .makeMap _ none => makeMapA nid k
  | .lookup t x i ok => withA (ev x) fun a => withA (ev i) fun b => lookupA gc T lk t a b ok k
  | .mapUpdate t m x y => withA (ev m) fun a => withA (ev x) fun b => withA (ev y) fun c => updateA gc T lk t a b c k
  | .insert t m x y => withA (ev m) fun a => withA (ev x) fun b => withA (ev y) fun c => updateA gc T lk t a b c k
  | .range t x => withA (ev x) fun a => rangeA T lk nid t a k
  | .entry x => withA (ev x) fun a => entryA gc lk a k
  | .call ⟨.builtin .delete, ⟨[x, y]⟩, ⟨[t, _]⟩⟩ => withA (ev x) fun a => withA (ev y) fun b => deleteA gc T lk t a b k
  | .call ⟨.builtin .clear, ⟨[x]⟩, ⟨[t]⟩⟩ => withA (ev x) fun a => clearA T lk t a k
  | _ => False

theorem Out.pure {x : Value} {run : Result Next} (hrun : run = .ok (.value x) w) (h : ∃ r, k (.ext [] r) ∧ Rep β nid F w r x) : Out P (PostK β nid F lk w k) run := by
  obtain ⟨r, hk, hr⟩ := h
  exact Out.same hk hr hrun
theorem Out.made {x : Value} {w' : World} {run : Result Next} (hrun : run = .ok (.value x) w') (h : PostK β nid F lk w k x w') : Out P (PostK β nid F lk w k) run := by
  subst hrun
  exact .value x w' h
theorem run_value {s : Sem Value} {x : Value} {w' : World} (h : s.run P w = .ok x w') : (do pure (Next.value (← s)) : Sem Next).run P w = .ok (.value x) w' := by
  simp [h]

theorem stepA_sound {T : List (Nat × TI)} (hT : TabOk P T) {gc : Option Prop} (hgc : ∀ c, gc = some c → c) (E : Env β nid F w lk) {a : Act} {ev : Operand → Option AV} {evx : Nat → Bool → Operand → Option AV}
    (hev : ∀ x r, ev x = some r → Rep β nid F w r (a.eval x)) (hevx : ∀ t b x r, evx t b x = some r → a.eval (.tmp t) = .bool b → Rep β nid F w r (a.eval x)) {o : Oper}
    (h : stepA P T gc ev evx lk nid o.op k) : Out P (PostK β nid F lk w k) ((execOp a.eval o).run P w) := by
  unfold stepA at h
  split at h
  · rename_i x hop
    obtain ⟨r, hr, h⟩ := withA_iff h
    exact .same h (hev _ _ hr) (by simp [execOp, hop])
  · rename_i x hop
    obtain ⟨r, hr, h⟩ := withA_iff h
    exact .same h (hev _ _ hr) (by simp [execOp, hop])
  · rename_i t x y hop
    obtain ⟨c, d, hc, hd, h⟩ := pickA_sound hev hevx h
    refine .same h (.pure _ _ (.b _)) ?_
    simp [execOp, hop, hc, asBool, hd]
  · rename_i e hop
    split at h
    · rename_i ti ht
      obtain ⟨x, w', hrun, hp⟩ := allocA_sound (lk := lk) (β := β) (F := F) (w := w) (hT.get ht) h
      exact .made (by simp only [execOp, hop]; exact run_value hrun) hp
    · exact h.elim
  · rename_i e x hop
    obtain ⟨r, hr, h⟩ := withA_iff h
    obtain ⟨x, w', hrun, hp⟩ := boxA_sound (P := P) (lk := lk) (hev _ _ hr) h
    exact .made (by simp only [execOp, hop]; exact run_value hrun) hp
  · rename_i t x hop
    obtain ⟨r, hr, h⟩ := withA_iff h
    split at h
    · rename_i ti ht
      obtain ⟨x, hrun, hp⟩ := loadA_sound hgc E (hT.get ht) (hev _ _ hr) h
      exact .pure (by simp only [execOp, hop]; exact run_value hrun) hp
    · exact h.elim
  · rename_i t x y hop
    obtain ⟨r, hr, h⟩ := withA_iff h
    obtain ⟨r', hr', h⟩ := withA_iff h
    split at h
    · rename_i ti ht
      obtain ⟨w', hrun, hp⟩ := storeA_sound hgc E (hT.get ht) (hev _ _ hr) (hev _ _ hr') h
      have : (execOp a.eval o).run P w = .ok .skip w' := by
        simp only [execOp, hop, Sem.run_bind, hrun, Result.andThen_ok]
        rfl
      rw [this]
      exact .skip _ hp
    · exact h.elim
  · rename_i x hop
    obtain ⟨r, hr, h⟩ := withA_iff h
    have hv := hev _ _ hr
    unfold nilCheckA at h
    split at h
    · obtain ⟨hid, hv'⟩ := hv.p_inv
      exact .same h hv (by simp [execOp, hop, hv'])
    · obtain ⟨hid, g, o', m, c, _, hv'⟩ := hv.pe_inv
      exact .same h hv (by simp [execOp, hop, hv'])
    · have hv0 := hv.rp_inv
      have : ∃ g o, a.eval x = .pointer (some ⟨g, o, none⟩) := by
        generalize a.eval x = v at hv0
        cases hv0 with
        | rp _ g o => exact ⟨g, o, rfl⟩
      obtain ⟨g, o', hv'⟩ := this
      exact .same h hv (by simp [execOp, hop, hv'])
    · exact h.elim
  · rename_i op t x y _ hop
    obtain ⟨r, hr, h⟩ := withA_iff h
    obtain ⟨r', hr', h⟩ := withA_iff h
    obtain ⟨z, hrun, hp⟩ := binA_sound (P := P) hgc E hT x y (hev _ _ hr) (hev _ _ hr') h
    exact .pure (by simp only [execOp, hop]; exact run_value hrun) hp
  · rename_i op _ x hop
    obtain ⟨r, hr, h⟩ := withA_iff h
    obtain ⟨z, hrun, hp⟩ := unA_sound (P := P) (hev _ _ hr) h
    exact .pure (by simp only [execOp, hop]; exact run_value hrun) hp
  · rename_i s d x hop
    obtain ⟨r, hr, h⟩ := withA_iff h
    obtain ⟨z, hrun, hp⟩ := convA_sound (P := P) hT (hev _ _ hr) h
    exact .pure (by simp only [execOp, hop]; exact run_value hrun) hp
  · rename_i s x f hop
    obtain ⟨r, hr, h⟩ := withA_iff h
    obtain ⟨z, hrun, hp⟩ := fieldAddrA_sound (P := P) hT (hev _ _ hr) h
    exact .pure (by simp only [execOp, hop]; exact run_value hrun) hp
  · rename_i s x f hop
    obtain ⟨r, hr, h⟩ := withA_iff h
    obtain ⟨z, hrun, hp⟩ := fieldA_sound (P := P) hT (hev _ _ hr) h
    exact .pure (by simp only [execOp, hop]; exact run_value hrun) hp
  · rename_i t x i hop
    obtain ⟨r, hr, h⟩ := withA_iff h
    obtain ⟨r', hr', h⟩ := withA_iff h
    obtain ⟨z, hrun, hp⟩ := indexAddrA_sound (P := P) hgc E hT (hev _ _ hr) (hev _ _ hr') h
    exact .pure (by simp only [execOp, hop]; exact run_value hrun) hp
  · rename_i x j hop
    obtain ⟨r, hr, h⟩ := withA_iff h
    obtain ⟨z, hrun, hp⟩ := extractA_sound (P := P) (hev _ _ hr) h
    exact .pure (by simp only [execOp, hop]; exact run_value hrun) hp
  · rename_i f caps hop
    obtain ⟨m, h, hl, hm⟩ := evsK_iff hev h
    exact .same h (.fn f m _ hl hm) (by simp [execOp, hop, Instr.makeFunc])
  · rename_i t l c hop
    obtain ⟨r, hr, h⟩ := withA_iff h
    obtain ⟨r', hr', h⟩ := withA_iff h
    obtain ⟨x, w', hrun, hp⟩ := makeSliceA_sound (P := P) (lk := lk) hgc hT (hev _ _ hr) (hev _ _ hr') h
    exact .made (by simp only [execOp, hop]; exact run_value hrun) hp
  · rename_i t x lo hi hop
    obtain ⟨r, hr, h⟩ := withA_iff h
    obtain ⟨ml, h, hl1, hl2⟩ := evoK_iff hev h
    obtain ⟨mh, h, hh1, hh2⟩ := evoK_iff hev h
    obtain ⟨z, hrun, hp⟩ := subA_sound (P := P) hgc E hT (hev _ _ hr) hl1 hl2 hh1 hh2 h
    refine .pure (x := z) ?_ hp
    have hsl : (Instr.sliceAt t (a.eval x) (lo.map a.eval) (hi.map a.eval) none).run P w = .ok z w := by
      rw [← hrun]
      unfold subA at h
      split at h
      · rename_i ti h1
        obtain ⟨hu, _⟩ := hT.get h1
        split at h
        · rename_i e h2
          cases hd : ti.desc <;> simp [sliceD, hd] at h2
          rw [hd] at hu
          simp [Instr.sliceAt, run_underlying hu]
        · exact h.elim
      · exact h.elim
    simp only [execOp, hop]
    exact run_value hsl
  · rename_i t parts hop
    obtain ⟨m, h, hl, hm⟩ := evpK_iff hev h
    obtain ⟨z, hrun, hp⟩ := buildA_sound (P := P) (vals := ⟨parts.map fun p => (p.1, a.eval p.2)⟩) hT hl hm h
    refine .pure (x := z) ?_ hp
    simp only [execOp, hop]
    exact run_value (by simpa using hrun)
  · rename_i t n parts hop
    obtain ⟨m, h, hl, hm⟩ := evpK_iff hev h
    obtain ⟨z, w', hrun, hp⟩ := buildSliceA_sound (P := P) (lk := lk) (vals := ⟨parts.map fun p => (p.1, a.eval p.2)⟩) hT hl hm h
    refine .made (x := z) ?_ hp
    simp only [execOp, hop]
    exact run_value (by simpa using hrun)
  · rename_i f args _ hop
    obtain ⟨r, hr, h⟩ := withA_iff h
    obtain ⟨m, h, hl, hm⟩ := evsK_iff hev h
    have := callA_sound hgc E (hev _ _ hr) hl hm h
    simpa [execOp, hop, resolve] using this
  · rename_i x t hop
    obtain ⟨r, hr, h⟩ := withA_iff h
    obtain ⟨z, hrun, hp⟩ := lenA_sound (P := P) E hT o.type #[t] rfl (hev _ _ hr) h
    refine .pure (x := z) ?_ hp
    simp [execOp, hop, resolve, invoke, builtin, hrun]
  · rename_i x y ts hop
    obtain ⟨r, hr, h⟩ := withA_iff h
    obtain ⟨r', hr', h⟩ := withA_iff h
    obtain ⟨z, hrun, hp⟩ := maxA_sound (P := P) ts o.type (hev _ _ hr) (hev _ _ hr') h
    refine .pure (x := z) ?_ hp
    simp [execOp, hop, resolve, invoke, builtin, hrun]
  · rename_i x y ts hop
    obtain ⟨r, hr, h⟩ := withA_iff h
    obtain ⟨r', hr', h⟩ := withA_iff h
    obtain ⟨z, hrun, hp⟩ := minA_sound (P := P) ts o.type (hev _ _ hr) (hev _ _ hr') h
    refine .pure (x := z) ?_ hp
    simp [execOp, hop, resolve, invoke, builtin, hrun]
  · rename_i x y t t' hop
    split at h
    · rename_i ht
      have ht : t = t' := by simpa using ht
      subst ht
      obtain ⟨r, hr, h⟩ := withA_iff h
      obtain ⟨r', hr', h⟩ := withA_iff h
      obtain ⟨z, w', hrun, hp⟩ := appendA_sound (P := P) hgc E hT o.type (hev _ _ hr) (hev _ _ hr') h
      refine .made (x := z) ?_ hp
      simp [execOp, hop, resolve, invoke, builtin, hrun]
    · exact h.elim
  · rename_i t hop
    obtain ⟨x, w', hrun, hp⟩ := makeMapA_sound (P := P) (lk := lk) (β := β) (F := F) (w := w) t h
    exact .made (by simp only [execOp, hop]; exact run_value hrun) hp
  · rename_i t x i ok hop
    obtain ⟨r, hr, h⟩ := withA_iff h
    obtain ⟨r', hr', h⟩ := withA_iff h
    obtain ⟨z, hrun, hp⟩ := lookupA_sound (P := P) hgc E hT (hev _ _ hr) (hev _ _ hr') h
    exact .pure (by simp only [execOp, hop]; exact run_value hrun) hp
  · rename_i t m x y hop
    obtain ⟨r, hr, h⟩ := withA_iff h
    obtain ⟨r', hr', h⟩ := withA_iff h
    obtain ⟨r2, hr2, h⟩ := withA_iff h
    obtain ⟨w', hrun, hp⟩ := updateA_sound (P := P) hgc E hT (hev _ _ hr) (hev _ _ hr') (hev _ _ hr2) h
    have : (execOp a.eval o).run P w = .ok .skip w' := by
      simp only [execOp, hop, Sem.run_bind, hrun, Result.andThen_ok]
      rfl
    rw [this]
    exact .skip _ hp
  · rename_i t m x y hop
    obtain ⟨r, hr, h⟩ := withA_iff h
    obtain ⟨r', hr', h⟩ := withA_iff h
    obtain ⟨r2, hr2, h⟩ := withA_iff h
    obtain ⟨w', hrun, hp⟩ := updateA_sound (P := P) hgc E hT (hev _ _ hr) (hev _ _ hr') (hev _ _ hr2) h
    have : (execOp a.eval o).run P w = .ok .skip w' := by
      simp only [execOp, hop, Sem.run_bind, hrun, Result.andThen_ok]
      rfl
    rw [this]
    exact .skip _ hp
  · rename_i t x hop
    obtain ⟨r, hr, h⟩ := withA_iff h
    obtain ⟨z, w', hrun, hp⟩ := rangeA_sound (P := P) E hT (hev _ _ hr) h
    exact .made (by simp only [execOp, hop]; exact run_value hrun) hp
  · rename_i x hop
    obtain ⟨r, hr, h⟩ := withA_iff h
    obtain ⟨z, hrun, hp⟩ := entryA_sound (P := P) hgc E (hev _ _ hr) h
    exact .pure (by simp only [execOp, hop]; exact run_value hrun) hp
  · rename_i x y t t' hop
    obtain ⟨r, hr, h⟩ := withA_iff h
    obtain ⟨r', hr', h⟩ := withA_iff h
    obtain ⟨z, w', hrun, hp⟩ := deleteA_sound (P := P) hgc E hT #[t, t'] o.type rfl (hev _ _ hr) (hev _ _ hr') h
    refine .made (x := z) ?_ hp
    simp [execOp, hop, resolve, invoke, builtin, hrun]
  · rename_i x t hop
    obtain ⟨r, hr, h⟩ := withA_iff h
    obtain ⟨z, w', hrun, hp⟩ := clearA_sound (P := P) E hT #[t] o.type rfl (hev _ _ hr) h
    refine .made (x := z) ?_ hp
    simp [execOp, hop, resolve, invoke, builtin, hrun]
  · exact h.elim
end
end Go.Eng
