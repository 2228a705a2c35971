/-
  Several texts in one: Eng11, Eng11a.
-/
import Derived.Test.YtnookbebiacaeaaMg5

section
namespace Go.Eng
open Go.RowKit
def inAnyTagsK (n : Nat) : List KE → Bool
 | [] => false
 | ⟨_, g, _⟩ :: r => match inTags n g with
  | true => true
  | false => inAnyTagsK n r
def inAnyTagsOs (n : Nat) : List OE → Bool
 | [] => false
 | ⟨_, g, _⟩ :: r => match inTags n g with
  | true => true
  | false => inAnyTagsOs n r
def gcond (K : List KE) (tags : Tags) : Tags → Prop
 | [] => True
 | (t, w) :: r => match find t K with
  | some (g, .b x) => (match subTags g tags with
   | true => x = w ∧ gcond K tags r
   | false => gcond K tags r)
  | _ => gcond K tags r
def gcOf (K : List KE) : Tags → Option Prop
 | [] => none
 | p :: r => some (gcond K (p :: r) (p :: r))
def lkOf (O : List OE) (tags : Tags) (id : Nat) : Option AO :=
 match getO id O with
 | some (g, o) => (match subTags g tags with
  | true => some o
  | false => none)
 | none => none
def addOs (tg : Tags) : Nat → List AO → List OE → (List OE → Nat → Prop) → Prop
 | n, [], O, k => k O n
 | n, o :: r, O, k => addOs tg (n + 1) r (⟨n, tg, o⟩ :: O) k
def putS (N : Nat) (d : Option Nat) (tg : Tags) (r : AV) (K : List KE) (O : List OE) (nid : Nat) (k : St → Prop) : Prop :=
 match d with
 | none => k ⟨K, O, nid⟩
 | some n => (match Nat.blt n N, inTags n tg, inAnyTagsK n K, inAnyTagsOs n O with
  | true, false, false, false => k ⟨⟨n, tg, r⟩ :: K, O, nid⟩
  | _, _, _, _ => False)
def applyS (N : Nat) (d : Option Nat) (tg : Tags) (K : List KE) (O : List OE) (nid : Nat) (eff : Eff) (k : St → Prop) : Prop :=
 match eff with
 | .ext os r => addOs tg nid os O fun O' n => putS N d tg r K O' n k
 | .set i o r => (match getO i O with
  | some (g, _) => (match subTags tg g with
   | true => putS N d tg r K (⟨i, g, o⟩ :: O) nid k
   | false => False)
  | none => False)
 | .app i o r => (match getO i O with
  | some (g, _) => (match subTags tg g with
   | true => putS N d tg r K (⟨nid, tg, o⟩ :: ⟨i, g, .dead⟩ :: O) (nid + 1) k
   | false => False)
  | none => False)
def dstOf (ops : List Oper) (j : Nat) : Option Nat :=
 match ops, j with
 | [], _ => none
 | o :: _, 0 => o.dst
 | _ :: r, j + 1 => dstOf r j
def tagsOf (ops : List Oper) (K : List KE) : Option (Nat × Bool) → Option Tags
 | none => some []
 | some (j, w) => (match dstOf ops j with
  | some d => (match find d K with
   | some (g, .b _) => some ((d, w) :: g)
   | _ => none)
  | none => none)
def stepS (P : Program) (T : List (Nat × TI)) (N : Nat) (ops : List Oper) (o : Oper) (st : St) (k : St → Prop) : Prop :=
 match st with
 | ⟨K, O, nid⟩ => (match tagsOf ops K o.guard with
  | none => False
  | some tg => stepA P T (gcOf K tg) (evalO K tg) (fun t b x => evalO K ((t, b) :: tg) x) (lkOf O tg) nid o.op fun eff => applyS N o.dst tg K O nid eff k)
def cleanK : List KE → (List KE → Prop) → Prop
 | [], k => k []
 | ⟨s, [], a⟩ :: r, k => cleanK r fun l => k (⟨s, [], a⟩ :: l)
 | ⟨s, _ :: _, _⟩ :: r, k => cleanK r fun l => k (⟨s, [], .u⟩ :: l)
def cleanO : List OE → (List OE → Prop) → Prop
 | [], k => k []
 | ⟨i, [], o⟩ :: r, k => cleanO r fun l => k (⟨i, [], o⟩ :: l)
 | ⟨i, _ :: _, _⟩ :: r, k => cleanO r fun l => k (⟨i, [], .dead⟩ :: l)
structure Cx where
 al : Nat → Prop
 m : Nat
 β0 : Bd
structure Agr (C : Cx) (β : Bd) (n : Nat) : Prop where
 ag : agree C.m C.β0 β
 le : C.m ≤ n
theorem Agr.of {C : Cx} {β β' : Bd} {n n' : Nat} (h : Agr C β n) (ha : agree n β β') (hn : n ≤ n') : Agr C β' n' :=
 ⟨fun id hid => ⟨(ha id (Nat.lt_of_lt_of_le hid h.le)).1.trans (h.ag id hid).1, (ha id (Nat.lt_of_lt_of_le hid h.le)).2.trans (h.ag id hid).2⟩, Nat.le_trans h.le hn⟩
theorem Agr.more {C : Cx} {β : Bd} {n n' : Nat} (h : Agr C β n) (hn : n ≤ n') : Agr C β n' := ⟨h.ag, Nat.le_trans h.le hn⟩
theorem EffPost.agr {β β' : Bd} {nid : Nat} {F : Nat → Prop} {lk : Nat → Option AO} {w w' : World} {v : Value} {eff : Eff} (h : EffPost β β' nid F lk w w' v eff) : agree nid β β' := by
 cases eff with
 | ext os r => exact h.2.1
 | set i o r => obtain ⟨rfl, _⟩ := h; exact fun _ _ => ⟨rfl, rfl⟩
 | app i o r => exact h.1
theorem le_effN (nid : Nat) (eff : Eff) : nid ≤ effN nid eff := by cases eff <;> simp [effN]
def Sim (C : Cx) (G : Nat → Prop) (w0 : World) (N : Nat) (st : St) (a : Act) (w : World) : Prop := ∃ β, SimF C.al G w0 N (fun s => find s st.K) (fun id => getO id st.O) st.nid β a w ∧ Agr C β st.nid
section
variable {C : Cx} {G : Nat → Prop} {P : Program} {T : List (Nat × TI)} {w0 w : World} {N : Nat} {a : Act}
theorem addOs_iff {tg : Tags} : ∀ {os : List AO} {n : Nat} {O : List OE} {k : List OE → Nat → Prop}, addOs tg n os O k →
  ∃ O', k O' (n + os.length) ∧ (∀ id, (∀ i g o, getO i O = some (g, o) → i < n) → getO id O' = if n ≤ id then (os[id - n]?).map fun o => (tg, o) else getO id O)
 | [], n, O, k, h => ⟨O, h, fun id hb => by
   by_cases hn : n ≤ id
   ·rw [if_pos hn]
    cases ho : getO id O with
    | none => simp
    | some p => have := hb id p.1 p.2 ho; omega
   ·rw [if_neg hn]⟩
 | o :: r, n, O, k, h => by
  obtain ⟨O', hk, hO⟩ := addOs_iff (os := r) h
  refine ⟨O', by simpa [Nat.add_assoc, Nat.add_comm 1] using hk, fun id hb => ?_⟩
  rw [hO id (fun i g o' hi => by
   unfold getO at hi
   split at hi
   ·rename_i hb'
    have : n = i := by simpa using hb'
    omega
   ·have := hb i g o' hi; omega)]
  by_cases h1 : n + 1 ≤ id
  ·rw [if_pos h1, if_pos (by omega)]
   have e : id - n = (id - (n + 1)) + 1 := by omega
   rw [e, List.getElem?_cons_succ]
  ·rw [if_neg h1]
   by_cases h2 : n ≤ id
   ·have e : id = n := by omega
    subst e
    simp [getO]
   ·rw [if_neg h2]
    have : Nat.beq n id = false := by
     cases hb' : Nat.beq n id
     ·rfl
     ·have : n = id := by simpa using hb'
      omega
    simp [getO, this]
theorem inAnyTagsK_false {n : Nat} : ∀ {K : List KE}, inAnyTagsK n K = false → ∀ s g av, find s K = some (g, av) → inTags n g = false
 | [], _, s, g, av, h => by simp [find] at h
 | ⟨t, g', a'⟩ :: r, hK, s, g, av, h => by
  unfold inAnyTagsK at hK
  split at hK
  ·cases hK
  ·rename_i hg
   unfold find at h
   split at h
   ·simp only [Option.some.injEq, Prod.mk.injEq] at h
    rw [← h.1]
    exact hg
   ·exact inAnyTagsK_false hK s g av h
theorem inAnyTagsOs_false {n : Nat} : ∀ {O : List OE}, inAnyTagsOs n O = false → ∀ s g o, getO s O = some (g, o) → inTags n g = false
 | [], _, s, g, av, h => by simp [getO] at h
 | ⟨t, g', a'⟩ :: r, hK, s, g, av, h => by
  unfold inAnyTagsOs at hK
  split at hK
  ·cases hK
  ·rename_i hg
   unfold getO at h
   split at h
   ·simp only [Option.some.injEq, Prod.mk.injEq] at h
    rw [← h.1]
    exact hg
   ·exact inAnyTagsOs_false hK s g av h
theorem putS_iff {d : Option Nat} {tg : Tags} {r : AV} {K : List KE} {O : List OE} {nid : Nat} {k : St → Prop} (h : putS N d tg r K O nid k) :
  ∃ K', k ⟨K', O, nid⟩ ∧ (fun s => find s K') = (fun s => if d = some s then some (tg, r) else find s K) ∧
   ∀ n, d = some n → n < N ∧ inTags n tg = false ∧ (∀ s g av, find s K = some (g, av) → inTags n g = false) ∧ (∀ id g o, getO id O = some (g, o) → inTags n g = false) := by
 unfold putS at h
 split at h
 ·exact ⟨K, h, by funext s; simp, fun n hn => by cases hn⟩
 ·rename_i n
  split at h
  ·rename_i h1 h2 h3 h4
   refine ⟨_, h, ?_, fun m hm => ?_⟩
   ·funext s
    simp only [find, Option.some.injEq]
    by_cases hs : n = s
    ·subst hs
     simp
    ·have : Nat.beq n s = false := by
      cases hb' : Nat.beq n s
      ·rfl
      ·exact absurd (by simpa using hb') hs
     simp [this, hs]
   ·simp only [Option.some.injEq] at hm
    subst hm
    exact ⟨by simpa using h1, h2, inAnyTagsK_false h3, inAnyTagsOs_false h4⟩
  ·exact h.elim
theorem getO_cons {i id : Nat} {g : Tags} {o : AO} {O : List OE} : getO id (⟨i, g, o⟩ :: O) = if id = i then some (g, o) else getO id O := by
 by_cases h : id = i
 ·subst h; simp [getO]
 ·have : Nat.beq i id = false := by
   cases hb' : Nat.beq i id
   ·rfl
   ·exact absurd (by simpa using hb' : i = id).symm h
  simp [getO, this, h]
theorem applyS_iff {d : Option Nat} {tg : Tags} {K : List KE} {O : List OE} {nid : Nat} {eff : Eff} {k : St → Prop} (hb : ∀ id g o, getO id O = some (g, o) → id < nid) (h : applyS N d tg K O nid eff k) :
  ∃ st', k st' ∧ effFit tg (fun id => getO id O) eff ∧ (fun id => getO id st'.O) = effO tg nid (fun id => getO id O) eff ∧ st'.nid = effN nid eff ∧
   (fun s => find s st'.K) = (fun s => if d = some s then some (tg, effR eff) else find s K) ∧
   ∀ n, d = some n → n < N ∧ inTags n tg = false ∧ (∀ s g av, find s K = some (g, av) → inTags n g = false) ∧ (∀ id g o, effO tg nid (fun id => getO id O) eff id = some (g, o) → inTags n g = false) := by
 unfold applyS at h
 split at h
 ·rename_i os r
  obtain ⟨O', h, hO⟩ := addOs_iff h
  obtain ⟨K', h, hK, hd⟩ := putS_iff h
  have e : (fun id => getO id O') = effO tg nid (fun id => getO id O) (.ext os r) := funext fun id => hO id hb
  refine ⟨_, h, trivial, e, rfl, hK, fun n hn => ?_⟩
  have := hd n hn
  exact ⟨this.1, this.2.1, this.2.2.1, fun id g o ho => this.2.2.2 id g o (by rw [← e] at ho; exact ho)⟩
 ·rename_i i o r
  split at h
  ·rename_i g o0 hg
   split at h
   ·rename_i hs
    obtain ⟨K', h, hK, hd⟩ := putS_iff h
    have e : (fun id => getO id (⟨i, g, o⟩ :: O)) = effO tg nid (fun id => getO id O) (.set i o r) := funext fun id => by
     rw [getO_cons]
     by_cases hid : id = i
     ·simp [effO, hid, hg]
     ·simp [effO, hid]
    refine ⟨_, h, fun g' o' h' => by dsimp only at h'; rw [hg] at h'; simp at h'; rw [← h'.1]; exact hs, e, rfl, hK, fun n hn => ?_⟩
    have := hd n hn
    exact ⟨this.1, this.2.1, this.2.2.1, fun id g o ho => this.2.2.2 id g o (by rw [← e] at ho; exact ho)⟩
   ·exact h.elim
  ·exact h.elim
 ·rename_i i o r
  split at h
  ·rename_i g o0 hg
   split at h
   ·rename_i hs
    obtain ⟨K', h, hK, hd⟩ := putS_iff h
    have e : (fun id => getO id (⟨nid, tg, o⟩ :: ⟨i, g, .dead⟩ :: O)) = effO tg nid (fun id => getO id O) (.app i o r) := funext fun id => by
     rw [getO_cons, getO_cons]
     by_cases hn : id = nid
     ·simp [effO, hn]
     ·by_cases hid : id = i
      ·simp [effO, hid, hg]
      ·simp [effO, hn, hid]
    refine ⟨_, h, fun g' o' h' => by dsimp only at h'; rw [hg] at h'; simp at h'; rw [← h'.1]; exact hs, e, rfl, hK, fun n hn => ?_⟩
    have := hd n hn
    exact ⟨this.1, this.2.1, this.2.2.1, fun id g o ho => this.2.2.2 id g o (by rw [← e] at ho; exact ho)⟩
   ·exact h.elim
  ·exact h.elim
theorem gcond_sound {K : List KE} {O : OF} {nid : Nat} {β : Bd} (S : SimF C.al G w0 N (fun s => find s K) O nid β a w) {tags : Tags} (hs : sat tags a) : ∀ l : Tags, (∀ p ∈ l, p ∈ tags) → gcond K tags l
 | [], _ => trivial
 | (t, b) :: r, hl => by
  have ih := gcond_sound S hs r (fun p hp => hl p (List.mem_cons_of_mem _ hp))
  unfold gcond
  split
  ·rename_i g x hf
   split
   ·rename_i hsub
    have hv := ((S.kf t g _ hf).1 (subTags_sat hsub hs)).b_inv
    have := hs (t, b) (hl _ (by simp))
    rw [hv] at this
    exact ⟨by simpa using this, ih⟩
   ·exact ih
  ·exact ih
theorem evalO_sound {K : List KE} {O : OF} {nid : Nat} {β : Bd} (S : SimF C.al G w0 N (fun s => find s K) O nid β a w) {tags : Tags} (hs : sat tags a) (x : Operand) (r : AV) (h : evalO K tags x = some r) :
  Rep β nid (FO G O β a) w r (a.eval x) := by
 unfold evalO at h
 split at h
 ·rename_i t
  split at h
  ·rename_i g av hf
   split at h
   ·rename_i hsub
    obtain rfl := Option.some.inj h
    exact (S.kf t g _ hf).1 (subTags_sat hsub hs)
   ·cases h
  ·cases h
 ·obtain rfl := Option.some.inj h
  exact .pure _ _ (rep_avOf _)
 ·rename_i f
  obtain rfl := Option.some.inj h
  exact .pure _ _ (.fn f [] [] rfl (fun j h1 => by simp at h1))
 ·cases h
theorem dstOf_eq : ∀ (ops : List Oper) (j : Nat), dstOf ops j = (ops[j]?).bind (·.dst)
 | [], j => by simp [dstOf]
 | o :: _, 0 => by simp [dstOf]
 | _ :: r, j + 1 => by simp [dstOf, dstOf_eq r j]
theorem wanted_iff {ops : List Oper} {K : List KE} {O : OF} {nid : Nat} {β : Bd} (S : SimF C.al G w0 N (fun s => find s K) O nid β a w) {o : Oper} {tg : Tags} (h : tagsOf ops K o.guard = some tg) :
  Region.wanted o (yielded ops.toArray a.tmps) = true ↔ sat tg a := by
 unfold tagsOf at h
 split at h
 ·rename_i hg
  obtain rfl := Option.some.inj h
  simp [Region.wanted, hg, sat_nil]
 ·rename_i j b hg
  split at h
  ·rename_i d hd
   split at h
   ·rename_i g x hf
    obtain rfl := Option.some.inj h
    rw [dstOf_eq] at hd
    have hk := S.kf d g _ hf
    have hslot : yielded ops.toArray a.tmps j = match a.tmps[d]? with | some (.bool b) => some b | _ => none := by
     have : ((ops.toArray[j]?).bind (·.dst)) = some d := by simpa using hd
     unfold yielded
     rw [this]
     rfl
    have hget : ∀ v, a.tmps.getD d undef = v → v ≠ undef → a.tmps[d]? = some v := by
     intro v hv hne
     rw [Array.getD_eq_getD_getElem?] at hv
     cases hq : a.tmps[d]? with
     | none => rw [hq] at hv; exact absurd hv.symm hne
     | some u => rw [hq] at hv; rw [← hv]; rfl
    have hget' : ∀ u, a.tmps[d]? = some u → a.tmps.getD d undef = u := by
     intro u hu
     rw [Array.getD_eq_getD_getElem?, hu]
     rfl
    by_cases hs : sat g a
    ·have hv := (hk.1 hs).b_inv
     have hv' := hget _ hv (by simp [undef])
     rw [hv'] at hslot
     simp only [Region.wanted, hg, hslot]
     constructor
     ·intro he p hp
      rcases List.mem_cons.1 hp with rfl | hp
      ·rw [hv]
       simpa using he
      ·exact hs p hp
     ·intro hsat
      have := hsat (d, b) (by simp)
      rw [hv] at this
      simpa using this
    ·have hv := hk.2 hs
     constructor
     ·intro he
      exfalso
      simp only [Region.wanted, hg, hslot] at he
      cases hq : a.tmps[d]? with
      | none => rw [hq] at he; simp at he
      | some u =>
       have := hget' u hq
       rw [hv] at this
       rw [hq, ← this] at he
       simp [undef] at he
     ·intro hsat
      exact (hs (fun p hp => hsat p (List.mem_cons_of_mem _ hp))).elim
   ·cases h
  ·cases h
theorem lkOf_sound {O : List OE} {tags : Tags} (hs : sat tags a) (id : Nat) (o : AO) (h : lkOf O tags id = some o) : ∃ g, getO id O = some (g, o) ∧ sat g a := by
 unfold lkOf at h
 split at h
 ·rename_i g o' hg
  split at h
  ·rename_i hsub
   obtain rfl := Option.some.inj h
   exact ⟨g, hg, subTags_sat hsub hs⟩
  ·cases h
 ·cases h
theorem gcOf_sound {K : List KE} {O : OF} {nid : Nat} {β : Bd} (S : SimF C.al G w0 N (fun s => find s K) O nid β a w) {tags : Tags} (hs : sat tags a) (c : Prop) (h : gcOf K tags = some c) : c := by
 cases tags with
 | nil => cases h
 | cons p r =>
  obtain rfl := Option.some.inj h
  exact gcond_sound S hs _ (fun p hp => hp)
theorem stepS_sound (hT : TabOk P T) {ops : List Oper} {o : Oper} {st : St} {k : St → Prop} {Q : Exit → Act → World → Prop} {next : Act → World → Prop}
  (hn : ∀ st' a' w', k st' → Sim C G w0 N st' a' w' → next a' w') (S : Sim C G w0 N st a w) (h : stepS P T N ops o st k) :
  if Region.wanted o (yielded ops.toArray a.tmps) then o.wp P a w next Q else next (a.put o.dst undef) w := by
 obtain ⟨K, O, nid⟩ := st
 obtain ⟨β, S, hag⟩ := S
 dsimp only at S
 have hids : ∀ id g o, getO id O = some (g, o) → id < nid := fun id g o h => (S.of id g o h).1
 unfold stepS at h
 dsimp only at h
 split at h
 ·exact h.elim
 ·rename_i tg htg
  have hw := wanted_iff S htg
  by_cases hs : sat tg a
  ·rw [if_pos (hw.2 hs)]
   have hlk := lkOf_sound (O := O) hs
   have hout := stepA_sound hT (gcOf_sound S hs) (S.env hlk) (fun x r hx => evalO_sound S hs x r hx)
    (fun t b x r hx hv => evalO_sound S (tags := (t, b) :: tg) (fun p hp => by
     rcases List.mem_cons.1 hp with rfl | hp
     ·exact hv
     ·exact hs p hp) x r hx) h
   refine hout.upon ?_
   rintro v w' ⟨eff, β', hk, hpost⟩
   obtain ⟨st', hk, hfit, hO, hnid, hK, hd⟩ := applyS_iff hids hk
   obtain ⟨S', hr⟩ := S.eff hlk hs hfit hpost
   refine hn st' _ w' hk ⟨β', ?_, by rw [hnid]; exact hag.of hpost.agr (le_effN _ _)⟩
   rw [hK, hO, hnid]
   exact S'.put o.dst tg _ v hd (fun _ => hr) (fun hns => (hns hs).elim)
  ·rw [if_neg (fun hwt => hs (hw.1 hwt))]
   obtain ⟨eff, hk⟩ := stepA_ex h
   obtain ⟨st', hk, hfit, hO, hnid, hK, hd⟩ := applyS_iff hids hk
   have S' := S.passed hs hfit
   refine hn st' _ w hk ⟨β, ?_, by rw [hnid]; exact hag.more (le_effN _ _)⟩
   rw [hK, hO, hnid]
   exact S'.put o.dst tg _ undef hd (fun hs' => (hs hs').elim) (fun _ => rfl)
theorem cleanK_iff : ∀ {K : List KE} {k : List KE → Prop}, cleanK K k → ∃ K', k K' ∧ ∀ s, find s K' = (find s K).map fun p => ([], match p.1 with | [] => p.2 | _ :: _ => .u)
 | [], k, h => ⟨[], h, fun s => by simp [find]⟩
 | ⟨t, [], av⟩ :: r, k, h => by
  obtain ⟨K', h, hK⟩ := cleanK_iff (K := r) h
  refine ⟨_, h, fun s => ?_⟩
  simp only [find]
  split
  ·rfl
  ·exact hK s
 | ⟨t, _ :: _, av⟩ :: r, k, h => by
  obtain ⟨K', h, hK⟩ := cleanK_iff (K := r) h
  refine ⟨_, h, fun s => ?_⟩
  simp only [find]
  split
  ·rfl
  ·exact hK s
theorem cleanO_iff : ∀ {O : List OE} {k : List OE → Prop}, cleanO O k → ∃ O', k O' ∧ ∀ s, getO s O' = (getO s O).map fun p => ([], match p.1 with | [] => p.2 | _ :: _ => .dead)
 | [], k, h => ⟨[], h, fun s => by simp [getO]⟩
 | ⟨t, [], av⟩ :: r, k, h => by
  obtain ⟨K', h, hK⟩ := cleanO_iff (O := r) h
  refine ⟨_, h, fun s => ?_⟩
  simp only [getO]
  split
  ·rfl
  ·exact hK s
 | ⟨t, _ :: _, av⟩ :: r, k, h => by
  obtain ⟨K', h, hK⟩ := cleanO_iff (O := r) h
  refine ⟨_, h, fun s => ?_⟩
  simp only [getO]
  split
  ·rfl
  ·exact hK s
def cleanS (st : St) (k : St → Prop) : Prop :=
 match st with
 | ⟨K, O, nid⟩ => cleanK K fun K' => cleanO O fun O' => k ⟨K', O', nid⟩
theorem cleanS_iff {st : St} {k : St → Prop} (h : cleanS st k) (S : Sim C G w0 N st a w) : ∃ st', k st' ∧ Sim C G w0 N st' a w := by
 obtain ⟨K0, O0, nid⟩ := st
 obtain ⟨K, h, hK⟩ := cleanK_iff h
 obtain ⟨O, h, hO⟩ := cleanO_iff h
 obtain ⟨β, S, hag⟩ := S
 dsimp only at S
 refine ⟨_, h, β, ?_, hag⟩
 have key : ∀ id g o, getO id O = some (g, o) → g = [] ∧ ((∃ g', getO id O0 = some (g', o) ∧ sat g' a) ∨ o = .dead) ∧ id < nid := by
  intro id g o ho
  rw [hO id] at ho
  cases hq : getO id O0 with
  | none => rw [hq] at ho; cases ho
  | some p =>
   rw [hq] at ho
   simp at ho
   obtain ⟨rfl, h2⟩ := ho
   refine ⟨rfl, ?_, (S.of id p.1 p.2 hq).1⟩
   obtain ⟨g', o'⟩ := p
   cases g' with
   | nil => simp at h2; subst h2; exact .inl ⟨[], rfl, sat_nil a⟩
   | cons => simp at h2; exact .inr h2.symm
 have hsub : ∀ b, FO G (fun id => getO id O) β a b → FO G (fun id => getO id O0) β a b := by
  rintro b (hg | ⟨id, g, o, ho, hs, hb⟩)
  ·exact .inl hg
  obtain ⟨_, h | h, _⟩ := key id g o ho
  ·obtain ⟨g', h1, h2⟩ := h
   exact .inr ⟨id, g', o, h1, h2, hb⟩
  ·subst h; cases hb
 have hallow : ∀ id g o b, getO id O = some (g, o) → sat g a → ownB β id o b → C.al b ∨ w0.heap.size ≤ b := by
  intro id g o b ho hs hb
  obtain ⟨_, h | h, _⟩ := key id g o ho
  ·obtain ⟨g', h1, h2⟩ := h
   exact S.allow id g' o b h1 h2 hb
  ·subst h; cases hb
 refine ⟨S.gold, S.below, S.tsz, S.dfs, ?_, ?_, hallow, ?_⟩
 ·intro s g av hk
  dsimp only at hk
  rw [hK s] at hk
  cases hq : find s K0 with
  | none => rw [hq] at hk; cases hk
  | some p =>
   rw [hq] at hk
   simp at hk
   obtain ⟨rfl, h2⟩ := hk
   refine ⟨fun _ => ?_, fun hn => (hn (sat_nil a)).elim⟩
   obtain ⟨g', av'⟩ := p
   cases g' with
   | nil =>
    simp at h2
    subst h2
    exact ((S.kf s [] _ hq).1 (sat_nil a)).stable (fun b _ hn hf => hn (hsub b hf)) (fun _ _ _ => rfl) (Nat.le_refl _)
   | cons => simp at h2; subst h2; exact .pure _ _ (.u _)
 ·intro id g o ho
  obtain ⟨rfl, h, hid⟩ := key id g o ho
  refine ⟨hid, fun _ => ?_⟩
  rcases h with ⟨g', h1, h2⟩ | rfl
  ·exact ((S.of id g' o h1).2 h2).stable hid (Nat.le_refl _) (fun _ _ => ⟨rfl, rfl⟩) (fun b _ hn hf => hn (hsub b hf)) (fun _ _ _ => rfl) (Nat.le_refl _) (fun _ _ => rfl)
  ·trivial
 ·intro id id' g g' o o' b ho ho' hs hs' hb hb'
  obtain ⟨_, h, _⟩ := key id g o ho
  obtain ⟨_, h', _⟩ := key id' g' o' ho'
  rcases h with ⟨p, h1, h2⟩ | rfl
  ·rcases h' with ⟨p', h1', h2'⟩ | rfl
   ·exact S.dist id id' p p' o o' b h1 h1' h2 h2' hb hb'
   ·cases hb'
  ·cases hb
def AVsEq : List AV → List AV → Prop
 | [], [] => True
 | [x], [y] => AVEq x y
 | x :: r, y :: t => AVEq x y ∧ AVsEq r t
 | _, _ => False
theorem AVsEq.get : ∀ {l m : List AV}, AVsEq l m → l.length = m.length ∧ ∀ (j : Nat) (h1 : j < l.length) (h2 : j < m.length), AVEq l[j] m[j]
 | [], [], _ => ⟨rfl, fun j h1 => by simp at h1⟩
 | [], _ :: _, h => by simp [AVsEq] at h
 | _ :: _, [], h => by simp [AVsEq] at h
 | [x], [y], h => ⟨rfl, fun j h1 h2 => by
   have : j = 0 := by simpa using h1
   subst this
   exact h⟩
 | [x], y :: z :: t, h => by simp [AVsEq] at h
 | x :: z :: r, [y], h => by simp [AVsEq] at h
 | x :: z :: r, y :: z' :: t, h => by
  obtain ⟨h1, h2⟩ := AVsEq.get h.2
  refine ⟨by simpa using h1, fun j hj1 hj2 => ?_⟩
  cases j with
  | zero => exact h.1
  | succ j => exact h2 j (by simpa using hj1) (by simpa using hj2)
theorem AVsEq.refl : ∀ l : List AV, AVsEq l l
 | [] => trivial
 | [x] => AVEq.refl x
 | x :: y :: r => ⟨AVEq.refl x, AVsEq.refl (y :: r)⟩
def KDEq : KD → KD → Prop
 | .row e sz n g, b => (match b with
  | .row e' sz' n' g' => e' = e ∧ sz' = sz ∧ n' = n ∧ ∀ k, k < n → g' k = g k
  | _ => False)
 | .cells e cs, b => (match b with
  | .cells e' cs' => e' = e ∧ cs' = cs
  | _ => False)
theorem KDEq.refl (x : KD) : KDEq x x := by
 cases x <;> simp [KDEq]
theorem KDEq.ok {F : Nat → Prop} {w : World} {v : Value} {x y : KD} (h : KDEq x y) (hr : KidOk F w v x) : KidOk F w v y := by
 cases x with
 | row e sz m g =>
  cases y <;> simp only [KDEq] at h <;> first | exact h.elim | skip
  obtain ⟨rfl, rfl, rfl, hg⟩ := h
  obtain ⟨xs, hx, hlen, hc⟩ := hr
  refine ⟨xs, hx, fun k hk => by rw [hg k hk]; exact hlen k hk, fun k j hk h1 h2 => ?_⟩
  have := hc k j hk (by rw [← hg k hk]; exact h1) h2
  simpa only [hg k hk] using this
 | cells e cs =>
  cases y <;> simp only [KDEq] at h <;> first | exact h.elim | skip
  obtain ⟨rfl, rfl⟩ := h
  exact hr
theorem KDEq.ref {β : Bd} {h0 : Nat} {x y : KD} (h : KDEq x y) : kidRef β x h0 = kidRef β y h0 := by
 cases x <;> cases y <;> simp only [KDEq] at h <;> first | exact h.elim | rfl
def AOEq : AO → AO → Prop
 | .row e sz n g, b => (match b with
  | .row e' sz' n' g' => e' = e ∧ sz' = sz ∧ n' = n ∧ ∀ k, k < n → g' k = g k
  | _ => False)
 | .cells e cs, b => (match b with
  | .cells e' cs' => e' = e ∧ AVsEq cs cs'
  | _ => False)
 | .mp n key val born clock, b => (match b with
  | .mp n' key' val' born' clock' => n' = n ∧ clock' = clock ∧ ∀ k, k < n → key' k = key k ∧ val' k = val k ∧ born' k = born k
  | _ => False)
 | .it mid since seen, b => (match b with
  | .it mid' since' seen' => mid' = mid ∧ since' = since ∧ seen' = seen
  | _ => False)
 | .ir n key val seen last, b => (match b with
  | .ir n' key' val' seen' last' => n' = n ∧ last' = last ∧ ∀ k, k < n → key' k = key k ∧ val' k = val k ∧ seen' k = seen k
  | _ => False)
 | .mr n key kid born clock aux hole, b => (match b with
  | .mr n' key' kid' born' clock' aux' hole' => n' = n ∧ clock' = clock ∧ aux' = aux ∧ hole' = hole ∧ ∀ k, k < n → key' k = key k ∧ KDEq (kid' k) (kid k) ∧ born' k = born k
  | _ => False)
 | .dead, _ => True
theorem AOEq.refl (x : AO) : AOEq x x := by
 cases x <;> simp [AOEq, AVsEq.refl, KDEq.refl]
theorem AOEq.ok {β : Bd} {n : Nat} {F : Nat → Prop} {id : Nat} {x y : AO} (h : AOEq x y) (hr : ObjOk β n F w id y) : ObjOk β n F w id x := by
 cases x with
 | row e sz m g =>
  cases y <;> simp only [AOEq] at h <;> first | exact h.elim | skip
  obtain ⟨rfl, rfl, rfl, hg⟩ := h
  obtain ⟨xs, hx, hlen, hc⟩ := hr
  refine ⟨xs, hx, fun k hk => by rw [← hg k hk]; exact hlen k hk, fun k j hk h1 h2 => ?_⟩
  have := hc k j hk (by rw [hg k hk]; exact h1) h2
  simpa only [hg k hk] using this
 | cells e cs =>
  cases y <;> simp only [AOEq] at h <;> first | exact h.elim | skip
  obtain ⟨rfl, hcs⟩ := h
  obtain ⟨vs, hh, hl, hc⟩ := hr
  obtain ⟨hl', hg⟩ := hcs.get
  exact ⟨vs, hh, hl'.trans hl, fun j h1 h2 => ⟨(hg j h1 (by omega)).rep (hc j (by omega) h2).1, (hc j (by omega) h2).2⟩⟩
 | mp m key val born clock =>
  cases y <;> simp only [AOEq] at h <;> first | exact h.elim | skip
  obtain ⟨rfl, rfl, hg⟩ := h
  obtain ⟨es, hh, hm, ho, hc⟩ := hr
  refine ⟨es, hh, hm, ho, fun i h1 h2 => ?_⟩
  obtain ⟨e1, e2, e3⟩ := hg i h1
  rw [← e1, ← e2, ← e3]
  exact hc i h1 h2
 | it mid since seen =>
  cases y <;> simp only [AOEq] at h <;> first | exact h.elim | skip
  obtain ⟨rfl, rfl, rfl⟩ := h
  exact hr
 | ir m key val seen last =>
  cases y <;> simp only [AOEq] at h <;> first | exact h.elim | skip
  obtain ⟨rfl, rfl, hg⟩ := h
  obtain ⟨g, es, clock, sn, hh, hm, ho, hg0, hgg, hc, hlast⟩ := hr
  refine ⟨g, es, clock, sn, hh, hm, ho, hg0, hgg, fun i h1 h2 => ?_, hlast⟩
  obtain ⟨e1, e2, e3⟩ := hg i h1
  rw [← e1, ← e2, ← e3]
  exact hc i h1 h2
 | mr m key kid born clock aux hole =>
  cases y <;> simp only [AOEq] at h <;> first | exact h.elim | skip
  obtain ⟨rfl, rfl, rfl, rfl, hg⟩ := h
  obtain ⟨ha, hho, es, hh, hm, ho, hkey, hk, hd, hne, hr⟩ := hr
  refine ⟨ha, hho, es, hh, hm, ho, fun i hi h2 => ?_, fun i hi h2 hno => ?_, hd, hne, fun i h e h2 => ?_⟩
  ·obtain ⟨e1, _, e3⟩ := hg i hi
   rw [← e1, ← e3]
   exact hkey i hi h2
  ·obtain ⟨h3, h4⟩ := hk i hi h2 hno
   exact ⟨h3, (hg i hi).2.1.ok h4⟩
  ·refine ⟨?_, (hr i h e h2).2⟩
   rw [(hr i h e h2).1]
   exact (hg i (hho i h e).2).2.1.ref
 | dead => trivial
theorem AOEq.own {β : Bd} {id b : Nat} {x y : AO} (h : AOEq x y) (hb : ownB β id x b) : ownB β id y b := by
 cases x with
 | row e sz m g =>
  cases y <;> simp only [AOEq] at h <;> first | exact h.elim | skip
  exact hb
 | cells e cs =>
  cases y <;> simp only [AOEq] at h <;> first | exact h.elim | skip
  exact hb
 | mp m key val born clock =>
  cases y <;> simp only [AOEq] at h <;> first | exact h.elim | skip
  exact hb
 | it mid since seen =>
  cases y <;> simp only [AOEq] at h <;> first | exact h.elim | skip
  exact hb
 | ir m key val seen last =>
  cases y <;> simp only [AOEq] at h <;> first | exact h.elim | skip
  exact hb
 | mr m key kid born clock aux hole =>
  cases y <;> simp only [AOEq] at h <;> first | exact h.elim | skip
  obtain ⟨rfl, rfl, rfl, rfl, _⟩ := h
  exact hb
 | dead => cases hb
def rn : List (Nat × Nat) → Nat → Nat
 | [], i => i
 | (x, y) :: r, i => match Nat.beq x i with
  | true => y
  | false => rn r i
def KLe (ρ : List (Nat × Nat)) (m : Nat) : List KE → List KE → Prop
 | [], _ => True
 | ⟨s, g, av⟩ :: r, K' => (g = [] ∧ av.lt m = true ∧ (match find s K' with
   | some ([], av') => AVEq (av.ren (rn ρ)) av'
   | _ => False)) ∧ KLe ρ m r K'
def OLe (ρ : List (Nat × Nat)) (m : Nat) : List OE → List OE → Prop
 | [], _ => True
 | ⟨i, g, o⟩ :: r, O' => (g = [] ∧ Nat.blt i m = true ∧ (match o with
   | .cells _ cs => AV.lts m cs = true
   | .it mid _ _ => Nat.blt mid m = true
   | .mr _ _ _ _ _ aux none => Nat.blt aux m = true
   | .mr _ _ _ _ _ aux (some (_, h)) => Nat.blt aux m = true ∧ Nat.blt h m = true
   | _ => True) ∧ (match o, getO (rn ρ i) O' with
   | .dead, _ => True
   | o, some ([], o') => AOEq (o.ren (rn ρ)) o'
   | _, _ => False)) ∧ OLe ρ m r O'
def notIn (ρ : List (Nat × Nat)) (i : Nat) : List OE → Bool
 | [] => true
 | e :: r => match Nat.beq (rn ρ e.id) (rn ρ i) with
  | true => false
  | false => notIn ρ i r
def inj (ρ : List (Nat × Nat)) : List OE → Bool
 | [] => true
 | e :: r => match notIn ρ e.id r with
  | true => inj ρ r
  | false => false
def idm (m : Nat) : List (Nat × Nat) → Bool
 | [] => true
 | (x, y) :: r => match Nat.ble m x, Nat.beq x y with
  | false, false => false
  | _, _ => idm m r
theorem idm_rn {m : Nat} : ∀ {ρ : List (Nat × Nat)}, idm m ρ = true → ∀ i, i < m → rn ρ i = i
 | [], _, i, _ => rfl
 | (x, y) :: r, h, i, hi => by
  unfold idm at h
  unfold rn
  split
  ·rename_i hb
   have hb : x = i := by simpa using hb
   subst hb
   split at h
   ·cases h
   ·rename_i h1 h2 hn
    cases hy : Nat.beq x y
    ·have : Nat.ble m x = false := by
      cases hm : Nat.ble m x
      ·rfl
      ·simp at hm; omega
     exact (hn this hy).elim
    ·simpa using (show x = y by simpa using hy).symm
  ·split at h
   ·cases h
   ·exact idm_rn h i hi
def injm (m : Nat) (ρ : List (Nat × Nat)) (O : List OE) : Bool :=
 match idm m ρ with
 | true => inj ρ O
 | false => false
theorem injm_iff {m : Nat} {ρ : List (Nat × Nat)} {O : List OE} (h : injm m ρ O = true) : idm m ρ = true ∧ inj ρ O = true := by
 unfold injm at h
 split at h
 ·rename_i hi; exact ⟨hi, h⟩
 ·cases h
def StLe (m : Nat) (ρ : List (Nat × Nat)) (x y : St) : Prop :=
 match x, y with
 | ⟨K, O, n⟩, ⟨K', O', _⟩ => KLe ρ n K K' ∧ OLe ρ n O O' ∧ injm m ρ O = true
theorem KLe.get {ρ : List (Nat × Nat)} {m : Nat} : ∀ {K K' : List KE}, KLe ρ m K K' → ∀ s g av, find s K = some (g, av) → g = [] ∧ av.lt m = true ∧ ∃ av', find s K' = some ([], av') ∧ AVEq (av.ren (rn ρ)) av'
 | [], _, _, s, g, av, h => by simp [find] at h
 | ⟨t, g', a'⟩ :: r, K', hK, s, g, av, h => by
  unfold find at h
  split at h
  ·rename_i hb
   have hb : t = s := by simpa using hb
   subst hb
   simp only [Option.some.injEq, Prod.mk.injEq] at h
   obtain ⟨rfl, rfl⟩ := h
   obtain ⟨⟨h1, h2, h3⟩, _⟩ := hK
   refine ⟨h1, h2, ?_⟩
   split at h3
   ·rename_i av' hf
    exact ⟨av', hf, h3⟩
   ·exact h3.elim
  ·exact KLe.get hK.2 s g av h
theorem OLe.get {ρ : List (Nat × Nat)} {m : Nat} : ∀ {O O' : List OE}, OLe ρ m O O' → ∀ i g o, getO i O = some (g, o) → g = [] ∧ i < m ∧ ((∀ e cs, o = .cells e cs → AV.lts m cs = true) ∧ (∀ x y z, o = .it x y z → x < m) ∧ ∀ n ks kd b c x hl, o = .mr n ks kd b c x hl → x < m ∧ ∀ i h, hl = some (i, h) → h < m) ∧ (o = .dead ∨ ∃ o', getO (rn ρ i) O' = some ([], o') ∧ AOEq (o.ren (rn ρ)) o')
 | [], _, _, i, g, o, h => by simp [getO] at h
 | ⟨t, g', o0⟩ :: r, O', hO, i, g, o, h => by
  unfold getO at h
  split at h
  ·rename_i hb
   have hb : t = i := by simpa using hb
   subst hb
   simp only [Option.some.injEq, Prod.mk.injEq] at h
   obtain ⟨rfl, rfl⟩ := h
   obtain ⟨⟨h1, h2, h3, h4⟩, _⟩ := hO
   refine ⟨h1, blt_lt h2, ⟨fun e cs he => by subst he; exact h3, fun x y z he => by subst he; exact blt_lt h3, fun n ks kd b c x hl he => by
    subst he
    cases hl with
    | none => exact ⟨blt_lt h3, fun _ _ e => by cases e⟩
    | some p => exact ⟨blt_lt h3.1, fun _ _ e => by cases e; exact blt_lt h3.2⟩⟩, ?_⟩
   split at h4
   ·exact .inl rfl
   ·rename_i o' _ hf
    exact .inr ⟨o', hf, h4⟩
   ·exact h4.elim
  ·exact OLe.get hO.2 i g o h
theorem notIn_get {ρ : List (Nat × Nat)} {i : Nat} : ∀ {O : List OE}, notIn ρ i O = true → ∀ j g o, getO j O = some (g, o) → rn ρ j ≠ rn ρ i
 | [], _, j, g, o, h => by simp [getO] at h
 | ⟨t, g', o0⟩ :: r, hn, j, g, o, h => by
  unfold notIn at hn
  split at hn
  ·cases hn
  ·rename_i hb
   unfold getO at h
   split at h
   ·rename_i hb'
    have hb' : t = j := by simpa using hb'
    subst hb'
    intro e
    dsimp only at hb
    rw [e] at hb
    simp at hb
   ·exact notIn_get hn j g o h
theorem inj_get {ρ : List (Nat × Nat)} : ∀ {O : List OE}, inj ρ O = true → ∀ i j g g' o o', getO i O = some (g, o) → getO j O = some (g', o') → rn ρ i = rn ρ j → i = j
 | [], _, i, j, g, g', o, o', h, _, _ => by simp [getO] at h
 | ⟨t, g0, o0⟩ :: r, hi, i, j, g, g', o, o', h, h', he => by
  unfold inj at hi
  split at hi
  ·rename_i hn
   dsimp only at hn
   unfold getO at h h'
   split at h <;> split at h'
   ·rename_i hb _ hb'
    have hb : t = i := by simpa using hb
    have hb' : t = j := by simpa using hb'
    omega
   ·rename_i hb _ hb'
    have hb : t = i := by simpa using hb
    subst hb
    exact absurd he.symm (notIn_get hn j g' o' h')
   ·rename_i hb _ hb'
    have hb' : t = j := by simpa using hb'
    subst hb'
    exact absurd he (notIn_get hn i g o h)
   ·exact inj_get hi i j g g' o o' h h' he
  ·cases hi
theorem Sim.le {ρ : List (Nat × Nat)} {x y : St} (h : StLe C.m ρ x y) (hm : C.m ≤ x.nid) (S : Sim C G w0 N y a w) : Sim C G w0 N x a w := by
 obtain ⟨xK, xO, xn⟩ := x
 obtain ⟨yK, yO, yn⟩ := y
 obtain ⟨hK, hO, hi⟩ := h
 obtain ⟨hidm, hi⟩ := injm_iff hi
 obtain ⟨β, S, hag⟩ := S
 dsimp only at S
 let β' : Bd := ⟨fun id => β.blk (rn ρ id), fun id => β.val (rn ρ id)⟩
 have hown : ∀ (i : Nat) (o : AO), ownB β' i o = ownB β (rn ρ i) (o.ren (rn ρ)) := fun i o => (ownB_ren (β := β') (β' := β) (j := i) (j' := rn ρ i) (o := o) (rn ρ) ⟨rfl, rfl⟩ fun _ _ => rfl).symm
 have hsub : ∀ b, FO G (fun id => getO id xO) β' a b → FO G (fun id => getO id yO) β a b := by
  rintro b (hg | ⟨id, g, o, ho, hs, hb⟩)
  ·exact .inl hg
  obtain ⟨_, _, _, h | ⟨o', h1, h2⟩⟩ := hO.get id g o ho
  ·subst h; cases hb
  ·exact .inr ⟨rn ρ id, [], o', h1, sat_nil a, h2.own (by rw [← hown]; exact hb)⟩
 have hstab : ∀ {av : AV} {v : Value}, Rep β' xn (FO G (fun id => getO id yO) β a) w av v → Rep β' xn (FO G (fun id => getO id xO) β' a) w av v := fun h =>
  h.stable (fun b _ hn hf => hn (hsub b hf)) (fun _ _ _ => rfl) (Nat.le_refl _)
 have hallow : ∀ id g o b, getO id xO = some (g, o) → sat g a → ownB β' id o b → C.al b ∨ w0.heap.size ≤ b := by
  intro id g o b ho _ hb
  obtain ⟨_, _, _, h | ⟨o', h1, h2⟩⟩ := hO.get id g o ho
  ·subst h; cases hb
  ·exact S.allow _ [] o' b h1 (sat_nil a) (h2.own (by rw [← hown]; exact hb))
 have hag' : Agr C β' xn := ⟨fun id hid => by
  simp only [β', idm_rn hidm id hid]
  exact hag.ag id hid, hm⟩
 refine ⟨β', ⟨S.gold, S.below, S.tsz, S.dfs, ?_, ?_, hallow, ?_⟩, hag'⟩
 ·intro s g av hk
  obtain ⟨rfl, hl, av', hf, he⟩ := hK.get s g av hk
  exact ⟨fun _ => hstab ((AVEq.rep he ((S.kf s [] av' hf).1 (sat_nil a))).ren' av rfl hl), fun hn => (hn (sat_nil a)).elim⟩
 ·intro id g o ho
  obtain ⟨rfl, hid, hcs, h⟩ := hO.get id g o ho
  refine ⟨hid, fun _ => ?_⟩
  rcases h with rfl | ⟨o', h1, h2⟩
  ·trivial
  ·have hobj := h2.ok ((S.of _ [] o' h1).2 (sat_nil a))
   cases o with
   | cells e cs =>
    obtain ⟨vs, hh, hl, hc⟩ := hobj
    have hl' : cs.length = vs.length := by rw [← hl, AV.length_rens]
    refine ⟨vs, hh, hl', fun j h1 h2 => ⟨?_, (hc j (by rw [AV.length_rens]; exact h1) h2).2⟩⟩
    exact hstab ((hc j (by rw [AV.length_rens]; exact h1) h2).1.ren' _ (AV.rens_get _ cs j _ h1).symm (AV.lts_get (hcs.1 e cs rfl) j h1))
   | row e sz m g =>
    obtain ⟨xs, hx, hlen, hc⟩ := hobj
    exact ⟨xs, hx, hlen, fun k j hk h1 h2 => ⟨(hc k j hk h1 h2).1.stable (fun b _ hn hf => hn (hsub b hf)) (fun _ _ _ => rfl) (Nat.le_refl _), (hc k j hk h1 h2).2⟩⟩
   | mp m key val born clock =>
    obtain ⟨es, hh, hm, ho2, hc⟩ := hobj
    exact ⟨es, hh, hm, ho2, fun i h1 h2 => ⟨(hc i h1 h2).1.stable (fun b _ hn hf => hn (hsub b hf)) (fun _ _ _ => rfl) (Nat.le_refl _), (hc i h1 h2).2.1.stable (fun b _ hn hf => hn (hsub b hf)) (fun _ _ _ => rfl) (Nat.le_refl _), (hc i h1 h2).2.2⟩⟩
   | it mid since seen =>
    obtain ⟨hm, hh⟩ := hobj
    exact ⟨hcs.2.1 _ _ _ rfl, hh⟩
   | ir m key val seen last =>
    obtain ⟨g, es, clock, sn, hh, hm, ho2, hg0, hgg, hc, hlast⟩ := hobj
    exact ⟨g, es, clock, sn, hh, hm, ho2, hg0, fun b hb => ⟨fun hf => (hgg b hb).1 (hsub b hf), (hgg b hb).2⟩,
     fun i h1 h2 => ⟨(hc i h1 h2).1.stable (fun b _ hn hf => hn (hsub b hf)) (fun _ _ _ => rfl) (Nat.le_refl _), (hc i h1 h2).2.1.stable (fun b _ hn hf => hn (hsub b hf)) (fun _ _ _ => rfl) (Nat.le_refl _), (hc i h1 h2).2.2⟩, hlast⟩
   | mr m key kid born clock aux hole =>
    obtain ⟨hax, hhm⟩ := hcs.2.2 _ _ _ _ _ _ _ rfl
    obtain ⟨hole', e1, e2, e3, e4⟩ := AO.ren_mr' (rn ρ) m key kid born clock aux hole
    rw [e1] at hobj
    obtain ⟨_, hho, es, hh, hm, ho2, hkey, hk, hd, hne, hr⟩ := hobj
    exact ⟨hax, fun i h e => ⟨hhm i h e, (hho i _ (e4 i h e)).2⟩, es, hh, hm, ho2, fun i hi h2 => ⟨(hkey i hi h2).1.stable (fun b _ hn hf => hn (hsub b hf)) (fun _ _ _ => rfl) (Nat.le_refl _), (hkey i hi h2).2⟩,
     fun i hi h2 hno => ⟨(hk i hi h2 ((e2 i).2 hno)).1, (hk i hi h2 ((e2 i).2 hno)).2.stable (fun b _ hn hf => hn (hsub b hf)) (fun _ _ _ => rfl) (Nat.le_refl _) fun _ _ => rfl⟩,
     fun i j g h1 h2 h3 h4 => hd i j g h1 h2 ((e2 i).2 h3) ((e2 j).2 h4), fun i j h1 h2 h3 => hne i j h1 h2 ((e2 i).2 h3), fun i h e h2 => by
      have := hr i _ (e4 i h e) h2
      refine ⟨?_, this.2⟩
      rw [this.1]
      cases kid i <;> rfl⟩
   | dead => trivial
 ·intro id id' g g' o o' b ho ho' _ _ hb hb'
  obtain ⟨_, _, _, h⟩ := hO.get id g o ho
  obtain ⟨_, _, _, h'⟩ := hO.get id' g' o' ho'
  rcases h with rfl | ⟨p, h1, h2⟩
  ·cases hb
  ·rcases h' with rfl | ⟨p', h1', h2'⟩
   ·cases hb'
   ·have := S.dist _ _ [] [] p p' b h1 h1' (sat_nil a) (sat_nil a) (h2.own (by rw [← hown]; exact hb)) (h2'.own (by rw [← hown]; exact hb'))
    exact inj_get hi id id' g g' o o' ho ho' this
def mem (s : Nat) : List Nat → Bool
 | [] => false
 | t :: r => match Nat.beq t s with
  | true => true
  | false => mem s r
def keptK : List Nat → List KE → List KE
 | _, [] => []
 | W, ⟨s, [], a⟩ :: r => (match mem s W with
  | true => keptK W r
  | false => ⟨s, [], a⟩ :: keptK (s :: W) r)
 | W, ⟨s, _ :: _, _⟩ :: r => keptK (s :: W) r
def keptO : List Nat → List OE → List OE
 | _, [] => []
 | W, ⟨s, [], a⟩ :: r => (match mem s W with
  | true => keptO W r
  | false => ⟨s, [], a⟩ :: keptO (s :: W) r)
 | W, ⟨s, _ :: _, _⟩ :: r => keptO (s :: W) r
def keptKK : List Nat → List KE → (List KE → Prop) → Prop
 | _, [], k => k []
 | W, ⟨s, [], a⟩ :: r, k => (match mem s W with
  | true => keptKK W r k
  | false => keptKK (s :: W) r fun l => k (⟨s, [], a⟩ :: l))
 | W, ⟨s, _ :: _, _⟩ :: r, k => keptKK (s :: W) r k
def keptOK : List Nat → List OE → (List OE → Prop) → Prop
 | _, [], k => k []
 | W, ⟨s, [], a⟩ :: r, k => (match mem s W with
  | true => keptOK W r k
  | false => keptOK (s :: W) r fun l => k (⟨s, [], a⟩ :: l))
 | W, ⟨s, _ :: _, _⟩ :: r, k => keptOK (s :: W) r k
def slotsK : List KE → List Nat
 | [] => []
 | e :: r => e.slot :: slotsK r
def idsO : List OE → List Nat
 | [] => []
 | e :: r => e.id :: idsO r
def catN : List Nat → List Nat → List Nat
 | [], m => m
 | a :: r, m => a :: catN r m
def catK : List KE → List KE → List KE
 | [], m => m
 | a :: r, m => a :: catK r m
def catO : List OE → List OE → List OE
 | [], m => m
 | a :: r, m => a :: catO r m
theorem keptKK_iff : ∀ {W : List Nat} {K : List KE} {k : List KE → Prop}, keptKK W K k → k (keptK W K)
 | _, [], _, h => h
 | W, ⟨s, [], a⟩ :: r, k, h => by
  cases hm : mem s W with
  | true =>
   have e : keptK W (⟨s, [], a⟩ :: r) = keptK W r := by simp [keptK, hm]
   have h' : keptKK W r k := by simpa [keptKK, hm] using h
   rw [e]
   exact keptKK_iff h'
  | false =>
   have e : keptK W (⟨s, [], a⟩ :: r) = ⟨s, [], a⟩ :: keptK (s :: W) r := by simp [keptK, hm]
   have h' : keptKK (s :: W) r (fun l => k (⟨s, [], a⟩ :: l)) := by simpa [keptKK, hm] using h
   rw [e]
   exact keptKK_iff (K := r) h'
 | W, ⟨s, _ :: _, _⟩ :: r, k, h => by
  unfold keptKK at h
  unfold keptK
  exact keptKK_iff h
theorem keptOK_iff : ∀ {W : List Nat} {K : List OE} {k : List OE → Prop}, keptOK W K k → k (keptO W K)
 | _, [], _, h => h
 | W, ⟨s, [], a⟩ :: r, k, h => by
  cases hm : mem s W with
  | true =>
   have e : keptO W (⟨s, [], a⟩ :: r) = keptO W r := by simp [keptO, hm]
   have h' : keptOK W r k := by simpa [keptOK, hm] using h
   rw [e]
   exact keptOK_iff h'
  | false =>
   have e : keptO W (⟨s, [], a⟩ :: r) = ⟨s, [], a⟩ :: keptO (s :: W) r := by simp [keptO, hm]
   have h' : keptOK (s :: W) r (fun l => k (⟨s, [], a⟩ :: l)) := by simpa [keptOK, hm] using h
   rw [e]
   exact keptOK_iff (K := r) h'
 | W, ⟨s, _ :: _, _⟩ :: r, k, h => by
  unfold keptOK at h
  unfold keptO
  exact keptOK_iff h
def mkS (W : List Nat) (u : List KE) (ou : List OE) (st : St) : St :=
 match st with
 | ⟨K, O, nid⟩ => ⟨catK u (keptK (catN (slotsK u) W) K), catO ou (keptO (idsO ou) O), nid⟩
def mkSK (W : List Nat) (u : List KE) (ou : List OE) (st : St) (k : St → Prop) : Prop :=
 match st with
 | ⟨K, O, nid⟩ => keptKK (catN (slotsK u) W) K fun K' => keptOK (idsO ou) O fun O' => k ⟨catK u K', catO ou O', nid⟩
theorem mkSK_iff {W : List Nat} {u : List KE} {ou : List OE} {st : St} {k : St → Prop} (h : mkSK W u ou st k) : k (mkS W u ou st) := by
 obtain ⟨K, O, nid⟩ := st
 exact keptOK_iff (keptKK_iff h)
def findsK (K' : List KE) : List KE → List (Option (List (Nat × Bool) × AV))
 | [] => []
 | e :: r => find e.slot K' :: findsK K' r
def rensK (ρ : List (Nat × Nat)) : List KE → List (Option (List (Nat × Bool) × AV))
 | [] => []
 | e :: r => some ([], e.av.ren (rn ρ)) :: rensK ρ r
def getsO (ρ : List (Nat × Nat)) (O' : List OE) : List OE → List (Option (List (Nat × Bool) × AO))
 | [] => []
 | e :: r => getO (rn ρ e.id) O' :: getsO ρ O' r
def rensO (ρ : List (Nat × Nat)) : List OE → List (Option (List (Nat × Bool) × AO))
 | [] => []
 | e :: r => some ([], e.o.ren (rn ρ)) :: rensO ρ r
def ltK (m : Nat) : List KE → Bool
 | [] => true
 | e :: r => match AV.lt m e.av with
  | true => ltK m r
  | false => false
def ltO (m : Nat) : List OE → Bool
 | [] => true
 | ⟨i, _, .cells _ cs⟩ :: r => (match Nat.blt i m, AV.lts m cs with
  | true, true => ltO m r
  | _, _ => false)
 | ⟨i, _, .it mid _ _⟩ :: r => (match Nat.blt i m, Nat.blt mid m with
  | true, true => ltO m r
  | _, _ => false)
 | ⟨i, _, .mr _ _ _ _ _ aux none⟩ :: r => (match Nat.blt i m, Nat.blt aux m with
  | true, true => ltO m r
  | _, _ => false)
 | ⟨i, _, .mr _ _ _ _ _ aux (some (_, h))⟩ :: r => (match Nat.blt i m, Nat.blt aux m, Nat.blt h m with
  | true, true, true => ltO m r
  | _, _, _ => false)
 | ⟨i, _, _⟩ :: r => (match Nat.blt i m with
  | true => ltO m r
  | false => false)
def varsK (ρ : List (Nat × Nat)) (K' : List KE) : List KE → Prop
 | [] => True
 | [e] => (match e.tags, find e.slot K' with
  | [], some ([], av') => AVEq (e.av.ren (rn ρ)) av'
  | _, _ => False)
 | e :: r => (match e.tags, find e.slot K' with
  | [], some ([], av') => AVEq (e.av.ren (rn ρ)) av' ∧ varsK ρ K' r
  | _, _ => False)
def varsO (ρ : List (Nat × Nat)) (O' : List OE) : List OE → Prop
 | [] => True
 | [e] => (match e.tags, getO (rn ρ e.id) O' with
  | [], some ([], o') => AOEq (e.o.ren (rn ρ)) o'
  | _, _ => False)
 | e :: r => (match e.tags, getO (rn ρ e.id) O' with
  | [], some ([], o') => AOEq (e.o.ren (rn ρ)) o' ∧ varsO ρ O' r
  | _, _ => False)
structure ToS (m : Nat) (W : List Nat) (ρ : List (Nat × Nat)) (u : List KE) (ou : List OE) (K K' : List KE) (O O' : List OE) (nid : Nat) : Prop where
 same : findsK K' (keptK (catN (slotsK u) W) K) = rensK ρ (keptK (catN (slotsK u) W) K)
 sameO : getsO ρ O' (keptO (idsO ou) O) = rensO ρ (keptO (idsO ou) O)
 lts : ltK nid (catK u (keptK (catN (slotsK u) W) K)) = true
 ltsO : ltO nid (catO ou (keptO (idsO ou) O)) = true
 inj : injm m ρ (catO ou (keptO (idsO ou) O)) = true
 vars : varsK ρ K' u
 varsO : varsO ρ O' ou
def toS (m : Nat) (W : List Nat) (ρ : List (Nat × Nat)) (u : List KE) (ou : List OE) (st st' : St) : Prop :=
 match st, st' with
 | ⟨K, O, nid⟩, ⟨K', O', _⟩ => ToS m W ρ u ou K K' O O' nid
theorem keptK_tags : ∀ (W : List Nat) (K : List KE), ∀ e ∈ keptK W K, e.tags = []
 | _, [], e, h => by simp [keptK] at h
 | W, ⟨s, [], a⟩ :: r, e, h => by
  unfold keptK at h
  split at h
  ·exact keptK_tags W r e h
  ·rcases List.mem_cons.1 h with rfl | h
   ·rfl
   ·exact keptK_tags _ r e h
 | W, ⟨s, _ :: _, _⟩ :: r, e, h => by
  unfold keptK at h
  exact keptK_tags _ r e h
theorem keptO_tags : ∀ (W : List Nat) (K : List OE), ∀ e ∈ keptO W K, e.tags = []
 | _, [], e, h => by simp [keptO] at h
 | W, ⟨s, [], a⟩ :: r, e, h => by
  unfold keptO at h
  split at h
  ·exact keptO_tags W r e h
  ·rcases List.mem_cons.1 h with rfl | h
   ·rfl
   ·exact keptO_tags _ r e h
 | W, ⟨s, _ :: _, _⟩ :: r, e, h => by
  unfold keptO at h
  exact keptO_tags _ r e h
theorem KLe.cat {ρ : List (Nat × Nat)} {m : Nat} {K' : List KE} : ∀ {u K : List KE}, varsK ρ K' u → findsK K' K = rensK ρ K → (∀ e ∈ K, e.tags = []) → ltK m (catK u K) = true → KLe ρ m (catK u K) K'
 | [], [], _, _, _, _ => trivial
 | [], e :: r, _, h, ht, hl => by
  simp only [catK] at hl ⊢
  unfold ltK at hl
  split at hl
  ·rename_i hlt
   simp only [findsK, rensK, List.cons.injEq] at h
   refine ⟨⟨ht e (by simp), hlt, ?_⟩, ?_⟩
   ·rw [h.1]
    exact AVEq.refl _
   ·have := KLe.cat (u := []) (K := r) trivial h.2 (fun e he => ht e (by simp [he])) (by simpa [catK] using hl)
    simpa [catK] using this
  ·cases hl
 | [e], K, hv, h, ht, hl => by
  simp only [catK] at hl ⊢
  unfold ltK at hl
  split at hl
  ·rename_i hlt
   unfold varsK at hv
   split at hv
   ·rename_i av' hg hf
    refine ⟨⟨hg, hlt, ?_⟩, ?_⟩
    ·rw [hf]
     exact hv
    ·have := KLe.cat (u := []) (K := K) (m := m) trivial h ht (by simpa [catK] using hl)
     simpa [catK] using this
   ·exact hv.elim
  ·cases hl
 | e :: e2 :: r, K, hv, h, ht, hl => by
  simp only [catK] at hl ⊢
  unfold ltK at hl
  split at hl
  ·rename_i hlt
   unfold varsK at hv
   split at hv
   ·rename_i av' hg hf
    refine ⟨⟨hg, hlt, ?_⟩, ?_⟩
    ·rw [hf]
     exact hv.1
    ·have := KLe.cat (u := e2 :: r) (K := K) (m := m) hv.2 h ht (by simpa [catK] using hl)
     simpa [catK] using this
   ·exact hv.elim
  ·cases hl
theorem OLe.one {ρ : List (Nat × Nat)} {m : Nat} {O' : List OE} {e : OE} {r : List OE} {o' : AO} (hg : e.tags = []) (hf : getO (rn ρ e.id) O' = some ([], o')) (heq : AOEq (e.o.ren (rn ρ)) o') (hl : ltO m (e :: r) = true)
  (h : ltO m r = true → OLe ρ m r O') : OLe ρ m (e :: r) O' := by
 obtain ⟨i, g, o⟩ := e
 simp only at hg hf heq
 subst hg
 cases o with
 | cells ty cs =>
  unfold ltO at hl
  split at hl
  ·rename_i h1 h2
   exact ⟨⟨rfl, h1, h2, by rw [hf]; exact heq⟩, h hl⟩
  ·cases hl
 | row =>
  unfold ltO at hl
  split at hl
  ·rename_i h1
   exact ⟨⟨rfl, h1, trivial, by rw [hf]; exact heq⟩, h hl⟩
  ·cases hl
 | mp =>
  unfold ltO at hl
  split at hl
  ·rename_i h1
   exact ⟨⟨rfl, h1, trivial, by rw [hf]; exact heq⟩, h hl⟩
  ·cases hl
 | ir =>
  unfold ltO at hl
  split at hl
  ·rename_i h1
   exact ⟨⟨rfl, h1, trivial, by rw [hf]; exact heq⟩, h hl⟩
  ·cases hl
 | it mid since seen =>
  unfold ltO at hl
  split at hl
  ·rename_i h1 h2
   exact ⟨⟨rfl, h1, h2, by rw [hf]; exact heq⟩, h hl⟩
  ·cases hl
 | mr n key kid born clock aux hole =>
  cases hole with
  | none =>
   unfold ltO at hl
   split at hl
   ·rename_i h1 h2
    exact ⟨⟨rfl, h1, h2, by rw [hf]; exact heq⟩, h hl⟩
   ·cases hl
  | some p =>
   unfold ltO at hl
   split at hl
   ·rename_i h1 h2 h3
    exact ⟨⟨rfl, h1, ⟨h2, h3⟩, by rw [hf]; exact heq⟩, h hl⟩
   ·cases hl
 | dead =>
  unfold ltO at hl
  split at hl
  ·rename_i h1
   exact ⟨⟨rfl, h1, trivial, trivial⟩, h hl⟩
  ·cases hl
theorem OLe.cat {ρ : List (Nat × Nat)} {m : Nat} {O' : List OE} : ∀ {u O : List OE}, Go.Eng.varsO ρ O' u → getsO ρ O' O = rensO ρ O → (∀ e ∈ O, e.tags = []) → ltO m (catO u O) = true → OLe ρ m (catO u O) O'
 | [], [], _, _, _, _ => trivial
 | [], e :: r, _, h, ht, hl => by
  simp only [getsO, rensO, List.cons.injEq] at h
  refine OLe.one (ht e (by simp)) h.1 (AOEq.refl _) hl fun hl' => ?_
  exact OLe.cat (u := []) (O := r) trivial h.2 (fun e he => ht e (by simp [he])) hl'
 | [e], O, hv, h, ht, hl => by
  unfold Go.Eng.varsO at hv
  split at hv
  ·rename_i o' hg hf
   refine OLe.one hg hf hv hl fun hl' => ?_
   exact OLe.cat (u := []) (O := O) trivial h ht hl'
  ·exact hv.elim
 | e :: e2 :: r, O, hv, h, ht, hl => by
  unfold Go.Eng.varsO at hv
  split at hv
  ·rename_i o' hg hf
   refine OLe.one hg hf hv.1 hl fun hl' => ?_
   exact OLe.cat (u := e2 :: r) (O := O) hv.2 h ht hl'
  ·exact hv.elim
theorem mkS_nid (W : List Nat) (u : List KE) (ou : List OE) (st : St) : (mkS W u ou st).nid = st.nid := by
 obtain ⟨K, O, nid⟩ := st
 rfl
theorem toS_le {m : Nat} {W : List Nat} {ρ : List (Nat × Nat)} {u : List KE} {ou : List OE} {st st' : St} (h : toS m W ρ u ou st st') : StLe m ρ (mkS W u ou st) st' := by
 obtain ⟨K, O, nid⟩ := st
 obtain ⟨K', O', nid'⟩ := st'
 exact ⟨KLe.cat h.vars h.same (keptK_tags _ _) h.lts, OLe.cat h.varsO h.sameO (keptO_tags _ _) h.ltsO, h.inj⟩
def nilK : List (Nat × TypeId × Nat) → St → (St → Prop) → Prop
 | [], st, k => k st
 | (s, e, sz) :: r, ⟨K, O, nid⟩, k => (match find s K with
  | some ([], .val v) => (match nilSlice v, inAnyTagsK s K, inAnyTagsOs s O with
   | true, false, false => nilK r ⟨⟨s, [], .so nid⟩ :: K, ⟨nid, [], .row e sz 0 fun _ => []⟩ :: O, nid + 1⟩ k
   | _, _, _ => False)
  | _ => False)
theorem nilK_iff : ∀ {l : List (Nat × TypeId × Nat)} {st : St} {k : St → Prop}, nilK l st k → Sim C G w0 N st a w → ∃ st', k st' ∧ Sim C G w0 N st' a w
 | [], st, k, h, S => ⟨st, h, S⟩
 | (s, e, sz) :: r, ⟨K, O, nid⟩, k, h, S => by
  unfold nilK at h
  split at h
  ·rename_i v hf
   split at h
   ·rename_i hn h1 h2
    obtain ⟨β, S, hag⟩ := S
    dsimp only at S
    have hids : ∀ id g o, getO id O = some (g, o) → id < nid := fun id g o h => (S.of id g o h).1
    have hv := ((S.kf s [] _ hf).1 (sat_nil a)).val_inv
    have hv' : a.tmps.getD s undef = .slice none 0 0 := by rw [hv]; exact nilSlice_iff hn
    have hpost : EffPost β (β.valAt nid (.slice none 0 0)) nid (FO G (fun id => getO id O) β a) (fun _ => none) w w (.slice none 0 0) (.ext [.row e sz 0 fun _ => []] (.so nid)) :=
     .row e sz 0 _ _ [] (Below.refl _ _) (RowAt.of_owns (World.ownsRow_nil w w.heap.size e sz)).1 (fun g hg => by cases hg) (fun k hk => by omega) (fun k j hk => by omega)
    obtain ⟨S', hr⟩ := S.eff (lk := fun _ => none) (tg := []) (eff := .ext [.row e sz 0 fun _ => []] (.so nid)) (fun id o h => by cases h) (sat_nil a) trivial hpost
    have hlt : s < N := by
     rcases Nat.lt_or_ge s a.tmps.size with h | h
     ·rw [← S.tsz]; exact h
     ·rw [Array.getD_eq_getD_getElem?, Array.getElem?_eq_none h] at hv'
      simp [undef] at hv'
    have hO : (fun id => getO id (⟨nid, [], .row e sz 0 fun _ => []⟩ :: O)) = effO [] nid (fun id => getO id O) (.ext [.row e sz 0 fun _ => []] (.so nid)) := funext fun id => by
     rw [getO_cons]
     by_cases hid : id = nid
     ·subst hid; simp [effO]
     ·by_cases hle : nid ≤ id
      ·have : (getO id O) = none := by
        cases hq : getO id O with
        | none => rfl
        | some p => have := hids id p.1 p.2 hq; omega
       have e : id - nid = (id - nid - 1) + 1 := by omega
       rw [if_neg hid, this]
       simp only [effO, if_pos hle]
       rw [e]
       simp
      ·simp [effO, hid, hle]
    have S2 := S'.put (some s) [] (.so nid) (.slice none 0 0) (fun n hn => by
     cases hn
     refine ⟨hlt, rfl, inAnyTagsK_false h1, fun id g o ho => ?_⟩
     simp only [effO] at ho
     split at ho
     ·obtain ⟨rfl, _⟩ := getElem?_map_some ho
      rfl
     ·exact inAnyTagsOs_false h2 id g o ho) (fun _ => hr) (fun hn => (hn (sat_nil a)).elim)
    have hput : a.put (some s) (.slice none 0 0) = a := by
     have hsz : s < a.tmps.size := by rw [S.tsz]; exact hlt
     have hget : a.tmps[s] = .slice none 0 0 := by
      rw [Array.getD_eq_getD_getElem?, Array.getElem?_eq_getElem hsz] at hv'
      simpa using hv'
     obtain ⟨tmps, dfs⟩ := a
     simp only [Act.put, Act.mk.injEq, and_true]
     simp only at hget hsz
     rw [Array.setIfInBounds_def, dif_pos hsz, ← hget]
     simp
    rw [hput] at S2
    refine nilK_iff h ⟨β.valAt nid (.slice none 0 0), ?_, hag.of (agree_valAt _ _ _) (Nat.le_succ _)⟩
    have hK : (fun t => find t (⟨s, [], .so nid⟩ :: K)) = (fun t => if some s = some t then some ([], AV.so nid) else find t K) := by
     funext t
     simp only [find, Option.some.injEq]
     by_cases hs : s = t
     ·subst hs; simp
     ·have : Nat.beq s t = false := by
       cases hb' : Nat.beq s t
       ·rfl
       ·exact absurd (by simpa using hb') hs
      simp [this, hs]
    rw [hK, hO]
    exact S2
   ·exact h.elim
  ·exact h.elim
end
end Go.Eng
end

section
namespace Go.Eng
open Go.RowKit
mutual
def AV.all (f : Nat → Bool) : AV → Bool
 | .p id _ => f id
 | .so id => f id
 | .pe id _ _ _ => f id
 | .mo id => f id
 | .sv id _ _ _ => f id
 | .sc id _ _ _ => f id
 | .fn _ cs => AV.alls f cs
 | .ag cs => AV.alls f cs
 | .tup cs => AV.alls f cs
 | _ => true
def AV.alls (f : Nat → Bool) : List AV → Bool
 | [] => true
 | c :: r => match AV.all f c with
  | true => AV.alls f r
  | false => false
end
def AO.all (f : Nat → Bool) : AO → Bool
 | .cells _ cs => AV.alls f cs
 | .it mid _ _ => f mid
 | .mr _ _ _ _ _ aux none => f aux
 | .mr _ _ _ _ _ aux (some (_, h)) => (match f aux with
  | true => f h
  | false => false)
 | _ => true
theorem AO.all_mr {f : Nat → Bool} {n : Nat} {key : Nat → AV} {kid : Nat → KD} {born : Nat → Nat} {clock aux : Nat} {hole : Option (Nat × Nat)} (h : AO.all f (.mr n key kid born clock aux hole) = true) :
  f aux = true ∧ ∀ i x, hole = some (i, x) → f x = true := by
 rcases hole with _ | ⟨i, x⟩
 ·exact ⟨h, fun _ _ e => (by cases e)⟩
 ·have h : (match f aux with | true => f x | false => false) = true := h
  split at h
  ·rename_i ha
   exact ⟨ha, fun _ _ e => by rw [Option.some.injEq, Prod.mk.injEq] at e; rw [← e.2]; exact h⟩
  ·cases h
theorem AO.all_mr_of {f : Nat → Bool} {n : Nat} {key : Nat → AV} {kid : Nat → KD} {born : Nat → Nat} {clock aux : Nat} {hole : Option (Nat × Nat)} (ha : f aux = true) (hx : ∀ i x, hole = some (i, x) → f x = true) :
  AO.all f (.mr n key kid born clock aux hole) = true := by
 rcases hole with _ | ⟨i, x⟩
 ·exact ha
 ·show (match f aux with | true => f x | false => false) = true
  rw [ha]
  exact hx i x rfl
theorem AO.all_mr_imp {f g : Nat → Bool} (h : ∀ id, f id = true → g id = true) {n : Nat} {key : Nat → AV} {kid : Nat → KD} {born : Nat → Nat} {clock aux : Nat} {hole : Option (Nat × Nat)} (ha : AO.all f (.mr n key kid born clock aux hole) = true) :
  AO.all g (.mr n key kid born clock aux hole) = true :=
 AO.all_mr_of (h _ (AO.all_mr ha).1) fun i x e => h _ ((AO.all_mr ha).2 i x e)
theorem AO.all_aux {f : Nat → Bool} {o : AO} (h : o.all f = true) {a : Nat} (ha : o.aux = some a) : f a = true := by
 cases o <;> simp [AO.aux] at ha
 subst ha
 exact (AO.all_mr h).1
theorem AV.alls_get {f : Nat → Bool} : ∀ {l : List AV}, AV.alls f l = true → ∀ (j : Nat) (h : j < l.length), AV.all f l[j] = true
 | [], _, j, h => by simp at h
 | c :: r, hl, j, h => by
  unfold AV.alls at hl
  split at hl
  ·rename_i hc
   cases j with
   | zero => exact hc
   | succ j => exact AV.alls_get hl j (by simpa using h)
  ·cases hl
mutual
theorem AV.all_of_lt {m : Nat} {f : Nat → Bool} (hf : ∀ id, id < m → f id = true) : ∀ a : AV, a.lt m = true → a.all f = true
 | .p id _, h => by simpa [AV.all] using hf id (blt_lt (by simpa [AV.lt] using h))
 | .so id, h => by simpa [AV.all] using hf id (blt_lt (by simpa [AV.lt] using h))
 | .pe id _ _ _, h => by simpa [AV.all] using hf id (blt_lt (by simpa [AV.lt] using h))
 | .mo id, h => by simpa [AV.all] using hf id (blt_lt (by simpa [AV.lt] using h))
 | .sv id _ _ _, h => by simpa [AV.all] using hf id (blt_lt (by simpa [AV.lt] using h))
 | .sc id _ _ _, h => by simpa [AV.all] using hf id (blt_lt (by simpa [AV.lt] using h))
 | .fn _ cs, h => by simpa [AV.all] using AV.alls_of_lts hf cs (by simpa [AV.lt] using h)
 | .ag cs, h => by simpa [AV.all] using AV.alls_of_lts hf cs (by simpa [AV.lt] using h)
 | .tup cs, h => by simpa [AV.all] using AV.alls_of_lts hf cs (by simpa [AV.lt] using h)
 | .b _, _ => by simp [AV.all]
 | .i _ _, _ => by simp [AV.all]
 | .s _, _ => by simp [AV.all]
 | .val _, _ => by simp [AV.all]
 | .u, _ => by simp [AV.all]
 | .rs _ _ _, _ => by simp [AV.all]
 | .rp _, _ => by simp [AV.all]
 | .rm _ _ _, _ => by simp [AV.all]
theorem AV.alls_of_lts {m : Nat} {f : Nat → Bool} (hf : ∀ id, id < m → f id = true) : ∀ l : List AV, AV.lts m l = true → AV.alls f l = true
 | [], _ => by simp [AV.alls]
 | c :: r, h => by
  unfold AV.lts at h
  split at h
  ·rename_i hc
   have h1 := AV.all_of_lt hf c hc
   have h2 := AV.alls_of_lts hf r h
   simp [AV.alls, h1, h2]
  ·cases h
end
mutual
theorem AV.all_of_all {f f' : Nat → Bool} (hf : ∀ id, f' id = true → f id = true) : ∀ a : AV, a.all f' = true → a.all f = true
 | .p id _, h => by simpa [AV.all] using hf id (by simpa [AV.all] using h)
 | .so id, h => by simpa [AV.all] using hf id (by simpa [AV.all] using h)
 | .pe id _ _ _, h => by simpa [AV.all] using hf id (by simpa [AV.all] using h)
 | .mo id, h => by simpa [AV.all] using hf id (by simpa [AV.all] using h)
 | .sv id _ _ _, h => by simpa [AV.all] using hf id (by simpa [AV.all] using h)
 | .sc id _ _ _, h => by simpa [AV.all] using hf id (by simpa [AV.all] using h)
 | .fn _ cs, h => by simpa [AV.all] using AV.alls_of_alls hf cs (by simpa [AV.all] using h)
 | .ag cs, h => by simpa [AV.all] using AV.alls_of_alls hf cs (by simpa [AV.all] using h)
 | .tup cs, h => by simpa [AV.all] using AV.alls_of_alls hf cs (by simpa [AV.all] using h)
 | .b _, _ => by simp [AV.all]
 | .i _ _, _ => by simp [AV.all]
 | .s _, _ => by simp [AV.all]
 | .val _, _ => by simp [AV.all]
 | .u, _ => by simp [AV.all]
 | .rs _ _ _, _ => by simp [AV.all]
 | .rp _, _ => by simp [AV.all]
 | .rm _ _ _, _ => by simp [AV.all]
theorem AV.alls_of_alls {f f' : Nat → Bool} (hf : ∀ id, f' id = true → f id = true) : ∀ l : List AV, AV.alls f' l = true → AV.alls f l = true
 | [], _ => by simp [AV.alls]
 | c :: r, h => by
  unfold AV.alls at h
  split at h
  ·rename_i hc
   have h1 := AV.all_of_all hf c hc
   have h2 := AV.alls_of_alls hf r h
   simp [AV.alls, h1, h2]
  ·cases h
end
theorem Rep.onf {β β' : Bd} {n m : Nat} {F : Nat → Prop} {w : World} {a : AV} {v : Value} {f : Nat → Bool} (h : Rep β n F w a v) (hl : a.all f = true)
  (hb : ∀ id, id < n → f id = true → id < m ∧ β'.blk id = β.blk id ∧ β'.val id = β.val id) : Rep β' m F w a v := by
 induction h with
 | pure a v h => exact .pure a v h
 | p id off hi => obtain ⟨h1, h2, _⟩ := hb id hi (by simpa [AV.all] using hl); rw [← h2]; exact .p id off h1
 | so id hi h1 => obtain ⟨h2, _, h3⟩ := hb id hi (by simpa [AV.all] using hl); rw [← h3] at h1 ⊢; exact .so id h2 h1
 | pe id sz idx off g o k c hi h => obtain ⟨h2, _, h3⟩ := hb id hi (by simpa [AV.all] using hl); exact .pe id sz idx off g o k c h2 (h3.trans h)
 | sv id sz lo k v hi h => obtain ⟨h2, _, h3⟩ := hb id hi (by simpa [AV.all] using hl); exact .sv id sz lo k v h2 (by rw [h3]; exact h)
 | sc id off k cap hi hk hc => obtain ⟨h2, h3, _⟩ := hb id hi (by simpa [AV.all] using hl); rw [← h3]; exact .sc id off k cap h2 hk hc
 | mo id hi => obtain ⟨h1, h2, _⟩ := hb id hi (by simpa [AV.all] using hl); rw [← h2]; exact .mo id h1
 | fn g caps vs hl' h ih => exact .fn g caps vs hl' fun j h1 h2 => ih j h1 h2 (AV.alls_get (by simpa [AV.all] using hl) j h1)
 | ag cs vs hl' h ih => exact .ag cs vs hl' fun j h1 h2 => ih j h1 h2 (AV.alls_get (by simpa [AV.all] using hl) j h1)
 | tup cs vs hl' h ih => exact .tup cs vs hl' fun j h1 h2 => ih j h1 h2 (AV.alls_get (by simpa [AV.all] using hl) j h1)
theorem ObjOk.onf {β β' : Bd} {n m : Nat} {F : Nat → Prop} {w : World} {id : Nat} {o : AO} {f : Nat → Bool} (h : ObjOk β n F w id o) (hl : o.all f = true)
  (hi : β'.blk id = β.blk id ∧ β'.val id = β.val id)
  (hb : ∀ id, id < n → f id = true → id < m ∧ β'.blk id = β.blk id ∧ β'.val id = β.val id) : ObjOk β' m F w id o := by
 cases o with
 | cells e cs =>
  obtain ⟨vs, hh, hlen, hc⟩ := h
  refine ⟨vs, by rw [hi.1]; exact hh, hlen, fun j h1 h2 => ⟨(hc j h1 h2).1.onf (AV.alls_get (by simpa [AO.all] using hl) j h1) hb, (hc j h1 h2).2⟩⟩
 | row e sz k get =>
  obtain ⟨xs, hx, hlen, hc⟩ := h
  exact ⟨xs, by rw [hi.2]; exact hx, hlen, hc⟩
 | mp k key val born clock =>
  obtain ⟨es, hh, hrest⟩ := h
  exact ⟨es, by rw [hi.1]; exact hh, hrest⟩
 | it mid since seen =>
  obtain ⟨hm, hh⟩ := h
  obtain ⟨h1, h2, _⟩ := hb mid hm (by simpa [AO.all] using hl)
  exact ⟨h1, by rw [hi.1, h2]; exact hh⟩
 | ir k key val seen last =>
  obtain ⟨g, es, clock, sn, hh, hrest⟩ := h
  exact ⟨g, es, clock, sn, by rw [hi.1]; exact hh, hrest⟩
 | mr k key kid born clock aux hole =>
  obtain ⟨ha, hho, es, hh, hm, ho, hkey, hk, hd, hne, hr⟩ := h
  obtain ⟨fa, fh⟩ := AO.all_mr hl
  obtain ⟨a1, _, a3⟩ := hb aux ha fa
  refine ⟨a1, fun i x e => ⟨(hb x (hho i x e).1 (fh i x e)).1, (hho i x e).2⟩, es, by rw [hi.1]; exact hh, hm, ho, hkey, fun i h1 h2 hno => by rw [a3]; exact hk i h1 h2 hno, by rw [a3]; exact hd, by rw [a3, hi.1]; exact hne, fun i x e h2 => ?_⟩
  refine ⟨?_, (hr i x e h2).2⟩
  rw [(hr i x e h2).1]
  have := hb x (hho i x e).1 (fh i x e)
  cases kid i <;> simp [kidRef, this.2.1, this.2.2]
 | dead => trivial
def effNew : Eff → List AO
 | .ext os _ => os
 | .set _ _ _ => []
 | .app _ o _ => [o]
def effKill : Eff → Option Nat
 | .app i _ _ => some i
 | _ => none
def notSet : Eff → Bool
 | .set _ _ _ => false
 | _ => true
theorem effN_eq (n : Nat) (eff : Eff) : effN n eff = n + (effNew eff).length := by cases eff <;> simp [effN, effNew]
def upO (tg : Tags) (n : Nat) (O : OF) : Eff → OF
 | .ext os _ => fun id => if n ≤ id ∧ id < n + os.length then (os[id - n]?).map fun o => (tg, o) else O id
 | .set i o' _ => fun id => if id = i then (O i).map fun p => (p.1, o') else O id
 | .app i o' _ => fun id => if id = n then some (tg, o') else if id = i then (O i).map fun p => (p.1, .dead) else O id
def Bd.patch (β β' : Bd) (n m : Nat) : Bd := ⟨fun id => if n ≤ id ∧ id < m then β'.blk id else β.blk id, fun id => if n ≤ id ∧ id < m then β'.val id else β.val id⟩
theorem patch_in {β β' : Bd} {n m id : Nat} (h : n ≤ id ∧ id < m) : (β.patch β' n m).blk id = β'.blk id ∧ (β.patch β' n m).val id = β'.val id := by simp [Bd.patch, h]
theorem patch_out {β β' : Bd} {n m id : Nat} (h : ¬ (n ≤ id ∧ id < m)) : (β.patch β' n m).blk id = β.blk id ∧ (β.patch β' n m).val id = β.val id := by simp [Bd.patch, h]
theorem patch_lt {β β' : Bd} {n m id : Nat} (hag : agree n β β') (h : id < m) : (β.patch β' n m).blk id = β'.blk id ∧ (β.patch β' n m).val id = β'.val id := by
 by_cases hn : n ≤ id
 ·exact patch_in ⟨hn, h⟩
 ·have := hag id (by omega)
  have h2 := patch_out (β := β) (β' := β') (n := n) (m := m) (id := id) (by omega)
  exact ⟨h2.1.trans this.1.symm, h2.2.trans this.2.symm⟩
section
variable {Al G : Nat → Prop} {w0 w : World} {N : Nat} {K : KF} {O : OF} {NID : Nat} {β : Bd} {a : Act}
theorem SimF.effD (S : SimF Al G w0 N K O NID β a w) {lk : Nat → Option AO} (hlk : ∀ id o, lk id = some o → ∃ g, O id = some (g, o) ∧ sat g a) {tg : Tags} (hsat : sat tg a) {eff : Eff} {β' : Bd} {w' : World} {v : Value} {n : Nat} {f : Nat → Bool}
  (hset : notSet eff = true) (h : EffPost β β' n (FO G O β a) lk w w' v eff) (hN : effN n eff ≤ NID) (hkn : ∀ q, effKill eff = some q → q < n)
  (hf : ∀ id, f id = true → ¬ (n ≤ id ∧ id < effN n eff))
  (hout : ∀ id g o, O id = some (g, o) → ¬ (n ≤ id ∧ id < effN n eff)) (hK : ∀ s g av, K s = some (g, av) → av.all f = true) (hO : ∀ id g o, O id = some (g, o) → o.all f = true) :
  SimF Al G w0 N K (upO tg n O eff) NID (β.patch β' n (effN n eff)) a w' ∧ Rep (β.patch β' n (effN n eff)) NID (FO G (upO tg n O eff) (β.patch β' n (effN n eff)) a) w' (effR eff) v := by
 generalize hβ : β.patch β' n (effN n eff) = β2
 have hb2 : ∀ id, id < NID → f id = true → id < NID ∧ β2.blk id = β.blk id ∧ β2.val id = β.val id := fun id h1 h2 => by
  subst hβ
  exact ⟨h1, patch_out (hf id h2)⟩
 have hown : ∀ id g o, O id = some (g, o) → ownB β2 id o = ownB β id o := fun id g o ho => by
  subst hβ
  exact ownB_eq (patch_out (hout id g o ho)) fun x hx => (patch_out (hf x (AO.all_aux (hO id g o ho) hx))).2
 cases eff with
 | ext os r =>
  obtain ⟨hb, hag, ⟨hn1, hnB, hn2⟩, hr⟩ := h
  have hlt2 : ∀ id, id < n + os.length → β2.blk id = β'.blk id ∧ β2.val id = β'.val id := fun id hid => by
   subst hβ
   exact patch_lt hag (by simpa [effN] using hid)
  have hnew : ∀ j o, os[j]? = some o → ownB β2 (n + j) o = ownB β' (n + j) o := fun j o hj => by
   have := (List.getElem?_eq_some_iff.1 hj).1
   exact ownB_eq (hlt2 _ (by omega)) fun x hx => (hlt2 x ((hn1 j o hj).aux_lt hx)).2
  have hget : ∀ id g o, upO tg n O (.ext os r) id = some (g, o) → (∃ j, id = n + j ∧ os[j]? = some o ∧ g = tg) ∨ (O id = some (g, o)) := by
   intro id g o ho
   simp only [upO] at ho
   split at ho
   ·rename_i hr
    obtain ⟨h1, h2⟩ := getElem?_map_some ho
    exact .inl ⟨id - n, by omega, h2, h1⟩
   ·exact .inr ho
  have hFO : ∀ b, FO G (upO tg n O (.ext os r)) β2 a b ↔ FX (FO G O β a) β' n os b := by
   intro b
   constructor
   ·rintro (hg | ⟨id, g, o, ho, hs, hbb⟩)
    ·exact .inl (.inl hg)
    rcases hget id g o ho with ⟨j, rfl, hj, rfl⟩ | ho
    ·exact .inr ⟨j, o, hj, by rw [← hnew j o hj]; exact hbb⟩
    ·exact .inl (.inr ⟨id, g, o, ho, hs, by rw [← hown id g o ho]; exact hbb⟩)
   ·rintro ((hg | ⟨id, g, o, ho, hs, hbb⟩) | ⟨j, o, hj, hbb⟩)
    ·exact .inl hg
    ·have hid := hout id g o ho
     simp only [effN] at hid
     exact .inr ⟨id, g, o, by simp only [upO]; rw [if_neg hid]; exact ho, hs, by rw [hown id g o ho]; exact hbb⟩
    ·have hjl := (List.getElem?_eq_some_iff.1 hj).1
     exact .inr ⟨n + j, tg, o, by simp only [upO]; rw [if_pos ⟨by omega, by omega⟩, Nat.add_sub_cancel_left, hj]; rfl, hsat, by rw [hnew j o hj]; exact hbb⟩
  have hFOe : FO G (upO tg n O (.ext os r)) β2 a = FX (FO G O β a) β' n os := funext fun b => propext (hFO b)
  have hF : ∀ g, g < w.heap.size → ¬ FO G O β a g → ¬ FX (FO G O β a) β' n os g := by
   rintro g hg hnot (hf | ⟨j, o, hj, ho⟩)
   ·exact hnot hf
   ·have := hnB j o g hj ho; omega
  have hw : ∀ g, g < w.heap.size → w'.heap[g]? = w.heap[g]? := fun g hg => hb.block g hg
  simp only [effN] at hN
  have hbel : Frame Al w0 w' := ⟨hb.os.trans S.below.os, hb.tape.trans S.below.tape, hb.output.trans S.below.output, Nat.le_trans S.below.size hb.size, fun k hk hA => by
   rw [hw k (Nat.lt_of_lt_of_le hk S.below.size)]
   exact S.below.block k hk hA, Nat.le_trans S.below.drawn hb.drawn⟩
  refine ⟨⟨S.gold, hbel, S.tsz, S.dfs, ?_, ?_, ?_, ?_⟩, ?_⟩
  ·intro s g av hk
   refine ⟨fun hs => ?_, fun hs => (S.kf s g av hk).2 hs⟩
   rw [hFOe]
   exact (((S.kf s g av hk).1 hs).stable hF (fun g hg _ => hw g hg) hb.size).onf (hK s g av hk) hb2
  ·intro id g o ho
   rw [hFOe]
   rcases hget id g o ho with ⟨j, rfl, hj, rfl⟩ | ho
   ·have hjl := (List.getElem?_eq_some_iff.1 hj).1
    refine ⟨by omega, fun _ => ?_⟩
    have := hn1 j o hj
    have h2 := this
    exact h2.stable (by omega) hN (fun i hi => hlt2 i hi) (fun _ _ h => h) (fun _ _ _ => rfl) (Nat.le_refl _) (fun _ _ => rfl)
   ·have hid := (S.of id g o ho).1
    refine ⟨hid, fun hs => ?_⟩
    have h1 := ((S.of id g o ho).2 hs).stable hid (Nat.le_refl _) (fun _ _ => ⟨rfl, rfl⟩) hF (fun g hg _ => hw g hg) hb.size (fun b hbb => hw b (((S.of id g o ho).2 hs).lt hbb))
    refine h1.onf (hO id g o ho) ?_ hb2
    subst hβ
    exact patch_out (hout id g o ho)
  ·intro id g o b ho hs hbb
   rcases hget id g o ho with ⟨j, rfl, hj, rfl⟩ | ho
   ·rw [hnew j o hj] at hbb
    exact .inr (Nat.le_trans S.below.size (hnB j o b hj hbb))
   ·rw [hown id g o ho] at hbb
    exact S.allow id g o b ho hs hbb
  ·intro id id' g g' o o' b ho ho' hs hs' hbb hbb'
   rcases hget id g o ho with ⟨j, rfl, hj, rfl⟩ | h1 <;> rcases hget id' g' o' ho' with ⟨j', rfl, hj', rfl⟩ | h1'
   ·have := hn2 _ _ o o' b hj hj' (by rw [← hnew j o hj]; exact hbb) (by rw [← hnew j' o' hj']; exact hbb')
    omega
   ·have h3 := hnB _ o _ hj (by rw [← hnew j o hj]; exact hbb)
    rw [hown id' g' o' h1'] at hbb'
    have := ((S.of id' g' o' h1').2 hs').lt hbb'
    omega
   ·have h3 := hnB _ o' b hj' (by rw [← hnew j' o' hj']; exact hbb')
    rw [hown id g o h1] at hbb
    have := ((S.of id g o h1).2 hs).lt hbb
    omega
   ·rw [hown id g o h1] at hbb
    rw [hown id' g' o' h1'] at hbb'
    exact S.dist id id' g g' o o' b h1 h1' hs hs' hbb hbb'
  ·rw [hFOe]
   exact (hr.same fun id hid => hlt2 id hid).more hN
 | set i o1 r => simp [notSet] at hset
 | app i o1 r =>
  obtain ⟨hag, o0, hl, hg, hblk, hobj, hr⟩ := h
  obtain ⟨gi, hoi, hsi⟩ := hlk i o0 hl
  simp only [effN] at hN hf hout
  have hin : i < n := hkn i rfl
  have hlt2 : ∀ id, id < n + 1 → β2.blk id = β'.blk id ∧ β2.val id = β'.val id := fun id hid => by
   subst hβ
   exact patch_lt hag (by simpa [effN] using hid)
  have hnew : ownB β2 n o1 = ownB β' n o1 := ownB_eq (hlt2 _ (by omega)) fun x hx => (hlt2 x (hobj.aux_lt hx)).2
  have hOn : ∀ g o, O n ≠ some (g, o) := fun g o ho => hout n g o ho ⟨by omega, by omega⟩
  have hOi : ∀ b, ownB β i o0 b → FO G O β a b := fun b hb => .inr ⟨i, gi, o0, hoi, hsi, hb⟩
  have hget : ∀ id g o, upO tg n O (.app i o1 r) id = some (g, o) → (id = n ∧ o = o1 ∧ g = tg) ∨ (id = i ∧ o = .dead) ∨ (id ≠ n ∧ id ≠ i ∧ O id = some (g, o)) := by
   intro id g o ho
   simp only [upO] at ho
   split at ho
   ·rename_i he
    simp at ho
    exact .inl ⟨he, ho.2.symm, ho.1.symm⟩
   ·split at ho
    ·rename_i he
     subst he
     rw [hoi] at ho
     simp at ho
     exact .inr (.inl ⟨rfl, ho.2.symm⟩)
    ·rename_i h1 h2
     exact .inr (.inr ⟨h1, h2, ho⟩)
  have hsub : ∀ b, FO G (upO tg n O (.app i o1 r)) β2 a b → FX (FO G O β a) β' n [o1] b := by
   rintro b (hg | ⟨id, g, o, ho, hs, hbb⟩)
   ·exact .inl (.inl hg)
   rcases hget id g o ho with ⟨rfl, rfl, rfl⟩ | ⟨rfl, rfl⟩ | ⟨h1, h2, h3⟩
   ·exact .inr ⟨0, o, rfl, by rw [Nat.add_zero, ← hnew]; exact hbb⟩
   ·simp [ownB] at hbb
   ·exact .inl (.inr ⟨id, g, o, h3, hs, by rw [← hown id g o h3]; exact hbb⟩)
  have hF : ∀ g, g < w.heap.size → ¬ FO G O β a g → ¬ FO G (upO tg n O (.app i o1 r)) β2 a g := by
   intro g hg' hnot hf
   rcases hsub g hf with h | ⟨j, o, hj, ho⟩
   ·exact hnot h
   ·cases j with
    | succ j => simp at hj
    | zero =>
     simp at hj
     subst hj
     rw [Nat.add_zero] at ho
     rcases hblk with h | h
     ·exact hnot (hOi g (by rw [← h]; exact ho))
     ·have := h g ho; omega
  have hw : ∀ g, g < w.heap.size → ¬ FO G O β a g → w'.heap[g]? = w.heap[g]? := fun g hg' hn => hg.block g hg' (fun e => hn (hOi g (ownB_of_wr e.symm)))
  refine ⟨⟨S.gold, ⟨hg.os.trans S.below.os, hg.tape.trans S.below.tape, hg.output.trans S.below.output, Nat.le_trans S.below.size hg.size, fun k hk hA => ?_, Nat.le_trans S.below.drawn hg.drawn⟩, S.tsz, S.dfs, ?_, ?_, ?_, ?_⟩, ?_⟩
  ·rw [hg.block k (Nat.lt_of_lt_of_le hk S.below.size) (fun e => by
    rcases S.allow i gi o0 k hoi hsi (ownB_of_wr e.symm) with h | h
    ·exact hA h
    ·omega)]
   exact S.below.block k hk hA
  ·intro s g av hk
   refine ⟨fun hs => ?_, fun hs => (S.kf s g av hk).2 hs⟩
   exact (((S.kf s g av hk).1 hs).stable hF hw hg.size).onf (hK s g av hk) hb2
  ·intro id g o ho
   rcases hget id g o ho with ⟨rfl, rfl, rfl⟩ | ⟨rfl, rfl⟩ | ⟨h1, h2, h3⟩
   ·refine ⟨by omega, fun _ => ?_⟩
    exact hobj.stable (by omega) hN (fun i hi => hlt2 i hi) (fun b _ hn hf => hn (hsub b hf)) (fun _ _ _ => rfl) (Nat.le_refl _) (fun _ _ => rfl)
   ·exact ⟨by omega, fun _ => trivial⟩
   ·have hid := (S.of id g o h3).1
    refine ⟨hid, fun hs => ?_⟩
    have h4 := ((S.of id g o h3).2 hs).stable hid (Nat.le_refl _) (fun _ _ => ⟨rfl, rfl⟩) hF hw hg.size (fun b hbb => hg.block b (((S.of id g o h3).2 hs).lt hbb) (fun e => h2 (S.dist id i g gi o o0 b h3 hoi hs hsi hbb (ownB_of_wr e.symm))))
    refine h4.onf (hO id g o h3) ?_ hb2
    subst hβ
    exact patch_out (hout id g o h3)
  ·intro id g o b ho hs hbb
   rcases hget id g o ho with ⟨rfl, rfl, rfl⟩ | ⟨rfl, rfl⟩ | ⟨h1, h2, h3⟩
   ·rw [hnew] at hbb
    rcases hblk with h | h
    ·exact S.allow i gi o0 b hoi hsi (by rw [← h]; exact hbb)
    ·exact .inr (Nat.le_trans S.below.size (h b hbb))
   ·simp [ownB] at hbb
   ·rw [hown id g o h3] at hbb
    exact S.allow id g o b h3 hs hbb
  ·intro id id' g g' o o' b ho ho' hs hs' hbb hbb'
   have cross : ∀ id g o, id ≠ i → O id = some (g, o) → sat g a → ownB β2 id o b → ownB β2 n o1 b → False := by
    intro id g o hne ho hs hbb hnb
    rw [hnew] at hnb
    rw [hown id g o ho] at hbb
    rcases hblk with h | h
    ·exact hne (S.dist id i g gi o o0 b ho hoi hs hsi hbb (by rw [← h]; exact hnb))
    ·have h1 := h b hnb
     have h2 := ((S.of id g o ho).2 hs).lt hbb
     omega
   rcases hget id g o ho with ⟨rfl, rfl, rfl⟩ | ⟨rfl, rfl⟩ | ⟨h1, h2, h3⟩ <;> rcases hget id' g' o' ho' with ⟨rfl, rfl, rfl⟩ | ⟨rfl, rfl⟩ | ⟨h1', h2', h3'⟩ <;>
    first
    | rfl
    | (exfalso; simp [ownB] at hbb; done)
    | (exfalso; simp [ownB] at hbb'; done)
    | (exfalso; exact cross _ _ _ h2' h3' hs' hbb' hbb)
    | (exfalso; exact cross _ _ _ h2 h3 hs hbb hbb')
    | (rw [hown id g o h3] at hbb; rw [hown id' g' o' h3'] at hbb'; exact S.dist id id' g g' o o' b h3 h3' hs hs' hbb hbb')
  ·exact ((hr.stable (fun b _ hn hf => hn (hsub b hf)) (fun _ _ _ => rfl) (Nat.le_refl _)).same fun id hid => hlt2 id hid).more hN
theorem SimF.passedD (S : SimF Al G w0 N K O NID β a w) {tg : Tags} (hsat : ¬ sat tg a) {eff : Eff} {n : Nat} (hset : notSet eff = true) (hfit : effFit tg O eff) (hN : effN n eff ≤ NID) (hkn : ∀ q, effKill eff = some q → q < n) :
  SimF Al G w0 N K (upO tg n O eff) NID β a w := by
 have key : ∀ id g o, upO tg n O eff id = some (g, o) → (id < NID) ∧ (sat g a → O id = some (g, o)) := by
  intro id g o ho
  cases eff with
  | ext os r =>
   simp only [upO] at ho
   simp only [effN] at hN
   split at ho
   ·obtain ⟨rfl, _⟩ := getElem?_map_some ho
    exact ⟨by omega, fun hs => (hsat hs).elim⟩
   ·exact ⟨(S.of id g o ho).1, fun _ => ho⟩
  | set i o1 r => simp [notSet] at hset
  | app i o1 r =>
   simp only [upO] at ho
   simp only [effN] at hN
   split at ho
   ·simp at ho
    obtain ⟨rfl, rfl⟩ := ho
    exact ⟨by omega, fun hs => (hsat hs).elim⟩
   ·split at ho
    ·rename_i he
     subst he
     cases hoi : O id with
     | none => rw [hoi] at ho; cases ho
     | some p =>
      rw [hoi] at ho
      simp at ho
      obtain ⟨rfl, rfl⟩ := ho
      exact ⟨(S.of id p.1 p.2 hoi).1, fun hs => (hsat (subTags_sat (hfit p.1 p.2 hoi) hs)).elim⟩
    ·exact ⟨(S.of id g o ho).1, fun _ => ho⟩
 have hsub : ∀ b, FO G (upO tg n O eff) β a b → FO G O β a b := by
  rintro b (hg | ⟨id, g, o, ho, hs, hbb⟩)
  ·exact .inl hg
  ·exact .inr ⟨id, g, o, (key id g o ho).2 hs, hs, hbb⟩
 have hst : ∀ g, g < w.heap.size → ¬ FO G O β a g → ¬ FO G (upO tg n O eff) β a g := fun b _ hn hf => hn (hsub b hf)
 refine ⟨S.gold, S.below, S.tsz, S.dfs, ?_, ?_, fun id g o b ho hs hbb => S.allow id g o b ((key _ _ _ ho).2 hs) hs hbb, ?_⟩
 ·intro s g av hk
  exact ⟨fun hs => ((S.kf s g av hk).1 hs).stable hst (fun _ _ _ => rfl) (Nat.le_refl _), (S.kf s g av hk).2⟩
 ·intro id g o ho
  obtain ⟨h1, h2⟩ := key id g o ho
  exact ⟨h1, fun hs => ((S.of id g o (h2 hs)).2 hs).stable h1 (Nat.le_refl _) (fun _ _ => ⟨rfl, rfl⟩) hst (fun _ _ _ => rfl) (Nat.le_refl _) (fun _ _ => rfl)⟩
 ·intro id id' g g' o o' b ho ho' hs hs' hbb hbb'
  exact S.dist id id' g g' o o' b ((key _ _ _ ho).2 hs) ((key _ _ _ ho').2 hs') hs hs' hbb hbb'
end
end Go.Eng
end
