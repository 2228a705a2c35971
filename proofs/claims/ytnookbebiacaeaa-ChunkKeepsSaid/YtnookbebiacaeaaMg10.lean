/-
  Several texts in one: EngG.
-/
import Derived.Test.YtnookbebiacaeaaMg9

section
namespace Go.Eng
open Go.RowKit
def keepO (ids : List Nat) : List OE → List OE
 | [] => []
 | ⟨t, g, o⟩ :: r => match memN t ids with
  | true => ⟨t, g, o⟩ :: keepO ids r
  | false => keepO ids r
def dropO (ids : List Nat) : List OE → List OE
 | [] => []
 | ⟨t, g, o⟩ :: r => match memN t ids with
  | true => dropO ids r
  | false => ⟨t, g, o⟩ :: dropO ids r
def plainO : List OE → Bool
 | [] => true
 | ⟨_, [], _⟩ :: r => plainO r
 | _ => false
def appO : List OE → List OE → List OE
 | [], l => l
 | x :: r, l => x :: appO r l
theorem getO_drop_in {ids : List Nat} {id : Nat} (h : memN id ids = true) : ∀ O : List OE, getO id (dropO ids O) = none
 | [] => rfl
 | ⟨t, g, o⟩ :: r => by
  unfold dropO
  cases ht : memN t ids with
  | true => exact getO_drop_in h r
  | false =>
   show getO id (⟨t, g, o⟩ :: dropO ids r) = none
   unfold getO
   have hne : Nat.beq t id = false := by
    cases hb : Nat.beq t id with
    | false => rfl
    | true =>
     have : t = id := by simpa using hb
     rw [this, h] at ht
     cases ht
   rw [hne]
   exact getO_drop_in h r
theorem getO_drop_out {ids : List Nat} {id : Nat} (h : memN id ids = false) : ∀ O : List OE, getO id (dropO ids O) = getO id O
 | [] => rfl
 | ⟨t, g, o⟩ :: r => by
  unfold dropO
  cases ht : memN t ids with
  | true =>
   show getO id (dropO ids r) = getO id (⟨t, g, o⟩ :: r)
   have hne : Nat.beq t id = false := by
    cases hb : Nat.beq t id with
    | false => rfl
    | true =>
     have : t = id := by simpa using hb
     rw [this, h] at ht
     cases ht
   conv => rhs; unfold getO
   rw [hne]
   exact getO_drop_out h r
  | false =>
   show getO id (⟨t, g, o⟩ :: dropO ids r) = getO id (⟨t, g, o⟩ :: r)
   unfold getO
   rw [getO_drop_out h r]
theorem getO_keep_in {ids : List Nat} {id : Nat} (h : memN id ids = true) (R : List OE) (hR : getO id R = none) : ∀ O : List OE, getO id (appO (keepO ids O) R) = getO id O
 | [] => hR
 | ⟨t, g, o⟩ :: r => by
  unfold keepO
  cases ht : memN t ids with
  | true =>
   show getO id (⟨t, g, o⟩ :: appO (keepO ids r) R) = getO id (⟨t, g, o⟩ :: r)
   unfold getO
   rw [getO_keep_in h R hR r]
  | false =>
   show getO id (appO (keepO ids r) R) = getO id (⟨t, g, o⟩ :: r)
   have hne : Nat.beq t id = false := by
    cases hb : Nat.beq t id with
    | false => rfl
    | true =>
     have : t = id := by simpa using hb
     rw [this, h] at ht
     cases ht
   conv => rhs; unfold getO
   rw [hne]
   exact getO_keep_in h R hR r
theorem getO_keep_out {ids : List Nat} {id : Nat} (h : memN id ids = false) (R : List OE) : ∀ O : List OE, getO id (appO (keepO ids O) R) = getO id R
 | [] => rfl
 | ⟨t, g, o⟩ :: r => by
  unfold keepO
  cases ht : memN t ids with
  | true =>
   show getO id (⟨t, g, o⟩ :: appO (keepO ids r) R) = getO id R
   have hne : Nat.beq t id = false := by
    cases hb : Nat.beq t id with
    | false => rfl
    | true =>
     have : t = id := by simpa using hb
     rw [this, h] at ht
     cases ht
   have e : getO id (⟨t, g, o⟩ :: appO (keepO ids r) R) = getO id (appO (keepO ids r) R) := by
    conv => lhs; unfold getO
    rw [hne]
   rw [e]
   exact getO_keep_out h R r
  | false => exact getO_keep_out h R r
theorem getO_keep {ids : List Nat} {id : Nat} : ∀ {O : List OE} {x}, getO id (keepO ids O) = some x → memN id ids = true
 | [], x, h => by cases h
 | ⟨t, g, o⟩ :: r, x, h => by
  unfold keepO at h
  cases ht : memN t ids with
  | true =>
   rw [ht] at h
   have h : getO id (⟨t, g, o⟩ :: keepO ids r) = some x := h
   unfold getO at h
   cases hb : Nat.beq t id with
   | true =>
    have : t = id := by simpa using hb
    rw [← this]
    exact ht
   | false =>
    rw [hb] at h
    exact getO_keep h
  | false =>
   rw [ht] at h
   exact getO_keep h
theorem appO_nil : ∀ l : List OE, appO l [] = l
 | [] => rfl
 | x :: r => by rw [appO, appO_nil r]
theorem plainO_get {id : Nat} : ∀ {O : List OE} {g o}, plainO O = true → getO id O = some (g, o) → g = []
 | [], g, o, _, h => by cases h
 | ⟨t, [], o'⟩ :: r, g, o, hp, h => by
  unfold getO at h
  cases hb : Nat.beq t id with
  | true =>
   rw [hb] at h
   exact (Prod.mk.inj (Option.some.inj h)).1.symm
  | false =>
   rw [hb] at h
   exact plainO_get (O := r) hp h
 | ⟨t, _ :: _, o'⟩ :: r, g, o, hp, h => by cases hp
def smK (T : List (Nat × TI)) (N : Nat) (ops : List Oper) (kp : List OE) (pf : Bool) (o : Oper) (st : St) (k : St → Prop) : Prop :=
 match st with
 | ⟨K, O, nid⟩ => (match tagsOf ops K o.guard with
  | none => False
  | some tg => (match o.op with
   | .move x => withA (evalO K tg x) fun a => putS N o.dst tg a K O nid k
   | .nilCheck x => withA (evalO K tg x) fun a => (match a with
    | .p id off => putS N o.dst tg (.p id off) K O nid k
    | _ => False)
   | .fieldAddr s x f => withA (evalO K tg x) fun a => (match tget s T with
    | some ti => (match fieldD ti.desc f with
     | some fld => (match tget fld.type T with
      | some ft => (match ft.size with
       | 0 => False
       | _ + 1 => (match a with
        | .p id off => putS N o.dst tg (.p id (off + fld.offset)) K O nid k
        | .rp cs => dropK fld.offset cs fun l => putS N o.dst tg (.rp l) K O nid k
        | _ => False))
      | none => False)
     | none => False)
    | none => False)
   | .indexAddr t x i => withA (evalO K tg x) fun a => withA (evalO K tg i) fun b => (match a, b, tget t T with
    | .p id off, .i _ q, some ti => (match ti.desc with
     | .array n e => (match tget e T with
      | some te => (0 ≤ q ∧ q < (n : Int)) ∧ putS N o.dst tg (.p id (off + q.toNat * te.size)) K O nid k
      | none => False)
     | _ => False)
    | .rs sz n get, .i _ q, some ti => (match sliceD ti.desc with
     | some e => (match tget e T with
      | some te => (match Nat.beq sz te.size with
       | true => (0 ≤ q ∧ q < (n : Int)) ∧ putS N o.dst tg (.rp (get q.toNat)) K O nid k
       | false => False)
      | none => False)
     | none => False)
    | _, _, _ => False)
   | .load t x => (match pf with
    | true => withA (evalO K tg x) fun a => (match tget t T with
     | some ti => (match a with
      | .p id off => (match getO id kp with
       | some ([], .cells _ cs) => dropTakeK off ti.size cs fun l => packK ti.agg l fun r => putS N o.dst tg r K O nid k
       | _ => False)
      | .rp cs => dropTakeK 0 ti.size cs fun l => packK ti.agg l fun r => putS N o.dst tg r K O nid k
      | _ => False)
     | none => False)
    | false => False)
   | .binOp op _ x y _ => withA (evalO K tg x) fun a => withA (evalO K tg y) fun b => (match a, b with
    | .i j p, .i j' q => (match Nat.beq (kn j) (kn j'), binI op j p q with
     | true, some (.b c) => putS N o.dst tg (.b c) K O nid k
     | _, _ => False)
    | _, _ => False)
   | _ => False))
def execKs (P : Program) (T : List (Nat × TI)) (N : Nat) (ops : List Oper) (kp : List OE) : List (Nat × Bool) → Bool → St → (St → Prop) → Prop
 | [], _, st, k => k st
 | (i, b) :: r, pf, st, k => (match nthO ops i with
  | none => False
  | some o => (match b with
   | true => smK T N ops kp pf o st fun st' => execKs P T N ops kp r pf st' k
   | false => stepX P T N ops o st fun st' => execKs P T N ops kp r false st' k))
def execK (P : Program) (T : List (Nat × TI)) (N : Nat) (ops : List Oper) (ids : List Nat) (st : St) (k : St → Prop) : Prop :=
 match st with
 | ⟨K, O, nid⟩ => plainO (keepO ids O) = true ∧ ∃ (σ : List (Nat × Bool)) (M : List Nat), checkB ops σ M = true ∧ execKs P T N ops (keepO ids O) σ true ⟨K, dropO ids O, nid⟩ fun st' =>
   match st' with
   | ⟨K', O', nid'⟩ => k ⟨K', appO (keepO ids O) (dropO ids O'), nid'⟩
section
variable {C : Cx} {G A' F0 : Nat → Prop} {P : Program} {T : List (Nat × TI)} {w w1 : World} {N n0 : Nat} {a : Act} {β0 : Bd} {kp : List OE}
def SimK (C : Cx) (G A' F0 : Nat → Prop) (β0 : Bd) (n0 : Nat) (w : World) (N : Nat) (pf : Bool) (st : St) (a : Act) (w1 : World) : Prop :=
 ∃ β, SimF A' G w N (fun s => find s st.K) (fun id => getO id st.O) st.nid β a w1 ∧ Agr C β st.nid ∧ (agree n0 β0 β ∧ n0 ≤ st.nid) ∧
  (pf = true → w1 = w ∧ β = β0 ∧ st.nid = n0 ∧ (∀ b, FO G (fun id => getO id st.O) β a b → F0 b) ∧ ∀ b, A' b → FO G (fun id => getO id st.O) β a b)
def KeptOk (A' F0 : Nat → Prop) (β0 : Bd) (n0 : Nat) (w : World) (kp : List OE) : Prop :=
 ∀ id o, getO id kp = some ([], o) → id < n0 ∧ ObjOk β0 n0 F0 w id o ∧ ∀ b, ownB β0 id o b → ¬ A' b
section
variable {tg : Tags} {r : AV} {K : List KE} {O : List OE} {nid : Nat} {k : St → Prop} {pf : Bool} {β : Bd}
theorem putS_K {d : Option Nat} {v : Value} (S : SimF A' G w N (fun s => find s K) (fun id => getO id O) nid β a w1) (hag : Agr C β nid) (ha0 : agree n0 β0 β ∧ n0 ≤ nid)
  (hp : pf = true → w1 = w ∧ β = β0 ∧ nid = n0 ∧ (∀ b, FO G (fun id => getO id O) β a b → F0 b) ∧ ∀ b, A' b → FO G (fun id => getO id O) β a b) (h : putS N d tg r K O nid k) (hr : sat tg a → Rep β nid (FO G (fun id => getO id O) β a) w1 r v) (hu : ¬ sat tg a → v = undef) :
  ∃ st', k st' ∧ SimK C G A' F0 β0 n0 w N pf st' (a.put d v) w1 := by
 obtain ⟨K', hk, hK, hd⟩ := putS_iff h
 have hs : ∀ id g o, getO id O = some (g, o) → (sat g (a.put d v) ↔ sat g a) := fun id g o h1 => by
  cases d with
  | none => exact Iff.rfl
  | some n => exact sat_put ((hd n rfl).2.2.2 id g o h1)
 refine ⟨_, hk, β, ?_, hag, ha0, fun h => ⟨(hp h).1, (hp h).2.1, (hp h).2.2.1, fun b hb => (hp h).2.2.2.1 b ?_, fun b hb => ?_⟩⟩
 ·have := S.put d tg r v hd hr hu
  show SimF A' G w N (fun s => find s K') (fun id => getO id O) nid β (a.put d v) w1
  rw [hK]
  exact this
 ·rcases hb with h1 | ⟨id, g, o, h1, h2, h3⟩
  ·exact .inl h1
  ·exact .inr ⟨id, g, o, h1, (hs id g o h1).1 h2, h3⟩
 ·rcases (hp h).2.2.2.2 b hb with h1 | ⟨id, g, o, h1, h2, h3⟩
  ·exact .inl h1
  ·exact .inr ⟨id, g, o, h1, (hs id g o h1).2 h2, h3⟩
theorem smK_put {ops : List Oper} {o : Oper} (S : SimF A' G w N (fun s => find s K) (fun id => getO id O) nid β a w1) (hag : Agr C β nid) (ha0 : agree n0 β0 β ∧ n0 ≤ nid)
  (hp : pf = true → w1 = w ∧ β = β0 ∧ nid = n0 ∧ (∀ b, FO G (fun id => getO id O) β a b → F0 b) ∧ ∀ b, A' b → FO G (fun id => getO id O) β a b) (htg : tagsOf ops K o.guard = some tg) (h : putS N o.dst tg r K O nid k)
  (hv : sat tg a → ∃ v, (∀ w', Frame A' w w' → (execOp a.eval o).run P w' = .ok (.value v) w') ∧ Rep β nid (FO G (fun id => getO id O) β a) w1 r v) :
  smW (fun w' => Frame A' w w') P ops o (fun a2 w2 => ∃ st', k st' ∧ SimK C G A' F0 β0 n0 w N pf st' a2 w2) a w1 := by
 have hw := wanted_iff (C := ⟨A', C.m, C.β0⟩) S htg
 unfold smW wantd
 by_cases hs : sat tg a
 ·rw [if_pos (hw.2 hs)]
  obtain ⟨v, h1, h2⟩ := hv hs
  exact ⟨v, h1, putS_K S hag ha0 hp h (fun _ => h2) (fun hn => (hn hs).elim)⟩
 ·rw [if_neg (fun hwt => hs (hw.1 hwt))]
  exact putS_K S hag ha0 hp h (fun hs' => (hs hs').elim) (fun _ => rfl)
theorem load_kept (hT : TabOk P T) {t : TypeId} {ti : TI} (hti : tget t T = some ti) {g off : Nat} {vs : Nat → Value} {cs : List AV} {F : Nat → Prop} (hrep : ∀ j, (h : j < cs.length) → Rep β nid F w1 cs[j] (vs j))
  {k : AV → Prop} {q : Nat} (hc : ∀ w', Frame A' w w' → ∀ j, j < cs.length → w'.cell? ⟨g, off + j, none⟩ = some (vs j)) (hq : q + ti.size ≤ cs.length) (h : packK ti.agg ((cs.drop q).take ti.size) k) :
  ∃ r v, k r ∧ (∀ w', Frame A' w w' → (loadVar t ⟨g, off + q, none⟩).run P w' = .ok v w') ∧ Rep β nid F w1 r v := by
 have hrun : ∀ w', Frame A' w w' → (ti.agg = true → (loadVar t ⟨g, off + q, none⟩).run P w' = .ok (.agg ((List.range ti.size).map fun j => vs (q + j)).toArray) w') ∧ (ti.agg = false → ∀ h : 0 < ((List.range ti.size).map fun j => vs (q + j)).length, (loadVar t ⟨g, off + q, none⟩).run P w' = .ok ((List.range ti.size).map fun j => vs (q + j))[0] w') := fun w' hf =>
  load_run (hT.get hti) g (off + q) _ (by simp) fun j hj => by
   simp at hj
   have := hc w' hf (q + j) (by omega)
   rw [Nat.add_assoc, this]
   simp
 unfold packK at h
 split at h
 ·rename_i l hagg
  refine ⟨_, _, h, fun w' hf => (hrun w' hf).1 hagg, .ag _ _ (by simp; omega) fun j g1 g2 => ?_⟩
  simp at g1 g2
  simpa using hrep (q + j) (by omega)
 ·rename_i z hagg hl1
  have hlen : ((cs.drop q).take ti.size).length = 1 := by rw [hl1]; rfl
  have hsz1 : ti.size = 1 := by
   simp at hlen
   omega
  have h0 : 0 < ((List.range ti.size).map fun j => vs (q + j)).length := by simp; omega
  refine ⟨_, _, h, fun w' hf => (hrun w' hf).2 hagg h0, ?_⟩
  have hz : z = cs[q]'(by omega) := by
   have := congrArg (fun l => l[0]?) hl1
   simp [hsz1] at this
   have h2 : q < cs.length := by omega
   simp [h2] at this
   exact this.symm
  rw [hz]
  simpa using hrep q (by omega)
 ·exact h.elim
end
theorem smK_sound (hT : TabOk P T) (hkp : KeptOk A' F0 β0 n0 w kp) {ops : List Oper} {pf : Bool} {o : Oper} {st : St} {k : St → Prop} (S : SimK C G A' F0 β0 n0 w N pf st a w1) (h : smK T N ops kp pf o st k) :
  smW (fun w' => Frame A' w w') P ops o (fun a2 w2 => ∃ st', k st' ∧ SimK C G A' F0 β0 n0 w N pf st' a2 w2) a w1 := by
 obtain ⟨K, O, nid⟩ := st
 obtain ⟨β, S, hag, ha0, hp⟩ := S
 dsimp only at S hag ha0 hp
 have ev : ∀ {tg : Tags} {x : Operand} {r : AV}, evalO K tg x = some r → sat tg a → Rep β nid (FO G (fun id => getO id O) β a) w1 r (a.eval x) := fun hr hs => evalO_sound (C := ⟨A', C.m, C.β0⟩) S hs _ _ hr
 unfold smK at h
 dsimp only at h
 split at h
 ·exact h.elim
 rename_i tg htg
 split at h
 ·rename_i x hop
  obtain ⟨r, hr, h⟩ := withA_iff h
  exact smK_put S hag ha0 hp htg h fun hs => ⟨a.eval x, fun w' _ => by simp [execOp, hop], ev hr hs⟩
 ·rename_i x hop
  obtain ⟨r, hr, h⟩ := withA_iff h
  split at h
  ·rename_i id off
   refine smK_put S hag ha0 hp htg h fun hs => ?_
   obtain ⟨hid, hv⟩ := (ev hr hs).p_inv
   exact ⟨.pointer (some ⟨β.blk id, off, none⟩), fun w' _ => by simp [execOp, hop, hv], .p _ _ hid⟩
  ·exact h.elim
 ·rename_i s x f hop
  obtain ⟨r, hr, h⟩ := withA_iff h
  split at h
  ·rename_i ti hti
   split at h
   ·rename_i fld hf
    split at h
    ·rename_i ft hft
     split at h
     ·exact h.elim
     ·rename_i m hm
      split at h
      ·rename_i id off
       refine smK_put S hag ha0 hp htg h fun hs => ?_
       obtain ⟨hid, hv⟩ := (ev hr hs).p_inv
       exact ⟨_, fun w' _ => by simp only [execOp, hop]; rw [hv]; exact run_value (fieldAddr_run hT hti hf hft hm _ _), .p _ _ hid⟩
      ·rename_i cs
       obtain ⟨hle, h⟩ := dropK_iff h
       refine smK_put S hag ha0 hp htg h fun hs => ?_
       have hv := (ev hr hs).rp_inv
       generalize hvx : a.eval x = vx at hv
       cases hv with
       | rp _ g off vs hF hg hc h1' hrr =>
        refine ⟨_, fun w' _ => by simp only [execOp, hop]; rw [hvx]; exact run_value (fieldAddr_run hT hti hf hft hm _ _), .pure _ _ (.rp _ g _ (fun j => vs (fld.offset + j)) hF hg ?_ ?_ ?_)⟩
        ·intro j hj
         simp at hj
         have := hc (fld.offset + j) (by omega)
         rwa [← Nat.add_assoc] at this
        ·intro j hj
         simp at hj
         exact h1' _ (by omega)
        ·intro j hj
         simp at hj
         simpa using hrr (fld.offset + j) (by omega)
      ·exact h.elim
    ·exact h.elim
   ·exact h.elim
  ·exact h.elim
 ·rename_i t x i hop
  obtain ⟨r, hr, h⟩ := withA_iff h
  obtain ⟨r2, hr2, h⟩ := withA_iff h
  cases r with
  | p id off =>
   cases r2 with
   | i kk q =>
    cases hti : tget t T with
    | none => rw [hti] at h; exact h.elim
    | some ti =>
     rw [hti] at h
     dsimp only at h
     split at h
     ·rename_i n e hd
      split at h
      ·rename_i te hte
       obtain ⟨hq, h⟩ := h
       refine smK_put S hag ha0 hp htg h fun hs => ?_
       obtain ⟨hid, hv⟩ := (ev hr hs).p_inv
       have hu := (ev hr2 hs).i_inv
       exact ⟨_, fun w' _ => by simp only [execOp, hop]; rw [hv, hu]; exact run_value (indexAt_arr hT hti hd hte _ _ kk q hq), .p _ _ hid⟩
      ·exact h.elim
     ·exact h.elim
   | _ => exact h.elim
  | rs sz n get =>
   cases r2 with
   | i kk q =>
    cases hti : tget t T with
    | none => rw [hti] at h; exact h.elim
    | some ti =>
     rw [hti] at h
     dsimp only at h
     split at h
     ·rename_i e he
      split at h
      ·rename_i te hte
       split at h
       ·rename_i hsz
        have hsz : sz = te.size := by simpa using hsz
        obtain ⟨hq, h⟩ := h
        refine smK_put S hag ha0 hp htg h fun hs => ?_
        have hv := (ev hr hs).rs_inv
        have ei := (ev hr2 hs).i_inv
        generalize hvx : a.eval x = vx at hv
        cases hv with
        | rsnil => exact absurd hq (by simp)
        | rsz => exact absurd hq (by simp)
        | rs _ _ _ g off cap vs hn hm hF hgl hlen hc h1' hr =>
         have hlt : q.toNat < n := by omega
         refine ⟨.pointer (some ⟨g, off + q.toNat * te.size, none⟩), fun w' _ => ?_, .pure _ _ (.rp _ g _ (fun j => vs q.toNat j) hF hgl ?_ ?_ ?_)⟩
         ·simp only [execOp, hop]
          rw [hvx, ei]
          exact run_value (indexAt_run hT hti he hte g off n cap kk q hq)
         ·intro j hj
          rw [hlen _ hlt] at hj
          rw [← hsz]
          exact hc _ _ hlt hj
         ·intro j hj
          rw [hlen _ hlt] at hj
          exact h1' _ _ hlt hj
         ·intro j hj
          exact hr _ _ hlt hj
       ·exact h.elim
      ·exact h.elim
     ·exact h.elim
   | _ => exact h.elim
  | _ => exact h.elim
 ·rename_i t x hop
  split at h
  ·obtain ⟨r, hr, h⟩ := withA_iff h
   obtain ⟨hw1, hb0, hnid, hFO, hA⟩ := hp rfl
   have hload : ∀ {p w' z}, a.eval x = .pointer (some p) → (loadVar t p).run P w' = .ok z w' → (execOp a.eval o).run P w' = .ok (.value z) w' := fun {p w' z} e hz => by
    simp only [execOp, hop]
    rw [e]
    exact run_value (by simpa [Instr.loadAt, Instr.sureAddr] using hz)
   split at h
   ·rename_i ti hti
    split at h
    ·rename_i id off
     split at h
     ·rename_i e cs hgo
      obtain ⟨hsz, h⟩ := dropTakeK_iff h
      obtain ⟨hid0, hok, hnA⟩ := hkp id _ hgo
      have hown : ¬ A' (β0.blk id) := hnA _ rfl
      obtain ⟨vs, hh, hl, hc⟩ := hok
      have hlt : β0.blk id < w.heap.size := (Array.getElem?_eq_some_iff.1 hh).1
      have hrep : ∀ j, (h1 : j < cs.length) → Rep β nid (FO G (fun id => getO id O) β a) w1 cs[j] (vs.getD j undef) := fun j h1 => by
       have h2 : j < vs.length := by omega
       have e2 : vs.getD j undef = vs[j] := by simp [List.getD, h2]
       rw [hw1, hb0, hnid, e2]
       refine (hc j h1 h2).1.stable (fun g hg hn hf => hn (hFO g ?_)) (fun _ _ _ => rfl) (Nat.le_refl _)
       rw [hb0]
       exact hf
      obtain ⟨r, v, hk, hv1, hv2⟩ := load_kept (A' := A') (w := w) (w1 := w1) (g := β0.blk id) (off := 0) hT hti hrep (fun w' hf j hj => by
       have h2 : w'.heap[β0.blk id]? = some (.cells vs.toArray e (0, 0)) := by rw [hf.block _ hlt hown]; exact hh
       have := cell_of_row w' (β0.blk id) (0 + j) vs.toArray e (0, 0) h2
       rw [this]
       have h3 : j < vs.length := by omega
       simp [List.getD, h3]) hsz h
      refine smK_put S hag ha0 hp htg hk fun hs => ⟨v, fun w' hf => ?_, hv2⟩
      obtain ⟨hid, hv⟩ := (ev hr hs).p_inv
      rw [hb0] at hv
      have := hv1 w' hf
      rw [Nat.zero_add] at this
      exact hload hv this
     ·exact h.elim
    ·rename_i cs
     obtain ⟨hsz, h⟩ := dropTakeK_iff h
     by_cases hs0 : sat tg a
     ·have hv := (ev hr hs0).rp_inv
      generalize hvx : a.eval x = vx at hv
      cases hv with
      | rp _ g off vs hF hgl hc h1' hrr =>
       have hgA : ¬ A' g := fun ha => hF (hA g ha)
       obtain ⟨r, v, hk, hv1, hv2⟩ := load_kept (A' := A') (w := w) (w1 := w1) (g := g) (off := off) (β := β) (nid := nid) hT hti (fun j h1 => .pure _ _ (hrr j h1)) (fun w' hf j hj => by
        rw [World.cell?_of_block (w := w1) (by rw [hf.block g (by rw [← hw1]; exact hgl) hgA, hw1])]
        exact hc j hj) hsz h
       exact smK_put S hag ha0 hp htg hk fun hs => ⟨v, fun w' hf => hload hvx (hv1 w' hf), hv2⟩
     ·unfold packK at h
      split at h
      ·exact smK_put S hag ha0 hp htg h fun hs => (hs0 hs).elim
      ·exact smK_put S hag ha0 hp htg h fun hs => (hs0 hs).elim
      ·exact h.elim
    ·exact h.elim
   ·exact h.elim
  ·exact h.elim
 ·rename_i op t2 x y t3 hop
  obtain ⟨r, hr, h⟩ := withA_iff h
  obtain ⟨r2, hr2, h⟩ := withA_iff h
  cases r with
  | i j p =>
   cases r2 with
   | i j' q =>
    dsimp only at h
    split at h
    ·rename_i c hk hb
     have hk : j = j' := kn_inj hk
     subst hk
     refine smK_put S hag ha0 hp htg h fun hs => ⟨.bool c, fun w' _ => ?_, .pure _ _ (.b c)⟩
     have hu := (ev hr hs).i_inv
     have hv := (ev hr2 hs).i_inv
     have hg := guard_int (P := P) (w := w') op t2 x y j j p q
     obtain ⟨z, hz, hrep⟩ := binI_sound (P := P) (w := w') t2 hb
     have hz2 : z = .bool c := by cases hrep; rfl
     subst hz2
     simp only [execOp, hop]
     rw [hu, hv]
     refine run_value ?_
     rw [Sem.run_bind, hg]
     exact hz
    ·exact h.elim
   | _ => exact h.elim
  | _ => exact h.elim
 ·exact h.elim
theorem execKs_can (hT : TabOk P T) (hkp : KeptOk A' F0 β0 n0 w kp) {ops : List Oper} {k : St → Prop} : ∀ {σ : List (Nat × Bool)} {pf : Bool} {st : St} {a : Act} {w1 : World}, SimK C G A' F0 β0 n0 w N pf st a w1 → execKs P T N ops kp σ pf st k →
  canW (fun w' => Frame A' w w') P ops (fun a2 w2 => ∃ st', k st' ∧ SimK C G A' F0 β0 n0 w N false st' a2 w2) σ a w1
 | [], pf, st, a, w1, S, h => by
  obtain ⟨β, S, hag, h1, _⟩ := S
  exact ⟨S.below, st, h, β, S, hag, h1, fun h => by cases h⟩
 | (i, b) :: r, pf, st, a, w1, S, h => by
  have hS : Frame A' w w1 := by
   obtain ⟨β, S, _⟩ := S
   exact S.below
  unfold execKs at h
  split at h
  ·exact h.elim
  ·rename_i o ho
   refine ⟨hS, o, nthO_iff ho, ?_⟩
   split at h
   ·show smW _ P ops o _ a w1
    exact smW_mono (fun a2 w2 ⟨st', hk, S'⟩ => execKs_can hT hkp S' hk) (smK_sound hT hkp S h)
   ·show bgW P ops o _ a w1
    obtain ⟨β, S, hag, h1, _⟩ := S
    have S0 : Sim ⟨A', st.nid, β⟩ G w N st a w1 := ⟨β, S, ⟨fun _ _ => ⟨rfl, rfl⟩, Nat.le_refl _⟩⟩
    exact stepX_sound (Q := NoQ) (next := canW (fun w' => Frame A' w w') P ops (fun a2 w2 => ∃ st', k st' ∧ SimK C G A' F0 β0 n0 w N false st' a2 w2) r) hT (fun st2 a2 w2 hk2 hs2 => by
     obtain ⟨β2, S2, hag2⟩ := hs2
     have hag3 : agree st.nid β β2 := hag2.ag
     have hle : st.nid ≤ st2.nid := hag2.le
     exact execKs_can hT hkp (pf := false) ⟨β2, S2, hag.of hag3 hle, ⟨fun id hid => ⟨((hag3 id (Nat.lt_of_lt_of_le hid h1.2)).1).trans (h1.1 id hid).1, ((hag3 id (Nat.lt_of_lt_of_le hid h1.2)).2).trans (h1.1 id hid).2⟩, Nat.le_trans h1.2 hle⟩, fun h => by cases h⟩ hk2) S0 h
end
section
variable {C : Cx} {G : Nat → Prop} {P : Program} {T : List (Nat × TI)} {w0 w : World} {N : Nat} {a : Act}
theorem execK_sound (hT : TabOk P T) {ops : List Oper} {ids : List Nat} {Q : Exit → Act → World → Prop} {id : Nat} {st : St} {k : St → Prop} (S : Sim C G w0 N st a w) (h : execK P T N ops ids st k)
  (hq : ∀ st' a' w', k st' → Sim C G w0 N st' a' w' → Q .normal a' w') : (Code.region id ops.toArray true).wp P Q a w := by
 obtain ⟨K, O, nid⟩ := st
 obtain ⟨hpl, σ, M, hchk, h⟩ := h
 unfold checkB at hchk
 split at hchk
 ·rename_i c1 c2 c3 c4 c5 c6
  refine wp_region_any hT.mixed ?_
  have S1 := sim_drawn S
  generalize hwd : ({ w with drawn := w.drawn + 1 } : World) = wd at S1
  have hM : GoodM ops M := marksB_iff c3
  have hback : ∀ i, (hi : i < ops.length) → ∀ e ∈ ops[i].after.toList, Region.binds .any e = true → e.on < i := fun i hi e he hb => by
   have := backsB_iff c2 i hi e he hb
   omega
  obtain ⟨β, S1, hag⟩ := S1
  dsimp only at S1 hag
  have hkeep : ∀ id g o, getO id (keepO ids O) = some (g, o) → g = [] ∧ memN id ids = true ∧ getO id O = some (g, o) := fun id g o h1 => by
   have h2 := getO_keep h1
   refine ⟨plainO_get hpl h1, h2, ?_⟩
   have := getO_keep_in h2 [] rfl O
   rw [appO_nil] at this
   rw [← this]
   exact h1
  have hout : ∀ id g o, getO id (dropO ids O) = some (g, o) → memN id ids = false ∧ getO id O = some (g, o) := fun id g o h1 => by
   cases hm : memN id ids with
   | true => rw [getO_drop_in hm] at h1; cases h1
   | false => exact ⟨rfl, by rw [getO_drop_out hm] at h1; exact h1⟩
  let A' : Nat → Prop := fun b => ∃ id g o, getO id (dropO ids O) = some (g, o) ∧ sat g a ∧ ownB β id o b
  let Kp : Nat → Prop := fun b => ∃ id g o, getO id (keepO ids O) = some (g, o) ∧ ownB β id o b
  let G' : Nat → Prop := fun b => G b ∨ Kp b
  let F0 : Nat → Prop := FO G (fun id => getO id O) β a
  have hKpF : ∀ b, Kp b → F0 b := fun b ⟨id, g, o, h1, h2⟩ => by
   obtain ⟨hg, _, h3⟩ := hkeep id g o h1
   subst hg
   exact .inr ⟨id, _, o, h3, sat_nil a, h2⟩
  have hKpl : ∀ b, Kp b → b < wd.heap.size := fun b hb => S1.old (hKpF b hb)
  have hKpA : ∀ b, Kp b → ¬ A' b := fun b ⟨id, g, o, h1, h2⟩ ⟨id', g', o', h3, h4, h5⟩ => by
   obtain ⟨hg, hm, h6⟩ := hkeep id g o h1
   obtain ⟨hm', h7⟩ := hout id' g' o' h3
   subst hg
   have := S1.dist id id' _ g' o o' b h6 h7 (sat_nil a) h4 h2 h5
   rw [this, hm'] at hm
   cases hm
  have hFOeq : ∀ b, FO G' (fun id => getO id (dropO ids O)) β a b ↔ F0 b := fun b => by
   constructor
   ·rintro ((h1 | h1) | ⟨id, g, o, h1, h2, h3⟩)
    ·exact .inl h1
    ·exact hKpF b h1
    ·exact .inr ⟨id, g, o, (hout id g o h1).2, h2, h3⟩
   ·rintro (h1 | ⟨id, g, o, h1, h2, h3⟩)
    ·exact .inl (.inl h1)
    ·cases hm : memN id ids with
     | true =>
      refine .inl (.inr ⟨id, g, o, ?_, h3⟩)
      have := getO_keep_in hm [] rfl O
      rw [appO_nil] at this
      rw [this]
      exact h1
     | false => exact .inr ⟨id, g, o, (getO_drop_out hm O).trans h1, h2, h3⟩
  have hFO : FO G' (fun id => getO id (dropO ids O)) β a = F0 := funext fun b => propext (hFOeq b)
  have hkp : KeptOk A' F0 β nid wd (keepO ids O) := fun id o h1 => by
   obtain ⟨_, hm, h3⟩ := hkeep id _ o h1
   have h4 := S1.of id _ o h3
   exact ⟨h4.1, h4.2 (sat_nil a), fun b hb => hKpA b ⟨id, _, o, h1, hb⟩⟩
  have hP : SimK C G' A' F0 β nid wd N true ⟨K, dropO ids O, nid⟩ a wd := by
   refine ⟨β, ⟨fun b hb => ?_, ⟨rfl, rfl, rfl, Nat.le_refl _, fun _ _ _ => rfl, Nat.le_refl _⟩, S1.tsz, S1.dfs, ?_, ?_, fun id g o b h1 h2 h3 => .inl ⟨id, g, o, h1, h2, h3⟩, ?_⟩, hag, ⟨fun _ _ => ⟨rfl, rfl⟩, Nat.le_refl _⟩, fun _ => ⟨rfl, rfl, rfl, fun b hb => (hFOeq b).1 hb, fun b hb => .inr hb⟩⟩
   ·rcases hb with h1 | h1
    ·exact Nat.lt_of_lt_of_le (S1.gold b h1) S1.below.size
    ·exact hKpl b h1
   ·dsimp only
    rw [hFO]
    exact S1.kf
   ·dsimp only
    intro id g o h1
    rw [hFO]
    exact S1.of id g o (hout id g o h1).2
   ·intro id id' g g' o o' b h1 h2
    exact S1.dist id id' g g' o o' b (hout id g o h1).2 (hout id' g' o' h2).2
  have hcan := execKs_can hT hkp hP h
  have back : ∀ a' w', (∃ st', (match st' with | ⟨K', O', nid'⟩ => k ⟨K', appO (keepO ids O) (dropO ids O'), nid'⟩) ∧ SimK C G' A' F0 β nid wd N false st' a' w') → Q .normal a' w' := by
   rintro a' w' ⟨⟨K', O', nid'⟩, hk, β', S', hag', ⟨hag0, hn0⟩, _⟩
   dsimp only at hk S' hag' hn0
   have hag0' : ∀ i, i < nid → β'.blk i = β.blk i ∧ β'.val i = β.val i := hag0
   have kin : ∀ id g o, memN id ids = true → getO id (appO (keepO ids O) (dropO ids O')) = some (g, o) → g = [] ∧ getO id O = some (g, o) ∧ getO id (keepO ids O) = some (g, o) := fun id g o hm h1 => by
    rw [getO_keep_in hm _ (getO_drop_in hm O') O] at h1
    have h2 : getO id (keepO ids O) = some (g, o) := by
     have := getO_keep_in hm [] rfl O
     rw [appO_nil] at this
     rw [this]
     exact h1
    exact ⟨plainO_get hpl h2, h1, h2⟩
   have kout : ∀ id, memN id ids = false → getO id (appO (keepO ids O) (dropO ids O')) = getO id O' := fun id hm => by
    rw [getO_keep_out hm, getO_drop_out hm]
   have hown' : ∀ id o, id < nid → ObjOk β nid F0 wd id o → ownB β' id o = ownB β id o := fun id o hid hok =>
    ownB_eq (hag0' id hid) fun x hx => (hag0' x (hok.aux_lt hx)).2
   have kown : ∀ id g o b, memN id ids = true → getO id (appO (keepO ids O) (dropO ids O')) = some (g, o) → ownB β' id o b → Kp b ∧ ownB β id o b := fun id g o b hm h1 h2 => by
    obtain ⟨hg, h3, h4⟩ := kin id g o hm h1
    subst hg
    have h5 := S1.of id _ o h3
    rw [hown' id o h5.1 (h5.2 (sat_nil a))] at h2
    exact ⟨⟨id, _, o, h4, h2⟩, h2⟩
   have hA0 : ∀ b, A' b → F0 b := fun b ⟨id, g, o, h1, h2, h3⟩ => .inr ⟨id, g, o, (hout id g o h1).2, h2, h3⟩
   have hsub : ∀ b, FO G (fun id => getO id (appO (keepO ids O) (dropO ids O'))) β' a' b → FO G' (fun id => getO id O') β' a' b := fun b hb => by
    rcases hb with h1 | ⟨id, g, o, h1, h2, h3⟩
    ·exact .inl (.inl h1)
    ·cases hm : memN id ids with
     | true => exact .inl (.inr (kown id g o b hm h1 h3).1)
     | false => exact .inr ⟨id, g, o, (kout id hm).symm.trans h1, h2, h3⟩
   have hF0 : ∀ b, b < wd.heap.size → FO G (fun id => getO id (appO (keepO ids O) (dropO ids O'))) β' a' b → F0 b := fun b hb hf => by
    rcases hf with h1 | ⟨id, g, o, h1, h2, h3⟩
    ·exact .inl h1
    ·cases hm : memN id ids with
     | true => exact hKpF b (kown id g o b hm h1 h3).1
     | false =>
      rcases S'.allow id g o b ((kout id hm).symm.trans h1) h2 h3 with h4 | h4
      ·exact hA0 b h4
      ·omega
   refine hq _ a' w' hk ⟨β', ?_, hag'⟩
   refine ⟨S1.gold, ⟨S'.below.os.trans S1.below.os, S'.below.tape.trans S1.below.tape, S'.below.output.trans S1.below.output, Nat.le_trans S1.below.size S'.below.size, fun b hb hA => ?_, Nat.le_refl _⟩, S'.tsz, S'.dfs, fun s g av h1 => ⟨fun h2 => ?_, (S'.kf s g av h1).2⟩, fun id g o h1 => ?_, fun id g o b h1 h2 h3 => ?_, fun id id' g g' o o' b h1 h2 h3 h4 h5 h6 => ?_⟩
   ·rw [S'.below.block b (Nat.lt_of_lt_of_le hb S1.below.size) ?_]
    ·exact S1.below.block b hb hA
    ·rintro ⟨id, g, o, h1, h2, h3⟩
     rcases S1.allow id g o b (hout id g o h1).2 h2 h3 with h | h
     ·exact hA h
     ·omega
   ·exact ((S'.kf s g av h1).1 h2).stable (fun b _ hn hf => hn (hsub b hf)) (fun _ _ _ => rfl) (Nat.le_refl _)
   ·cases hm : memN id ids with
    | true =>
     obtain ⟨hg, h3, h4⟩ := kin id g o hm h1
     subst hg
     have h5 := S1.of id _ o h3
     refine ⟨Nat.lt_of_lt_of_le h5.1 hn0, fun _ => (h5.2 (sat_nil a)).stable h5.1 hn0 hag0' (fun b hb hn hf => hn (hF0 b hb hf)) (fun b hb hn => S'.below.block b hb fun h => hn (hA0 b h)) S'.below.size fun b hb => ?_⟩
     have : Kp b := ⟨id, _, o, h4, hb⟩
     exact S'.below.block b (hKpl b this) (hKpA b this)
    | false =>
     have h3 : getO id O' = some (g, o) := (kout id hm).symm.trans h1
     have h4 := S'.of id g o h3
     exact ⟨h4.1, fun h5 => (h4.2 h5).stable h4.1 (Nat.le_refl _) (fun _ _ => ⟨rfl, rfl⟩) (fun b _ hn hf => hn (hsub b hf)) (fun _ _ _ => rfl) (Nat.le_refl _) (fun _ _ => rfl)⟩
   ·cases hm : memN id ids with
    | true =>
     obtain ⟨hg, h5, _⟩ := kin id g o hm h1
     subst hg
     exact S1.allow id _ o b h5 (sat_nil a) (kown id _ o b hm h1 h3).2
    | false =>
     rcases S'.allow id g o b ((kout id hm).symm.trans h1) h2 h3 with ⟨id', g', o', g1, g2, g3⟩ | h
     ·exact S1.allow id' g' o' b (hout id' g' o' g1).2 g2 g3
     ·exact .inr (Nat.le_trans S1.below.size h)
   ·have cross : ∀ id g o id' g' o', memN id ids = true → memN id' ids = false → getO id (appO (keepO ids O) (dropO ids O')) = some (g, o) → getO id' (appO (keepO ids O) (dropO ids O')) = some (g', o') → sat g' a' → ownB β' id o b → ownB β' id' o' b → False := fun id g o id' g' o' hm hm' h1 h2 h4 h5 h6 => by
     have hk := (kown id g o b hm h1 h5).1
     rcases S'.allow id' g' o' b ((kout id' hm').symm.trans h2) h4 h6 with h7 | h7
     ·exact hKpA b hk h7
     ·have := hKpl b hk
      omega
    cases hm : memN id ids with
    | true =>
     cases hm' : memN id' ids with
     | true =>
      obtain ⟨e1, e2, _⟩ := kin id g o hm h1
      obtain ⟨e3, e4, _⟩ := kin id' g' o' hm' h2
      subst e1 e3
      exact S1.dist id id' _ _ o o' b e2 e4 (sat_nil a) (sat_nil a) (kown id _ o b hm h1 h5).2 (kown id' _ o' b hm' h2 h6).2
     | false => exact (cross id g o id' g' o' hm hm' h1 h2 h4 h5 h6).elim
    | false =>
     cases hm' : memN id' ids with
     | true => exact (cross id' g' o' id g o hm' hm h2 h1 h3 h6 h5).elim
     | false => exact S'.dist id id' g g' o o' b ((kout id hm).symm.trans h1) ((kout id' hm').symm.trans h2) h3 h4 h5 h6
  have hsz : (Array.replicate ops.toArray.size false).size = ops.length := by simp
  have hnone : ∀ i, (Array.replicate ops.toArray.size false).getD i false = false := fun i => by
   simp [Array.getElem?_replicate]
   split <;> rfl
  have hnd := nodupN_iff c4
  rw [fsts_eq] at hnd
  have hcov := covN_iff c5
  have hlt := allLt_iff c6
  rw [fsts_eq] at hcov hlt
  have hun : unl (Array.replicate ops.toArray.size false) ops.length ≤ ops.toArray.size := by
   have : ∀ (l : Array Bool) n, unl l n ≤ n := by
    intro l n
    induction n with
    | zero => exact Nat.le_refl _
    | succ n ih => simp only [unl]; split <;> omega
   simpa using this _ ops.length
  exact orders back hM hback ops.toArray.size σ _ a wd (pairsB_iff c1) hnd (fun i hi => ⟨fun _ => hcov i hi, fun _ => hnone i⟩) (fun x hx => hlt x.1 (List.mem_map.2 ⟨x, hx, rfl⟩)) hsz
   (fun i o hl => by rw [hnone i] at hl; cases hl) hun hcan
 ·cases hchk
end
end Go.Eng
end
