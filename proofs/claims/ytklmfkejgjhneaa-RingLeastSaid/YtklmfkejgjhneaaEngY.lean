/-
  The engine: one operation outside of regions that draw their order.
-/
import Derived.Test.YtklmfkejgjhneaaEngX
namespace Go.Eng
open Go.RowKit

def callX (P : Program) (N : Nat) (dst : Option Nat) (lk : Nat → Option AO) (K : List KE) (O : List OE) (nid : Nat) (f : AV) (args : List AV) (k : St → Prop) : Prop :=
  match f with
  | .fn fid caps =>
    (viewsK lk 60 (appL args caps) fun vs => ∃ os r, Ctr P fid vs os r ∧ applyS N dst [] K O nid (.ext (AO.rens (· + nid) os) (r.ren (· + nid))) k) ∨
    ((match AV.lts 0 (appL args caps) with
      | true => ∃ r, CtrA P fid (appL args caps) r ∧ applyS N dst [] K O nid (.ext [] r) k
      | false => False) ∨
    ∃ (al : Bool) (bor : List Nat), bvsK lk al bor 60 (appL args caps) fun vs => binK lk al bor bor fun ins => nodupN bor = true ∧ ∃ (Y : Type) (spec : Y → Prop) (outs os : Y → List AO) (r : Y → AV),
      CtrM P fid al ins vs spec outs os r ∧ ∀ y, spec y → addOs [] nid (AO.rens (rnb bor nid) (os y)) (setOs bor (AO.rens (rnb bor nid) (outs y)) O) fun O' n => putS N dst [] ((r y).ren (rnb bor nid)) K O' n k)
  | _ => False

def nextX (N : Nat) (dst : Option Nat) (lk : Nat → Option AO) (K : List KE) (O : List OE) (nid : Nat) (a : AV) (k : St → Prop) : Prop :=
  match a with
  | .p id 0 => (match lk id with
    | some (.ir n key val seen _) =>
      (∀ i, i < n → seen i = false → applyS N dst [] K O nid (.set id (.ir n key val (fun j => if j = i then true else seen j) (some i)) (.tup [.b true, key i, val i])) k) ∧
      ((∀ i, i < n → seen i = true) → applyS N dst [] K O nid (.ext [] (.tup [.b false])) k)
    | some (.it mid since seen) => (match lk mid with
      | some (.mp n key val born clock) => clock = since ∧
        (∀ i, i < n → ¬ born i ∈ seen → applyS N dst [] K O nid (.set id (.it mid since (seen ++ [born i])) (.tup [.b true, key i, val i])) k) ∧
        ((∀ i, i < n → born i ∈ seen) → applyS N dst [] K O nid (.ext [] (.tup [.b false])) k)
      | _ => False)
    | _ => False)
  | _ => False

/-- Whether a slice is nil, of which only the length is known. -/
def nilX (N : Nat) (dst : Option Nat) (lk : Nat → Option AO) (K : List KE) (O : List OE) (nid : Nat) (e : Bool) (a : AV) (k : St → Prop) : Prop :=
  match a with
  | .rs _ n _ => ∀ c : Bool, (c = true → n = 0) → applyS N dst [] K O nid (.ext [] (.b (c == e))) k
  | .sv _ _ _ n => ∀ c : Bool, (c = true → n = 0) → applyS N dst [] K O nid (.ext [] (.b (c == e))) k
  | .so id => (match lk id with
    | some (.row _ _ n _) => ∀ c : Bool, (c = true → n = 0) → applyS N dst [] K O nid (.ext [] (.b (c == e))) k
    | _ => False)
  | .val v => (match nilSlice v with
    | true => applyS N dst [] K O nid (.ext [] (.b e)) k
    | false => False)
  | _ => False

def stepX (P : Program) (T : List (Nat × TI)) (N : Nat) (ops : List Oper) (o : Oper) (st : St) (k : St → Prop) : Prop :=
  match st with
  | ⟨K, O, nid⟩ => (match o.guard, o.op with
    | none, .call ⟨.value f, ⟨args⟩, _⟩ => withA (evalO K [] f) fun a => evsK (evalO K []) args fun l => callX P N o.dst (lkOf O []) K O nid a l k
    | none, .next x false => withA (evalO K [] x) fun a => nextX N o.dst (lkOf O []) K O nid a k
    | none, .binOp .eql t x (.const v) y => (match nilSlice v, sliceAt T t with
      | true, true => withA (evalO K [] x) fun a => nilX N o.dst (lkOf O []) K O nid true a k
      | _, _ => stepS P T N ops ⟨o.dst, .binOp .eql t x (.const v) y, o.type, o.pos, o.after, none⟩ ⟨K, O, nid⟩ k)
    | none, .binOp .neq t x (.const v) y => (match nilSlice v, sliceAt T t with
      | true, true => withA (evalO K [] x) fun a => nilX N o.dst (lkOf O []) K O nid false a k
      | _, _ => stepS P T N ops ⟨o.dst, .binOp .neq t x (.const v) y, o.type, o.pos, o.after, none⟩ ⟨K, O, nid⟩ k)
    | g, op => stepS P T N ops ⟨o.dst, op, o.type, o.pos, o.after, g⟩ ⟨K, O, nid⟩ k)

def execX (P : Program) (T : List (Nat × TI)) (N : Nat) (ops : List Oper) : List Oper → St → (St → Prop) → Prop
  | [], st, k => k st
  | o :: r, st, k => stepX P T N ops o st fun st' => execX P T N ops r st' k

section
variable {C : Cx} {G : Nat → Prop} {P : Program} {T : List (Nat × TI)} {w0 w : World} {N : Nat} {a : Act} {K : List KE} {O : List OE} {nid : Nat} {β : Bd} {k : St → Prop} {dst : Option Nat}

theorem eff_sim (S : SimF C.al G w0 N (fun s => find s K) (fun id => getO id O) nid β a w) (hag : Agr C β nid) {eff : Eff} {β' : Bd} {w' : World} {v : Value}
    (hpost : EffPost β β' nid (FO G (fun id => getO id O) β a) (lkOf O []) w w' v eff) (h : applyS N dst [] K O nid eff k) : ∃ st', k st' ∧ Sim C G w0 N st' (a.put dst v) w' := by
  obtain ⟨st', hk, hfit, hO, hnid, hK, hd⟩ := applyS_iff (fun id g o h => (S.of id g o h).1) h
  obtain ⟨S', hr⟩ := S.eff (lkOf_sound (O := O) (sat_nil a)) (sat_nil a) hfit hpost
  refine ⟨st', hk, β', ?_, by rw [hnid]; exact hag.of hpost.agr (le_effN _ _)⟩
  rw [hK, hO, hnid]
  exact S'.put dst [] _ v hd (fun _ => hr) (fun hns => (hns (sat_nil a)).elim)

theorem lk_get {id : Nat} {o : AO} (h : lkOf O [] id = some o) : getO id O = some ([], o) := by
  unfold lkOf at h
  split at h
  · rename_i g o' hg
    split at h
    · rename_i hs
      obtain rfl := Option.some.inj h
      cases g with
      | nil => exact hg
      | cons p r =>
        obtain ⟨t, w⟩ := p
        simp [subTags, hasTag] at hs
    · cases h
  · cases h

theorem callX_sound (S : SimF C.al G w0 N (fun s => find s K) (fun id => getO id O) nid β a w) (hag : Agr C β nid) {f : AV} {args : List AV} {u : Value} {vs : List Value} (hu : Rep β nid (FO G (fun id => getO id O) β a) w f u) (hl : args.length = vs.length)
    (hr : ∀ (j : Nat) (h1 : j < args.length) (h2 : j < vs.length), Rep β nid (FO G (fun id => getO id O) β a) w args[j] vs[j]) (h : callX P N dst (lkOf O []) K O nid f args k) :
    Out P (fun v w' => ∃ st', k st' ∧ Sim C G w0 N st' (a.put dst v) w') ((do let d ← Deferred.ofValue u vs.toArray; invoke d.target d.args : Sem Next).run P w) := by
  have E := S.env (lkOf_sound (O := O) (sat_nil a))
  have old : ∀ (q : Eff → Prop), (∀ eff, q eff → applyS N dst [] K O nid eff k) → callA P none (lkOf O []) nid f args q → Out P (fun v w' => ∃ st', k st' ∧ Sim C G w0 N st' (a.put dst v) w') ((do let d ← Deferred.ofValue u vs.toArray; invoke d.target d.args : Sem Next).run P w) := by
    intro q hq hc
    have := callA_sound (P := P) (gc := none) (fun c h => by cases h) E hu hl hr hc
    generalize ((do let d ← Deferred.ofValue u vs.toArray; invoke d.target d.args : Sem Next).run P w) = run at this ⊢
    cases this with
    | value v w' hp =>
      obtain ⟨eff, β', hk, hpost⟩ := hp
      exact .value v w' (eff_sim S hag hpost (hq eff hk))
    | skip w' hp =>
      obtain ⟨eff, β', hk, hpost⟩ := hp
      exact .skip w' (eff_sim S hag hpost (hq eff hk))
    | enter f args w hc =>
      refine .enter f args w (hc.mono ?_)
      rintro e w' ⟨v, rfl, eff, β', hk, hpost⟩
      exact ⟨v, rfl, eff_sim S hag hpost (hq eff hk)⟩
  unfold callX at h
  split at h
  · rename_i fid caps
    rcases h with h | h | ⟨al, bor, h⟩
    · exact old (fun eff => applyS N dst [] K O nid eff k) (fun _ h => h) (.inl h)
    · refine old (fun eff => applyS N dst [] K O nid eff k) (fun _ h => h) (.inr ?_)
      exact h
    · obtain ⟨cvs, rfl, hcl, hcr⟩ := hu.fn_inv
      have hall : ∀ (j : Nat) (h1 : j < (appL args caps).length) (h2 : j < (vs ++ cvs).length), Rep β nid (FO G (fun id => getO id O) β a) w (appL args caps)[j] (vs ++ cvs)[j] := by
        intro j h1 h2
        simp only [appL_eq] at h1 ⊢
        by_cases hj : j < args.length
        · rw [List.getElem_append_left hj, List.getElem_append_left (by omega)]
          exact hr j hj (by omega)
        · rw [List.getElem_append_right (by omega), List.getElem_append_right (by omega)]
          simp only [List.length_append] at h1 h2
          have e : j - args.length = j - vs.length := by omega
          simp only [e]
          exact hcr _ (by omega) (by omega)
      have hlen : (appL args caps).length = (vs ++ cvs).length := by rw [appL_eq]; simp; omega
      let Fa : Nat → Prop := fun g => (al = true ∧ FO G (fun id => getO id O) β a g) ∨ ∃ id o, id ∈ bor ∧ lkOf O [] id = some o ∧ ownB β id o = some g
      have hFF : ∀ g, Fa g → FO G (fun id => getO id O) β a g := by
        rintro g (⟨_, h⟩ | ⟨id, o, _, h1, h2⟩)
        · exact h
        · exact .inr ⟨id, [], o, lk_get h1, sat_nil a, h2⟩
      have hFa : al = false → ∀ id o g, lkx (lkOf O []) bor id = some o → ownB β id o = some g → ¬ Fa g := by
        rintro hal id o g hlk hog (⟨h, _⟩ | ⟨id', o', hm, h1, h2⟩)
        · rw [hal] at h; cases h
        · unfold lkx at hlk
          split at hlk
          · cases hlk
          · rename_i hb
            have := S.dist id id' [] [] o o' g (lk_get hlk) (lk_get h1) (sat_nil a) (sat_nil a) hog h2
            subst this
            exact bidx_none hb hm
      obtain ⟨ws, h, hwl, hws⟩ := (bvs_sound E hFF hFa 60).2 _ (vs ++ cvs) _ hlen hall h
      obtain ⟨ins, ⟨hnd, Y, spec, outs, os, r, ⟨hc, hfn⟩, h⟩, hil, hins⟩ := bin_sound E hFF hFa [] bor _ rfl h
      have hins : ∀ j o, ins[j]? = some o → ∃ id o0, bor[j]? = some id ∧ lkOf O [] id = some o0 ∧ ObjOk (β.sub bor) bor.length Fa w j o ∧ ownB (β.sub bor) j o = ownB β id o0 := by simpa using hins
      have hnd := nodupN_iff hnd
      have hbl : ∀ id, id ∈ bor → ∃ o0, lkOf O [] id = some o0 := fun id hid => by
        obtain ⟨j, hj, rfl⟩ := List.getElem_of_mem hid
        obtain ⟨id', o0, h1, h2, _⟩ := hins j _ (List.getElem?_eq_getElem (by omega))
        rw [List.getElem?_eq_getElem hj] at h1
        rw [Option.some.inj h1]
        exact ⟨o0, h2⟩
      have hrun : ((do let d ← Deferred.ofValue (.func (.func fid) #[] cvs.toArray) vs.toArray; invoke d.target d.args : Sem Next).run P w) = .ok (.enter fid (vs ++ cvs).toArray) w := by
        have := callFunc_run (w := w) hc (vs ++ cvs).toArray
        simpa [Deferred.ofValue, invoke] using this
      rw [hrun]
      have hwl' : ws.length = (vs ++ cvs).length := hwl
      refine .enter _ _ _ ((hfn Fa w (β.sub bor) (vs ++ cvs) ?_ ?_ ?_ ?_ ?_ hwl' ?_).mono ?_)
      · rintro g ⟨j, o, hj, hg⟩
        obtain ⟨id, o0, h1, h2, _, h4⟩ := hins j o hj
        exact .inr ⟨id, o0, List.mem_of_getElem? h1, h2, by rw [← h4]; exact hg⟩
      · exact fun g hg => E.old g (hFF g hg)
      · rintro hal g (⟨h, _⟩ | ⟨id, o, hm, h1, h2⟩)
        · rw [hal] at h; cases h
        · obtain ⟨j, hj, rfl⟩ := List.getElem_of_mem hm
          have hj' : j < ins.length := by omega
          obtain ⟨id', o0, h3, h4, _, h6⟩ := hins j _ (List.getElem?_eq_getElem hj')
          rw [List.getElem?_eq_getElem hj] at h3
          obtain rfl := Option.some.inj h3
          rw [h1] at h4
          obtain rfl := Option.some.inj h4
          exact ⟨j, _, List.getElem?_eq_getElem hj', by rw [h6]; exact h2⟩
      · intro j o hj
        obtain ⟨_, _, _, _, h3, _⟩ := hins j o hj
        rw [hil]
        exact h3
      · intro j j' o o' g hj hj' hg hg'
        obtain ⟨id, o0, h1, h2, _, h4⟩ := hins j o hj
        obtain ⟨id', o0', h1', h2', _, h4'⟩ := hins j' o' hj'
        have := S.dist id id' [] [] o0 o0' g (lk_get h2) (lk_get h2') (sat_nil a) (sat_nil a) (by rw [← h4]; exact hg) (by rw [← h4']; exact hg')
        subst this
        obtain ⟨hjl, e1⟩ := List.getElem?_eq_some_iff.1 h1
        obtain ⟨hjl', e2⟩ := List.getElem?_eq_some_iff.1 h1'
        exact (List.getElem_inj hnd).1 (e1.trans e2.symm)
      · intro j h1 h2
        rw [hil]
        exact hws j h1 h2
      · rintro e w' ⟨v, β1, y, rfl, hy, hg⟩
        refine ⟨v, rfl, ?_⟩
        refine many_sound S hag hnd hil ?_ ?_ hg ?_ (h y hy)
        · intro j o hj
          obtain ⟨id, o0, h1, h2, _, h4⟩ := hins j o hj
          exact ⟨id, o0, h1, lk_get h2, h4⟩
        · intro id hid
          obtain ⟨o0, h⟩ := hbl id hid
          exact ⟨o0, lk_get h⟩
        · intro b hb
          cases al with
          | false => exact .inl ⟨rfl, S.old hb⟩
          | true => exact .inr (.inl ⟨rfl, hb⟩)
  · exact h.elim

theorem same_heap {w1 w : World} (h : w1 = w ∨ w1 = w.drew) : w1.heap = w.heap ∧ w1.os = w.os ∧ w1.tape = w.tape ∧ w1.output = w.output := by
  rcases h with rfl | rfl <;> exact ⟨rfl, rfl, rfl, rfl⟩
theorem rep_tup3 {n : Nat} {F : Nat → Prop} {w : World} {x y : AV} {u z : Value} (h1 : Rep0 F w x u) (h2 : Rep0 F w y z) : Rep β n F w (.tup [.b true, x, y]) (.tuple #[.bool true, u, z]) := by
  refine .pure _ _ (.tup [.b true, x, y] [.bool true, u, z] rfl fun j h3 h4 => ?_)
  match j, h3 with
  | 0, _ => exact .b true
  | 1, _ => exact h1
  | 2, _ => exact h2
theorem rep_over {n : Nat} {F : Nat → Prop} {w : World} : Rep β n F w (.tup [.b false]) (.tuple #[.bool false]) := by
  refine .pure _ _ (.tup [.b false] [.bool false] rfl fun j h3 h4 => ?_)
  match j, h3 with
  | 0, _ => exact .b false

theorem nextX_sound (S : SimF C.al G w0 N (fun s => find s K) (fun id => getO id O) nid β a w) (hag : Agr C β nid) {x : AV} {u : Value} (ty : TypeId) (hu : Rep β nid (FO G (fun id => getO id O) β a) w x u)
    (h : nextX N dst (lkOf O []) K O nid x k) : ∃ v w', (Instr.next u false ty).run P w = .ok v w' ∧ ∃ st', k st' ∧ Sim C G w0 N st' (a.put dst v) w' := by
  have E := S.env (lkOf_sound (O := O) (sat_nil a))
  have over : ∀ {v : Value}, (Instr.next u false ty).run P w = .ok (.tuple #[.bool false]) w → applyS N dst [] K O nid (.ext [] (.tup [.b false])) k → ∃ v w', (Instr.next u false ty).run P w = .ok v w' ∧ ∃ st', k st' ∧ Sim C G w0 N st' (a.put dst v) w' :=
    fun hrun hk => ⟨_, w, hrun, eff_sim S hag (.id rep_over (Below.refl _ _)) hk⟩
  unfold nextX at h
  split at h
  · rename_i id
    obtain ⟨hid, rfl⟩ := hu.p_inv
    split at h
    · rename_i n key val seen last hlk
      obtain ⟨_, g, es, clock, sn, hh, hn, ho, hg0, hg, hc, hlast⟩ := E.obj id _ hlk
      have hF := E.own id _ (β.blk id) hlk rfl
      cases g with
      | none =>
        have h0 := hg0 rfl
        refine over (v := undef) ?_ (h.2 fun i hi => by omega)
        simp [Instr.next, getObj, Sem.run, hh]
      | some b =>
        obtain ⟨hFb, hb⟩ := hg b rfl
        rcases run_next_at (P := P) w ty (β.blk id) b clock clock sn es clock hh hb (fun x hx => by
          obtain ⟨j, hj, rfl⟩ := List.getElem_of_mem hx
          have := ho.old j (by simpa using hj)
          simpa using this) (Nat.le_refl _) with ⟨h0, hrun⟩ | ⟨e, he, w1, hw1, hrun⟩
        · refine over (v := undef) hrun (h.2 fun i hi => ?_)
          have hi2 : i < es.size := by omega
          have := (hc i hi hi2).2.2
          rw [← this]
          cases hcon : sn.contains es[i].born with
          | true => rfl
          | false =>
            have hm : es[i] ∈ leftOf es sn := by
              unfold leftOf
              simp only [Array.mem_filter]
              exact ⟨by simp, by rw [hcon]; rfl⟩
            have := Array.size_pos_of_mem hm
            omega
        · have hmem : e ∈ es ∧ sn.contains e.born = false := by
            have : e ∈ leftOf es sn := by simpa using he
            unfold leftOf at this
            simp only [Array.mem_filter, Bool.not_eq_true'] at this
            exact this
          obtain ⟨i, hi, rfl⟩ := Array.getElem_of_mem hmem.1
          have hin : i < n := by omega
          obtain ⟨hk1, hv1, hs1⟩ := hc i hin hi
          have hns : seen i = false := by rw [← hs1]; exact hmem.2
          obtain ⟨e1, e2, e3, e4⟩ := same_heap hw1
          have hlt := (Array.getElem?_eq_some_iff.1 hh).1
          have hold : ∀ g2, g2 < w.heap.size → ¬ FO G (fun id => getO id O) β a g2 → (ChangeMaps.setBlock w1 (β.blk id) (.mapIter (some b) clock (sn.push es[i].born) clock)).heap[g2]? = w.heap[g2]? := fun g2 _ hn => by
            have hne : g2 ≠ β.blk id := fun e => hn (by rw [e]; exact hF)
            simp [ChangeMaps.setBlock, e1, Ne.symm hne]
          have hsize : w.heap.size ≤ (ChangeMaps.setBlock w1 (β.blk id) (.mapIter (some b) clock (sn.push es[i].born) clock)).heap.size := by simp [ChangeMaps.setBlock, e1]
          refine ⟨_, _, hrun, eff_sim S hag (β' := β) (eff := .set id (.ir n key val (fun j => if j = i then true else seen j) (some i)) (.tup [.b true, key i, val i])) ⟨rfl, _, hlk, ⟨e2, e3, e4, hsize, fun g2 _ hne => ?_⟩, rfl, ?_, ?_⟩ (h.1 i hin hns)⟩
          · have hne2 : g2 ≠ β.blk id := fun e => hne (by rw [e]; rfl)
            simp [ChangeMaps.setBlock, e1, Ne.symm hne2]
          · refine ⟨some b, es, clock, sn.push es[i].born, ?_, hn, ho, fun h => (by cases h), fun b' hb' => ?_, fun j hj hj2 => ?_, fun j hj => ?_⟩
            · simp [ChangeMaps.setBlock, e1, hlt]
            · obtain rfl := Option.some.inj hb'
              have hltb := (Array.getElem?_eq_some_iff.1 hb).1
              exact ⟨hFb, by rw [hold _ hltb hFb]; exact hb⟩
            · obtain ⟨hk2, hv2, hs2⟩ := hc j hj hj2
              refine ⟨hk2.stable (fun _ _ hn => hn) hold hsize, hv2.stable (fun _ _ hn => hn) hold hsize, ?_⟩
              by_cases hji : j = i
              · subst hji
                simp
              · show (sn.push es[i].born).contains es[j].born = if j = i then true else seen j
                rw [if_neg hji, ← hs2]
                have hne : es[j].born ≠ es[i].born := by
                  rcases Nat.lt_or_gt_of_ne hji with h | h
                  · have := ho.asc j i h hj2 hi; omega
                  · have := ho.asc i j h hi hj2; omega
                simp [hne]
            · obtain rfl := Option.some.inj hj
              exact ⟨hi, by simp⟩
          · exact rep_tup3 (hk1.stable (fun _ _ hn => hn) hold hsize) (hv1.stable (fun _ _ hn => hn) hold hsize)
    · rename_i mid since seen hlk
      split at h
      · rename_i n key val born clock hlk2
        obtain ⟨hcl, h1, h2⟩ := h
        subst hcl
        obtain ⟨_, hmid, hh⟩ := E.obj id _ hlk
        obtain ⟨_, es, hb, hn, ho, hc⟩ := E.obj mid _ hlk2
        have hF := E.own id _ (β.blk id) hlk rfl
        rcases run_next_at (P := P) w ty (β.blk id) (β.blk mid) clock clock seen.toArray es clock hh hb (fun x hx => by
          obtain ⟨j, hj, rfl⟩ := List.getElem_of_mem hx
          have := ho.old j (by simpa using hj)
          simpa using this) (Nat.le_refl _) with ⟨h0, hrun⟩ | ⟨e, he, w1, hw1, hrun⟩
        · refine over (v := undef) hrun (h2 fun i hi => ?_)
          have hi2 : i < es.size := by omega
          have hbi := (hc i hi hi2).2.2
          rw [← hbi]
          cases hcon : seen.toArray.contains es[i].born with
          | true => simpa using hcon
          | false =>
            have hm : es[i] ∈ leftOf es seen.toArray := by
              unfold leftOf
              simp only [Array.mem_filter]
              exact ⟨by simp, by rw [hcon]; rfl⟩
            have := Array.size_pos_of_mem hm
            omega
        · have hmem : e ∈ es ∧ seen.toArray.contains e.born = false := by
            have : e ∈ leftOf es seen.toArray := by simpa using he
            unfold leftOf at this
            simp only [Array.mem_filter, Bool.not_eq_true'] at this
            exact this
          obtain ⟨i, hi, rfl⟩ := Array.getElem_of_mem hmem.1
          have hin : i < n := by omega
          obtain ⟨hk1, hv1, hb1⟩ := hc i hin hi
          have hns : ¬ born i ∈ seen := by
            rw [← hb1]
            have := hmem.2
            simpa using this
          obtain ⟨e1, e2, e3, e4⟩ := same_heap hw1
          have hlt := (Array.getElem?_eq_some_iff.1 hh).1
          have hold : ∀ g2, g2 < w.heap.size → ¬ FO G (fun id => getO id O) β a g2 → (ChangeMaps.setBlock w1 (β.blk id) (.mapIter (some (β.blk mid)) clock (seen.toArray.push es[i].born) clock)).heap[g2]? = w.heap[g2]? := fun g2 _ hn => by
            have hne : g2 ≠ β.blk id := fun e => hn (by rw [e]; exact hF)
            simp [ChangeMaps.setBlock, e1, Ne.symm hne]
          have hsize : w.heap.size ≤ (ChangeMaps.setBlock w1 (β.blk id) (.mapIter (some (β.blk mid)) clock (seen.toArray.push es[i].born) clock)).heap.size := by simp [ChangeMaps.setBlock, e1]
          refine ⟨_, _, hrun, eff_sim S hag (β' := β) (eff := .set id (.it mid clock (seen ++ [born i])) (.tup [.b true, key i, val i])) ⟨rfl, _, hlk, ⟨e2, e3, e4, hsize, fun g2 _ hne => ?_⟩, rfl, ⟨hmid, ?_⟩, ?_⟩ (h1 i hin hns)⟩
          · have hne2 : g2 ≠ β.blk id := fun e => hne (by rw [e]; rfl)
            simp [ChangeMaps.setBlock, e1, Ne.symm hne2]
          · simp [ChangeMaps.setBlock, e1, hlt, hb1]
          · exact rep_tup3 (hk1.stable (fun _ _ hn => hn) hold hsize) (hv1.stable (fun _ _ hn => hn) hold hsize)
      · exact h.elim
    · exact h.elim
  · exact h.elim

theorem nil_run {t : TypeId} (hT : TabOk P T) (ht : sliceAt T t = true) (x : Operand) (y : Operand) (a : Option Addr) (n c : Nat) :
    (binRun .eql t x y (.slice a n c) (.slice none 0 0)).run P w = .ok (.bool a.isNone) w ∧ (binRun .neq t x y (.slice a n c) (.slice none 0 0)).run P w = .ok (.bool (!a.isNone)) w := by
  constructor <;> (unfold binRun; rw [Sem.run_bind, guard_slice]; simp [binOp, sliceAt_run hT ht])
theorem nilX_sound (hT : TabOk P T) (S : SimF C.al G w0 N (fun s => find s K) (fun id => getO id O) nid β a w) (hag : Agr C β nid) {x : AV} {u : Value} {t : TypeId} (ht : sliceAt T t = true) (p q : Operand) (e : Bool)
    (hu : Rep β nid (FO G (fun id => getO id O) β a) w x u) (h : nilX N dst (lkOf O []) K O nid e x k) :
    ∃ v, (binRun (if e then .eql else .neq) t p q u (.slice none 0 0)).run P w = .ok v w ∧ ∃ st', k st' ∧ Sim C G w0 N st' (a.put dst v) w := by
  have E := S.env (lkOf_sound (O := O) (sat_nil a))
  have main : ∀ (ad : Option Addr) (n c : Nat), u = .slice ad n c → applyS N dst [] K O nid (.ext [] (.b (ad.isNone == e))) k →
      ∃ v, (binRun (if e then .eql else .neq) t p q u (.slice none 0 0)).run P w = .ok v w ∧ ∃ st', k st' ∧ Sim C G w0 N st' (a.put dst v) w := by
    rintro ad n c rfl hk
    have hr := nil_run (w := w) hT ht p q ad n c
    refine ⟨.bool (ad.isNone == e), ?_, eff_sim S hag (.id (.pure _ _ (.b _)) (Below.refl _ _)) hk⟩
    cases e with
    | true => simpa using hr.1
    | false => simpa using hr.2
  unfold nilX at h
  split at h
  · rename_i sz n get
    have hu0 := hu.rs_inv
    cases hu0 with
    | rsnil => exact main none 0 0 rfl (h true fun _ => rfl)
    | rsz _ _ ad => exact main (some ad) 0 0 rfl (h false fun h => by cases h)
    | rs _ _ _ g off cap => exact main (some _) n cap rfl (h false fun h => by cases h)
  · rename_i id sz lo n
    obtain ⟨_, hsv⟩ := hu.sv_inv
    rcases hsv with ⟨rfl, hn0, _⟩ | ⟨ad, rfl, hn0, _⟩ | ⟨g, o, m, c, hval, hlo, hloc, rfl⟩
    · exact main none 0 0 rfl (h true fun _ => hn0)
    · exact main (some ad) 0 0 rfl (h false fun h => by cases h)
    · exact main (some _) _ _ rfl (h false fun h => by cases h)
  · rename_i id
    split at h
    · rename_i e' sz n get hlk
      obtain ⟨_, rfl⟩ := hu.so_inv
      obtain ⟨_, xs, hx, _⟩ := E.obj id _ hlk
      rcases hx.2 with ⟨hv, hn0⟩ | ⟨ad, hv, hn0⟩ | ⟨g, o, cap, cur, hv, _⟩
      · exact main none 0 0 hv (h true fun _ => hn0)
      · exact main (some ad) 0 0 hv (h false fun h => by cases h)
      · exact main (some _) _ _ hv (h false fun h => by cases h)
    · exact h.elim
  · rename_i v
    split at h
    · rename_i hn
      obtain rfl := hu.val_inv
      refine main none 0 0 (nilSlice_iff hn) ?_
      cases e <;> exact h
    · exact h.elim
  · exact h.elim

theorem stepX_sound (hT : TabOk P T) {ops : List Oper} {o : Oper} {st : St} {k : St → Prop} {Q : Exit → Act → World → Prop} {next : Act → World → Prop}
    (hn : ∀ st' a' w', k st' → Sim C G w0 N st' a' w' → next a' w') (S : Sim C G w0 N st a w) (h : stepX P T N ops o st k) :
    if Region.wanted o (yielded ops.toArray a.tmps) then o.wp P a w next Q else next (a.put o.dst undef) w := by
  obtain ⟨K, O, nid⟩ := st
  have S0 := S
  obtain ⟨β, S, hag⟩ := S
  dsimp only at S hag
  have ev : ∀ x r, evalO K [] x = some r → Rep β nid (FO G (fun id => getO id O) β a) w r (a.eval x) := fun x r hx => evalO_sound S (sat_nil a) x r hx
  obtain ⟨dst, op, ty, pos, after, guard⟩ := o
  have done : ∀ (hg : guard = none) {run : Result Next}, (execOp a.eval ⟨dst, op, ty, pos, after, guard⟩).run P w = run → Out P (fun v w' => ∃ st', k st' ∧ Sim C G w0 N st' (a.put dst v) w') run →
      if Region.wanted ⟨dst, op, ty, pos, after, guard⟩ (yielded ops.toArray a.tmps) then Oper.wp P ⟨dst, op, ty, pos, after, guard⟩ a w next Q else next (a.put dst undef) w := by
    rintro rfl run rfl hout
    have hw : Region.wanted ⟨dst, op, ty, pos, after, none⟩ (yielded ops.toArray a.tmps) = true := by simp [Region.wanted]
    rw [if_pos hw]
    refine hout.upon ?_
    rintro v w' ⟨st', hk, hs⟩
    exact hn st' _ w' hk hs
  unfold stepX at h
  dsimp only at h
  split at h
  · obtain ⟨r, hr, h⟩ := withA_iff h
    obtain ⟨m, h, hl, hm⟩ := evsK_iff ev h
    have := callX_sound S hag (ev _ _ hr) hl hm h
    refine done rfl ?_ this
    simp [execOp, resolve]
  · obtain ⟨r, hr, h⟩ := withA_iff h
    obtain ⟨v, w', hrun, hst⟩ := nextX_sound (P := P) S hag ty (ev _ _ hr) h
    exact done rfl (by simp only [execOp]; exact run_value hrun) (.value v w' hst)
  · rename_i t x v y
    split at h
    · rename_i hv ht
      obtain ⟨r, hr, h⟩ := withA_iff h
      obtain ⟨z, hrun, hst⟩ := nilX_sound hT S hag ht x (.const v) true (ev _ _ hr) h
      have hv := nilSlice_iff hv
      subst hv
      exact done rfl (by simp only [execOp]; exact run_value hrun) (.value z w hst)
    · exact stepS_sound hT hn S0 h
  · rename_i t x v y
    split at h
    · rename_i hv ht
      obtain ⟨r, hr, h⟩ := withA_iff h
      obtain ⟨z, hrun, hst⟩ := nilX_sound hT S hag ht x (.const v) false (ev _ _ hr) h
      have hv := nilSlice_iff hv
      subst hv
      exact done rfl (by simp only [execOp]; exact run_value hrun) (.value z w hst)
    · exact stepS_sound hT hn S0 h
  · exact stepS_sound hT hn S0 h

theorem execX_sound (hT : TabOk P T) {ops : List Oper} {Q : Exit → Act → World → Prop} : ∀ {l : List Oper} {st : St} {k : St → Prop} {a : Act} {w : World}, Sim C G w0 N st a w → execX P T N ops l st k →
    (∀ st' a' w', k st' → Sim C G w0 N st' a' w' → Q .normal a' w') → wpList P ops.toArray Q l a w
  | [], st, k, a, w, S, h, hq => hq st a w h S
  | o :: r, st, k, a, w, S, h, hq => by
    have := stepX_sound (Q := Q) (next := wpList P ops.toArray Q r) hT (fun st' a' w' h' S' => execX_sound hT S' h' hq) S h
    unfold wpList
    split
    · rename_i hw
      rw [if_pos hw] at this
      exact .inl this
    · rename_i hw
      rw [if_neg hw] at this
      exact this
end
end Go.Eng
