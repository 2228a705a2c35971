/-
  The engine: regions whose order is drawn and whose last operation writes; all the others come before it.
-/
import Derived.Test.YtklmfkejgjhneaaEngY
namespace Go.Eng
open Go.RowKit

def endsSet : List Oper → Bool
  | [] => false
  | [o] => (match o.op with
    | .store _ _ _ => true
    | _ => false)
  | _ :: r => endsSet r
def lastO : List Oper → Option Oper
  | [] => none
  | [o] => some o
  | _ :: r => lastO r
def frontO : List Oper → List Oper
  | [] => []
  | [_] => []
  | o :: r => o :: frontO r
theorem last_front : ∀ {l : List Oper} {o : Oper}, lastO l = some o → l = frontO l ++ [o]
  | [], o, h => by cases h
  | [x], o, h => by
    simp only [lastO, Option.some.injEq] at h
    subst h
    rfl
  | x :: y :: r, o, h => by
    have := last_front (l := y :: r) (o := o) h
    simp only [frontO, List.cons_append, List.cons.injEq, true_and]
    exact this
/-- The first n are there. -/
def allB : Nat → List Bool → Bool
  | 0, _ => true
  | n + 1, true :: r => allB n r
  | _ + 1, _ => false
theorem allB_iff : ∀ {n : Nat} {l : List Bool}, allB n l = true → ∀ j, j < n → tbL l j = true
  | 0, _, _, j, h => by omega
  | n + 1, true :: r, h, j, hj => by
    cases j with
    | zero => rfl
    | succ j => exact allB_iff (n := n) (l := r) h j (by omega)
  | n + 1, [], h, j, _ => by cases h
  | n + 1, false :: r, h, j, _ => by cases h

def execDT (P : Program) (T : List (Nat × TI)) (N : Nat) (ops : List Oper) (st : St) (k : St → Prop) : Prop :=
  match st, lastO ops with
  | ⟨K, O, nid⟩, some o => (match ltK nid K, ltIds nid O, allO (fun j => Nat.blt j nid) O, o.after with
    | true, true, true, ⟨es⟩ => (match backB (frontO ops).length es with
      | true => execDs P T N ops K O (frontO ops) 0 ⟨K, O, nid⟩ [] fun st' L => edgesK L es [] fun b => (match allB (frontO ops).length b with
        | true => stepX P T N ops o st' k
        | false => False)
      | false => False)
    | _, _, _, _ => False)
  | _, _ => False

section
variable {C : Cx} {G : Nat → Prop} {P : Program} {T : List (Nat × TI)} {w0 w : World} {N : Nat} {a : Act}

theorem execDs_factT {ops tl : List Oper} {K0 : List KE} {O0 : List OE} {n0 : Nat} : ∀ {l done : List Oper} {ix : Nat} {st : St} {L : List DR} {k : St → List DR → Prop}, ops = done ++ (l ++ tl) → ix = done.length →
    (∀ id g x, getO id st.O = some (g, x) → id < st.nid) → ix = L.length → (fun s => find s st.K) = kD (fun _ => true) L (fun s => find s K0) → (fun id => getO id st.O) = oD (fun _ => true) L (fun id => getO id O0) → st.nid = endN n0 L →
    Facts P T N ops (fun s => find s K0) (fun id => getO id O0) n0 L → execDs P T N ops K0 O0 l ix st L k →
    ∃ st' L', k st' L' ∧ L'.length = (done ++ l).length ∧ Facts P T N ops (fun s => find s K0) (fun id => getO id O0) n0 L' ∧
      (fun s => find s st'.K) = kD (fun _ => true) L' (fun s => find s K0) ∧ (fun id => getO id st'.O) = oD (fun _ => true) L' (fun id => getO id O0) ∧ st'.nid = endN n0 L'
  | [], done, ix, st, L, k, _, hd, _, hix, hK, hO, hn, hF, h => ⟨st, L, h, by rw [List.append_nil, ← hd, hix], hF, hK, hO, hn⟩
  | o :: r, done, ix, st, L, k, hops, hd, hids, hix, hK, hO, hn, hF, h => by
    obtain ⟨st', d, h, hf, hids', hK', hO', hn'⟩ := stepD_fact hids (by rw [hops, hd]; simp) hix hK hO hn h
    obtain ⟨st2, L2, h1, h2, h3⟩ := execDs_factT (done := done ++ [o]) (tl := tl) (by rw [hops]; simp) (by simp [hd]) hids' (by simp [hix]) hK' hO' hn' ⟨hf, hF⟩ h
    exact ⟨st2, L2, h1, by rw [h2]; simp, h3⟩

theorem ready_of_back {ops : List Oper} {listed : Array Bool} (hsz : listed.size = ops.length) (hr : Region.ready .any ops.toArray listed = [])
    (hback : ∀ i, (hi : i < ops.length) → ∀ e ∈ ops[i].after.toList, Region.binds .any e = true → e.on < i) : ∀ n i, i < n → i < ops.length → listed.getD i false = true := by
  intro n
  induction n with
  | zero => intro i hi; omega
  | succ n ih =>
    intro i hi hlt
    cases hh : listed.getD i false with
    | true => rfl
    | false =>
      exfalso
      have : i ∈ Region.ready .any ops.toArray listed := by
        rw [mem_ready]
        refine ⟨by rw [getD_tf (by omega)]; exact hh, ops[i], by simp [hlt], fun e he hb => ?_⟩
        have := hback i hlt e (by simpa using he) hb
        exact ih e.on (by omega) (by omega)
      rw [hr] at this
      cases this

theorem facts_back {ops : List Oper} {K0 : KF} {O0 : OF} {n0 : Nat} {i : Nat} (hlt : i < ops.length) {e : Edge} (he : e ∈ ops[i].after.toList) (hb : Region.binds .any e = true) : ∀ {M : List DR}, Facts P T N ops K0 O0 n0 M → i < M.length → e.on < i := by
  intro M
  induction M with
  | nil => intro _ h; simp at h
  | cons m r ihm =>
    intro hFM hM
    obtain ⟨o, Kr, Or, hf⟩ := hFM.1
    have hmx := hf.ix
    by_cases hm : m.ix = i
    · have hop := hf.op
      rw [hm] at hop
      have : o = ops[i] := by
        rw [List.getElem?_eq_getElem hlt] at hop
        exact (Option.some.inj hop).symm
      subst this
      have := hf.back e he hb
      omega
    · exact ihm hFM.2 (by simp only [List.length_cons] at hM; omega)

theorem execDT_loop (hT : TabOk P T) {ops pre : List Oper} {o : Oper} (hops : ops = pre ++ [o]) {K0 : KF} {O0 : OF} {n0 : Nat} {L : List DR} (hF : Facts P T N ops K0 O0 n0 L) (hlen : L.length = pre.length)
    (hK0 : ∀ s g av, K0 s = some (g, av) → av.lt n0 = true) (hO0 : ∀ id g x, O0 id = some (g, x) → id < n0 ∧ x.all (fun j => Nat.blt j n0) = true)
    (hbk : ∀ e ∈ o.after.toList, Region.binds .any e = true → e.on < pre.length)
    (hcov : ∀ D : Nat → Bool, (∀ e ∈ o.after.toList, Region.binds .any e = true → D e.on = true) → (∀ e ∈ L, D e.ix = true → ∀ i, tbL e.bits i = true → D i = true) → ∀ i, i < pre.length → D i = true)
    {Q : Exit → Act → World → Prop} (hlast : ∀ (next : Act → World → Prop), (∀ a' w', Q .normal a' w' → next a' w') → ∀ a w, SimD C G w0 N K0 O0 n0 L (fun _ => true) a w →
      if Region.wanted o (yielded ops.toArray a.tmps) then o.wp P a w next Q else next (a.put o.dst undef) w) :
    ∀ (fuel : Nat) (listed : Array Bool) (a : Act) (w : World), listed.size = ops.length → unl listed ops.length ≤ fuel → listed.getD pre.length false = false →
      (∀ e ∈ L, listed.getD e.ix false = true → ∀ i, tbL e.bits i = true → listed.getD i false = true) → SimD C G w0 N K0 O0 n0 L (fun j => listed.getD j false) a w →
      wpAny P .any ops.toArray Q fuel listed a w := by
  have hol : ops.length = pre.length + 1 := by rw [hops]; simp
  have hoe : ops[pre.length]? = some o := by rw [hops]; simp
  have hback : ∀ i, (hi : i < ops.length) → ∀ e ∈ ops[i].after.toList, Region.binds .any e = true → e.on < i := by
    intro i hi e he hb
    by_cases hil : i < pre.length
    · exact facts_back hi he hb hF (by omega)
    · have hie : i = pre.length := by omega
      subst hie
      have : ops[pre.length] = o := by
        rw [List.getElem?_eq_getElem hi] at hoe
        exact Option.some.inj hoe
      rw [this] at he
      exact hbk e he hb
  intro fuel
  induction fuel with
  | zero =>
    intro listed a w hsz hu hnl hcl S
    exfalso
    have := unl_zero (listed := listed) (n := ops.length) (by omega) pre.length (by omega)
    rw [getD_tf (by omega), hnl] at this
    cases this
  | succ fuel ih =>
    intro listed a w hsz hu hnl hcl S
    refine ⟨fun hr => ?_, fun i hi => ?_⟩
    · exfalso
      have := ready_of_back hsz hr hback (pre.length + 1) pre.length (by omega) (by omega)
      rw [hnl] at this
      cases this
    obtain ⟨h1, o', ho, hafter⟩ := mem_ready.1 hi
    have hlt : i < ops.length := by simpa using (Array.getElem?_eq_some_iff.1 ho).1
    have hop : ops[i]? = some o' := by simpa using ho
    have hDi : listed.getD i false = false := by rw [← getD_tf (by omega)]; exact h1
    by_cases hil : i < pre.length
    · have hfun : (fun j => if j = i then true else listed.getD j false) = fun j => (listed.setIfInBounds i true).getD j false := by
        funext j
        rw [getD_set (by omega)]
      have hstep := stepD_sound (C := C) (G := G) (w0 := w0) (a := a) (w := w) (Q := Q) (next := wpAny P .any ops.toArray Q fuel (listed.setIfInBounds i true)) hT hF hK0 hO0 (i := i) (D := fun j => listed.getD j false) (by omega) hDi hcl hop (fun e he hb => hafter e (by simpa using he) hb)
      have hcl' : ∀ e ∈ L, (listed.setIfInBounds i true).getD e.ix false = true → ∀ j, tbL e.bits j = true → (listed.setIfInBounds i true).getD j false = true := by
        intro e he hDe j hj
        rw [getD_set (by omega)] at hDe ⊢
        exact (stepD_sound (Q := Q) (next := fun _ _ => True) hT hF hK0 hO0 (i := i) (D := fun j => listed.getD j false) (by omega) hDi hcl hop (fun e he hb => hafter e (by simpa using he) hb) (fun _ _ _ => trivial) S).2 e he hDe j hj
      have hnext := (hstep (fun a' w' S' => ih (listed.setIfInBounds i true) a' w' (by simp [hsz]) (by have := unl_set (by omega) h1 (n := ops.length) hlt; omega) (by rw [getD_set (by omega), if_neg (by omega)]; exact hnl) hcl' (by rw [← hfun]; exact S')) S).1
      unfold wpOp
      simp only [ho]
      split
      · rename_i hw
        rw [if_pos hw] at hnext
        exact .inl hnext
      · rename_i hw
        rw [if_neg hw] at hnext
        exact hnext
    · have hie : i = pre.length := by omega
      subst hie
      have hoo : o' = o := by
        rw [hoe] at hop
        exact (Option.some.inj hop).symm
      subst hoo
      have hall := hcov (fun j => listed.getD j false) (fun e he hb => hafter e (by simpa using he) hb) hcl
      have S' : SimD C G w0 N K0 O0 n0 L (fun _ => true) a w := by
        obtain ⟨β, S, hag⟩ := S
        refine ⟨β, ?_, hag⟩
        have hix : ∀ e ∈ L, (fun j => listed.getD j false) e.ix = (fun _ => true) e.ix := fun e he => hall _ (by rw [← hlen]; exact hF.ix_lt e he)
        rw [kD_congr (D := fun j => listed.getD j false) (D' := fun _ => true) hix, oD_congr (D := fun j => listed.getD j false) (D' := fun _ => true) hix] at S
        exact S
      have hdone : ∀ a' w', Q .normal a' w' → wpAny P .any ops.toArray Q fuel (listed.setIfInBounds pre.length true) a' w' := by
        intro a' w' hQ
        have hr : Region.ready .any ops.toArray (listed.setIfInBounds pre.length true) = [] := by
          cases hr : Region.ready .any ops.toArray (listed.setIfInBounds pre.length true) with
          | nil => rfl
          | cons j r =>
            exfalso
            have hmem : j ∈ Region.ready .any ops.toArray (listed.setIfInBounds pre.length true) := by rw [hr]; simp
            obtain ⟨h2, o2, ho2, _⟩ := mem_ready.1 hmem
            have hjl : j < ops.length := by simpa using (Array.getElem?_eq_some_iff.1 ho2).1
            rw [getD_set (by omega)] at h2
            by_cases hjp : j = pre.length
            · rw [if_pos hjp] at h2; cases h2
            · rw [if_neg hjp, getD_tf (by omega), hall j (by omega)] at h2
              cases h2
        cases fuel with
        | zero => exact ⟨hr, hQ⟩
        | succ fuel => exact ⟨fun _ => hQ, fun j hj => by rw [hr] at hj; cases hj⟩
      have hnext := hlast (wpAny P .any ops.toArray Q fuel (listed.setIfInBounds pre.length true)) hdone a w S'
      unfold wpOp
      simp only [ho]
      split
      · rename_i hw
        rw [if_pos hw] at hnext
        exact .inl hnext
      · rename_i hw
        rw [if_neg hw] at hnext
        exact hnext

theorem execDT_sound (hT : TabOk P T) {ops : List Oper} {Q : Exit → Act → World → Prop} {id : Nat} {st : St} {k : St → Prop} (S : Sim C G w0 N st a w) (h : execDT P T N ops st k)
    (hq : ∀ st' a' w', k st' → Sim C G w0 N st' a' w' → Q .normal a' w') : (Code.region id ops.toArray true).wp P Q a w := by
  obtain ⟨K, O, nid⟩ := st
  unfold execDT at h
  split at h
  · rename_i K O nid o he ho
    cases he
    have hops := last_front ho
    split at h
    · rename_i es h1 h2 h3 hes
      split at h
      · rename_i hb
        obtain ⟨st', L, hk, hlen, hF, hK, hO, hn⟩ := execDs_factT (P := P) (T := T) (N := N) (ops := ops) (tl := [o]) (K0 := K) (O0 := O) (l := frontO ops) (ix := 0) (st := ⟨K, O, nid⟩) (done := []) (L := []) (n0 := nid) hops rfl (fun id g x hx => ltIds_get h2 id g x hx) rfl rfl rfl rfl trivial h
        obtain ⟨bits, hk, hcov⟩ := edgesK_iff hk
        split at hk
        · rename_i hab
          have hab := allB_iff hab
          have hae : o.after.toList = es := by rw [hes]
          refine wp_region_any hT.mixed ?_
          have hS : SimD C G w0 N (fun s => find s K) (fun id => getO id O) nid L (fun j => (Array.replicate ops.toArray.size false).getD j false) a { w with drawn := w.drawn + 1 } := by
            obtain ⟨β, S, hag⟩ := S
            have hfalse : ∀ e ∈ L, (fun j => (Array.replicate ops.toArray.size false).getD j false) e.ix = (fun _ => false) e.ix := fun e he => by
              simp [Array.getElem?_replicate]
              split <;> rfl
            refine ⟨β, ?_, hag⟩
            rw [kD_congr (D' := fun _ => false) hfalse, oD_congr (D' := fun _ => false) hfalse]
            have e1 : ∀ M : List DR, kD (fun _ => false) M (fun s => find s K) = fun s => find s K := by
              intro M
              induction M with
              | nil => rfl
              | cons d r ih => funext s; simp only [kD, ih]; simp
            have e2 : ∀ M : List DR, oD (fun _ => false) M (fun id => getO id O) = fun id => getO id O := by
              intro M
              induction M with
              | nil => rfl
              | cons d r ih => simp only [oD, ih]; simp
            rw [e1, e2]
            have hstab : ∀ {F : Nat → Prop} {av : AV} {v : Value}, Rep β nid F w av v → Rep β (endN nid L) F { w with drawn := w.drawn + 1 } av v := fun h =>
              (h.stable (w' := { w with drawn := w.drawn + 1 }) (fun _ _ h => h) (fun _ _ _ => rfl) (Nat.le_refl _)).more (n0_le hF)
            refine ⟨S.gold, ⟨S.below.os, S.below.tape, S.below.output, S.below.size, S.below.block⟩, S.tsz, S.dfs, fun s g av hs => ⟨fun h => hstab ((S.kf s g av hs).1 h), (S.kf s g av hs).2⟩, fun id g x hx => ⟨Nat.lt_of_lt_of_le (S.of id g x hx).1 (n0_le hF), fun h => ?_⟩, S.allow, S.dist⟩
            exact ((S.of id g x hx).2 h).stable (w' := { w with drawn := w.drawn + 1 }) (S.of id g x hx).1 (n0_le hF) (fun _ _ => ⟨rfl, rfl⟩) (fun _ _ h => h) (fun _ _ _ => rfl) (Nat.le_refl _) (fun _ _ => rfl)
          refine execDT_loop hT hops hF (by simpa using hlen) (fun s g av hs => ltK_get h1 s g av hs) (fun id g x hx => ⟨ltIds_get h2 id g x hx, allO_get h3 id g x hx⟩) ?_ ?_ ?_ ops.toArray.size _ a _ (by simp) ?_ ?_ ?_ hS
          · rw [hae]
            exact backB_iff hb
          · intro D hD1 hD2 i hi
            exact hcov D (by rw [← hae]; exact hD1) hD2 (fun i hi => by simp [tbL] at hi) i (hab i hi)
          · intro next hnx a' w' S'
            obtain ⟨β, S', hag⟩ := S'
            have S2 : Sim C G w0 N st' a' w' := by
              refine ⟨β, ?_, by rw [hn]; exact hag.more (n0_le hF)⟩
              rw [hK, hO, hn]
              exact S'
            exact stepX_sound (Q := Q) (next := next) hT (fun st2 a2 w2 hk2 hs2 => hnx _ _ (hq st2 a2 w2 hk2 hs2)) S2 hk
          · have : ∀ (l : Array Bool) n, unl l n ≤ n := by
              intro l n
              induction n with
              | zero => exact Nat.le_refl _
              | succ n ih => simp only [unl]; split <;> omega
            simpa using this _ ops.length
          · simp [Array.getElem?_replicate]
            split <;> rfl
          · intro e he hDe
            exfalso
            simp [Array.getElem?_replicate] at hDe
            split at hDe <;> cases hDe
        · exact hk.elim
      · exact h.elim
    · exact h.elim
  · exact h.elim
end
end Go.Eng
