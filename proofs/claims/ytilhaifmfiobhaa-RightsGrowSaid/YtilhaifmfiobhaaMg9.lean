/-
  Several texts in one: EngS.
-/
import Derived.Lib.SlKeysI
import Derived.Maps.OwnSet
import Derived.Test.YtilhaifmfiobhaaMg8

section
/-
  The engine: a library function that hands back a map's keys, sorted.
-/
namespace Go.Eng
open Go.RowKit Go.Maps Go.WideElems

section
variable {P : Program}

theorem insert_perm {H : Type} (x : Lit × DataW H) : ∀ l : List (Lit × DataW H), (DataW.insert x l).Perm (x :: l)
  | [] => List.Perm.refl _
  | y :: r => by
    unfold DataW.insert
    split
    · exact List.Perm.refl _
    · exact ((insert_perm x r).cons y).trans (List.Perm.swap x y r)
theorem foldr_insert_perm {H : Type} : ∀ l : List (Lit × DataW H), (l.foldr DataW.insert []).Perm l
  | [] => List.Perm.refl _
  | x :: r => (insert_perm x _).trans ((foldr_insert_perm r).cons x)

/-- A map with keys of int, as the kit's contracts read it. -/
theorem owns_of_map {kt : TypeId} (hk : P.underlying kt = some (.int .i64)) {w : World} {b clock : Nat} {es : Array MapEntry} (hb : w.heap[b]? = some (.map es clock)) (hs : es.size ≤ maxLen) (ho : MapOk es clock) {ks : List Int} (hl : ks.length = es.size)
    (hkey : ∀ (i : Nat) (h : i < es.size), es[i].key = .int .i64 (ks.getD i 0)) (hwf : ∀ k ∈ ks, (Lit.int .i64 k).wf = true) :
    ∃ D : DataW Unit, w.ownsMap P kt (fun _ => some (.nil, [])) b es.size D ∧ (intKeys D).Perm ks ∧ Maps.size D = es.size := by
  let R : Value → Option (DataW Unit × List MemPlace) := fun _ => some (.nil, [])
  have hrd : ∀ (i : Nat) (h : i < es.size), rd P kt R es[i] = some (.int .i64 (ks.getD i 0), .nil) := by
    intro i h
    have hin : ks.getD i 0 ∈ ks := by
      have h2 : i < ks.length := by omega
      simp [List.getD, h2]
    have hw := hwf _ hin
    have hkk := hkey i h
    generalize ks.getD i 0 = x at hw hkk
    unfold rd keyOf
    rw [hk, hkk]
    simp [mapKey, hk, hw, R]
  have hF : Fit P kt R es clock := by
    refine ⟨hs, ⟨?_, ?_, ?_⟩, ?_⟩
    · intro x hx
      obtain ⟨i, hi, rfl⟩ := List.getElem_of_mem hx
      have := ho.old i (by simpa using hi)
      simpa using this
    · rw [List.nodup_iff_pairwise_ne, List.pairwise_map, List.pairwise_iff_getElem]
      intro i j hi hj hij
      have := ho.asc i j hij (by simpa using hi) (by simpa using hj)
      simp only [Array.getElem_toList]
      omega
    · rw [List.nodup_iff_pairwise_ne, List.pairwise_map, List.pairwise_iff_getElem]
      intro i j hi hj hij
      have := ho.one i j hij (by simpa using hi) (by simpa using hj)
      simpa using this
    · intro x hx
      obtain ⟨i, hi, rfl⟩ := List.getElem_of_mem hx
      exact ⟨_, by simpa using hrd i (by simpa using hi)⟩
  refine ⟨_, World.ownsMap_of_fit hb hF (fun _ _ _ h => h), ?_, ?_⟩
  · show (((es.toList.map (rg P kt R)).foldr DataW.insert []).map fun p => intOf p.1).Perm ks
    have e : (es.toList.map (rg P kt R)).map (fun p => intOf p.1) = ks := by
      refine List.ext_getElem (by simp [hl]) fun i h1 h2 => ?_
      have hi : i < es.size := by omega
      simp only [List.getElem_map, Array.getElem_toList]
      rw [rg_of (hrd i hi)]
      simp [intOf, List.getD, h2]
    have := (foldr_insert_perm (es.toList.map (rg P kt R))).map fun p => intOf p.1
    rw [e] at this
    exact this
  · show ((es.toList.map (rg P kt R)).foldr DataW.insert []).length = es.size
    rw [(foldr_insert_perm _).length_eq]
    simp

/-- What the kit says of a function that takes an iterator over a map's keys, and hands back a new slice of them, sorted. -/
def SortsKeys (P : Program) (f it : FuncId) (kt : TypeId) : Prop :=
  Callable P f ∧ ∀ (w : World) (g b n : Nat) (D : DataW Unit), g < w.heap.size → w.cell? ⟨g, 0, none⟩ = some (.map (some b)) → w.ownsMap P kt (fun _ => some (.nil, [])) b n D → Maps.size D ≤ maxLen → Maps.size D * 8 ≤ 140737488355328 →
    Calls P f #[.func (.func it) #[] #[.pointer (some ⟨g, 0, none⟩)]] w fun e w' => ∃ (v : Value) (ss : List Int), e = .returned v ∧ ss.Perm (intKeys D) ∧
      w'.ownsRow w.heap.size kt 1 v ss.length ((ss.mergeSort (fun x y => decide (x ≤ y))).map encZ) ∧ Below w.heap.size w w'

def sortI (l : List Int) : List Int := l.mergeSort fun x y => decide (x ≤ y)
theorem sortI_length (l : List Int) : (sortI l).length = l.length := List.length_mergeSort l

theorem sorts_ctr {f it : FuncId} {kt mt : TypeId} (h : SortsKeys P f it kt) (hk : P.underlying kt = some (.int .i64)) (ks : List Int) (key val : Nat → AV) (born : Nat → Nat) (clock : Nat) (hkey : ∀ i, i < ks.length → key i = .i .i64 (ks.getD i 0)) (hwf : ∀ k ∈ ks, (Lit.int .i64 k).wf = true)
    (hval : ∀ i, i < ks.length → (val i).fresh = true) (hbytes : ks.length * 8 ≤ 140737488355328) :
    CtrM P f false [.cells mt [.mo 1], .mp ks.length key val born clock] [.fn it [.p 0 0]] (fun _ : Unit => True) (fun _ => [.cells mt [.mo 1], .mp ks.length key val born clock])
      (fun _ => [.row kt 1 ks.length fun i => [.i .i64 ((sortI ks).getD i 0)]]) (fun _ => .so 2) := by
  refine ⟨h.1, fun F w β vs hOF hFl hFal hobj hdist hl hr => ?_⟩
  obtain ⟨v0, rfl⟩ : ∃ v0, vs = [v0] := by
    match vs, hl with
    | [v0], _ => exact ⟨v0, rfl⟩
  have hv0 := hr 0 (by simp) (by simp)
  simp only [List.getElem_cons_zero] at hv0
  obtain ⟨cvs, rfl, hcl, hcr⟩ := hv0.fn_inv
  obtain ⟨u, rfl⟩ : ∃ u, cvs = [u] := by
    match cvs, hcl with
    | [u], _ => exact ⟨u, rfl⟩
  have hu := hcr 0 (by simp) (by simp)
  simp only [List.getElem_cons_zero] at hu
  obtain ⟨_, rfl⟩ := hu.p_inv
  obtain ⟨cs, hh, hlen, hc⟩ := hobj 0 _ rfl
  obtain ⟨m, rfl⟩ : ∃ m, cs = [m] := by
    match cs, hlen with
    | [m], _ => exact ⟨m, rfl⟩
  have hm := (hc 0 (by simp) (by simp)).1
  simp only [List.getElem_cons_zero] at hm
  obtain ⟨_, rfl⟩ := hm.mo_inv
  obtain ⟨es, hb, hn, ho, hcm⟩ := hobj 1 _ rfl
  have hgl : β.blk 0 < w.heap.size := (Array.getElem?_eq_some_iff.1 hh).1
  have hcell : w.cell? ⟨β.blk 0, 0, none⟩ = some (.map (some (β.blk 1))) := by
    have := cell_of_row w _ 0 _ _ _ hh
    simpa using this
  obtain ⟨D, hown, hperm, hsz⟩ := owns_of_map hk hb (by unfold maxLen; omega) ho (ks := ks) hn.symm (fun i hi => by
    have := (hcm i (by omega) hi).1
    rw [hkey i (by omega)] at this
    generalize es[i].key = kv at this ⊢
    cases this
    rfl) hwf
  refine (h.2 w (β.blk 0) (β.blk 1) es.size D hgl hcell hown (by rw [hsz]; unfold maxLen; omega) (by rw [hsz]; omega)).mono ?_
  rintro e w' ⟨v, ss, rfl, hss, hrow, hbel⟩
  have hsort : ss.mergeSort (fun x y => decide (x ≤ y)) = sortI ks := mergeSort_of_perm_i (hss.trans hperm)
  have hslen : ss.length = ks.length := (hss.trans hperm).length_eq
  rw [hsort, hslen] at hrow
  obtain ⟨hra, hrn⟩ := RowAt.of_owns hrow
  have hval2 : (β.valAt 2 v).val 2 = v := by simp [Bd.valAt]
  have hag : agree 2 β (β.valAt 2 v) := agree_valAt _ _ _
  let outs : List AO := [.cells mt [.mo 1], .mp ks.length key val born clock, .row kt 1 ks.length fun i => [.i .i64 ((sortI ks).getD i 0)]]
  have hFr : ∀ g, g < w.heap.size → ¬ Fres false F w (β.valAt 2 v) outs g → w'.heap[g]? = w.heap[g]? := fun g hg _ => hbel.block g hg
  have hfresh : ∀ i, i < ks.length → (key i).fresh = true := fun i hi => by rw [hkey i hi]; rfl
  have hown0 : ∀ g, OwnOf (β.valAt 2 v) outs g → OwnOf β [.cells mt [.mo 1], .mp ks.length key val born clock] g ∨ w.heap.size ≤ g := by
    rintro g ⟨j, o, hj, hg⟩
    match j with
    | 0 =>
      simp [outs] at hj
      subst hj
      exact .inl ⟨0, _, rfl, by simpa [ownB, Bd.valAt] using hg⟩
    | 1 =>
      simp [outs] at hj
      subst hj
      exact .inl ⟨1, _, rfl, by simpa [ownB, Bd.valAt] using hg⟩
    | 2 =>
      simp [outs] at hj
      subst hj
      simp only [ownB, hval2] at hg
      exact .inr (hrn g hg)
    | j + 3 => simp [outs] at hj
  refine ⟨v, β.valAt 2 v, (), rfl, trivial, ⟨hag, ⟨hbel.os, hbel.tape, hbel.output, hbel.size, fun k hk' _ => hbel.block k hk'⟩, rfl, ?_, hown0, ?_, ?_⟩⟩
  · intro j o hj
    match j with
    | 0 =>
      simp at hj
      subst hj
      have h0 : ObjOk β 2 (Fres false F w (β.valAt 2 v) outs) w 0 (.cells mt [.mo 1]) := (hobj 0 _ rfl).any rfl
      exact h0.stable (by omega) (by simp) hag (fun _ _ hn => hn) hFr hbel.size (fun g hg => hbel.block g (h0.lt hg))
    | 1 =>
      simp at hj
      subst hj
      have h0 : ObjOk β 2 (Fres false F w (β.valAt 2 v) outs) w 1 (.mp ks.length key val born clock) := (hobj 1 _ rfl).any fun i hi => ⟨hfresh i hi, hval i hi⟩
      exact h0.stable (by omega) (by simp) hag (fun _ _ hn => hn) hFr hbel.size (fun g hg => hbel.block g (h0.lt hg))
    | 2 =>
      simp at hj
      subst hj
      refine ⟨(sortI ks).map encZ, by rw [hval2]; exact hra, fun k _ => rfl, fun k i hk' h1 h2 => ?_⟩
      have hi : i = 0 := by simpa using h1
      subst hi
      have hk2 : k < (sortI ks).length := by rw [sortI_length]; exact hk'
      have e1 : ((sortI ks).map encZ)[k * 1 + 0] = .int .i64 ((sortI ks).getD k 0) := by
        simp [List.getD, hk2]
      rw [e1]
      exact ⟨.i _ _, rfl⟩
    | j + 3 => simp at hj
  · intro j j' o o' g hj hj' hg hg'
    have old : ∀ j o, j < 2 → outs[j]? = some o → ownB (β.valAt 2 v) j o = some g → g < w.heap.size ∧ [AO.cells mt [.mo 1], .mp ks.length key val born clock][j]? = some o ∧ ownB β j o = some g := by
      intro j o hj2 hj hg
      match j, hj2 with
      | 0, _ =>
        simp [outs] at hj
        subst hj
        have hg2 : ownB β 0 (.cells mt [.mo 1]) = some g := by simpa [ownB, Bd.valAt] using hg
        exact ⟨(hobj 0 _ rfl).lt hg2, rfl, hg2⟩
      | 1, _ =>
        simp [outs] at hj
        subst hj
        have hg2 : ownB β 1 (.mp ks.length key val born clock) = some g := by simpa [ownB, Bd.valAt] using hg
        exact ⟨(hobj 1 _ rfl).lt hg2, rfl, hg2⟩
    have new : ∀ j o, 2 ≤ j → outs[j]? = some o → ownB (β.valAt 2 v) j o = some g → j = 2 ∧ w.heap.size ≤ g := by
      intro j o hj2 hj hg
      match j, hj2 with
      | 2, _ =>
        simp [outs] at hj
        subst hj
        simp only [ownB, hval2] at hg
        exact ⟨rfl, hrn g hg⟩
      | j + 3, _ => simp [outs] at hj
    rcases Nat.lt_or_ge j 2 with h1 | h1 <;> rcases Nat.lt_or_ge j' 2 with h2 | h2
    · obtain ⟨_, a1, a2⟩ := old j o h1 hj hg
      obtain ⟨_, b1, b2⟩ := old j' o' h2 hj' hg'
      exact hdist j j' o o' g a1 b1 a2 b2
    · have := (old j o h1 hj hg).1
      have := (new j' o' h2 hj' hg').2
      omega
    · have := (new j o h1 hj hg).2
      have := (old j' o' h2 hj' hg').1
      omega
    · rw [(new j o h1 hj hg).1, (new j' o' h2 hj' hg').1]
  · have hp := Rep.so (β := β.valAt 2 v) (n := 3) (F := Fres false F w (β.valAt 2 v) outs) (w := w') 2 (by omega) (by rw [hval2]; exact hra.one)
    rw [hval2] at hp
    exact hp
end
end Go.Eng
end
