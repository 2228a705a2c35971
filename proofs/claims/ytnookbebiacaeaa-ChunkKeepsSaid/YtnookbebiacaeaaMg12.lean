/-
  Several texts in one: EngS.
-/
import Derived.Lib.SlKeysI
import Derived.Maps.OwnSet
import Derived.Test.YtnookbebiacaeaaMg11

section
namespace Go.Eng
open Go.RowKit Go.Maps Go.WideElems
section
variable {P : Program}
theorem insert_perm {H : Type} (x : Lit × DataW H) : ∀ l : List (Lit × DataW H), (DataW.insert x l).Perm (x :: l)
 | [] => List.Perm.refl _
 | y :: r => by
  unfold DataW.insert
  split
  ·exact List.Perm.refl _
  ·exact ((insert_perm x r).cons y).trans (List.Perm.swap x y r)
theorem foldr_insert_perm {H : Type} : ∀ l : List (Lit × DataW H), (l.foldr DataW.insert []).Perm l
 | [] => List.Perm.refl _
 | x :: r => (insert_perm x _).trans ((foldr_insert_perm r).cons x)
theorem owns_of_map {kt : TypeId} (hk : P.underlying kt = some (.int .i64)) {w : World} {b clock : Nat} {es : Array MapEntry} (hb : w.heap[b]? = some (.map es clock)) (hs : es.size ≤ maxLen) (ho : MapOk es clock) {ks : List Int} (hl : ks.length = es.size)
  (hkey : ∀ (i : Nat) (h : i < es.size), es[i].key = .int .i64 (ks.getD i 0)) (hwf : ∀ k ∈ ks, (Lit.int .i64 k).wf = true) :
  ∃ D : DataW Unit, w.ownsMap P kt (fun _ => some (.nil, [])) b es.size D ∧ (intKeys D).Perm ks ∧ Maps.size D = es.size := by
 let R : Value → Option (DataW Unit × List MemPlace) := fun _ => some (.nil, [])
 have hrd : ∀ (i : Nat) (h : i < es.size), rd P kt R es[i] = some (.int .i64 (ks.getD i 0), .nil) := by
  intro i h
  have hin : ks.getD i 0 ∈ ks := by
   have h2 : i < ks.length := by omega
   simp [List.getD, h2]
  have hw := hwf _ hin
  have hkk := hkey i h
  generalize ks.getD i 0 = x at hw hkk
  unfold rd keyOf
  rw [hk, hkk]
  simp [mapKey, hk, hw, R]
 have hF : Fit P kt R es clock := by
  refine ⟨hs, ⟨?_, ?_, ?_⟩, ?_⟩
  ·intro x hx
   obtain ⟨i, hi, rfl⟩ := List.getElem_of_mem hx
   have := ho.old i (by simpa using hi)
   simpa using this
  ·rw [List.nodup_iff_pairwise_ne, List.pairwise_map, List.pairwise_iff_getElem]
   intro i j hi hj hij
   have := ho.asc i j hij (by simpa using hi) (by simpa using hj)
   simp only [Array.getElem_toList]
   omega
  ·rw [List.nodup_iff_pairwise_ne, List.pairwise_map, List.pairwise_iff_getElem]
   intro i j hi hj hij
   have := ho.one i j hij (by simpa using hi) (by simpa using hj)
   simpa using this
  ·intro x hx
   obtain ⟨i, hi, rfl⟩ := List.getElem_of_mem hx
   exact ⟨_, by simpa using hrd i (by simpa using hi)⟩
 refine ⟨_, World.ownsMap_of_fit hb hF (fun _ _ _ h => h), ?_, ?_⟩
 ·show (((es.toList.map (rg P kt R)).foldr DataW.insert []).map fun p => intOf p.1).Perm ks
  have e : (es.toList.map (rg P kt R)).map (fun p => intOf p.1) = ks := by
   refine List.ext_getElem (by simp [hl]) fun i h1 h2 => ?_
   have hi : i < es.size := by omega
   simp only [List.getElem_map, Array.getElem_toList]
   rw [rg_of (hrd i hi)]
   simp [intOf, List.getD, h2]
  have := (foldr_insert_perm (es.toList.map (rg P kt R))).map fun p => intOf p.1
  rw [e] at this
  exact this
 ·show ((es.toList.map (rg P kt R)).foldr DataW.insert []).length = es.size
  rw [(foldr_insert_perm _).length_eq]
  simp
def SortsKeys (P : Program) (f it : FuncId) (kt : TypeId) : Prop :=
 Callable P f ∧ ∀ (w : World) (g b n : Nat) (D : DataW Unit), g < w.heap.size → w.cell? ⟨g, 0, none⟩ = some (.map (some b)) → w.ownsMap P kt (fun _ => some (.nil, [])) b n D → Maps.size D ≤ maxLen → Maps.size D * 8 ≤ 140737488355328 →
  Calls P f #[.func (.func it) #[] #[.pointer (some ⟨g, 0, none⟩)]] w fun e w' => ∃ (v : Value) (ss : List Int), e = .returned v ∧ ss.Perm (intKeys D) ∧
   w'.ownsRow w.heap.size kt 1 v ss.length ((ss.mergeSort (fun x y => decide (x ≤ y))).map encZ) ∧ Below w.heap.size w w'
def sortI (l : List Int) : List Int := l.mergeSort fun x y => decide (x ≤ y)
theorem sortI_length (l : List Int) : (sortI l).length = l.length := List.length_mergeSort l
end
end Go.Eng
end
