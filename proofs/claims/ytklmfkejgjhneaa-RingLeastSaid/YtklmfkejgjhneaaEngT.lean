/-
  The engine: a library function that sorts a row of numbers in place.
-/
import Derived.Test.YtklmfkejgjhneaaEngS
import Derived.Sort.Grow
namespace Go.Eng
open Go.RowKit Go.Sort

section
variable {P : Program}

def SortsRow (P : Program) (f : FuncId) : Prop :=
  Callable P f ∧ (∀ (blk off cap : Nat) (ss : List Int) (W : World), Holds encZ W blk off ss.toArray → blk < W.heap.size → ss.length < 4611686018427387904 →
    Calls P f #[.slice (some ⟨blk, off, none⟩) ss.length cap] W fun e w' => e = .returned (.tuple #[]) ∧ ∃ k os, w' = grow (putRow encZ (Sort.ahead W k) blk off (ss.mergeSort fun x y => decide (x ≤ y)).toArray) os) ∧
    ∀ (p : Option Addr) (cap : Nat) (W : World), Calls P f #[.slice p 0 cap] W fun e w' => e = .returned (.tuple #[]) ∧ w' = W

theorem heap_grow_put {w : World} {g off k : Nat} {d : Array Int} {os : Array Obj} {cur : Array Value} {e : TypeId} (hh : w.heap[g]? = some (.cells cur e (0, 0))) :
    (grow (putRow encZ (Sort.ahead w k) g off d) os).heap[g]? = some (.cells (putCells encZ off d cur) e (0, 0)) ∧
    (∀ b, b < w.heap.size → b ≠ g → (grow (putRow encZ (Sort.ahead w k) g off d) os).heap[b]? = w.heap[b]?) ∧ w.heap.size ≤ (grow (putRow encZ (Sort.ahead w k) g off d) os).heap.size := by
  have hlt := (Array.getElem?_eq_some_iff.1 hh).1
  refine ⟨?_, fun b hb hne => ?_, ?_⟩
  · simp only [grow, putRow, mapBlock, Sort.ahead]
    rw [Array.getElem?_append_left (by simpa using hlt), Array.getElem?_modify, if_pos rfl, hh]
    rfl
  · simp only [grow, putRow, mapBlock, Sort.ahead]
    rw [Array.getElem?_append_left (by simpa using hb), Array.getElem?_modify, if_neg (Ne.symm hne)]
  · simp [grow, putRow, mapBlock, Sort.ahead]

theorem sortRow_ctr {f : FuncId} (h : SortsRow P f) {kt : TypeId} (ks : List Int) (get : Nat → List AV) (hget : ∀ i, i < ks.length → get i = [.i .i64 (ks.getD i 0)]) (hb : ks.length < 4611686018427387904) :
    CtrM P f false [.row kt 1 ks.length get] [.so 0] (fun _ : Unit => True) (fun _ => [.row kt 1 ks.length fun i => [.i .i64 ((sortI ks).getD i 0)]]) (fun _ => []) (fun _ => .tup []) := by
  refine ⟨h.1, fun F w β vs hOF hFl hFal hobj hdist hl hr => ?_⟩
  obtain ⟨v0, rfl⟩ : ∃ v0, vs = [v0] := by
    match vs, hl with
    | [v0], _ => exact ⟨v0, rfl⟩
  have hv0 := hr 0 (by simp) (by simp)
  simp only [List.getElem_cons_zero] at hv0
  obtain ⟨_, rfl⟩ := hv0.so_inv
  obtain ⟨xs, hx, hlen, hc⟩ := hobj 0 _ rfl
  have hsl := sortI_length ks
  -- what is to be shown, out of the new row
  have done : ∀ (w' : World), RowAt w' kt 1 (β.val 0) ks.length ((sortI ks).map encZ) → Frame (OwnOf β [.row kt 1 ks.length get]) w w' →
      Gives false F w [.row kt 1 ks.length get] β [.row kt 1 ks.length fun i => [.i .i64 ((sortI ks).getD i 0)]] [] (.tup []) (.tuple #[]) w' β := by
    intro w' hrow hfr
    refine ⟨fun _ _ => ⟨rfl, rfl⟩, hfr, rfl, ?_, ?_, ?_, .tup [] [] rfl fun j h1 => by simp at h1⟩
    · intro j o hj
      match j with
      | 0 =>
        simp at hj
        subst hj
        refine ⟨(sortI ks).map encZ, hrow, fun k _ => rfl, fun k i hk' h1 h2 => ?_⟩
        have hi : i = 0 := by simpa using h1
        subst hi
        have hk2 : k < (sortI ks).length := by rw [hsl]; exact hk'
        have e1 : ((sortI ks).map encZ)[k * 1 + 0] = .int .i64 ((sortI ks).getD k 0) := by
          simp [List.getD, hk2]
        rw [e1]
        exact ⟨.i _ _, rfl⟩
      | j + 1 => simp at hj
    · rintro g ⟨j, o, hj, hg⟩
      match j with
      | 0 =>
        simp at hj
        subst hj
        exact .inl ⟨0, _, rfl, hg⟩
      | j + 1 => simp at hj
    · intro j j' o o' g hj hj' _ _
      match j, j' with
      | 0, 0 => rfl
      | j + 1, _ => simp at hj
      | 0, j' + 1 => simp at hj'
  rcases hx.2 with ⟨hv, hn⟩ | ⟨ad, hv, hn⟩ | ⟨g, off, cap, cur, hv, hh, hnc, hcm, hcs, htake⟩
  · have hk0 : ks = [] := List.eq_nil_of_length_eq_zero hn
    rw [hv]
    refine (h.2.2 none 0 w).mono ?_
    rintro e w' ⟨rfl, rfl⟩
    refine ⟨_, β, (), rfl, trivial, done _ ?_ (Frame.refl _ _)⟩
    rw [hv]
    exact ⟨by simp [hsl], .inl ⟨rfl, hn⟩⟩
  · have hk0 : ks = [] := List.eq_nil_of_length_eq_zero hn
    rw [hv]
    refine (h.2.2 (some ad) 0 w).mono ?_
    rintro e w' ⟨rfl, rfl⟩
    refine ⟨_, β, (), rfl, trivial, done _ ?_ (Frame.refl _ _)⟩
    rw [hv]
    exact ⟨by simp [hsl], .inr (.inl ⟨ad, rfl, hn⟩)⟩
  · have hglt := (Array.getElem?_eq_some_iff.1 hh).1
    have hxl : xs.length = ks.length := by have := hx.1; omega
    have hxs : ∀ j, j < ks.length → xs[j]? = some (encZ (ks.getD j 0)) := by
      intro j hj
      have h2 : j * 1 + 0 < xs.length := by omega
      have := (hc j 0 hj (by rw [hget j hj]; simp) h2).1
      simp only [hget j hj, List.getElem_cons_zero] at this
      have e : xs[j * 1 + 0] = xs[j]'(by omega) := by congr 1; omega
      rw [e] at this
      rw [List.getElem?_eq_getElem (by omega)]
      generalize xs[j] = u at this ⊢
      cases this
      rfl
    have hcell : ∀ j, j < ks.length → cur[off + j]? = some (encZ (ks.getD j 0)) := by
      intro j hj
      have := hxs j hj
      rw [← htake, List.getElem?_take, if_pos (by omega), List.getElem?_drop] at this
      simpa using this
    have hH : Holds encZ w g off ks.toArray := by
      intro j hj
      have hj' : j < ks.length := by simpa using hj
      have e : ks.toArray[j]! = ks.getD j 0 := by simp [List.getD, hj', getElem!_pos]
      refine ⟨?_, ?_⟩
      · rw [cell_of_row w _ _ _ _ _ hh, e]
        exact hcell j hj'
      · simp [World.frozen?, hh]
    rw [hv]
    refine (h.2.1 g off (cap + 1) ks w hH hglt hb).mono ?_
    rintro e w' ⟨rfl, k, os, rfl⟩
    obtain ⟨h1, h2, h3⟩ := heap_grow_put (k := k) (os := os) (off := off) (d := (ks.mergeSort fun x y => decide (x ≤ y)).toArray) hh
    refine ⟨_, β, (), rfl, trivial, done _ ?_ ⟨rfl, rfl, rfl, h3, fun b hb' hn => h2 b hb' fun e => hn ⟨0, _, rfl, by rw [e]; simp [ownB, hv, blkOf]⟩⟩⟩
    rw [hv]
    refine ⟨by simp [hsl], .inr (.inr ⟨g, off, cap, _, rfl, h1, hnc, hcm, by simpa [putCells] using hcs, ?_⟩)⟩
    refine List.ext_getElem? fun j => ?_
    rw [List.getElem?_take]
    by_cases hj : j < ks.length
    · rw [if_pos (by omega), List.getElem?_drop, List.getElem?_map]
      have hsj : j < (sortI ks).length := by omega
      have hc2 := hcell j hj
      simp only [putCells, Array.toList_mapIdx, List.getElem?_mapIdx]
      have hc3 : cur.toList[off + j]? = some (encZ (ks.getD j 0)) := by simpa using hc2
      rw [hc3]
      have e1 : off + j - off = j := by omega
      simp only [Option.map_some, e1]
      rw [if_pos ⟨by omega, by simp; omega⟩, List.getElem?_eq_getElem hsj]
      have : (ks.mergeSort fun x y => decide (x ≤ y)).toArray[j]! = (sortI ks)[j] := by
        simp [sortI, getElem!_pos, hj]
      rw [this]
      rfl
    · rw [if_neg (by omega), List.getElem?_eq_none (by simp; omega)]

/-- A function that takes out what stands behind its like, in place. -/
def CompactsRow (P : Program) (f : FuncId) (cmp : List Int → List Int) : Prop :=
  Callable P f ∧ (∀ ks, (cmp ks).length ≤ ks.length) ∧ (∀ (blk off cap : Nat) (ss : List Int) (W : World), Holds encZ W blk off ss.toArray → ss.length ≤ 9223372036854775807 → ss.length ≤ cap → blk < W.heap.size →
    Calls P f #[.slice (some ⟨blk, off, none⟩) ss.length cap] W fun e w' => e = .returned (.slice (some ⟨blk, off, none⟩) (cmp ss).length cap) ∧
      ∃ k, w' = putRow encZ (Sort.ahead W k) blk off (cmp ss ++ List.replicate (ss.length - (cmp ss).length) 0).toArray) ∧
    ∀ (p : Option Addr) (cap : Nat) (W : World), Calls P f #[.slice p 0 cap] W fun e w' => e = .returned (.slice p 0 cap) ∧ w' = W

theorem compactRow_ctr {f : FuncId} {cmp : List Int → List Int} (h : CompactsRow P f cmp) {kt : TypeId} (ks : List Int) (get : Nat → List AV) (hget : ∀ i, i < ks.length → get i = [.i .i64 (ks.getD i 0)]) (hb : ks.length < 4611686018427387904) :
    CtrM P f false [.row kt 1 ks.length get] [.so 0] (fun _ : Unit => True) (fun _ => [.dead]) (fun _ => [.row kt 1 (cmp ks).length fun i => [.i .i64 ((cmp ks).getD i 0)]]) (fun _ => .so 1) := by
  refine ⟨h.1, fun F w β vs hOF hFl hFal hobj hdist hl hr => ?_⟩
  obtain ⟨v0, rfl⟩ : ∃ v0, vs = [v0] := by
    match vs, hl with
    | [v0], _ => exact ⟨v0, rfl⟩
  have hv0 := hr 0 (by simp) (by simp)
  simp only [List.getElem_cons_zero] at hv0
  obtain ⟨_, rfl⟩ := hv0.so_inv
  obtain ⟨xs, hx, hlen, hc⟩ := hobj 0 _ rfl
  have hsl := h.2.1 ks
  have done : ∀ (v : Value) (w' : World), RowAt w' kt 1 v (cmp ks).length ((cmp ks).map encZ) → Frame (OwnOf β [.row kt 1 ks.length get]) w w' → (∀ g, blkOf v = some g → OwnOf β [.row kt 1 ks.length get] g) →
      Gives false F w [.row kt 1 ks.length get] β [.dead] [.row kt 1 (cmp ks).length fun i => [.i .i64 ((cmp ks).getD i 0)]] (.so 1) v w' (β.valAt 1 v) := by
    intro v w' hrow hfr hown
    have hval : (β.valAt 1 v).val 1 = v := by simp [Bd.valAt]
    refine ⟨agree_valAt _ _ _, hfr, rfl, ?_, ?_, ?_, ?_⟩
    · intro j o hj
      match j with
      | 0 =>
        simp at hj
        subst hj
        trivial
      | 1 =>
        simp at hj
        subst hj
        refine ⟨(cmp ks).map encZ, by rw [hval]; exact hrow, fun k _ => rfl, fun k i hk' h1 h2 => ?_⟩
        have hi : i = 0 := by simpa using h1
        subst hi
        have e1 : ((cmp ks).map encZ)[k * 1 + 0] = .int .i64 ((cmp ks).getD k 0) := by
          simp [List.getD, hk']
        rw [e1]
        exact ⟨.i _ _, rfl⟩
      | j + 2 => simp at hj
    · rintro g ⟨j, o, hj, hg⟩
      match j with
      | 0 =>
        simp at hj
        subst hj
        cases hg
      | 1 =>
        simp at hj
        subst hj
        simp only [ownB, hval] at hg
        exact .inl (hown g hg)
      | j + 2 => simp at hj
    · intro j j' o o' g hj hj' hg hg'
      match j, j' with
      | 0, _ =>
        simp at hj
        subst hj
        cases hg
      | _, 0 =>
        simp at hj'
        subst hj'
        cases hg'
      | 1, 1 => rfl
      | j + 2, _ => simp at hj
      | _, j' + 2 => simp at hj'
    · have hp := Rep.so (β := β.valAt 1 v) (n := 2) (F := Fres false F w (β.valAt 1 v) ([.dead] ++ [.row kt 1 (cmp ks).length fun i => [.i .i64 ((cmp ks).getD i 0)]])) (w := w') 1 (by omega) (by rw [hval]; exact hrow.one)
      rw [hval] at hp
      exact hp
  rcases hx.2 with ⟨hv, hn⟩ | ⟨ad, hv, hn⟩ | ⟨g, off, cap, cur, hv, hh, hnc, hcm, hcs, htake⟩
  · have hk0 : (cmp ks).length = 0 := by omega
    rw [hv]
    refine (h.2.2.2 none 0 w).mono ?_
    rintro e w' ⟨rfl, rfl⟩
    exact ⟨_, _, (), rfl, trivial, done _ _ ⟨by simp [hk0], .inl ⟨rfl, hk0⟩⟩ (Frame.refl _ _) (fun g hg => by cases hg)⟩
  · have hk0 : (cmp ks).length = 0 := by omega
    rw [hv]
    refine (h.2.2.2 (some ad) 0 w).mono ?_
    rintro e w' ⟨rfl, rfl⟩
    exact ⟨_, _, (), rfl, trivial, done _ _ ⟨by simp [hk0], .inr (.inl ⟨ad, rfl, hk0⟩)⟩ (Frame.refl _ _) (fun g hg => by cases hg)⟩
  · have hglt := (Array.getElem?_eq_some_iff.1 hh).1
    have hxl : xs.length = ks.length := by have := hx.1; omega
    have hxs : ∀ j, j < ks.length → xs[j]? = some (encZ (ks.getD j 0)) := by
      intro j hj
      have h2 : j * 1 + 0 < xs.length := by omega
      have := (hc j 0 hj (by rw [hget j hj]; simp) h2).1
      simp only [hget j hj, List.getElem_cons_zero] at this
      have e : xs[j * 1 + 0] = xs[j]'(by omega) := by congr 1; omega
      rw [e] at this
      rw [List.getElem?_eq_getElem (by omega)]
      generalize xs[j] = u at this ⊢
      cases this
      rfl
    have hcell : ∀ j, j < ks.length → cur[off + j]? = some (encZ (ks.getD j 0)) := by
      intro j hj
      have := hxs j hj
      rw [← htake, List.getElem?_take, if_pos (by omega), List.getElem?_drop] at this
      simpa using this
    have hH : Holds encZ w g off ks.toArray := by
      intro j hj
      have hj' : j < ks.length := by simpa using hj
      have e : ks.toArray[j]! = ks.getD j 0 := by simp [List.getD, hj', getElem!_pos]
      refine ⟨?_, ?_⟩
      · rw [cell_of_row w _ _ _ _ _ hh, e]
        exact hcell j hj'
      · simp [World.frozen?, hh]
    rw [hv]
    refine (h.2.2.1 g off (cap + 1) ks w hH (by omega) (by omega) hglt).mono ?_
    rintro e w' ⟨rfl, k, rfl⟩
    obtain ⟨h1, h2, h3⟩ := heap_grow_put (k := k) (os := #[]) (off := off) (d := (cmp ks ++ List.replicate (ks.length - (cmp ks).length) 0).toArray) hh
    rw [grow_empty] at h1 h2 h3
    have hbk : ∀ b, some g = some b → OwnOf β [.row kt 1 ks.length get] b := fun b hb' => ⟨0, _, rfl, by rw [← hb']; simp [ownB, hv, blkOf]⟩
    refine ⟨_, _, (), rfl, trivial, done _ _ ?_ ⟨rfl, rfl, rfl, h3, fun b hb' hn => h2 b hb' fun e => hn (hbk b (by rw [e]))⟩ (fun b hb' => hbk b (by simpa [blkOf] using hb'))⟩
    refine ⟨by simp, .inr (.inr ⟨g, off, cap, _, rfl, h1, by omega, hcm, by simpa [putCells] using hcs, ?_⟩)⟩
    refine List.ext_getElem? fun j => ?_
    rw [List.getElem?_take]
    by_cases hj : j < (cmp ks).length
    · rw [if_pos (by omega), List.getElem?_drop, List.getElem?_map]
      have hc2 := hcell j (by omega)
      simp only [putCells, Array.toList_mapIdx, List.getElem?_mapIdx]
      have hc3 : cur.toList[off + j]? = some (encZ (ks.getD j 0)) := by simpa using hc2
      rw [hc3]
      have e1 : off + j - off = j := by omega
      simp only [Option.map_some, e1]
      rw [if_pos ⟨by omega, by simp; omega⟩, List.getElem?_eq_getElem hj]
      have : (cmp ks ++ List.replicate (ks.length - (cmp ks).length) 0).toArray[j]! = (cmp ks)[j] := by
        rw [getElem!_pos _ _ (by simp; omega)]
        simp [hj]
      rw [this]
      rfl
    · rw [if_neg (by omega), List.getElem?_eq_none (by simp; omega)]
end
end Go.Eng
