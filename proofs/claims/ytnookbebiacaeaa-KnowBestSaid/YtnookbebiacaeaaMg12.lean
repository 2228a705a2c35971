/-
  Several texts in one: EngF.
-/
import Derived.Shelf.GgSortFunc.InsertionK
import Derived.Test.YtnookbebiacaeaaMg11

section
/-
  The engine: a library function that sorts a row of structs in place, by a function that compares two of them.
-/
namespace Go.Eng
open Go.RowKit Go.Sort

section
variable {P : Program} {α : Type} [Inhabited α]

/-- How an element lies in its cells. -/
structure Lies (sz : Nat) (enc : α → List Value) (av : α → List AV) : Prop where
  pos : 0 < sz
  len : ∀ x, (enc x).length = sz
  alen : ∀ x, (av x).length = sz
  one : ∀ x, ∀ v ∈ enc x, v.oneCell' = true
  to : ∀ (F : Nat → Prop) (w : World) (x : α) (j : Nat) (h1 : j < (av x).length) (h2 : j < (enc x).length), Rep0 F w (av x)[j] (enc x)[j]
  of : ∀ (F : Nat → Prop) (w : World) (x : α) (j : Nat) (v : Value) (h1 : j < (av x).length) (h2 : j < (enc x).length), Rep0 F w (av x)[j] v → v = (enc x)[j]

def SortsBy (P : Program) (f cb : FuncId) (sz : Nat) (enc : α → List Value) (lt : α → α → Bool) : Prop :=
  Callable P f ∧ (∀ (blk off cap : Nat) (ss : List α) (W : World), HoldsK enc sz W blk off ss.toArray → blk < W.heap.size → ss.length < 4611686018427387904 →
    Calls P f #[.slice (some ⟨blk, off, none⟩) ss.length cap, .func (.func cb) #[] #[]] W fun e w' => e = .returned (.tuple #[]) ∧ ∃ (d' : Array α) (k : Nat) (os : Array Obj), PermIn 0 ss.length ss.toArray d' ∧ SortedIn lt 0 ss.length d' ∧ w' = Go.Proofs.sortWorldK enc sz W blk off k d' os) ∧
    ∀ (p : Option Addr) (cap : Nat) (W : World), Calls P f #[.slice p 0 cap, .func (.func cb) #[] #[]] W fun e w' => e = .returned (.tuple #[]) ∧ w' = W

theorem heap_grow_putV {w : World} {g off k : Nat} {d : Array Value} {os : Array Obj} {cur : Array Value} {e : TypeId} (hh : w.heap[g]? = some (.cells cur e (0, 0))) :
    (grow (putRow id (Sort.ahead w k) g off d) os).heap[g]? = some (.cells (putCells id off d cur) e (0, 0)) ∧
    (∀ b, b < w.heap.size → b ≠ g → (grow (putRow id (Sort.ahead w k) g off d) os).heap[b]? = w.heap[b]?) ∧ w.heap.size ≤ (grow (putRow id (Sort.ahead w k) g off d) os).heap.size := by
  have hlt := (Array.getElem?_eq_some_iff.1 hh).1
  refine ⟨?_, fun b hb hne => ?_, ?_⟩
  · simp only [grow, putRow, mapBlock, Sort.ahead]
    rw [Array.getElem?_append_left (by simpa using hlt), Array.getElem?_modify, if_pos rfl, hh]
    rfl
  · simp only [grow, putRow, mapBlock, Sort.ahead]
    rw [Array.getElem?_append_left (by simpa using hb), Array.getElem?_modify, if_neg (Ne.symm hne)]
  · simp [grow, putRow, mapBlock, Sort.ahead]

theorem at_parts {sz k j : Nat} (hj : j < sz) : (k * sz + j) / sz = k ∧ (k * sz + j) % sz = j := by
  constructor
  · rw [Nat.mul_comm, Nat.mul_add_div (by omega), Nat.div_eq_of_lt hj, Nat.add_zero]
  · rw [Nat.mul_comm, Nat.mul_add_mod, Nat.mod_eq_of_lt hj]
theorem in_row {sz n k j : Nat} (hk : k < n) (hj : j < sz) : k * sz + j < n * sz := by
  have := Nat.mul_le_mul_right sz (show k + 1 ≤ n from hk)
  rw [Nat.add_mul, Nat.one_mul] at this
  omega

theorem sortBy_ctr {f cb : FuncId} {sz : Nat} {enc : α → List Value} {av : α → List AV} {lt : α → α → Bool} (L : Lies sz enc av) (h : SortsBy P f cb sz enc lt) {kt : TypeId} (ks : List α) (get : Nat → List AV) (hget : ∀ i, i < ks.length → get i = av (ks.getD i default)) (hb : ks.length < 4611686018427387904) :
    CtrM P f false [.row kt sz ks.length get] [.so 0, .fn cb []] (fun ys : List α => ys.Perm ks ∧ ys.Pairwise fun x y => lt y x = false) (fun ys => [.row kt sz ys.length fun i => av (ys.getD i default)]) (fun _ => []) (fun _ => .tup []) := by
  refine ⟨h.1, fun F w β vs hOF hFl hFal hobj hdist hl hr => ?_⟩
  obtain ⟨v0, v1, rfl⟩ : ∃ v0 v1, vs = [v0, v1] := by
    match vs, hl with
    | [v0, v1], _ => exact ⟨v0, v1, rfl⟩
  have hv0 := hr 0 (by simp) (by simp)
  have hv1 := hr 1 (by simp) (by simp)
  simp only [List.getElem_cons_zero] at hv0
  simp only [List.getElem_cons_succ, List.getElem_cons_zero] at hv1
  obtain ⟨_, rfl⟩ := hv0.so_inv
  obtain ⟨us, rfl, hul, _⟩ := hv1.fn_inv
  obtain rfl : us = [] := List.eq_nil_of_length_eq_zero hul.symm
  obtain ⟨xs, hx, hlen, hc⟩ := hobj 0 _ rfl
  have hget' : ∀ {α : Type} (a : Array α) [Inhabited α] (t : Nat) (h : t < a.size), a[t]! = a[t] := fun a _ t h => getElem!_pos a t h
  -- what is to be shown, out of the new row
  have done : ∀ (ys : List α) (w' : World), ys.length = ks.length → RowAt w' kt sz (β.val 0) ks.length (flatK enc sz ys.toArray).toList → Frame (OwnOf β [.row kt sz ks.length get]) w w' →
      Gives false F w [.row kt sz ks.length get] β [.row kt sz ys.length fun i => av (ys.getD i default)] [] (.tup []) (.tuple #[]) w' β := by
    intro ys w' hyl hrow hfr
    refine ⟨fun _ _ => ⟨rfl, rfl⟩, hfr, rfl, ?_, ?_, ?_, .tup [] [] rfl fun j h1 => by simp at h1⟩
    · intro j o hj
      match j with
      | 0 =>
        simp at hj
        subst hj
        refine ⟨_, by rw [hyl]; exact hrow, fun k _ => L.alen _, fun k i hk' h1 h2 => ?_⟩
        have hi : i < sz := by rw [L.alen] at h1; exact h1
        have hin := in_row (sz := sz) hk' hi
        have e0 := get_flatK enc sz ys.toArray (k * sz + i) (by simpa using hin)
        rw [(at_parts hi).1, (at_parts hi).2] at e0
        have hin2 : k * sz + i < (flatK enc sz ys.toArray).size := by simpa using hin
        rw [getElem!_pos (flatK enc sz ys.toArray) (k * sz + i) hin2] at e0
        have e1 : (flatK enc sz ys.toArray).toList[k * sz + i] = (flatK enc sz ys.toArray)[k * sz + i] := by simp
        have e2 : ys.toArray[k]! = ys.getD k default := by simp [List.getD, hk', getElem!_pos]
        have hi2 : i < (enc (ys.getD k default)).length := by rw [L.len]; exact hi
        have e3 : (enc (ys.getD k default))[i]! = (enc (ys.getD k default))[i] := getElem!_pos (enc (ys.getD k default)) i hi2
        rw [e1, e0, e2, e3]
        exact ⟨L.to _ _ _ _ _ hi2, L.one _ _ (List.getElem_mem hi2)⟩
      | j + 1 => simp at hj
    · rintro g ⟨j, o, hj, hg⟩
      match j with
      | 0 =>
        simp at hj
        subst hj
        exact .inl ⟨0, _, rfl, hg⟩
      | j + 1 => simp at hj
    · intro j j' o o' g hj hj' _ _
      match j, j' with
      | 0, 0 => rfl
      | j + 1, _ => simp at hj
      | 0, j' + 1 => simp at hj'
  have flen : ∀ ys : List α, (flatK enc sz ys.toArray).toList.length = ys.length * sz := fun ys => by simp
  rcases hx.2 with ⟨hv, hn⟩ | ⟨ad, hv, hn⟩ | ⟨g, off, cap, cur, hv, hh, hnc, hcm, hcs, htake⟩
  · have hk0 : ks = [] := List.eq_nil_of_length_eq_zero hn
    rw [hv]
    refine (h.2.2 none 0 w).mono ?_
    rintro e w' ⟨rfl, rfl⟩
    refine ⟨_, β, ks, rfl, ⟨List.Perm.refl _, by rw [hk0]; exact .nil⟩, done ks _ rfl ?_ (Frame.refl _ _)⟩
    rw [hv]
    exact ⟨flen ks, .inl ⟨rfl, hn⟩⟩
  · have hk0 : ks = [] := List.eq_nil_of_length_eq_zero hn
    rw [hv]
    refine (h.2.2 (some ad) 0 w).mono ?_
    rintro e w' ⟨rfl, rfl⟩
    refine ⟨_, β, ks, rfl, ⟨List.Perm.refl _, by rw [hk0]; exact .nil⟩, done ks _ rfl ?_ (Frame.refl _ _)⟩
    rw [hv]
    exact ⟨flen ks, .inr (.inl ⟨ad, rfl, hn⟩)⟩
  · have hglt := (Array.getElem?_eq_some_iff.1 hh).1
    have hxl : xs.length = ks.length * sz := hx.1
    have hpos := L.pos
    have hxs : ∀ t, t < ks.length * sz → xs[t]? = some ((flatK enc sz ks.toArray)[t]!) := by
      intro t ht
      have hk : t / sz < ks.length := Nat.div_lt_of_lt_mul (by rw [Nat.mul_comm]; exact ht)
      have hj : t % sz < sz := Nat.mod_lt _ hpos
      have et : t / sz * sz + t % sz = t := by rw [Nat.mul_comm]; exact Nat.div_add_mod t sz
      have hg1 := hget _ hk
      have h1 : t % sz < (get (t / sz)).length := by rw [hlen _ hk]; exact hj
      have h2 : t / sz * sz + t % sz < xs.length := by rw [et, hxl]; exact ht
      have hrep := (hc (t / sz) (t % sz) hk h1 h2).1
      have hi2 : t % sz < (enc (ks.getD (t / sz) default)).length := by rw [L.len]; exact hj
      have hi1 : t % sz < (av (ks.getD (t / sz) default)).length := by rw [L.alen]; exact hj
      simp only [hg1] at hrep
      have e := L.of _ _ _ _ _ hi1 hi2 hrep
      have e1 : xs[t / sz * sz + t % sz] = xs[t]'(by rw [hxl]; exact ht) := by congr 1
      rw [e1] at e
      rw [List.getElem?_eq_getElem (by rw [hxl]; exact ht), e, get_flatK enc sz ks.toArray t (by simpa using ht)]
      have e2 : ks.toArray[t / sz]! = ks.getD (t / sz) default := by simp [List.getD, hk, getElem!_pos]
      rw [e2, getElem!_pos (enc (ks.getD (t / sz) default)) (t % sz) hi2]
    have hcell : ∀ t, t < ks.length * sz → cur[off + t]? = some ((flatK enc sz ks.toArray)[t]!) := by
      intro t ht
      have := hxs t ht
      rw [← htake, List.getElem?_take, if_pos ht, List.getElem?_drop] at this
      simpa using this
    have hH : HoldsK enc sz w g off ks.toArray := by
      intro t ht
      have ht' : t < ks.length * sz := by simpa using ht
      refine ⟨?_, ?_⟩
      · rw [cell_of_row w _ _ _ _ _ hh]
        exact hcell t ht'
      · simp [World.frozen?, hh]
    rw [hv]
    refine (h.2.1 g off (cap + 1) ks w hH hglt hb).mono ?_
    rintro e w' ⟨rfl, d', k, os, hp, hs, rfl⟩
    obtain ⟨h1, h2, h3⟩ := heap_grow_putV (k := k) (os := os) (off := off) (d := flatK enc sz d') hh
    have hds : d'.size = ks.length := by have := hp.1; simpa using this
    have hex : ∀ a : Array α, a.size = ks.length → (a.extract 0 ks.length).toList = a.toList := fun a ha => by rw [← ha]; simp
    have hperm : d'.toList.Perm ks := by
      have := hp.2.2
      rw [hex d' hds, hex ks.toArray (by simp)] at this
      simpa using this
    have hyl : d'.toList.length = ks.length := by simpa using hds
    refine ⟨_, β, d'.toList, rfl, ⟨hperm, ?_⟩, done d'.toList _ hyl ?_ ⟨rfl, rfl, rfl, h3, fun b hb' hn => h2 b hb' fun e => hn ⟨0, _, rfl, by rw [e]; simp [ownB, hv, blkOf]⟩, Nat.le_add_right _ _⟩⟩
    · rw [List.pairwise_iff_getElem]
      intro i j hi hj hij
      have hi' : i < d'.size := by simpa using hi
      have hj' : j < d'.size := by simpa using hj
      have := hs i j (Nat.zero_le _) hij (by omega)
      rw [getElem!_pos d' i hi', getElem!_pos d' j hj'] at this
      simpa using this
    · rw [hv]
      refine ⟨(flen _).trans (by rw [hyl]), .inr (.inr ⟨g, off, cap, _, rfl, h1, hnc, hcm, by simpa [putCells] using hcs, ?_⟩)⟩
      refine List.ext_getElem? fun t => ?_
      rw [List.getElem?_take]
      by_cases ht : t < ks.length * sz
      · rw [if_pos ht, List.getElem?_drop]
        have hc2 := hcell t ht
        simp only [putCells, Array.toList_mapIdx, List.getElem?_mapIdx]
        have hc3 : cur.toList[off + t]? = some ((flatK enc sz ks.toArray)[t]!) := by simpa using hc2
        rw [hc3]
        have e1 : off + t - off = t := by omega
        have hfs : (flatK enc sz d').size = ks.length * sz := by simp [hds]
        simp only [Option.map_some, e1]
        rw [if_pos ⟨by omega, by omega⟩]
        have : (flatK enc sz d'.toList.toArray).toList[t]? = some ((flatK enc sz d')[t]!) := by
          simp only [Array.toArray_toList]
          rw [getElem!_pos (flatK enc sz d') t (by omega)]
          simp
        rw [this]
        rfl
      · rw [if_neg ht, List.getElem?_eq_none (by rw [flen, hyl]; omega)]

end
end Go.Eng
end
