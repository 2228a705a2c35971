/-
  Several texts in one: EngT, EngW, EngU.
-/
import Derived.Sort.Grow
import Derived.Test.YtnookbebiacaeaaMg10

section
/-
  The engine: a library function that sorts a row of numbers in place.
-/
namespace Go.Eng
open Go.RowKit Go.Sort

section
variable {P : Program}

def SortsRow (P : Program) (f : FuncId) : Prop :=
  Callable P f ∧ (∀ (blk off cap : Nat) (ss : List Int) (W : World), Holds encZ W blk off ss.toArray → blk < W.heap.size → ss.length < 4611686018427387904 →
    Calls P f #[.slice (some ⟨blk, off, none⟩) ss.length cap] W fun e w' => e = .returned (.tuple #[]) ∧ ∃ k os, w' = grow (putRow encZ (Sort.ahead W k) blk off (ss.mergeSort fun x y => decide (x ≤ y)).toArray) os) ∧
    ∀ (p : Option Addr) (cap : Nat) (W : World), Calls P f #[.slice p 0 cap] W fun e w' => e = .returned (.tuple #[]) ∧ w' = W

theorem heap_grow_put {w : World} {g off k : Nat} {d : Array Int} {os : Array Obj} {cur : Array Value} {e : TypeId} (hh : w.heap[g]? = some (.cells cur e (0, 0))) :
    (grow (putRow encZ (Sort.ahead w k) g off d) os).heap[g]? = some (.cells (putCells encZ off d cur) e (0, 0)) ∧
    (∀ b, b < w.heap.size → b ≠ g → (grow (putRow encZ (Sort.ahead w k) g off d) os).heap[b]? = w.heap[b]?) ∧ w.heap.size ≤ (grow (putRow encZ (Sort.ahead w k) g off d) os).heap.size := by
  have hlt := (Array.getElem?_eq_some_iff.1 hh).1
  refine ⟨?_, fun b hb hne => ?_, ?_⟩
  · simp only [grow, putRow, mapBlock, Sort.ahead]
    rw [Array.getElem?_append_left (by simpa using hlt), Array.getElem?_modify, if_pos rfl, hh]
    rfl
  · simp only [grow, putRow, mapBlock, Sort.ahead]
    rw [Array.getElem?_append_left (by simpa using hb), Array.getElem?_modify, if_neg (Ne.symm hne)]
  · simp [grow, putRow, mapBlock, Sort.ahead]

theorem sortRow_ctr {f : FuncId} (h : SortsRow P f) {kt : TypeId} (ks : List Int) (get : Nat → List AV) (hget : ∀ i, i < ks.length → get i = [.i .i64 (ks.getD i 0)]) (hb : ks.length < 4611686018427387904) :
    CtrM P f false [.row kt 1 ks.length get] [.so 0] (fun _ : Unit => True) (fun _ => [.row kt 1 ks.length fun i => [.i .i64 ((sortI ks).getD i 0)]]) (fun _ => []) (fun _ => .tup []) := by
  refine ⟨h.1, fun F w β vs hOF hFl hFal hobj hdist hl hr => ?_⟩
  obtain ⟨v0, rfl⟩ : ∃ v0, vs = [v0] := by
    match vs, hl with
    | [v0], _ => exact ⟨v0, rfl⟩
  have hv0 := hr 0 (by simp) (by simp)
  simp only [List.getElem_cons_zero] at hv0
  obtain ⟨_, rfl⟩ := hv0.so_inv
  obtain ⟨xs, hx, hlen, hc⟩ := hobj 0 _ rfl
  have hsl := sortI_length ks
  -- what is to be shown, out of the new row
  have done : ∀ (w' : World), RowAt w' kt 1 (β.val 0) ks.length ((sortI ks).map encZ) → Frame (OwnOf β [.row kt 1 ks.length get]) w w' →
      Gives false F w [.row kt 1 ks.length get] β [.row kt 1 ks.length fun i => [.i .i64 ((sortI ks).getD i 0)]] [] (.tup []) (.tuple #[]) w' β := by
    intro w' hrow hfr
    refine ⟨fun _ _ => ⟨rfl, rfl⟩, hfr, rfl, ?_, ?_, ?_, .tup [] [] rfl fun j h1 => by simp at h1⟩
    · intro j o hj
      match j with
      | 0 =>
        simp at hj
        subst hj
        refine ⟨(sortI ks).map encZ, hrow, fun k _ => rfl, fun k i hk' h1 h2 => ?_⟩
        have hi : i = 0 := by simpa using h1
        subst hi
        have hk2 : k < (sortI ks).length := by rw [hsl]; exact hk'
        have e1 : ((sortI ks).map encZ)[k * 1 + 0] = .int .i64 ((sortI ks).getD k 0) := by
          simp [List.getD, hk2]
        rw [e1]
        exact ⟨.i _ _, rfl⟩
      | j + 1 => simp at hj
    · rintro g ⟨j, o, hj, hg⟩
      match j with
      | 0 =>
        simp at hj
        subst hj
        exact .inl ⟨0, _, rfl, hg⟩
      | j + 1 => simp at hj
    · intro j j' o o' g hj hj' _ _
      match j, j' with
      | 0, 0 => rfl
      | j + 1, _ => simp at hj
      | 0, j' + 1 => simp at hj'
  rcases hx.2 with ⟨hv, hn⟩ | ⟨ad, hv, hn⟩ | ⟨g, off, cap, cur, hv, hh, hnc, hcm, hcs, htake⟩
  · have hk0 : ks = [] := List.eq_nil_of_length_eq_zero hn
    rw [hv]
    refine (h.2.2 none 0 w).mono ?_
    rintro e w' ⟨rfl, rfl⟩
    refine ⟨_, β, (), rfl, trivial, done _ ?_ (Frame.refl _ _)⟩
    rw [hv]
    exact ⟨by simp [hsl], .inl ⟨rfl, hn⟩⟩
  · have hk0 : ks = [] := List.eq_nil_of_length_eq_zero hn
    rw [hv]
    refine (h.2.2 (some ad) 0 w).mono ?_
    rintro e w' ⟨rfl, rfl⟩
    refine ⟨_, β, (), rfl, trivial, done _ ?_ (Frame.refl _ _)⟩
    rw [hv]
    exact ⟨by simp [hsl], .inr (.inl ⟨ad, rfl, hn⟩)⟩
  · have hglt := (Array.getElem?_eq_some_iff.1 hh).1
    have hxl : xs.length = ks.length := by have := hx.1; omega
    have hxs : ∀ j, j < ks.length → xs[j]? = some (encZ (ks.getD j 0)) := by
      intro j hj
      have h2 : j * 1 + 0 < xs.length := by omega
      have := (hc j 0 hj (by rw [hget j hj]; simp) h2).1
      simp only [hget j hj, List.getElem_cons_zero] at this
      have e : xs[j * 1 + 0] = xs[j]'(by omega) := by congr 1; omega
      rw [e] at this
      rw [List.getElem?_eq_getElem (by omega)]
      generalize xs[j] = u at this ⊢
      cases this
      rfl
    have hcell : ∀ j, j < ks.length → cur[off + j]? = some (encZ (ks.getD j 0)) := by
      intro j hj
      have := hxs j hj
      rw [← htake, List.getElem?_take, if_pos (by omega), List.getElem?_drop] at this
      simpa using this
    have hH : Holds encZ w g off ks.toArray := by
      intro j hj
      have hj' : j < ks.length := by simpa using hj
      have e : ks.toArray[j]! = ks.getD j 0 := by simp [List.getD, hj', getElem!_pos]
      refine ⟨?_, ?_⟩
      · rw [cell_of_row w _ _ _ _ _ hh, e]
        exact hcell j hj'
      · simp [World.frozen?, hh]
    rw [hv]
    refine (h.2.1 g off (cap + 1) ks w hH hglt hb).mono ?_
    rintro e w' ⟨rfl, k, os, rfl⟩
    obtain ⟨h1, h2, h3⟩ := heap_grow_put (k := k) (os := os) (off := off) (d := (ks.mergeSort fun x y => decide (x ≤ y)).toArray) hh
    refine ⟨_, β, (), rfl, trivial, done _ ?_ ⟨rfl, rfl, rfl, h3, fun b hb' hn => h2 b hb' fun e => hn ⟨0, _, rfl, by rw [e]; simp [ownB, hv, blkOf]⟩, Nat.le_add_right _ _⟩⟩
    rw [hv]
    refine ⟨by simp [hsl], .inr (.inr ⟨g, off, cap, _, rfl, h1, hnc, hcm, by simpa [putCells] using hcs, ?_⟩)⟩
    refine List.ext_getElem? fun j => ?_
    rw [List.getElem?_take]
    by_cases hj : j < ks.length
    · rw [if_pos (by omega), List.getElem?_drop, List.getElem?_map]
      have hsj : j < (sortI ks).length := by omega
      have hc2 := hcell j hj
      simp only [putCells, Array.toList_mapIdx, List.getElem?_mapIdx]
      have hc3 : cur.toList[off + j]? = some (encZ (ks.getD j 0)) := by simpa using hc2
      rw [hc3]
      have e1 : off + j - off = j := by omega
      simp only [Option.map_some, e1]
      rw [if_pos ⟨by omega, by simp; omega⟩, List.getElem?_eq_getElem hsj]
      have : (ks.mergeSort fun x y => decide (x ≤ y)).toArray[j]! = (sortI ks)[j] := by
        simp [sortI, getElem!_pos, hj]
      rw [this]
      rfl
    · rw [if_neg (by omega), List.getElem?_eq_none (by simp; omega)]

end
end Go.Eng
end

section
/-
  The engine: contracts at arguments of which more is known; maps from which pairs are taken; small lemmas on lists.
-/
namespace Go.Eng
open Go.RowKit

/-! ### less known of a value -/
/-- Whatever b says of a value, a says. -/
def AVW (a b : AV) : Prop := ∀ (F : Nat → Prop) (w : World) (v : Value), Rep0 F w b v → Rep0 F w a v
theorem AVW.refl (a : AV) : AVW a a := fun _ _ _ h => h
theorem AVW.of_eq {a b : AV} (h : AVEq a b) : AVW a b := fun _ _ _ hr => h.rep0 hr
theorem AVW.u (b : AV) : AVW .u b := fun _ _ v _ => .u v
theorem AVW.nil (sz : Nat) (get : Nat → List AV) : AVW (.rs sz 0 get) (.val (.slice none 0 0)) := fun _ _ v h => by cases h; exact .rsnil _ _
def AVWs : List AV → List AV → Prop
  | [], [] => True
  | a :: r, b :: t => AVW a b ∧ AVWs r t
  | _, _ => False
theorem AVWs.get : ∀ {l m : List AV}, AVWs l m → l.length = m.length ∧ ∀ (j : Nat) (h1 : j < l.length) (h2 : j < m.length), AVW l[j] m[j]
  | [], [], _ => ⟨rfl, fun j h1 => by simp at h1⟩
  | [], _ :: _, h => h.elim
  | _ :: _, [], h => h.elim
  | a :: r, b :: t, h => by
    obtain ⟨h1, h2⟩ := h.2.get
    refine ⟨by simp [h1], fun j h3 h4 => ?_⟩
    cases j with
    | zero => exact h.1
    | succ j => exact h2 j (by simpa using h3) (by simpa using h4)
theorem AVWs.refl : ∀ l : List AV, AVWs l l
  | [] => trivial
  | a :: r => ⟨AVW.refl a, AVWs.refl r⟩
theorem AVW.rs {sz n : Nat} {g g' : Nat → List AV} (h : ∀ k, k < n → AVWs (g k) (g' k)) : AVW (.rs sz n g) (.rs sz n g') := by
  intro F w v hr
  cases hr with
  | rsnil => exact .rsnil _ _
  | rsz _ _ a => exact .rsz _ _ a
  | rs _ _ _ b off cap vs hn hm hF hg hlen hc h1 hh =>
    refine .rs sz n g b off cap vs hn hm hF hg (fun k hk => by rw [(h k hk).get.1]; exact hlen k hk) hc h1 fun k j hk hj => ?_
    have hg' := (h k hk).get
    exact hg'.2 j hj (by rw [← hg'.1]; exact hj) F w _ (hh k j hk (by rw [← hg'.1]; exact hj))
theorem AVW.ag {cs ds : List AV} (h : AVWs cs ds) : AVW (.ag cs) (.ag ds) := by
  intro F w v hr
  cases hr with
  | ag _ vs hl hh =>
    have hg := h.get
    exact .ag cs vs (by rw [hg.1]; exact hl) fun j h1 h2 => hg.2 j h1 (by rw [← hg.1]; exact h1) F w _ (hh j (by rw [← hg.1]; exact h1) h2)
/-! ### sizes -/
theorem fits {n sz : Nat} (h : n ≤ 1000000) (hs : sz ≤ 1000 := by decide) : n * sz ≤ 140737488355328 := Nat.le_trans (Nat.mul_le_mul h hs) (by decide)

/-! ### maps from which pairs are taken -/
section
variable {α γ : Type} [DecidableEq α]
theorem mset_new {L : List (α × γ)} {k : α} (h : mget L k = none) (v : γ) : mset L k v = L ++ [(k, v)] := by
  induction L with
  | nil => rfl
  | cons p r ih =>
    simp only [mget] at h
    by_cases he : p.1 = k
    · rw [if_pos he] at h; cases h
    · rw [if_neg he] at h
      simp only [mset, if_neg he, ih h]
      rfl
variable {kf : α → AV} {vf : γ → AV} {d : α × γ} {L : List (α × γ)} {born : Nat → Nat} {clock : Nat}
end

end Go.Eng
end

section
/-
  The engine: functions that change a row of numbers in place; results of which less is said.
-/
namespace Go.Eng
open Go.RowKit Go.Sort

theorem RetM.of {Y : Type} {spec : Y → Prop} {os : Y → List AO} {r : Y → AV} {av : AV} {O : List OE} {nid : Nat} (y : Y) (hy : spec y) (h : RetIs (os y) (r y) av O nid) : RetM false 0 spec (fun _ => []) os r av O nid := by
  obtain ⟨ρ, h1, h2, h3⟩ := h.is
  exact ⟨y, ρ, hy, h1, rfl, fun _ => ⟨h2, h3⟩⟩

section
variable {P : Program}
end
end Go.Eng
end
