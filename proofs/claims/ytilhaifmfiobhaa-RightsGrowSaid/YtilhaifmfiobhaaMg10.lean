/-
  Several texts in one: EngT, EngW, EngU.
-/
import Derived.Sort.Grow
import Derived.Test.YtilhaifmfiobhaaMg9

section
/-
  The engine: a library function that sorts a row of numbers in place.
-/
namespace Go.Eng
open Go.RowKit Go.Sort

section
variable {P : Program}

def SortsRow (P : Program) (f : FuncId) : Prop :=
  Callable P f ∧ (∀ (blk off cap : Nat) (ss : List Int) (W : World), Holds encZ W blk off ss.toArray → blk < W.heap.size → ss.length < 4611686018427387904 →
    Calls P f #[.slice (some ⟨blk, off, none⟩) ss.length cap] W fun e w' => e = .returned (.tuple #[]) ∧ ∃ k os, w' = grow (putRow encZ (Sort.ahead W k) blk off (ss.mergeSort fun x y => decide (x ≤ y)).toArray) os) ∧
    ∀ (p : Option Addr) (cap : Nat) (W : World), Calls P f #[.slice p 0 cap] W fun e w' => e = .returned (.tuple #[]) ∧ w' = W

theorem heap_grow_put {w : World} {g off k : Nat} {d : Array Int} {os : Array Obj} {cur : Array Value} {e : TypeId} (hh : w.heap[g]? = some (.cells cur e (0, 0))) :
    (grow (putRow encZ (Sort.ahead w k) g off d) os).heap[g]? = some (.cells (putCells encZ off d cur) e (0, 0)) ∧
    (∀ b, b < w.heap.size → b ≠ g → (grow (putRow encZ (Sort.ahead w k) g off d) os).heap[b]? = w.heap[b]?) ∧ w.heap.size ≤ (grow (putRow encZ (Sort.ahead w k) g off d) os).heap.size := by
  have hlt := (Array.getElem?_eq_some_iff.1 hh).1
  refine ⟨?_, fun b hb hne => ?_, ?_⟩
  · simp only [grow, putRow, mapBlock, Sort.ahead]
    rw [Array.getElem?_append_left (by simpa using hlt), Array.getElem?_modify, if_pos rfl, hh]
    rfl
  · simp only [grow, putRow, mapBlock, Sort.ahead]
    rw [Array.getElem?_append_left (by simpa using hb), Array.getElem?_modify, if_neg (Ne.symm hne)]
  · simp [grow, putRow, mapBlock, Sort.ahead]

theorem sortRow_ctr {f : FuncId} (h : SortsRow P f) {kt : TypeId} (ks : List Int) (get : Nat → List AV) (hget : ∀ i, i < ks.length → get i = [.i .i64 (ks.getD i 0)]) (hb : ks.length < 4611686018427387904) :
    CtrM P f false [.row kt 1 ks.length get] [.so 0] (fun _ : Unit => True) (fun _ => [.row kt 1 ks.length fun i => [.i .i64 ((sortI ks).getD i 0)]]) (fun _ => []) (fun _ => .tup []) := by
  refine ⟨h.1, fun F w β vs hOF hFl hFal hobj hdist hl hr => ?_⟩
  obtain ⟨v0, rfl⟩ : ∃ v0, vs = [v0] := by
    match vs, hl with
    | [v0], _ => exact ⟨v0, rfl⟩
  have hv0 := hr 0 (by simp) (by simp)
  simp only [List.getElem_cons_zero] at hv0
  obtain ⟨_, rfl⟩ := hv0.so_inv
  obtain ⟨xs, hx, hlen, hc⟩ := hobj 0 _ rfl
  have hsl := sortI_length ks
  -- what is to be shown, out of the new row
  have done : ∀ (w' : World), RowAt w' kt 1 (β.val 0) ks.length ((sortI ks).map encZ) → Frame (OwnOf β [.row kt 1 ks.length get]) w w' →
      Gives false F w [.row kt 1 ks.length get] β [.row kt 1 ks.length fun i => [.i .i64 ((sortI ks).getD i 0)]] [] (.tup []) (.tuple #[]) w' β := by
    intro w' hrow hfr
    refine ⟨fun _ _ => ⟨rfl, rfl⟩, hfr, rfl, ?_, ?_, ?_, .tup [] [] rfl fun j h1 => by simp at h1⟩
    · intro j o hj
      match j with
      | 0 =>
        simp at hj
        subst hj
        refine ⟨(sortI ks).map encZ, hrow, fun k _ => rfl, fun k i hk' h1 h2 => ?_⟩
        have hi : i = 0 := by simpa using h1
        subst hi
        have hk2 : k < (sortI ks).length := by rw [hsl]; exact hk'
        have e1 : ((sortI ks).map encZ)[k * 1 + 0] = .int .i64 ((sortI ks).getD k 0) := by
          simp [List.getD, hk2]
        rw [e1]
        exact ⟨.i _ _, rfl⟩
      | j + 1 => simp at hj
    · rintro g ⟨j, o, hj, hg⟩
      match j with
      | 0 =>
        simp at hj
        subst hj
        exact .inl ⟨0, _, rfl, hg⟩
      | j + 1 => simp at hj
    · intro j j' o o' g hj hj' _ _
      match j, j' with
      | 0, 0 => rfl
      | j + 1, _ => simp at hj
      | 0, j' + 1 => simp at hj'
  rcases hx.2 with ⟨hv, hn⟩ | ⟨ad, hv, hn⟩ | ⟨g, off, cap, cur, hv, hh, hnc, hcm, hcs, htake⟩
  · have hk0 : ks = [] := List.eq_nil_of_length_eq_zero hn
    rw [hv]
    refine (h.2.2 none 0 w).mono ?_
    rintro e w' ⟨rfl, rfl⟩
    refine ⟨_, β, (), rfl, trivial, done _ ?_ (Frame.refl _ _)⟩
    rw [hv]
    exact ⟨by simp [hsl], .inl ⟨rfl, hn⟩⟩
  · have hk0 : ks = [] := List.eq_nil_of_length_eq_zero hn
    rw [hv]
    refine (h.2.2 (some ad) 0 w).mono ?_
    rintro e w' ⟨rfl, rfl⟩
    refine ⟨_, β, (), rfl, trivial, done _ ?_ (Frame.refl _ _)⟩
    rw [hv]
    exact ⟨by simp [hsl], .inr (.inl ⟨ad, rfl, hn⟩)⟩
  · have hglt := (Array.getElem?_eq_some_iff.1 hh).1
    have hxl : xs.length = ks.length := by have := hx.1; omega
    have hxs : ∀ j, j < ks.length → xs[j]? = some (encZ (ks.getD j 0)) := by
      intro j hj
      have h2 : j * 1 + 0 < xs.length := by omega
      have := (hc j 0 hj (by rw [hget j hj]; simp) h2).1
      simp only [hget j hj, List.getElem_cons_zero] at this
      have e : xs[j * 1 + 0] = xs[j]'(by omega) := by congr 1; omega
      rw [e] at this
      rw [List.getElem?_eq_getElem (by omega)]
      generalize xs[j] = u at this ⊢
      cases this
      rfl
    have hcell : ∀ j, j < ks.length → cur[off + j]? = some (encZ (ks.getD j 0)) := by
      intro j hj
      have := hxs j hj
      rw [← htake, List.getElem?_take, if_pos (by omega), List.getElem?_drop] at this
      simpa using this
    have hH : Holds encZ w g off ks.toArray := by
      intro j hj
      have hj' : j < ks.length := by simpa using hj
      have e : ks.toArray[j]! = ks.getD j 0 := by simp [List.getD, hj', getElem!_pos]
      refine ⟨?_, ?_⟩
      · rw [cell_of_row w _ _ _ _ _ hh, e]
        exact hcell j hj'
      · simp [World.frozen?, hh]
    rw [hv]
    refine (h.2.1 g off (cap + 1) ks w hH hglt hb).mono ?_
    rintro e w' ⟨rfl, k, os, rfl⟩
    obtain ⟨h1, h2, h3⟩ := heap_grow_put (k := k) (os := os) (off := off) (d := (ks.mergeSort fun x y => decide (x ≤ y)).toArray) hh
    refine ⟨_, β, (), rfl, trivial, done _ ?_ ⟨rfl, rfl, rfl, h3, fun b hb' hn => h2 b hb' fun e => hn ⟨0, _, rfl, by rw [e]; simp [ownB, hv, blkOf]⟩⟩⟩
    rw [hv]
    refine ⟨by simp [hsl], .inr (.inr ⟨g, off, cap, _, rfl, h1, hnc, hcm, by simpa [putCells] using hcs, ?_⟩)⟩
    refine List.ext_getElem? fun j => ?_
    rw [List.getElem?_take]
    by_cases hj : j < ks.length
    · rw [if_pos (by omega), List.getElem?_drop, List.getElem?_map]
      have hsj : j < (sortI ks).length := by omega
      have hc2 := hcell j hj
      simp only [putCells, Array.toList_mapIdx, List.getElem?_mapIdx]
      have hc3 : cur.toList[off + j]? = some (encZ (ks.getD j 0)) := by simpa using hc2
      rw [hc3]
      have e1 : off + j - off = j := by omega
      simp only [Option.map_some, e1]
      rw [if_pos ⟨by omega, by simp; omega⟩, List.getElem?_eq_getElem hsj]
      have : (ks.mergeSort fun x y => decide (x ≤ y)).toArray[j]! = (sortI ks)[j] := by
        simp [sortI, getElem!_pos, hj]
      rw [this]
      rfl
    · rw [if_neg (by omega), List.getElem?_eq_none (by simp; omega)]

/-- A function that takes out what stands behind its like, in place. -/
def CompactsRow (P : Program) (f : FuncId) (cmp : List Int → List Int) : Prop :=
  Callable P f ∧ (∀ ks, (cmp ks).length ≤ ks.length) ∧ (∀ (blk off cap : Nat) (ss : List Int) (W : World), Holds encZ W blk off ss.toArray → ss.length ≤ 9223372036854775807 → ss.length ≤ cap → blk < W.heap.size →
    Calls P f #[.slice (some ⟨blk, off, none⟩) ss.length cap] W fun e w' => e = .returned (.slice (some ⟨blk, off, none⟩) (cmp ss).length cap) ∧
      ∃ k, w' = putRow encZ (Sort.ahead W k) blk off (cmp ss ++ List.replicate (ss.length - (cmp ss).length) 0).toArray) ∧
    ∀ (p : Option Addr) (cap : Nat) (W : World), Calls P f #[.slice p 0 cap] W fun e w' => e = .returned (.slice p 0 cap) ∧ w' = W

theorem compactRow_ctr {f : FuncId} {cmp : List Int → List Int} (h : CompactsRow P f cmp) {kt : TypeId} (ks : List Int) (get : Nat → List AV) (hget : ∀ i, i < ks.length → get i = [.i .i64 (ks.getD i 0)]) (hb : ks.length < 4611686018427387904) :
    CtrM P f false [.row kt 1 ks.length get] [.so 0] (fun _ : Unit => True) (fun _ => [.dead]) (fun _ => [.row kt 1 (cmp ks).length fun i => [.i .i64 ((cmp ks).getD i 0)]]) (fun _ => .so 1) := by
  refine ⟨h.1, fun F w β vs hOF hFl hFal hobj hdist hl hr => ?_⟩
  obtain ⟨v0, rfl⟩ : ∃ v0, vs = [v0] := by
    match vs, hl with
    | [v0], _ => exact ⟨v0, rfl⟩
  have hv0 := hr 0 (by simp) (by simp)
  simp only [List.getElem_cons_zero] at hv0
  obtain ⟨_, rfl⟩ := hv0.so_inv
  obtain ⟨xs, hx, hlen, hc⟩ := hobj 0 _ rfl
  have hsl := h.2.1 ks
  have done : ∀ (v : Value) (w' : World), RowAt w' kt 1 v (cmp ks).length ((cmp ks).map encZ) → Frame (OwnOf β [.row kt 1 ks.length get]) w w' → (∀ g, blkOf v = some g → OwnOf β [.row kt 1 ks.length get] g) →
      Gives false F w [.row kt 1 ks.length get] β [.dead] [.row kt 1 (cmp ks).length fun i => [.i .i64 ((cmp ks).getD i 0)]] (.so 1) v w' (β.valAt 1 v) := by
    intro v w' hrow hfr hown
    have hval : (β.valAt 1 v).val 1 = v := by simp [Bd.valAt]
    refine ⟨agree_valAt _ _ _, hfr, rfl, ?_, ?_, ?_, ?_⟩
    · intro j o hj
      match j with
      | 0 =>
        simp at hj
        subst hj
        trivial
      | 1 =>
        simp at hj
        subst hj
        refine ⟨(cmp ks).map encZ, by rw [hval]; exact hrow, fun k _ => rfl, fun k i hk' h1 h2 => ?_⟩
        have hi : i = 0 := by simpa using h1
        subst hi
        have e1 : ((cmp ks).map encZ)[k * 1 + 0] = .int .i64 ((cmp ks).getD k 0) := by
          simp [List.getD, hk']
        rw [e1]
        exact ⟨.i _ _, rfl⟩
      | j + 2 => simp at hj
    · rintro g ⟨j, o, hj, hg⟩
      match j with
      | 0 =>
        simp at hj
        subst hj
        cases hg
      | 1 =>
        simp at hj
        subst hj
        simp only [ownB, hval] at hg
        exact .inl (hown g hg)
      | j + 2 => simp at hj
    · intro j j' o o' g hj hj' hg hg'
      match j, j' with
      | 0, _ =>
        simp at hj
        subst hj
        cases hg
      | _, 0 =>
        simp at hj'
        subst hj'
        cases hg'
      | 1, 1 => rfl
      | j + 2, _ => simp at hj
      | _, j' + 2 => simp at hj'
    · have hp := Rep.so (β := β.valAt 1 v) (n := 2) (F := Fres false F w (β.valAt 1 v) ([.dead] ++ [.row kt 1 (cmp ks).length fun i => [.i .i64 ((cmp ks).getD i 0)]])) (w := w') 1 (by omega) (by rw [hval]; exact hrow.one)
      rw [hval] at hp
      exact hp
  rcases hx.2 with ⟨hv, hn⟩ | ⟨ad, hv, hn⟩ | ⟨g, off, cap, cur, hv, hh, hnc, hcm, hcs, htake⟩
  · have hk0 : (cmp ks).length = 0 := by omega
    rw [hv]
    refine (h.2.2.2 none 0 w).mono ?_
    rintro e w' ⟨rfl, rfl⟩
    exact ⟨_, _, (), rfl, trivial, done _ _ ⟨by simp [hk0], .inl ⟨rfl, hk0⟩⟩ (Frame.refl _ _) (fun g hg => by cases hg)⟩
  · have hk0 : (cmp ks).length = 0 := by omega
    rw [hv]
    refine (h.2.2.2 (some ad) 0 w).mono ?_
    rintro e w' ⟨rfl, rfl⟩
    exact ⟨_, _, (), rfl, trivial, done _ _ ⟨by simp [hk0], .inr (.inl ⟨ad, rfl, hk0⟩)⟩ (Frame.refl _ _) (fun g hg => by cases hg)⟩
  · have hglt := (Array.getElem?_eq_some_iff.1 hh).1
    have hxl : xs.length = ks.length := by have := hx.1; omega
    have hxs : ∀ j, j < ks.length → xs[j]? = some (encZ (ks.getD j 0)) := by
      intro j hj
      have h2 : j * 1 + 0 < xs.length := by omega
      have := (hc j 0 hj (by rw [hget j hj]; simp) h2).1
      simp only [hget j hj, List.getElem_cons_zero] at this
      have e : xs[j * 1 + 0] = xs[j]'(by omega) := by congr 1; omega
      rw [e] at this
      rw [List.getElem?_eq_getElem (by omega)]
      generalize xs[j] = u at this ⊢
      cases this
      rfl
    have hcell : ∀ j, j < ks.length → cur[off + j]? = some (encZ (ks.getD j 0)) := by
      intro j hj
      have := hxs j hj
      rw [← htake, List.getElem?_take, if_pos (by omega), List.getElem?_drop] at this
      simpa using this
    have hH : Holds encZ w g off ks.toArray := by
      intro j hj
      have hj' : j < ks.length := by simpa using hj
      have e : ks.toArray[j]! = ks.getD j 0 := by simp [List.getD, hj', getElem!_pos]
      refine ⟨?_, ?_⟩
      · rw [cell_of_row w _ _ _ _ _ hh, e]
        exact hcell j hj'
      · simp [World.frozen?, hh]
    rw [hv]
    refine (h.2.2.1 g off (cap + 1) ks w hH (by omega) (by omega) hglt).mono ?_
    rintro e w' ⟨rfl, k, rfl⟩
    obtain ⟨h1, h2, h3⟩ := heap_grow_put (k := k) (os := #[]) (off := off) (d := (cmp ks ++ List.replicate (ks.length - (cmp ks).length) 0).toArray) hh
    rw [grow_empty] at h1 h2 h3
    have hbk : ∀ b, some g = some b → OwnOf β [.row kt 1 ks.length get] b := fun b hb' => ⟨0, _, rfl, by rw [← hb']; simp [ownB, hv, blkOf]⟩
    refine ⟨_, _, (), rfl, trivial, done _ _ ?_ ⟨rfl, rfl, rfl, h3, fun b hb' hn => h2 b hb' fun e => hn (hbk b (by rw [e]))⟩ (fun b hb' => hbk b (by simpa [blkOf] using hb'))⟩
    refine ⟨by simp, .inr (.inr ⟨g, off, cap, _, rfl, h1, by omega, hcm, by simpa [putCells] using hcs, ?_⟩)⟩
    refine List.ext_getElem? fun j => ?_
    rw [List.getElem?_take]
    by_cases hj : j < (cmp ks).length
    · rw [if_pos (by omega), List.getElem?_drop, List.getElem?_map]
      have hc2 := hcell j (by omega)
      simp only [putCells, Array.toList_mapIdx, List.getElem?_mapIdx]
      have hc3 : cur.toList[off + j]? = some (encZ (ks.getD j 0)) := by simpa using hc2
      rw [hc3]
      have e1 : off + j - off = j := by omega
      simp only [Option.map_some, e1]
      rw [if_pos ⟨by omega, by simp; omega⟩, List.getElem?_eq_getElem hj]
      have : (cmp ks ++ List.replicate (ks.length - (cmp ks).length) 0).toArray[j]! = (cmp ks)[j] := by
        rw [getElem!_pos _ _ (by simp; omega)]
        simp [hj]
      rw [this]
      rfl
    · rw [if_neg (by omega), List.getElem?_eq_none (by simp; omega)]
end
end Go.Eng
end

section
/-
  The engine: contracts at arguments of which more is known; maps from which pairs are taken; small lemmas on lists.
-/
namespace Go.Eng
open Go.RowKit

/-! ### less known of a value -/
/-- Whatever b says of a value, a says. -/
def AVW (a b : AV) : Prop := ∀ (w : World) (v : Value), Rep0 (fun _ => False) w b v → Rep0 (fun _ => False) w a v
theorem AVW.refl (a : AV) : AVW a a := fun _ _ h => h
theorem AVW.of_eq {a b : AV} (h : AVEq a b) : AVW a b := fun _ _ hr => h.rep0 hr
theorem AVW.u (b : AV) : AVW .u b := fun _ v _ => .u v
theorem AVW.nil (sz : Nat) (get : Nat → List AV) : AVW (.rs sz 0 get) (.val (.slice none 0 0)) := fun _ v h => by cases h; exact .rsnil _ _
theorem AVW.nil2 (sz : Nat) (get get' : Nat → List AV) : AVW (.rs sz 0 get) (.rs sz 0 get') := fun _ v h => by
  have e : AVEq (.rs sz 0 get) (.rs sz 0 get') := ⟨rfl, rfl, fun k hk => by omega⟩
  exact e.rep0 h
def AVWs : List AV → List AV → Prop
  | [], [] => True
  | a :: r, b :: t => AVW a b ∧ AVWs r t
  | _, _ => False
theorem AVWs.get : ∀ {l m : List AV}, AVWs l m → l.length = m.length ∧ ∀ (j : Nat) (h1 : j < l.length) (h2 : j < m.length), AVW l[j] m[j]
  | [], [], _ => ⟨rfl, fun j h1 => by simp at h1⟩
  | [], _ :: _, h => h.elim
  | _ :: _, [], h => h.elim
  | a :: r, b :: t, h => by
    obtain ⟨h1, h2⟩ := h.2.get
    refine ⟨by simp [h1], fun j h3 h4 => ?_⟩
    cases j with
    | zero => exact h.1
    | succ j => exact h2 j (by simpa using h3) (by simpa using h4)
theorem AVWs.refl : ∀ l : List AV, AVWs l l
  | [] => trivial
  | a :: r => ⟨AVW.refl a, AVWs.refl r⟩
theorem AVW.rs {sz n : Nat} {g g' : Nat → List AV} (h : ∀ k, k < n → AVWs (g k) (g' k)) : AVW (.rs sz n g) (.rs sz n g') := by
  intro w v hr
  cases hr with
  | rsnil => exact .rsnil _ _
  | rsz _ _ a => exact .rsz _ _ a
  | rs _ _ _ b off cap vs hn hm hF hg hlen hc h1 hh =>
    refine .rs sz n g b off cap vs hn hm hF hg (fun k hk => by rw [(h k hk).get.1]; exact hlen k hk) hc h1 fun k j hk hj => ?_
    have hg' := (h k hk).get
    exact hg'.2 j hj (by rw [← hg'.1]; exact hj) w _ (hh k j hk (by rw [← hg'.1]; exact hj))
theorem AVW.rs' {sz n n' : Nat} {g g' : Nat → List AV} (hn : n' = n) (h : ∀ k, k < n → AVWs (g k) (g' k)) : AVW (.rs sz n g) (.rs sz n' g') := by
  subst hn
  exact AVW.rs h
theorem AVW.ag {cs ds : List AV} (h : AVWs cs ds) : AVW (.ag cs) (.ag ds) := by
  intro w v hr
  cases hr with
  | ag _ vs hl hh =>
    have hg := h.get
    exact .ag cs vs (by rw [hg.1]; exact hl) fun j h1 h2 => hg.2 j h1 (by rw [← hg.1]; exact h1) w _ (hh j (by rw [← hg.1]; exact h1) h2)
theorem Ctr.of_w {P : Program} {f : FuncId} {args args' : List AV} {os : List AO} {r : AV} (h : AVWs args args') (c : Ctr P f args os r) : Ctr P f args' os r :=
  ⟨c.1, fun w vs hl hr => c.2 w vs (h.get.1.trans hl) fun j h1 h2 => h.get.2 j h1 (by rw [← h.get.1]; exact h1) w _ (hr j (by rw [← h.get.1]; exact h1) h2)⟩

/-! ### sizes -/
theorem fits {n sz : Nat} (h : n ≤ 1000000) (hs : sz ≤ 1000 := by decide) : n * sz ≤ 140737488355328 := Nat.le_trans (Nat.mul_le_mul h hs) (by decide)

/-! ### maps from which pairs are taken -/
section
variable {α γ : Type} [DecidableEq α]
/-- A map of one's own with these pairs; when each came, is said beside. -/
def mpB (kf : α → AV) (vf : γ → AV) (d : α × γ) (L : List (α × γ)) (born : Nat → Nat) (clock : Nat) : AO := .mp L.length (fun i => kf (L.getD i d).1) (fun i => vf (L.getD i d).2) born clock
def mdel : List (α × γ) → α → List (α × γ)
  | [], _ => []
  | p :: r, k => if p.1 = k then r else p :: mdel r k
theorem mdel_at {L : List (α × γ)} {k : α} (h : (mget L k).isSome = true) (d : α × γ) : ∃ i, i < L.length ∧ (L.getD i d).1 = k ∧ L.length = (mdel L k).length + 1 ∧ ∀ j, j < (mdel L k).length → (mdel L k).getD j d = L.getD (if j < i then j else j + 1) d := by
  induction L with
  | nil => cases h
  | cons p r ih =>
    simp only [mget] at h
    simp only [mdel]
    by_cases he : p.1 = k
    · rw [if_pos he]
      exact ⟨0, by simp, by simpa using he, by simp, fun j hj => by simp⟩
    · rw [if_neg he] at h
      rw [if_neg he]
      obtain ⟨i, h1, h2, h3, h4⟩ := ih h
      refine ⟨i + 1, by simpa using h1, by simpa using h2, by simp [h3], fun j hj => ?_⟩
      cases j with
      | zero => simp
      | succ j =>
        have := h4 j (by simpa using hj)
        simp only [List.getD_cons_succ, Nat.add_lt_add_iff_right]
        rw [this]
        split
        · rw [List.getD_cons_succ]
        · rw [List.getD_cons_succ]
theorem mget_mem {L : List (α × γ)} {k : α} {v : γ} (h : mget L k = some v) : k ∈ mkeys L := mem_mkeys.2 (by rw [h]; rfl)
theorem mget_mdel {L : List (α × γ)} (hn : (mkeys L).Nodup) (k j : α) : mget (mdel L k) j = if j = k then none else mget L j := by
  induction L with
  | nil => simp [mdel, mget]
  | cons p r ih =>
    simp only [mkeys, List.map_cons, List.nodup_cons] at hn
    have ih := ih hn.2
    simp only [mdel]
    by_cases he : p.1 = k
    · rw [if_pos he]
      by_cases hj : j = k
      · rw [if_pos hj]
        have hnot : ¬ (mget r j).isSome = true := fun hs => hn.1 (by rw [he, ← hj]; exact mem_mkeys.2 hs)
        cases hm : mget r j with
        | none => rfl
        | some v => rw [hm] at hnot; exact (hnot rfl).elim
      · rw [if_neg hj]
        simp only [mget]
        rw [if_neg (by rw [he]; exact Ne.symm hj)]
    · rw [if_neg he]
      simp only [mget]
      by_cases hj : p.1 = j
      · rw [if_pos hj, if_pos hj, if_neg (by rw [← hj]; exact he)]
      · rw [if_neg hj, if_neg hj, ih]
theorem nodup_mdel {L : List (α × γ)} (h : (mkeys L).Nodup) (k : α) : (mkeys (mdel L k)).Nodup := by
  induction L with
  | nil => simp [mdel, mkeys]
  | cons p r ih =>
    simp only [mkeys, List.map_cons, List.nodup_cons] at h
    simp only [mdel]
    by_cases he : p.1 = k
    · rw [if_pos he]; exact h.2
    · rw [if_neg he]
      simp only [mkeys, List.map_cons, List.nodup_cons]
      refine ⟨fun hm => h.1 ?_, ih h.2⟩
      have h1 : p.1 ∈ mkeys (mdel r k) := hm
      rw [mem_mkeys, mget_mdel h.2, if_neg he] at h1
      exact mem_mkeys.2 h1
theorem mset_new {L : List (α × γ)} {k : α} (h : mget L k = none) (v : γ) : mset L k v = L ++ [(k, v)] := by
  induction L with
  | nil => rfl
  | cons p r ih =>
    simp only [mget] at h
    by_cases he : p.1 = k
    · rw [if_pos he] at h; cases h
    · rw [if_neg he] at h
      simp only [mset, if_neg he, ih h]
      rfl
variable {kf : α → AV} {vf : γ → AV} {d : α × γ} {L : List (α × γ)} {born : Nat → Nat} {clock : Nat}
theorem updOk_new (hk : ∀ a b, kf a = kf b → a = b) {k : α} (h : mget L k = none) (v : γ) :
    UpdOk L.length (fun i => kf (L.getD i d).1) (fun i => vf (L.getD i d).2) born clock (kf k) (vf v) (mset L k v).length (fun i => kf ((mset L k v).getD i d).1) (fun i => vf ((mset L k v).getD i d).2)
      (fun j => if j < L.length then born j else clock) (clock + 1) := by
  rw [mset_new h]
  refine .inr ⟨fun i hi he => mget_none h d i hi (hk _ _ he), by simp, rfl, fun j hj => ?_, ?_, ?_, ?_⟩
  · simp only [getD_snoc, if_pos hj]
    exact ⟨trivial, trivial, trivial⟩
  · simp []
  · simp []
  · simp
theorem delOk_mdel {k : α} (h : (mget L k).isSome = true) : ∃ born', DelOk L.length (fun i => kf (L.getD i d).1) (fun i => vf (L.getD i d).2) born (kf k) (mdel L k).length (fun i => kf ((mdel L k).getD i d).1) (fun i => vf ((mdel L k).getD i d).2) born' := by
  obtain ⟨i, h1, h2, h3, h4⟩ := mdel_at h d
  refine ⟨fun j => born (if j < i then j else j + 1), .inl ⟨i, h1, congrArg kf h2, h3, fun j hj => ?_⟩⟩
  have := h4 j hj
  exact ⟨congrArg (fun p => kf p.1) this, rfl, congrArg (fun p => vf p.2) this⟩
end

/-! ### lists -/
theorem any_takeD {α : Type} (d : α) (l : List α) (p : α → Bool) (k : Nat) (h : k < l.length) : (l.take (k + 1)).any p = ((l.take k).any p || p (l.getD k d)) := by
  rw [List.take_succ_eq_append_getElem h, List.any_append]
  simp [List.getD, h]
theorem any_atD {α : Type} (d : α) (l : List α) (p : α → Bool) (k : Nat) (h : k < l.length) (hp : p (l.getD k d) = true) : l.any p = true := by
  rw [List.any_eq_true]
  exact ⟨l.getD k d, by simp [List.getD, h], hp⟩
theorem getD_memD {α : Type} (d : α) {l : List α} {k : Nat} (h : k < l.length) : l.getD k d ∈ l := by
  simp [List.getD, h]
theorem take_getD {α : Type} (d : α) (l : List α) (m k : Nat) (h : k < m) : (l.take m).getD k d = l.getD k d := by
  simp only [List.getD]
  rw [List.getElem?_take, if_pos h]
theorem getD_append_lt {α : Type} (d : α) (l m : List α) (k : Nat) (h : k < l.length) : (l ++ m).getD k d = l.getD k d := by
  simp only [List.getD]
  rw [List.getElem?_append_left h]
theorem getD_append_ge {α : Type} (d : α) (l m : List α) (k : Nat) (h : l.length ≤ k) : (l ++ m).getD k d = m.getD (k - l.length) d := by
  simp only [List.getD]
  rw [List.getElem?_append_right h]
theorem getD_setD {α : Type} (d : α) (l : List α) (k : Nat) (v : α) (hk : k < l.length) (j : Nat) : (l.set k v).getD j d = if j = k then v else l.getD j d := by
  by_cases h : j = k
  · subst h; simp [List.getD, hk]
  · rw [if_neg h]; simp [List.getD, Ne.symm h]
theorem getD_mapD {α β : Type} (d : α) (e : β) (f : α → β) (l : List α) (k : Nat) (h : k < l.length) : (l.map f).getD k e = f (l.getD k d) := by
  simp [List.getD, h]
theorem asc_at {l : List Int} (h : l.Pairwise (· < ·)) {i j : Nat} (hij : i < j) (hj : j < l.length) : l.getD i 0 < l.getD j 0 := by
  have := List.pairwise_iff_getElem.1 h i j (by omega) hj hij
  simpa [List.getD, hj, show i < l.length by omega] using this
/-- A row of anything, with one thing more. -/
theorem snocG {α : Type} (av : α → List AV) (d : α) (l : List α) (v : α) : ∀ k, k < (l ++ [v]).length → catG l.length (fun q => av (l.getD q d)) (fun _ => av v) k = av ((l ++ [v]).getD k d) := by
  intro k hk
  unfold catG
  by_cases h : k < l.length
  · rw [if_pos h]
    dsimp only
    rw [getD_append_lt d l _ k h]
  · rw [if_neg h]
    have : k = l.length := by simp at hk; omega
    subst this
    rw [getD_append_ge d l _ _ (Nat.le_refl _)]
    simp
end Go.Eng
end

section
/-
  The engine: functions that change a row of numbers in place; results of which less is said.
-/
namespace Go.Eng
open Go.RowKit Go.Sort

theorem RetM.of {Y : Type} {spec : Y → Prop} {os : Y → List AO} {r : Y → AV} {av : AV} {O : List OE} {nid : Nat} (y : Y) (hy : spec y) (h : RetIs (os y) (r y) av O nid) : RetM false 0 spec (fun _ => []) os r av O nid := by
  obtain ⟨ρ, h1, h2, h3⟩ := h.is
  exact ⟨y, ρ, hy, h1, rfl, fun _ => ⟨h2, h3⟩⟩

section
variable {P : Program}
/-- Of the result only the truth value behind the row is kept. -/
theorem CtrM.forget {f : FuncId} {args : List AV} {Y : Type} {spec : Y → Prop} {os : Y → List AO} {c : Y → Bool} {c0 : Bool} (hc : ∀ y, spec y → c y = c0)
    (h : CtrM P f false [] args spec (fun _ => []) os (fun y => .tup [.so 0, .b (c y)])) : Ctr P f args [] (.tup [.u, .b c0]) := by
  refine ⟨h.1, fun w vs hl hr => ?_⟩
  refine (h.2 (fun _ => False) w ⟨fun _ => 0, fun _ => undef⟩ vs (fun g ⟨j, o, hj, _⟩ => by simp at hj) (fun _ h => h.elim) (fun _ _ h => h.elim) (fun j o hj => by simp at hj) (fun j j' o o' g hj => by simp at hj) hl
    (fun j h1 h2 => .pure _ _ (hr j h1 h2))).mono ?_
  rintro e w' ⟨v, β, y, rfl, hy, g⟩
  refine ⟨v, β, rfl, g.fr.below (fun k ⟨j, o, hj, _⟩ => by simp at hj), ⟨fun j o hj => by simp at hj, fun j o b hj => by simp at hj, fun j j' o o' b hj => by simp at hj⟩, ?_⟩
  obtain ⟨us, rfl, hul, hu⟩ := g.res.tup_inv
  have hul : 2 = us.length := hul
  refine .tup _ us hul fun j h1 h2 => ?_
  match j, h1 with
  | 0, _ => exact .pure _ _ (.u _)
  | 1, _ =>
    have h3 := hu 1 (by simp) h2
    simp only [List.getElem_cons_succ, List.getElem_cons_zero] at h3 ⊢
    rw [hc y hy] at h3
    rw [h3.b_inv]
    exact .pure _ _ (.b _)

def PlacesRow (P : Program) (f : FuncId) (g' : List Int → List Int) : Prop :=
  Callable P f ∧ (∀ ks, (g' ks).length = ks.length) ∧ (∀ (blk off cap : Nat) (ss : List Int) (W : World), Holds encZ W blk off ss.toArray → blk < W.heap.size → ss.length < 4611686018427387904 →
    Calls P f #[.slice (some ⟨blk, off, none⟩) ss.length cap] W fun e w' => e = .returned (.tuple #[]) ∧ ∃ k os, w' = grow (putRow encZ (Sort.ahead W k) blk off (g' ss).toArray) os) ∧
    ∀ (p : Option Addr) (cap : Nat) (W : World), Calls P f #[.slice p 0 cap] W fun e w' => e = .returned (.tuple #[]) ∧ w' = W

theorem placesRow_ctr {f : FuncId} {g' : List Int → List Int} (h : PlacesRow P f g') {kt : TypeId} (ks : List Int) (get : Nat → List AV) (hget : ∀ i, i < ks.length → get i = [.i .i64 (ks.getD i 0)]) (hb : ks.length < 4611686018427387904) :
    CtrM P f false [.row kt 1 ks.length get] [.so 0] (fun _ : Unit => True) (fun _ => [.row kt 1 ks.length fun i => [.i .i64 ((g' ks).getD i 0)]]) (fun _ => []) (fun _ => .tup []) := by
  refine ⟨h.1, fun F w β vs hOF hFl hFal hobj hdist hl hr => ?_⟩
  obtain ⟨v0, rfl⟩ : ∃ v0, vs = [v0] := by
    match vs, hl with
    | [v0], _ => exact ⟨v0, rfl⟩
  have hv0 := hr 0 (by simp) (by simp)
  simp only [List.getElem_cons_zero] at hv0
  obtain ⟨_, rfl⟩ := hv0.so_inv
  obtain ⟨xs, hx, hlen, hc⟩ := hobj 0 _ rfl
  have hsl := h.2.1 ks
  -- what is to be shown, out of the new row
  have done : ∀ (w' : World), RowAt w' kt 1 (β.val 0) ks.length ((g' ks).map encZ) → Frame (OwnOf β [.row kt 1 ks.length get]) w w' →
      Gives false F w [.row kt 1 ks.length get] β [.row kt 1 ks.length fun i => [.i .i64 ((g' ks).getD i 0)]] [] (.tup []) (.tuple #[]) w' β := by
    intro w' hrow hfr
    refine ⟨fun _ _ => ⟨rfl, rfl⟩, hfr, rfl, ?_, ?_, ?_, .tup [] [] rfl fun j h1 => by simp at h1⟩
    · intro j o hj
      match j with
      | 0 =>
        simp at hj
        subst hj
        refine ⟨(g' ks).map encZ, hrow, fun k _ => rfl, fun k i hk' h1 h2 => ?_⟩
        have hi : i = 0 := by simpa using h1
        subst hi
        have hk2 : k < (g' ks).length := by rw [hsl]; exact hk'
        have e1 : ((g' ks).map encZ)[k * 1 + 0] = .int .i64 ((g' ks).getD k 0) := by
          simp [List.getD, hk2]
        rw [e1]
        exact ⟨.i _ _, rfl⟩
      | j + 1 => simp at hj
    · rintro g ⟨j, o, hj, hg⟩
      match j with
      | 0 =>
        simp at hj
        subst hj
        exact .inl ⟨0, _, rfl, hg⟩
      | j + 1 => simp at hj
    · intro j j' o o' g hj hj' _ _
      match j, j' with
      | 0, 0 => rfl
      | j + 1, _ => simp at hj
      | 0, j' + 1 => simp at hj'
  rcases hx.2 with ⟨hv, hn⟩ | ⟨ad, hv, hn⟩ | ⟨g, off, cap, cur, hv, hh, hnc, hcm, hcs, htake⟩
  · have hk0 : ks = [] := List.eq_nil_of_length_eq_zero hn
    rw [hv]
    refine (h.2.2.2 none 0 w).mono ?_
    rintro e w' ⟨rfl, rfl⟩
    refine ⟨_, β, (), rfl, trivial, done _ ?_ (Frame.refl _ _)⟩
    rw [hv]
    exact ⟨(by simp [hsl]), .inl ⟨rfl, hn⟩⟩
  · have hk0 : ks = [] := List.eq_nil_of_length_eq_zero hn
    rw [hv]
    refine (h.2.2.2 (some ad) 0 w).mono ?_
    rintro e w' ⟨rfl, rfl⟩
    refine ⟨_, β, (), rfl, trivial, done _ ?_ (Frame.refl _ _)⟩
    rw [hv]
    exact ⟨(by simp [hsl]), .inr (.inl ⟨ad, rfl, hn⟩)⟩
  · have hglt := (Array.getElem?_eq_some_iff.1 hh).1
    have hxl : xs.length = ks.length := by have := hx.1; omega
    have hxs : ∀ j, j < ks.length → xs[j]? = some (encZ (ks.getD j 0)) := by
      intro j hj
      have h2 : j * 1 + 0 < xs.length := by omega
      have := (hc j 0 hj (by rw [hget j hj]; simp) h2).1
      simp only [hget j hj, List.getElem_cons_zero] at this
      have e : xs[j * 1 + 0] = xs[j]'(by omega) := by congr 1; omega
      rw [e] at this
      rw [List.getElem?_eq_getElem (by omega)]
      generalize xs[j] = u at this ⊢
      cases this
      rfl
    have hcell : ∀ j, j < ks.length → cur[off + j]? = some (encZ (ks.getD j 0)) := by
      intro j hj
      have := hxs j hj
      rw [← htake, List.getElem?_take, if_pos (by omega), List.getElem?_drop] at this
      simpa using this
    have hH : Holds encZ w g off ks.toArray := by
      intro j hj
      have hj' : j < ks.length := by simpa using hj
      have e : ks.toArray[j]! = ks.getD j 0 := by simp [List.getD, hj', getElem!_pos]
      refine ⟨?_, ?_⟩
      · rw [cell_of_row w _ _ _ _ _ hh, e]
        exact hcell j hj'
      · simp [World.frozen?, hh]
    rw [hv]
    refine (h.2.2.1 g off (cap + 1) ks w hH hglt hb).mono ?_
    rintro e w' ⟨rfl, k, os, rfl⟩
    obtain ⟨h1, h2, h3⟩ := heap_grow_put (k := k) (os := os) (off := off) (d := (g' ks).toArray) hh
    refine ⟨_, β, (), rfl, trivial, done _ ?_ ⟨rfl, rfl, rfl, h3, fun b hb' hn => h2 b hb' fun e => hn ⟨0, _, rfl, by rw [e]; simp [ownB, hv, blkOf]⟩⟩⟩
    rw [hv]
    refine ⟨(by simp [hsl]), .inr (.inr ⟨g, off, cap, _, rfl, h1, hnc, hcm, by simpa [putCells] using hcs, ?_⟩)⟩
    refine List.ext_getElem? fun j => ?_
    rw [List.getElem?_take]
    by_cases hj : j < ks.length
    · rw [if_pos (by omega), List.getElem?_drop, List.getElem?_map]
      have hsj : j < (g' ks).length := by omega
      have hc2 := hcell j hj
      simp only [putCells, Array.toList_mapIdx, List.getElem?_mapIdx]
      have hc3 : cur.toList[off + j]? = some (encZ (ks.getD j 0)) := by simpa using hc2
      rw [hc3]
      have e1 : off + j - off = j := by omega
      simp only [Option.map_some, e1]
      rw [if_pos ⟨by omega, by simp; omega⟩, List.getElem?_eq_getElem hsj]
      have : (g' ks).toArray[j]! = (g' ks)[j] := by
        rw [getElem!_pos _ _ (by simpa using hsj)]; simp
      rw [this]
      rfl
    · rw [if_neg (by omega), List.getElem?_eq_none (by simp; omega)]

end
end Go.Eng
end
