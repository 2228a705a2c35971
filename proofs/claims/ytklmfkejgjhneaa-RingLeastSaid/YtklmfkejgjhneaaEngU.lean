/-
  The engine: functions that change a row of numbers in place; results of which less is said.
-/
import Derived.Test.YtklmfkejgjhneaaEngT
import Derived.Test.YtklmfkejgjhneaaEngW
namespace Go.Eng
open Go.RowKit Go.Sort

theorem RetM.of {Y : Type} {spec : Y → Prop} {os : Y → List AO} {r : Y → AV} {av : AV} {O : List OE} {nid : Nat} (y : Y) (hy : spec y) (h : RetIs (os y) (r y) av O nid) : RetM false 0 spec (fun _ => []) os r av O nid := by
  obtain ⟨ρ, h1, h2, h3⟩ := h.is
  exact ⟨y, ρ, hy, h1, rfl, fun _ => ⟨h2, h3⟩⟩

section
variable {P : Program}
/-- Of the result only the truth value behind the row is kept. -/
theorem CtrM.forget {f : FuncId} {args : List AV} {Y : Type} {spec : Y → Prop} {os : Y → List AO} {c : Y → Bool} {c0 : Bool} (hc : ∀ y, spec y → c y = c0)
    (h : CtrM P f false [] args spec (fun _ => []) os (fun y => .tup [.so 0, .b (c y)])) : Ctr P f args [] (.tup [.u, .b c0]) := by
  refine ⟨h.1, fun w vs hl hr => ?_⟩
  refine (h.2 (fun _ => False) w ⟨fun _ => 0, fun _ => undef⟩ vs (fun g ⟨j, o, hj, _⟩ => by simp at hj) (fun _ h => h.elim) (fun _ _ h => h.elim) (fun j o hj => by simp at hj) (fun j j' o o' g hj => by simp at hj) hl
    (fun j h1 h2 => .pure _ _ (hr j h1 h2))).mono ?_
  rintro e w' ⟨v, β, y, rfl, hy, g⟩
  refine ⟨v, β, rfl, g.fr.below (fun k ⟨j, o, hj, _⟩ => by simp at hj), ⟨fun j o hj => by simp at hj, fun j o b hj => by simp at hj, fun j j' o o' b hj => by simp at hj⟩, ?_⟩
  obtain ⟨us, rfl, hul, hu⟩ := g.res.tup_inv
  have hul : 2 = us.length := hul
  refine .tup _ us hul fun j h1 h2 => ?_
  match j, h1 with
  | 0, _ => exact .pure _ _ (.u _)
  | 1, _ =>
    have h3 := hu 1 (by simp) h2
    simp only [List.getElem_cons_succ, List.getElem_cons_zero] at h3 ⊢
    rw [hc y hy] at h3
    rw [h3.b_inv]
    exact .pure _ _ (.b _)

def PlacesRow (P : Program) (f : FuncId) (g' : List Int → List Int) : Prop :=
  Callable P f ∧ (∀ ks, (g' ks).length = ks.length) ∧ (∀ (blk off cap : Nat) (ss : List Int) (W : World), Holds encZ W blk off ss.toArray → blk < W.heap.size → ss.length < 4611686018427387904 →
    Calls P f #[.slice (some ⟨blk, off, none⟩) ss.length cap] W fun e w' => e = .returned (.tuple #[]) ∧ ∃ k os, w' = grow (putRow encZ (Sort.ahead W k) blk off (g' ss).toArray) os) ∧
    ∀ (p : Option Addr) (cap : Nat) (W : World), Calls P f #[.slice p 0 cap] W fun e w' => e = .returned (.tuple #[]) ∧ w' = W

theorem placesRow_ctr {f : FuncId} {g' : List Int → List Int} (h : PlacesRow P f g') {kt : TypeId} (ks : List Int) (get : Nat → List AV) (hget : ∀ i, i < ks.length → get i = [.i .i64 (ks.getD i 0)]) (hb : ks.length < 4611686018427387904) :
    CtrM P f false [.row kt 1 ks.length get] [.so 0] (fun _ : Unit => True) (fun _ => [.row kt 1 ks.length fun i => [.i .i64 ((g' ks).getD i 0)]]) (fun _ => []) (fun _ => .tup []) := by
  refine ⟨h.1, fun F w β vs hOF hFl hFal hobj hdist hl hr => ?_⟩
  obtain ⟨v0, rfl⟩ : ∃ v0, vs = [v0] := by
    match vs, hl with
    | [v0], _ => exact ⟨v0, rfl⟩
  have hv0 := hr 0 (by simp) (by simp)
  simp only [List.getElem_cons_zero] at hv0
  obtain ⟨_, rfl⟩ := hv0.so_inv
  obtain ⟨xs, hx, hlen, hc⟩ := hobj 0 _ rfl
  have hsl := h.2.1 ks
  -- what is to be shown, out of the new row
  have done : ∀ (w' : World), RowAt w' kt 1 (β.val 0) ks.length ((g' ks).map encZ) → Frame (OwnOf β [.row kt 1 ks.length get]) w w' →
      Gives false F w [.row kt 1 ks.length get] β [.row kt 1 ks.length fun i => [.i .i64 ((g' ks).getD i 0)]] [] (.tup []) (.tuple #[]) w' β := by
    intro w' hrow hfr
    refine ⟨fun _ _ => ⟨rfl, rfl⟩, hfr, rfl, ?_, ?_, ?_, .tup [] [] rfl fun j h1 => by simp at h1⟩
    · intro j o hj
      match j with
      | 0 =>
        simp at hj
        subst hj
        refine ⟨(g' ks).map encZ, hrow, fun k _ => rfl, fun k i hk' h1 h2 => ?_⟩
        have hi : i = 0 := by simpa using h1
        subst hi
        have hk2 : k < (g' ks).length := by rw [hsl]; exact hk'
        have e1 : ((g' ks).map encZ)[k * 1 + 0] = .int .i64 ((g' ks).getD k 0) := by
          simp [List.getD, hk2]
        rw [e1]
        exact ⟨.i _ _, rfl⟩
      | j + 1 => simp at hj
    · rintro g ⟨j, o, hj, hg⟩
      match j with
      | 0 =>
        simp at hj
        subst hj
        exact .inl ⟨0, _, rfl, hg⟩
      | j + 1 => simp at hj
    · intro j j' o o' g hj hj' _ _
      match j, j' with
      | 0, 0 => rfl
      | j + 1, _ => simp at hj
      | 0, j' + 1 => simp at hj'
  rcases hx.2 with ⟨hv, hn⟩ | ⟨ad, hv, hn⟩ | ⟨g, off, cap, cur, hv, hh, hnc, hcm, hcs, htake⟩
  · have hk0 : ks = [] := List.eq_nil_of_length_eq_zero hn
    rw [hv]
    refine (h.2.2.2 none 0 w).mono ?_
    rintro e w' ⟨rfl, rfl⟩
    refine ⟨_, β, (), rfl, trivial, done _ ?_ (Frame.refl _ _)⟩
    rw [hv]
    exact ⟨(by simp [hsl]), .inl ⟨rfl, hn⟩⟩
  · have hk0 : ks = [] := List.eq_nil_of_length_eq_zero hn
    rw [hv]
    refine (h.2.2.2 (some ad) 0 w).mono ?_
    rintro e w' ⟨rfl, rfl⟩
    refine ⟨_, β, (), rfl, trivial, done _ ?_ (Frame.refl _ _)⟩
    rw [hv]
    exact ⟨(by simp [hsl]), .inr (.inl ⟨ad, rfl, hn⟩)⟩
  · have hglt := (Array.getElem?_eq_some_iff.1 hh).1
    have hxl : xs.length = ks.length := by have := hx.1; omega
    have hxs : ∀ j, j < ks.length → xs[j]? = some (encZ (ks.getD j 0)) := by
      intro j hj
      have h2 : j * 1 + 0 < xs.length := by omega
      have := (hc j 0 hj (by rw [hget j hj]; simp) h2).1
      simp only [hget j hj, List.getElem_cons_zero] at this
      have e : xs[j * 1 + 0] = xs[j]'(by omega) := by congr 1; omega
      rw [e] at this
      rw [List.getElem?_eq_getElem (by omega)]
      generalize xs[j] = u at this ⊢
      cases this
      rfl
    have hcell : ∀ j, j < ks.length → cur[off + j]? = some (encZ (ks.getD j 0)) := by
      intro j hj
      have := hxs j hj
      rw [← htake, List.getElem?_take, if_pos (by omega), List.getElem?_drop] at this
      simpa using this
    have hH : Holds encZ w g off ks.toArray := by
      intro j hj
      have hj' : j < ks.length := by simpa using hj
      have e : ks.toArray[j]! = ks.getD j 0 := by simp [List.getD, hj', getElem!_pos]
      refine ⟨?_, ?_⟩
      · rw [cell_of_row w _ _ _ _ _ hh, e]
        exact hcell j hj'
      · simp [World.frozen?, hh]
    rw [hv]
    refine (h.2.2.1 g off (cap + 1) ks w hH hglt hb).mono ?_
    rintro e w' ⟨rfl, k, os, rfl⟩
    obtain ⟨h1, h2, h3⟩ := heap_grow_put (k := k) (os := os) (off := off) (d := (g' ks).toArray) hh
    refine ⟨_, β, (), rfl, trivial, done _ ?_ ⟨rfl, rfl, rfl, h3, fun b hb' hn => h2 b hb' fun e => hn ⟨0, _, rfl, by rw [e]; simp [ownB, hv, blkOf]⟩⟩⟩
    rw [hv]
    refine ⟨(by simp [hsl]), .inr (.inr ⟨g, off, cap, _, rfl, h1, hnc, hcm, by simpa [putCells] using hcs, ?_⟩)⟩
    refine List.ext_getElem? fun j => ?_
    rw [List.getElem?_take]
    by_cases hj : j < ks.length
    · rw [if_pos (by omega), List.getElem?_drop, List.getElem?_map]
      have hsj : j < (g' ks).length := by omega
      have hc2 := hcell j hj
      simp only [putCells, Array.toList_mapIdx, List.getElem?_mapIdx]
      have hc3 : cur.toList[off + j]? = some (encZ (ks.getD j 0)) := by simpa using hc2
      rw [hc3]
      have e1 : off + j - off = j := by omega
      simp only [Option.map_some, e1]
      rw [if_pos ⟨by omega, by simp; omega⟩, List.getElem?_eq_getElem hsj]
      have : (g' ks).toArray[j]! = (g' ks)[j] := by
        rw [getElem!_pos _ _ (by simpa using hsj)]; simp
      rw [this]
      rfl
    · rw [if_neg (by omega), List.getElem?_eq_none (by simp; omega)]

end
end Go.Eng
