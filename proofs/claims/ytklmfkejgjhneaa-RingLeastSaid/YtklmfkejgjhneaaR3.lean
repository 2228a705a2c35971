/-
  Bridges: the shortest path.
-/
import Derived.Shelf.Slices.Reverse
import Derived.Test.YtklmfkejgjhneaaR2
namespace Go.Proofs.Ytklmfkejgjhneaa
open Go.Eng

theorem sortI_ltR {l : List Int} (h : l.Nodup) : (sortI l).Pairwise (· < ·) := by
  have h1 := List.pairwise_mergeSort (le := fun x y : Int => decide (x ≤ y)) (fun a b c h1 h2 => by simp at *; omega) (fun a b => by simp; omega) l
  have h2 : (sortI l).Pairwise (· ≤ ·) := h1.imp fun h => by simpa using h
  have h3 : (sortI l).Nodup := (List.mergeSort_perm l _).nodup_iff.2 h
  exact (h2.and h3).imp fun h => by
    have := h.1
    have := h.2
    omega
theorem sortI_memR {l : List Int} {x : Int} : x ∈ sortI l ↔ x ∈ l := List.mem_mergeSort
theorem ascExtR {a b : List Int} (ha : a.Pairwise (· < ·)) (hb : b.Pairwise (· < ·)) (h : ∀ k, k ∈ a ↔ k ∈ b) : a = b := by
  have hp : a.Perm b := (List.perm_ext_iff_of_nodup (ha.imp fun hab => by omega) (hb.imp fun hab => by omega)).2 h
  rw [← sortI_asc ha, ← sortI_asc hb]
  exact Go.mergeSort_of_perm_i hp
theorem asc_ge {l : List Int} (h : l.Pairwise (· < ·)) (h0 : ∀ x ∈ l, 0 ≤ x) : ∀ k, k < l.length → (k : Int) ≤ l.getD k 0
  | 0, hk => h0 _ (getD_memD 0 hk)
  | k + 1, hk => by
    have h1 := asc_ge h h0 k (by omega)
    have h2 := asc_at h (show k < k + 1 by omega) hk
    omega
theorem nodup_len {l : List Int} {m : Nat} (h : l.Nodup) (hr : ∀ x ∈ l, 0 ≤ x ∧ x < m) : l.length ≤ m := by
  have hs := sortI_ltR h
  have hl := sortI_length l
  by_cases h0 : l.length = 0
  · omega
  · have h1 := asc_ge hs (fun x hx => (hr x (sortI_memR.1 hx)).1) (l.length - 1) (by omega)
    have h2 := (hr _ (sortI_memR.1 (getD_memD 0 (show l.length - 1 < (sortI l).length by omega)))).2
    omega

/-- Bridges that lead, one behind the other, from a to b. -/
def pth (B : List Bri) : Int → List Int → Int → Prop
  | a, [], b => a = b
  | a, i :: r, b => (br B i).fr = a ∧ pth B (br B i).to r b
def frs (B : List Bri) (l : List Int) : List Int := l.map fun i => (br B i).fr
/-- What the shortest path's function returns. -/
structure PathS (B : List Bri) (o : List Int) (a b : Int) (y : List Int × Bool) : Prop where
  ok : y.2 = reachB B o a b
  is : y.2 = true → pth B a y.1 b ∧ (∀ i ∈ y.1, i ∈ o) ∧ (frs B y.1).Nodup ∧ b ∉ frs B y.1 ∧ y.1.length ≤ 12

abbrev LI := List (Int × Int)
def nodeL (L : LI) (j : Nat) : Int := (L.getD j (0, 0)).1
def edgeL (L : LI) (j : Nat) : Int := (L.getD j (0, 0)).2
theorem keys_getD (L : LI) (j : Nat) (h : j < L.length) : (mkeys L).getD j 0 = nodeL L j := by
  unfold mkeys nodeL
  exact getD_mapD (0, 0) 0 _ L j h
theorem keys_len (L : LI) : (mkeys L).length = L.length := by simp [mkeys]
theorem node_mem {L : LI} {j : Nat} (h : j < L.length) : nodeL L j ∈ mkeys L := by
  rw [← keys_getD L j h]
  exact getD_memD 0 (by rw [keys_len]; exact h)
theorem node_inj {L : LI} (hn : (mkeys L).Nodup) {i j : Nat} (hi : i < L.length) (hj : j < L.length) (h : nodeL L i = nodeL L j) : i = j := by
  rw [← keys_getD L i hi, ← keys_getD L j hj] at h
  have hi' : i < (mkeys L).length := by rw [keys_len]; exact hi
  have hj' : j < (mkeys L).length := by rw [keys_len]; exact hj
  simp only [List.getD, List.getElem?_eq_getElem hi', List.getElem?_eq_getElem hj', Option.getD_some] at h
  exact (List.getElem_inj hn).1 h
theorem mem_node {L : LI} {v : Int} (h : v ∈ mkeys L) : ∃ j, j < L.length ∧ nodeL L j = v := by
  obtain ⟨j, hj, rfl⟩ := List.getElem_of_mem h
  rw [keys_len] at hj
  refine ⟨j, hj, ?_⟩
  rw [← keys_getD L j hj]
  simp [List.getD, keys_len, hj]
theorem mget_at {L : LI} (hn : (mkeys L).Nodup) {j : Nat} (hj : j < L.length) : mget L (nodeL L j) = some (edgeL L j) := by
  have hs : (mget L (nodeL L j)).isSome = true := mem_mkeys.1 (node_mem hj)
  obtain ⟨v, hv⟩ := Option.isSome_iff_exists.1 hs
  obtain ⟨i, h1, h2, h3⟩ := mget_some hv (0, 0)
  have : i = j := node_inj hn h1 hj h2
  subst this
  rw [hv, ← h3]
  rfl

/-- What is found so far: p of the networks have been looked at. -/
structure Bfs (B : List Bri) (o : List Int) (a : Int) (L : LI) (p : Nat) : Prop where
  nodup : (mkeys L).Nodup
  pos : 0 < L.length
  head : nodeL L 0 = a
  par : ∀ j, 0 < j → j < L.length → edgeL L j ∈ o ∧ (br B (edgeL L j)).to = nodeL L j ∧ ∃ q, q < j ∧ nodeL L q = (br B (edgeL L j)).fr
  done : ∀ q, q < p → ∀ i ∈ o, (br B i).fr = nodeL L q → (br B i).to ∈ mkeys L
  le : p ≤ L.length
theorem Bfs.init (B : List Bri) (o : List Int) (a : Int) : Bfs B o a [(a, -1)] 0 :=
  ⟨by simp [mkeys], by simp, rfl, fun j h1 h2 => by simp at h2; omega, fun q h => by omega, by omega⟩
theorem node_app {L : LI} {x : Int × Int} {j : Nat} (h : j < L.length) : nodeL (L ++ [x]) j = nodeL L j ∧ edgeL (L ++ [x]) j = edgeL L j := by
  unfold nodeL edgeL
  rw [getD_append_lt (0, 0) L [x] j h]
  exact ⟨rfl, rfl⟩
theorem node_new {L : LI} {x : Int × Int} : nodeL (L ++ [x]) L.length = x.1 ∧ edgeL (L ++ [x]) L.length = x.2 := by
  unfold nodeL edgeL
  rw [getD_append_ge (0, 0) L [x] _ (Nat.le_refl _)]
  simp
theorem keys_app {L : LI} {x : Int × Int} : mkeys (L ++ [x]) = mkeys L ++ [x.1] := by simp [mkeys]
/-- While the network with number p is looked at: k of the bridges have been. -/
structure BfsJ (B : List Bri) (o : List Int) (a : Int) (p : Nat) (at_ : Int) (L : LI) (k : Nat) : Prop where
  bfs : Bfs B o a L p
  lt : p < L.length
  here : nodeL L p = at_
  part : ∀ i ∈ o.take k, (br B i).fr = at_ → (br B i).to ∈ mkeys L
section
variable {B : List Bri} {o : List Int} {a : Int} {p : Nat} {at_ : Int} {L : LI} {k : Nat}
theorem take_mem {i : Int} (hk : k < o.length) (h : i ∈ o.take (k + 1)) : i ∈ o.take k ∨ i = o.getD k 0 := by
  rw [List.take_succ_eq_append_getElem hk, List.mem_append, List.mem_singleton] at h
  rcases h with h | h
  · exact .inl h
  · right; rw [h]; simp [List.getD, hk]
theorem BfsJ.skip (h : BfsJ B o a p at_ L k) (hk : k < o.length) (hn : (br B (o.getD k 0)).fr = at_ → (br B (o.getD k 0)).to ∈ mkeys L) : BfsJ B o a p at_ L (k + 1) :=
  ⟨h.bfs, h.lt, h.here, fun i hi hf => by
    rcases take_mem hk hi with hi | rfl
    · exact h.part i hi hf
    · exact hn hf⟩
theorem BfsJ.add (h : BfsJ B o a p at_ L k) (hk : k < o.length) (hf : (br B (o.getD k 0)).fr = at_) (hn : (br B (o.getD k 0)).to ∉ mkeys L) : BfsJ B o a p at_ (L ++ [((br B (o.getD k 0)).to, o.getD k 0)]) (k + 1) := by
  have hb := h.bfs
  have hl : (L ++ [((br B (o.getD k 0)).to, o.getD k 0)]).length = L.length + 1 := by simp
  refine ⟨⟨?_, by omega, ?_, fun j h1 h2 => ?_, fun q hq i hi hfi => ?_, by have := hb.le; omega⟩, by have := h.lt; omega, ?_, fun i hi hfi => ?_⟩
  · rw [keys_app, List.nodup_append]
    refine ⟨hb.nodup, by simp, ?_⟩
    intro x hx y hy
    simp at hy
    subst hy
    rintro rfl
    exact hn hx
  · rw [(node_app hb.pos).1, hb.head]
  · by_cases hj : j < L.length
    · rw [(node_app hj).1, (node_app hj).2]
      obtain ⟨g1, g2, q, g3, g4⟩ := hb.par j h1 hj
      exact ⟨g1, g2, q, g3, by rw [(node_app (by omega)).1]; exact g4⟩
    · have hj2 : j = L.length := by omega
      subst hj2
      rw [node_new.1, node_new.2]
      refine ⟨getD_memD 0 hk, rfl, p, h.lt, ?_⟩
      rw [(node_app h.lt).1, h.here]
      exact hf.symm
  · have hl2 := hb.le
    rw [(node_app (by omega)).1] at hfi
    rw [keys_app]
    exact List.mem_append_left _ (hb.done q hq i hi hfi)
  · rw [(node_app h.lt).1, h.here]
  · rw [keys_app]
    rcases take_mem hk hi with hi | rfl
    · exact List.mem_append_left _ (h.part i hi hfi)
    · exact List.mem_append_right _ (by simp)
theorem BfsJ.fin (h : BfsJ B o a p at_ L o.length) : Bfs B o a L (p + 1) :=
  ⟨h.bfs.nodup, h.bfs.pos, h.bfs.head, h.bfs.par, fun q hq i hi hf => by
    by_cases hqp : q = p
    · subst hqp
      rw [h.here] at hf
      exact h.part i (by rw [List.take_of_length_le (Nat.le_refl _)]; exact hi) hf
    · exact h.bfs.done q (by omega) i hi hf, h.lt⟩
theorem Bfs.start (h : Bfs B o a L p) (hp : p < L.length) : BfsJ B o a p (nodeL L p) L 0 := ⟨h, hp, rfl, fun i hi => by simp at hi⟩
theorem Bfs.node {n : Int} (h : Bfs B o a L p) (hV : Valid B n) (hO : OkO B o) (h0 : 0 ≤ a) (h1 : a < n) : ∀ v ∈ mkeys L, 0 ≤ v ∧ v < n := by
  intro v hv
  obtain ⟨j, hj, rfl⟩ := mem_node hv
  by_cases h0 : j = 0
  · subst h0
    rw [h.head]
    omega
  · obtain ⟨g1, g2, _⟩ := h.par j (by omega) hj
    rw [← g2]
    exact ⟨(hV.br (hO _ g1)).2.2.1, (hV.br (hO _ g1)).2.2.2⟩
theorem Bfs.len {n : Int} (h : Bfs B o a L p) (hV : Valid B n) (hO : OkO B o) (h0 : 0 ≤ a) (h1 : a < n) : L.length ≤ 12 := by
  have := nodup_len (m := 12) h.nodup fun v hv => by
    have h2 := h.node hV hO h0 h1 v hv
    have h3 := hV.hi
    omega
  rw [keys_len] at this
  exact this
theorem Bfs.sound (h : Bfs B o a L p) : ∀ m j, j ≤ m → j < L.length → Rch (Ed B o) a (nodeL L j)
  | 0, j, hm, _ => by
    have : j = 0 := by omega
    subst this
    rw [h.head]
    exact .refl
  | m + 1, j, hm, hj => by
    by_cases h0 : j = 0
    · subst h0
      rw [h.head]
      exact .refl
    · obtain ⟨g1, g2, q, g3, g4⟩ := h.par j (by omega) hj
      have := Bfs.sound h m q (by omega) (by omega)
      rw [g4] at this
      rw [← g2]
      exact this.step ⟨_, g1, rfl, rfl⟩
theorem Bfs.iff (h : Bfs B o a L p) (hp : L.length ≤ p) (v : Int) : v ∈ mkeys L ↔ Rch (Ed B o) a v := by
  constructor
  · intro hv
    obtain ⟨j, hj, rfl⟩ := mem_node hv
    exact h.sound j j (Nat.le_refl _) hj
  · intro hv
    induction hv with
    | refl => rw [← h.head]; exact node_mem h.pos
    | step _ he ih =>
      obtain ⟨i, hi, rfl, rfl⟩ := he
      obtain ⟨j, hj, hjv⟩ := mem_node ih
      exact h.done j (by omega) i hi hjv.symm
end
/-- On the way back, at the network with number j; the way from there lies in out, backwards. -/
structure Back (B : List Bri) (o : List Int) (L : LI) (b : Int) (jb j : Nat) (out : List Int) : Prop where
  lt : j < L.length
  ltb : jb < L.length
  le : j ≤ jb
  bis : nodeL L jb = b
  path : pth B (nodeL L j) out.reverse b
  ins : ∀ i ∈ out, i ∈ o
  pos : ∀ i ∈ out, ∃ q, j ≤ q ∧ q < jb ∧ nodeL L q = (br B i).fr
  nd : (frs B out).Nodup
theorem Back.step {B : List Bri} {o : List Int} {a b : Int} {L : LI} {p jb j : Nat} {out : List Int} (hb : Bfs B o a L p) (h : Back B o L b jb j out) (hj : 0 < j) :
    ∃ q, q < j ∧ nodeL L q = (br B (edgeL L j)).fr ∧ edgeL L j ∈ o ∧ Back B o L b jb q (out ++ [edgeL L j]) := by
  obtain ⟨g1, g2, q, g3, g4⟩ := hb.par j hj h.lt
  have hl := h.lt
  refine ⟨q, g3, g4, g1, ⟨by omega, h.ltb, by have := h.le; omega, h.bis, ?_, ?_, ?_, ?_⟩⟩
  · rw [List.reverse_append]
    show (br B (edgeL L j)).fr = nodeL L q ∧ pth B (br B (edgeL L j)).to out.reverse b
    rw [g2]
    exact ⟨g4.symm, h.path⟩
  · intro i hi
    rcases List.mem_append.1 hi with hi | hi
    · exact h.ins i hi
    · simp at hi; subst hi; exact g1
  · intro i hi
    rcases List.mem_append.1 hi with hi | hi
    · obtain ⟨r, h1, h2, h3⟩ := h.pos i hi
      exact ⟨r, by omega, h2, h3⟩
    · simp at hi; subst hi
      have := h.le
      exact ⟨q, Nat.le_refl _, by omega, g4⟩
  · unfold frs
    rw [List.map_append, List.nodup_append]
    refine ⟨h.nd, by simp, ?_⟩
    intro x hx y hy
    rw [List.mem_map] at hx
    obtain ⟨i, hi, rfl⟩ := hx
    simp at hy
    subst hy
    obtain ⟨r, h1, h2, h3⟩ := h.pos i hi
    rw [← h3, ← g4]
    intro he
    have := node_inj hb.nodup (by have := h.ltb; omega) (by omega) he
    omega
theorem Back.fin {B : List Bri} {o : List Int} {a b : Int} {L : LI} {p jb j : Nat} {out : List Int} (hb : Bfs B o a L p) (h : Back B o L b jb j out) (hj : nodeL L j = a) (hnode : ∀ v ∈ mkeys L, 0 ≤ v ∧ v < 12) :
    pth B a out.reverse b ∧ (∀ i ∈ out.reverse, i ∈ o) ∧ (frs B out.reverse).Nodup ∧ b ∉ frs B out.reverse ∧ out.reverse.length ≤ 12 := by
  have hfr : frs B out.reverse = (frs B out).reverse := by unfold frs; rw [List.map_reverse]
  refine ⟨by rw [← hj]; exact h.path, fun i hi => h.ins i (by simpa using hi), by rw [hfr]; exact (List.reverse_perm _).nodup_iff.2 h.nd, ?_, ?_⟩
  · rw [hfr, List.mem_reverse]
    intro hm
    unfold frs at hm
    rw [List.mem_map] at hm
    obtain ⟨i, hi, he⟩ := hm
    obtain ⟨r, h1, h2, h3⟩ := h.pos i hi
    have := node_inj hb.nodup (by have := h.ltb; omega) h.ltb (h3.trans (he.trans h.bis.symm))
    omega
  · rw [List.length_reverse]
    have : (frs B out).length ≤ 12 := nodup_len h.nd fun x hx => by
      unfold frs at hx
      rw [List.mem_map] at hx
      obtain ⟨i, hi, rfl⟩ := hx
      obtain ⟨r, h1, h2, h3⟩ := h.pos i hi
      rw [← h3]
      exact hnode _ (node_mem (by have := h.ltb; omega))
    unfold frs at this
    rw [List.length_map] at this
    exact this

def revA_ren : Go.Shelf.Ren := ⟨fun | 112 => 101 | n => n, fun | 28 => 29 | 0 => 0 | 3 => 3 | 4 => 4 | n => n, fun | n => n⟩
theorem revA : Go.Proofs.Lays.n112 Try.prog revA_ren := {
  mixed := by kernel_rfl,
  f112 := Try.func101.trans (congrArg some (by kernel_rfl)),
  t0 := Try.underlying0,
  a0 := Try.isAgg0,
  z0 := Try.sizeOf0,
  v0 := Try.zeroValue0,
  t3 := Try.underlying3,
  a3 := Try.isAgg3,
  z3 := Try.sizeOf3,
  v3 := Try.zeroValue3,
  t4 := Try.underlying4,
  a4 := Try.isAgg4,
  z4 := Try.sizeOf4,
  v4 := Try.zeroValue4,
  t28 := Try.underlying29,
  a28 := Try.isAgg29,
  z28 := Try.sizeOf29,
  v28 := Try.zeroValue29 }
theorem reversesRow : PlacesRow Try.prog 101 List.reverse :=
  ⟨⟨_, Try.func101, by kernel_rfl, rfl⟩, fun ks => List.length_reverse, fun blk off cap ss W hH _ hl => (Any.slices_Reverse_int revA blk off cap ss W hH (by omega)).mono fun e w' h => ⟨h.1, by
    obtain ⟨n, hn⟩ := h.2
    exact ⟨n, #[], by rw [Go.Sort.grow_empty]; exact hn⟩⟩, fun p cap W => Any.slices_Reverse_int_empty revA p cap W⟩
theorem RetIs.soB {c d : Bool} {e sz n n' : Nat} {get get' : Nat → List AV} {id nid : Nat} {O : List OE} (hg : getO id O = some ([], .row e sz n' get')) (hn : n' = n) (hget : ∀ k, k < n → get' k = get k) (hf : ∀ k, k < n → AV.freshs (get k) = true) (hd : d = c) :
    RetIs [.row e sz n get] (.tup [.so 0, .b c]) (.tup [.so id, .b d]) O nid := by
  subst hn
  subst hd
  refine ⟨[(0, id)], ⟨⟨⟨rfl, rfl, ?_⟩, trivial⟩, ⟨⟨rfl, rfl, trivial, ?_⟩, trivial⟩, rfl⟩, rfl, hf⟩
  · exact rfl
  · show (match AO.row e sz n' get, getO id O with
      | .dead, _ => True
      | o, some ([], o') => AOEq (o.ren (rn [(0, id)])) o'
      | _, _ => False)
    rw [hg]
    exact ⟨rfl, rfl, rfl, hget⟩
abbrev mpII (L : LI) : AO := mpL (fun k : Int => .i .i64 k) (fun v : Int => .i .i64 v) (0, 0) L
theorem row_drop (Q : List Int) : ∀ k, k < (Q.drop 1).length → rowsI Q (k + (1 : Int).toNat) = rowsI (Q.drop 1) k := by
  intro k hk
  unfold rowsI
  have e : (Q.drop 1).getD k 0 = Q.getD (k + 1) 0 := by
    simp only [List.getD]
    rw [List.getElem?_drop, Nat.add_comm]
  rw [e]
  rfl

set_option maxRecDepth 20000 in
set_option maxHeartbeats 2000000 in
theorem path_fn (B : List Bri) (n : Int) (hV : Valid B n) (o : List Int) (hO : OkO B o) (hol : o.length < 1000000) (a b : Int) (h0 : 0 ≤ a) (h1 : a < n) (hb0 : 0 ≤ b) :
    CtrM Try.prog 90 false [] [.rs 3 B.length (rowsB B), .rs 1 o.length (rowsI o), .i .i64 a, .i .i64 b] (fun y : List Int × Bool => PathS B o a b y) (fun _ => []) (fun y => [.row 3 1 y.1.length (rowsI y.1)]) (fun y => .tup [.so 0, .b y.2]) := by
  refine fn_of_execM tabOk Try.func90 (by kernel_rfl) rfl (N := Try.f90.ntmps) rfl (res := [.tmp 8, .tmp 9]) rfl false true [] _ _ _ _ rfl (fun _ => rfl) [(1000001, [.sl 26 .u]), (5, [.own 11]), (999999, [.nl 8 3 1])] ?_
  have hh := hV.hi
  have hBl := hV.len
  have hrch := fun v (hv : 0 ≤ v) => reachB_iff hV hO h0 h1 (b := v) hv
  repeat refine Or.inl ?_
  refine ⟨1, (fun i => .i .i64 (([(a, -1)] : LI).getD i (0, 0)).1), (fun i => .i .i64 (([(a, -1)] : LI).getD i (0, 0)).2), (fun i => i), 1, ⟨fun i hi => absurd hi (Nat.not_lt_zero i), rfl, .inr ⟨fun i hi => absurd hi (Nat.not_lt_zero i), rfl, rfl, fun j hj => absurd hj (Nat.not_lt_zero j), rfl, rfl, rfl⟩⟩, ?_⟩
  repeat refine Or.inl ?_
  refine ⟨trivial, ?_⟩
  repeat refine Or.inl ?_
  refine ⟨[], LI × Nat, fun x => Bfs B o a x.1 x.2, fun x => [⟨11, [], .so 1⟩], fun x => [⟨0, [], mpII x.1⟩, ⟨1, [], .row 3 1 ((mkeys x.1).drop x.2).length (rowsI ((mkeys x.1).drop x.2))⟩], fun x => 13 - x.2,
    ⟨([(a, -1)], 0), [], Bfs.init B o a, rfl, rfl, rfl, rfl, rfl, rfl, ⟨AOEq.refl _, ⟨rfl, rfl, rfl, fun j hj => by
      have : j = 0 := by
        have hj : j < 1 := hj
        omega
      subst this
      rfl⟩⟩⟩, ?_⟩
  rintro ⟨L, p⟩ hBf
  have hBf : Bfs B o a L p := hBf
  have hLl := hBf.len hV hO h0 h1
  have hnode := hBf.node hV hO h0 h1
  have hple := hBf.le
  have hQl : ((mkeys L).drop p).length = L.length - p := by rw [List.length_drop, keys_len]
  refine .inl ⟨fun hc => ?_, fun hc => ?_⟩
  · have hc : decide ((((mkeys L).drop p).length : Int) > 0) = true := hc
    rw [decide_eq_true_eq] at hc
    have hpl : p < L.length := by omega
    have hat : ((mkeys L).drop p).getD (Int.toNat 0) 0 = nodeL L p := by
      rw [← keys_getD L p hpl]
      simp only [List.getD]
      rw [List.getElem?_drop]
      rfl
    have hrd := row_drop ((mkeys L).drop p)
    have hdd : ((mkeys L).drop p).drop 1 = (mkeys L).drop (p + 1) := by rw [List.drop_drop]
    have hst := hBf.start hpl
    repeat refine Or.inl ?_
    refine ⟨⟨by first | omega | (dsimp only; omega), by first | omega | (dsimp only; omega)⟩, by first | omega | (dsimp only; omega), ?_⟩
    repeat refine Or.inl ?_
    refine ⟨⟨by first | omega | (dsimp only; omega), by first | omega | (dsimp only; omega), by first | omega | (dsimp only; omega)⟩, ?_⟩
    repeat refine Or.inl ?_
    refine ⟨[], LI × Nat, fun x => x.2 ≤ o.length ∧ BfsJ B o a p (nodeL L p) x.1 x.2, fun x => [⟨37, [], .i .i64 x.2⟩, ⟨11, [], .so 2⟩], fun x => [⟨0, [], mpII x.1⟩, ⟨2, [], .row 3 1 ((mkeys x.1).drop (p + 1)).length (rowsI ((mkeys x.1).drop (p + 1)))⟩], fun x => o.length - x.2,
      ⟨(L, 0), [], ⟨Nat.zero_le _, hst⟩, rfl, rfl, rfl, rfl, rfl, ⟨⟨rfl, rfl⟩, rfl⟩, ⟨AOEq.refl _, ?_⟩⟩, ?_⟩
    · have hv : AOEq (.row 3 1 ((mkeys L).drop (p + 1)).length (rowsI ((mkeys L).drop (p + 1)))) (.row 3 1 ((((mkeys L).drop p).length : Int) - 1).toNat (fun k => rowsI ((mkeys L).drop p) (k + (1 : Int).toNat))) := by
        rw [← hdd]
        refine ⟨rfl, rfl, ?_, hrd⟩
        simp only [List.length_drop, keys_len]
        omega
      exact hv
    rintro ⟨L2, k⟩ ⟨hk, hJ⟩
    dsimp only at hk hJ
    have hLl2 := hJ.bfs.len hV hO h0 h1
    have hkl := keys_len L2
    refine .inl ⟨fun hc2 => ?_, fun hc2 => ?_⟩
    · have hc2 := dlt hc2
      have ek : (k : Int).toNat = k := Int.toNat_natCast k
      have w : IntKind.i64.wrap ((k : Int) + 1) = ((k + 1 : Nat) : Int) := wr (by omega) (by omega)
      have hmem : o.getD (k : Int).toNat 0 ∈ o := by rw [ek]; exact getD_memD 0 (by omega)
      have hi := hO _ hmem
      have hsk := hJ.skip (by omega)
      have hadd := hJ.add (by omega)
      rw [← ek] at hsk hadd
      repeat refine Or.inl ?_
      refine ⟨⟨by omega, by omega⟩, ?_⟩
      repeat refine Or.inl ?_
      refine ⟨⟨hi.1, hi.2⟩, ?_⟩
      repeat refine Or.inl ?_
      refine ⟨_, _, ⟨fun _ _ => rfl, rfl, lookOk_mget (L := L2) (d := (0, 0)) (vf := fun v : Int => AV.i .i64 v) i64_inj (br B (o.getD (k : Int).toNat 0)).to 0⟩, ?_⟩
      repeat refine Or.inl ?_
      refine ⟨fun h2 => ?_, fun h2 => ?_⟩
      · have h2 : ((br B (o.getD (k : Int).toNat 0)).fr == ((mkeys L).drop p).getD (Int.toNat 0) 0 && !(mget L2 (br B (o.getD (k : Int).toNat 0)).to).isSome) = true := h2
        rw [hat, Bool.and_eq_true, beq_iff_eq] at h2
        have hn : mget L2 (br B (o.getD (k : Int).toNat 0)).to = none := by simpa using h2.2
        have hadd := hadd h2.1 (fun hm => by
          have := mem_mkeys.1 hm
          rw [hn] at this
          cases this)
        refine ⟨_, _, _, _, _, ⟨fun _ _ => rfl, rfl, updOk_mset (L := L2) (d := (0, 0)) (vf := fun v : Int => AV.i .i64 v) i64_inj (br B (o.getD (k : Int).toNat 0)).to (o.getD (k : Int).toNat 0)⟩, ?_⟩
        refine ⟨fits (by simp only [List.length_drop, keys_len]; omega), ?_⟩
        have hms := mset_new hn (o.getD (k : Int).toNat 0)
        refine ⟨(mset L2 (br B (o.getD (k : Int).toNat 0)).to (o.getD (k : Int).toNat 0), k + 1), [(2, 5)], ⟨by dsimp only; omega, by rw [hms]; exact hadd⟩, by dsimp only; omega, rfl, rfl, rfl, rfl, rfl, ⟨⟨rfl, w⟩, rfl⟩, ⟨AOEq.refl _, snocZ_row _ _ ?_⟩⟩
        show (mkeys (mset L2 (br B (o.getD (k : Int).toNat 0)).to (o.getD (k : Int).toNat 0))).drop (p + 1) = _
        rw [hms, keys_app, List.drop_append_of_le_length (by rw [hkl]; have := hJ.lt; omega)]
        rfl
      · have h2 : ((br B (o.getD (k : Int).toNat 0)).fr == ((mkeys L).drop p).getD (Int.toNat 0) 0 && !(mget L2 (br B (o.getD (k : Int).toNat 0)).to).isSome) = false := h2
        rw [hat] at h2
        have hsk := hsk (fun hf => by
          rw [hf, beq_self_eq_true, Bool.true_and] at h2
          exact mem_mkeys.2 (by simpa using h2))
        exact ⟨(L2, k + 1), [], ⟨by dsimp only; omega, hsk⟩, by dsimp only; omega, rfl, rfl, rfl, rfl, rfl, ⟨⟨rfl, w⟩, rfl⟩, ⟨AOEq.refl _, same_row rfl⟩⟩
    · have hc2 := dnlt hc2
      obtain rfl : k = o.length := by omega
      exact ⟨(L2, p + 1), [(1, 2)], hJ.fin, by dsimp only; omega, rfl, rfl, rfl, rfl, rfl, rfl, ⟨AOEq.refl _, same_row rfl⟩⟩
  · have hc : decide ((((mkeys L).drop p).length : Int) > 0) = false := hc
    rw [decide_eq_false_iff_not] at hc
    have hfin := hBf.iff (by omega)
    have hr : (mget L b).isSome = reachB B o a b := by
      rw [Bool.eq_iff_iff, ← mem_mkeys, hfin, hrch b hb0]
    repeat refine Or.inl ?_
    refine ⟨_, _, ⟨fun _ _ => rfl, rfl, lookOk_mget (L := L) (d := (0, 0)) (vf := fun v : Int => AV.i .i64 v) i64_inj b 0⟩, ?_⟩
    repeat refine Or.inl ?_
    refine ⟨fun h2 => ?_, fun h2 => ?_⟩
    · have h2 : (!(mget L b).isSome) = true := h2
      rw [hr] at h2
      have h3 : reachB B o a b = false := by simpa using h2
      exact RetM.of (([], false) : List Int × Bool) ⟨h3.symm, fun h => (by cases h)⟩ (RetIs.soB rfl rfl (fun k hk => by cases hk) (fun k hk => by cases hk) rfl)
    have h2 : (!(mget L b).isSome) = false := h2
    rw [hr] at h2
    have h3 : reachB B o a b = true := by simpa using h2
    obtain ⟨jb, hjb, hjv⟩ := mem_node (mem_mkeys.2 (by rw [hr]; exact h3) : b ∈ mkeys L)
    repeat refine Or.inl ?_
    refine ⟨[(20, 3, 1)], List Int × Nat, fun x => Back B o L b jb x.2 x.1, fun x => [⟨21, [], .i .i64 (nodeL L x.2)⟩, ⟨20, [], .so 2⟩], fun x => [⟨2, [], .row 3 1 x.1.length (rowsI x.1)⟩], fun x => x.2,
      ⟨([], jb), [], ⟨hjb, hjb, Nat.le_refl _, hjv, hjv, fun i hi => (by cases hi), fun i hi => (by cases hi), List.nodup_nil⟩, rfl, rfl, rfl, rfl, rfl, ⟨⟨rfl, hjv.symm⟩, rfl⟩, ⟨rfl, rfl, rfl, fun j hj => by cases hj⟩⟩, ?_⟩
    rintro ⟨out, j⟩ hK
    have hK : Back B o L b jb j out := hK
    refine .inl ⟨fun h4 => ?_, fun h4 => ?_⟩
    · have h4 : (nodeL L j != a) = true := h4
      rw [bne_iff_ne] at h4
      have hj0 : 0 < j := by
        rcases Nat.eq_zero_or_pos j with h | h
        · subst h; exact (h4 hBf.head).elim
        · exact h
      obtain ⟨q, hq1, hq2, hq3, hq4⟩ := hK.step hBf hj0
      have hg : (mget L (nodeL L j)).getD 0 = edgeL L j := by rw [mget_at hBf.nodup hK.lt]; rfl
      have hei := hO _ hq3
      have hol2 : out.length ≤ 12 := by
        have hfl : (frs B out).length ≤ 12 := nodup_len hK.nd fun x hx => by
          unfold frs at hx
          rw [List.mem_map] at hx
          obtain ⟨i, hi, rfl⟩ := hx
          have := hV.br (hO i (hK.ins i hi))
          omega
        unfold frs at hfl
        rw [List.length_map] at hfl
        exact hfl
      repeat refine Or.inl ?_
      refine ⟨_, _, ⟨fun _ _ => rfl, rfl, lookOk_mget (L := L) (d := (0, 0)) (vf := fun v : Int => AV.i .i64 v) i64_inj (nodeL L j) 0⟩, ?_⟩
      rw [hg]
      refine ⟨fits (by dsimp only; omega), ?_⟩
      repeat refine Or.inl ?_
      refine ⟨_, _, ⟨fun _ _ => rfl, rfl, lookOk_mget (L := L) (d := (0, 0)) (vf := fun v : Int => AV.i .i64 v) i64_inj (nodeL L j) 0⟩, ?_⟩
      rw [hg]
      refine ⟨⟨hei.1, hei.2⟩, ?_⟩
      exact ⟨(out ++ [edgeL L j], q), [(2, 4)], hq4, hq1, rfl, rfl, rfl, rfl, rfl, ⟨⟨rfl, hq2.symm⟩, rfl⟩, snocZ_row _ _ rfl⟩
    · have h4 : (nodeL L j != a) = false := h4
      rw [bne_eq_false_iff_eq] at h4
      have hf := hK.fin hBf h4 fun v hv => by
        have := hnode v hv
        omega
      have hl := hf.2.2.2.2
      rw [List.length_reverse] at hl
      refine .inr (.inr ⟨false, [2], rfl, Unit, _, _, _, _, placesRow_ctr reversesRow (kt := 3) out (rowsI out) (fun _ _ => rfl) (by omega), fun _ _ => ?_⟩)
      refine RetM.of ((out.reverse, true) : List Int × Bool) ⟨h3.symm, fun _ => hf⟩ (RetIs.soB rfl ?_ (fun _ _ => rfl) (fun _ _ => rfl) rfl)
      simp
end Go.Proofs.Ytklmfkejgjhneaa
