/-
  Several texts in one: W8, W9, W10, W11, W12, W13, W14, W15, W16.
-/
import Derived.Shelf.Slices.Reverse
import Derived.Test.YtilhaifmfiobhaaMg15

section
/-
  The way from one literal to another.
-/
namespace Go.Proofs.Ytilhaifmfiobhaa
open Go.Eng

def revA_ren : Go.Shelf.Ren := ⟨fun | 112 => 116 | n => n, fun | 28 => 23 | 0 => 0 | 3 => 3 | 4 => 4 | n => n, fun | n => n⟩
theorem revA : Go.Proofs.Lays.n112 Try.prog revA_ren := {
  mixed := by kernel_rfl,
  f112 := Try.func116.trans (congrArg some (by kernel_rfl)),
  t0 := Try.underlying0,
  a0 := Try.isAgg0,
  z0 := Try.sizeOf0,
  v0 := Try.zeroValue0,
  t3 := Try.underlying3,
  a3 := Try.isAgg3,
  z3 := Try.sizeOf3,
  v3 := Try.zeroValue3,
  t4 := Try.underlying4,
  a4 := Try.isAgg4,
  z4 := Try.sizeOf4,
  v4 := Try.zeroValue4,
  t28 := Try.underlying23,
  a28 := Try.isAgg23,
  z28 := Try.sizeOf23,
  v28 := Try.zeroValue23 }
theorem reversesRow : PlacesRow Try.prog 116 List.reverse :=
  ⟨⟨_, Try.func116, by kernel_rfl, rfl⟩, fun ks => List.length_reverse, fun blk off cap ss W hH _ hl => (Any.slices_Reverse_int revA blk off cap ss W hH (by omega)).mono fun e w' h => ⟨h.1, by
    obtain ⟨n, hn⟩ := h.2
    exact ⟨n, #[], by rw [Go.Sort.grow_empty]; exact hn⟩⟩, fun p cap W => Any.slices_Reverse_int_empty revA p cap W⟩
theorem snocZ (o : List Int) (n : Int) : ∀ k, k < (o ++ [n]).length → catG o.length (rowsI o) (rowOf 1 [.i .i64 n]) k = rowsI (o ++ [n]) k := by
  intro k hk
  unfold catG rowsI
  rw [getD_snocI]
  by_cases h : k < o.length
  · rw [if_pos h, if_pos h]
  · rw [if_neg h, if_neg h]
    have : k = o.length := by simp at hk; omega
    subst this
    simp [rowOf]
theorem snocZ_row (o : List Int) (n : Int) {l : List Int} (hl : l = o ++ [n]) : AOEq (.row 3 1 l.length (rowsI l)) (.row 3 1 (o.length + 1) (catG o.length (rowsI o) (rowOf 1 [.i .i64 n]))) := by
  subst hl
  exact ⟨rfl, rfl, by simp, snocZ o n⟩
theorem same_row {o l : List Int} (hl : l = o) : AOEq (.row 3 1 l.length (rowsI l)) (.row 3 1 o.length (rowsI o)) := by
  subst hl
  exact AOEq.refl _
abbrev mpII (L : LI) : AO := mpL (fun k : Int => .i .i64 k) (fun v : Int => .i .i64 v) (0, 0) L
theorem row_drop (Q : List Int) : ∀ k, k < (Q.drop 1).length → rowsI Q (k + (1 : Int).toNat) = rowsI (Q.drop 1) k := by
  intro k hk
  unfold rowsI
  have e : (Q.drop 1).getD k 0 = Q.getD (k + 1) 0 := by
    simp only [List.getD]
    rw [List.getElem?_drop, Nat.add_comm]
  rw [e]
  rfl
theorem mem_keysX {L : LI} {k : Int} : k ∈ keysX L ↔ (mget L k).isSome = true := mem_mkeys (L := L)
theorem mget_at {L : LI} (hn : (keysX L).Nodup) {j : Nat} (hj : j < L.length) : mget L (nodeL L j) = some (edgeL L j) := by
  have hs : (mget L (nodeL L j)).isSome = true := mem_keysX.1 (node_mem hj)
  obtain ⟨v, hv⟩ := Option.isSome_iff_exists.1 hs
  obtain ⟨i, h1, h2, h3⟩ := mget_some hv (0, 0)
  have : i = j := node_inj hn h1 hj h2
  subst this
  rw [hv, ← h3]
  rfl
theorem Bf.node {l : List Cl} {a b : Int} {L : LI} {p : Nat} {n : Int} (h : Bf l a b L p) (hr : RightC n l) (ha : 0 ≤ a ∧ a < 2 * n) : ∀ v ∈ keysX L, 0 ≤ v ∧ v < 2 * n := by
  intro v hv
  obtain ⟨j, hj, rfl⟩ := mem_node hv
  rcases Nat.eq_zero_or_pos j with rfl | h0
  · rw [h.head]; exact ha
  · obtain ⟨q, _, _, e⟩ := h.par j h0 hj
    exact succL_rg hr _ _ e
theorem Bf.len {l : List Cl} {a b : Int} {L : LI} {p n : Nat} (h : Bf l a b L p) (hr : RightC n l) (ha : 0 ≤ a ∧ a < 2 * (n : Int)) : L.length ≤ 2 * n := by
  have := nodup_lenX (m := 2 * n) h.nodup fun x hx => by
    have := h.node hr ha x hx
    omega
  rwa [keysX_len] at this
def pathO : Option (List Int) → List AO
  | some p => [.row 3 1 p.length (rowsI p)]
  | none => []
def pathV : Option (List Int) → AV
  | some _ => .so 0
  | none => .val (.slice none 0 0)

set_option maxRecDepth 20000 in
set_option maxHeartbeats 4000000 in
theorem path_fn (l : List Cl) (n : Nat) (hr : RightC n l) (hn : n ≤ 400) (hl : l.length ≤ 4000) (a b : Int) (ha : 0 ≤ a ∧ a < 2 * (n : Int)) :
    CtrM Try.prog 73 false [] [gM l, .i .i64 a, .i .i64 b] (fun y : Option (List Int) => PathR l a b y) (fun _ => []) pathO pathV := by
  refine fn_of_execM tabOk Try.func73 (by kernel_rfl) rfl (N := Try.f73.ntmps) rfl (res := [.tmp 6]) rfl false true [] _ _ _ _ rfl (fun _ => rfl) [(1000002, [.sl 20 .u]), (6, [.own 8]), (1000010, [.sl 41 .u])] ?_
  repeat refine Or.inl ?_
  refine ⟨1, (fun i => .i .i64 (([(a, a)] : LI).getD i (0, 0)).1), (fun i => .i .i64 (([(a, a)] : LI).getD i (0, 0)).2), (fun i => i), 1, ⟨fun i hi => absurd hi (Nat.not_lt_zero i), rfl, .inr ⟨fun i hi => absurd hi (Nat.not_lt_zero i), rfl, rfl, fun j hj => absurd hj (Nat.not_lt_zero j), rfl, rfl, rfl⟩⟩, ?_⟩
  repeat refine Or.inl ?_
  refine ⟨trivial, ?_⟩
  repeat refine Or.inl ?_
  refine ⟨[], LI × Nat, fun x => Bf l a b x.1 x.2, fun x => [⟨8, [], .so 1⟩], fun x => [⟨0, [], mpII x.1⟩, ⟨1, [], .row 3 1 ((keysX x.1).drop x.2).length (rowsI ((keysX x.1).drop x.2))⟩], fun x => 801 - x.2,
    ⟨([(a, a)], 0), [], Bf.init l a b, rfl, rfl, rfl, rfl, rfl, rfl, ⟨AOEq.refl _, ⟨rfl, rfl, rfl, fun j hj => by
      have : j = 0 := by
        have hj : j < 1 := hj
        omega
      subst this
      rfl⟩⟩⟩, ?_⟩
  rintro ⟨L, p⟩ hBf
  have hBf : Bf l a b L p := hBf
  have hLl := hBf.len hr ha
  have hple := hBf.le
  have hQl : ((keysX L).drop p).length = L.length - p := by rw [List.length_drop, keysX_len]
  refine .inl ⟨fun hc => ?_, fun hc => ?_⟩
  · have hc : decide ((((keysX L).drop p).length : Int) > 0) = true := hc
    rw [decide_eq_true_eq] at hc
    have hpl : p < L.length := by omega
    have hat : ((keysX L).drop p).getD (Int.toNat 0) 0 = nodeL L p := by
      rw [← keysX_getD L p hpl]
      simp only [List.getD]
      rw [List.getElem?_drop]
      rfl
    have hrd := row_drop ((keysX L).drop p)
    have hdd : ((keysX L).drop p).drop 1 = (keysX L).drop (p + 1) := by rw [List.drop_drop]
    have hst := hBf.start hpl
    have hsl := succL_len l (nodeL L p)
    repeat refine Or.inl ?_
    refine ⟨⟨by first | omega | (dsimp only; omega), by first | omega | (dsimp only; omega)⟩, by first | omega | (dsimp only; omega), ?_⟩
    repeat refine Or.inl ?_
    refine ⟨⟨by first | omega | (dsimp only; omega), by first | omega | (dsimp only; omega), by first | omega | (dsimp only; omega)⟩, ?_⟩
    have lkx : LookOk (groupL l).length (gKey (groupL l)) (gVal (groupL l)) (.i .i64 (((keysX L).drop p).getD (Int.toNat 0) 0)) (.rs 1 (succL l (nodeL L p)).length (rowsI (succL l (nodeL L p)))) (.val (.slice none 0 0)) (mget (groupL l) (nodeL L p)).isSome := by
      rw [hat]
      exact lookOk_g l (nodeL L p)
    refine ⟨_, _, ⟨fun _ _ => rfl, rfl, lkx⟩, ?_⟩
    repeat refine Or.inl ?_
    refine ⟨[], LI × Nat, fun x => x.2 ≤ (succL l (nodeL L p)).length ∧ BfJ l a b p (nodeL L p) x.1 x.2, fun x => [⟨33, [], .i .i64 x.2⟩, ⟨9, [], .i .i64 (nodeL L p)⟩, ⟨8, [], .so 2⟩], fun x => [⟨0, [], mpII x.1⟩, ⟨2, [], .row 3 1 ((keysX x.1).drop (p + 1)).length (rowsI ((keysX x.1).drop (p + 1)))⟩], fun x => (succL l (nodeL L p)).length - x.2,
      ⟨(L, 0), [], ⟨Nat.zero_le _, hst⟩, rfl, rfl, rfl, rfl, rfl, ⟨⟨rfl, rfl⟩, ⟨rfl, hat⟩, rfl⟩, ⟨AOEq.refl _, ?_⟩⟩, ?_⟩
    · have hv : AOEq (.row 3 1 ((keysX L).drop (p + 1)).length (rowsI ((keysX L).drop (p + 1)))) (.row 3 1 ((((keysX L).drop p).length : Int) - 1).toNat (fun k => rowsI ((keysX L).drop p) (k + (1 : Int).toNat))) := by
        rw [← hdd]
        refine ⟨rfl, rfl, ?_, hrd⟩
        simp only [List.length_drop, keysX_len]
        omega
      exact hv
    rintro ⟨L2, k⟩ ⟨hk, hJ⟩
    dsimp only at hk hJ
    have hLl2 := hJ.bf.len hr ha
    have hkl := keysX_len L2
    refine .inl ⟨fun hc2 => ?_, fun hc2 => ?_⟩
    · have hc2 := dlt hc2
      have ek : (k : Int).toNat = k := Int.toNat_natCast k
      have w : IntKind.i64.wrap ((k : Int) + 1) = ((k + 1 : Nat) : Int) := wr (by omega) (by omega)
      have hsk := hJ.skip (by omega)
      have hadd := hJ.add (by omega)
      rw [← ek] at hsk hadd
      repeat refine Or.inl ?_
      refine ⟨⟨by omega, by omega⟩, ?_⟩
      repeat refine Or.inl ?_
      refine ⟨fun h2 => ?_, fun h2 => ?_⟩
      · have h2 : ((succL l (nodeL L p)).getD (k : Int).toNat 0 == b) = true := h2
        rw [ek, beq_iff_eq] at h2
        have hed : Ed l (nodeL L2 p) b := by
          rw [hJ.here, ← h2]
          exact getD_memX (l := succL l (nodeL L p)) (by omega)
        repeat refine Or.inl ?_
        refine ⟨trivial, ?_⟩
        repeat refine Or.inl ?_
        refine ⟨[], List Int × Nat, fun x => Bk l a b L2 x.1 x.2, fun x => [⟨9, [], .i .i64 (nodeL L2 x.2)⟩, ⟨12, [], .so 3⟩], fun x => [⟨3, [], .row 3 1 x.1.length (rowsI x.1)⟩], fun x => x.2,
          ⟨([nodeL L2 p], p), [], Bk.init hJ.lt hed, rfl, rfl, rfl, rfl, rfl, ⟨⟨rfl, hJ.here.symm⟩, rfl⟩, ⟨rfl, rfl, rfl, fun j hj => ?_⟩⟩, ?_⟩
        · obtain rfl : j = 0 := by
            have hj : j < 1 := hj
            omega
          show [AV.i .i64 (nodeL L p)] = [AV.i .i64 (nodeL L2 p)]
          rw [hJ.here]
        rintro ⟨out, j⟩ hK
        have hK : Bk l a b L2 out j := hK
        have hol : out.length ≤ 800 := by
          refine Nat.le_trans (nodup_lenX (m := 2 * n) hK.nd fun x hx => ?_) (by omega)
          obtain ⟨i, _, hi, rfl⟩ := hK.ix x hx
          have := hJ.bf.node hr ha _ (node_mem hi)
          omega
        refine .inl ⟨fun h4 => ?_, fun h4 => ?_⟩
        · have h4 : (nodeL L2 j != a) = true := h4
          rw [bne_iff_ne] at h4
          obtain ⟨q, hq1, hq2, hq3⟩ := hK.next hJ.bf h4
          have hg : (mget L2 (nodeL L2 j)).getD 0 = edgeL L2 j := by rw [mget_at hJ.bf.nodup hK.lt]; rfl
          repeat refine Or.inl ?_
          refine ⟨_, _, ⟨fun _ _ => rfl, rfl, lookOk_mget (L := L2) (d := (0, 0)) (vf := fun v : Int => AV.i .i64 v) i64_inj (nodeL L2 j) 0⟩, ?_⟩
          rw [hg]
          refine ⟨fits (by dsimp only; omega), ?_⟩
          exact ⟨(out ++ [edgeL L2 j], q), [(3, 5)], hq3, hq1, rfl, rfl, rfl, rfl, rfl, ⟨⟨rfl, hq2.symm⟩, rfl⟩, snocZ_row _ _ rfl⟩
        · have h4 : (nodeL L2 j != a) = false := h4
          rw [bne_eq_false_iff_eq] at h4
          refine .inr (.inr ⟨false, [3], rfl, Unit, _, _, _, _, placesRow_ctr reversesRow (kt := 3) out (rowsI out) (fun _ _ => rfl) (by omega), fun _ _ => ?_⟩)
          refine RetM.of (some out.reverse : Option (List Int)) (hK.fin h4) (RetIs.so rfl ?_ (fun _ _ => rfl) (fun _ _ => rfl))
          simp
      · have h2 : ((succL l (nodeL L p)).getD (k : Int).toNat 0 == b) = false := h2
        have hnb : (succL l (nodeL L p)).getD k 0 ≠ b := by
          rw [ek] at h2
          simpa using h2
        repeat refine Or.inl ?_
        refine ⟨_, _, ⟨fun _ _ => rfl, rfl, lookOk_mget (L := L2) (d := (0, 0)) (vf := fun v : Int => AV.i .i64 v) i64_inj ((succL l (nodeL L p)).getD (k : Int).toNat 0) 0⟩, ?_⟩
        repeat refine Or.inl ?_
        refine ⟨fun h3 => ?_, fun h3 => ?_⟩
        · have h3 : (!(mget L2 ((succL l (nodeL L p)).getD (k : Int).toNat 0)).isSome) = true := h3
          have hno : mget L2 ((succL l (nodeL L p)).getD (k : Int).toNat 0) = none := by simpa using h3
          have hadd := hadd (by rw [ek]; exact hnb) (fun hm => by
            have := mem_keysX.1 hm
            rw [hno] at this
            cases this)
          refine ⟨_, _, _, _, _, ⟨fun _ _ => rfl, rfl, updOk_mset (L := L2) (d := (0, 0)) (vf := fun v : Int => AV.i .i64 v) i64_inj ((succL l (nodeL L p)).getD (k : Int).toNat 0) (nodeL L p)⟩, ?_⟩
          refine ⟨fits (by simp only [List.length_drop, keysX_len]; omega), ?_⟩
          have hms := mset_new hno (nodeL L p)
          refine ⟨(mset L2 ((succL l (nodeL L p)).getD (k : Int).toNat 0) (nodeL L p), k + 1), [(2, 4)], ⟨by dsimp only; omega, by rw [hms]; exact hadd⟩, by dsimp only; omega, rfl, rfl, rfl, rfl, rfl, ⟨⟨rfl, w⟩, ⟨rfl, rfl⟩, rfl⟩, ⟨AOEq.refl _, snocZ_row _ _ ?_⟩⟩
          show (keysX (mset L2 ((succL l (nodeL L p)).getD (k : Int).toNat 0) (nodeL L p))).drop (p + 1) = _
          rw [hms, keys_app, List.drop_append_of_le_length (by rw [hkl]; have := hJ.lt; omega)]
        · have h3 : (!(mget L2 ((succL l (nodeL L p)).getD (k : Int).toNat 0)).isSome) = false := h3
          have hsk := hsk hnb (mem_keysX.2 (by simpa using h3))
          exact ⟨(L2, k + 1), [], ⟨by dsimp only; omega, by dsimp only; rw [ek] at hsk; exact hsk⟩, by dsimp only; omega, rfl, rfl, rfl, rfl, rfl, ⟨⟨rfl, w⟩, ⟨rfl, rfl⟩, rfl⟩, ⟨AOEq.refl _, same_row rfl⟩⟩
    · have hc2 := dnlt hc2
      obtain rfl : k = (succL l (nodeL L p)).length := by omega
      exact ⟨(L2, p + 1), [(1, 2)], hJ.fin, by dsimp only; omega, rfl, rfl, rfl, rfl, rfl, rfl, ⟨AOEq.refl _, same_row rfl⟩⟩
  · have hc : decide ((((keysX L).drop p).length : Int) > 0) = false := hc
    rw [decide_eq_false_iff_not] at hc
    have e : p = L.length := by omega
    subst e
    exact RetM.of (none : Option (List Int)) hBf.none ⟨[], ⟨⟨⟨rfl, rfl, AVEq.refl _⟩, trivial⟩, trivial, rfl⟩, rfl, trivial⟩
end Go.Proofs.Ytilhaifmfiobhaa
end

section
/-
  Solve.
-/
namespace Go.Proofs.Ytilhaifmfiobhaa
open Go.Eng

inductive SolK where
  | bad
  | sat (vs : List Bool)
  | uns (c : List Int)
def SolK.os : SolK → List AO
  | .bad => []
  | .sat vs => [.row 4 1 vs.length fun k => [.b (vs.getD k false)]]
  | .uns c => [.row 3 1 c.length (rowsI c)]
def SolK.av : SolK → AV
  | .bad => .tup [.val (.slice none 0 0), .val (.slice none 0 0), .i .i64 1]
  | .sat _ => .tup [.so 0, .val (.slice none 0 0), .i .i64 0]
  | .uns _ => .tup [.val (.slice none 0 0), .so 0, .i .i64 17]
def SolK.y : SolK → SolveY
  | .bad => ⟨[], [], 1⟩
  | .sat vs => ⟨vs, [], 0⟩
  | .uns c => ⟨[], c, 17⟩
def SolvK (l : List Cl) (n : Int) : SolK → Prop
  | .bad => rightB l n = false
  | .sat vs => rightB l n = true ∧ firstL l n.toNat [] = some vs
  | .uns c => rightB l n = true ∧ firstL l n.toNat [] = none ∧ RefP l n c
theorem SolvK.s {l : List Cl} {n : Int} {k : SolK} (h : SolvK l n k) : SolveS l n k.y := by
  cases k with
  | bad =>
    have h : rightB l n = false := h
    exact ⟨fun _ => rfl, fun vs h1 => (by rw [h] at h1; cases h1), fun h1 => (by rw [h] at h1; cases h1)⟩
  | sat vs =>
    obtain ⟨h1, h2⟩ := h
    refine ⟨fun h => (by rw [h1] at h; cases h), fun vs' _ e => ?_, fun _ e => (by rw [h2] at e; cases e)⟩
    rw [h2] at e
    rw [Option.some.inj e]
    rfl
  | uns c =>
    obtain ⟨h1, h2, h3⟩ := h
    exact ⟨fun h => (by rw [h1] at h; cases h), fun vs' _ e => (by rw [h2] at e; cases e), fun _ _ => ⟨rfl, rfl, refB_iff.2 h3⟩⟩
theorem RetIs.so_v_i {v : Value} {k : IntKind} {c : Int} {e sz n n' : Nat} {get get' : Nat → List AV} {id nid : Nat} {O : List OE} (hg : getO id O = some ([], .row e sz n' get')) (hn : n' = n) (hget : ∀ k, k < n → get' k = get k) (hf : ∀ k, k < n → AV.freshs (get k) = true) :
    RetIs [.row e sz n get] (.tup [.so 0, .val v, .i k c]) (.tup [.so id, .val v, .i k c]) O nid := by
  subst hn
  refine ⟨[(0, id)], ⟨⟨⟨rfl, rfl, ?_⟩, trivial⟩, ⟨⟨rfl, rfl, trivial, ?_⟩, trivial⟩, rfl⟩, rfl, hf⟩
  · exact rfl
  · show (match AO.row e sz n' get, getO id O with
      | .dead, _ => True
      | o, some ([], o') => AOEq (o.ren (rn [(0, id)])) o'
      | _, _ => False)
    rw [hg]
    exact ⟨rfl, rfl, rfl, hget⟩
theorem RetIs.v_so_i {v : Value} {k : IntKind} {c : Int} {e sz n n' : Nat} {get get' : Nat → List AV} {id nid : Nat} {O : List OE} (hg : getO id O = some ([], .row e sz n' get')) (hn : n' = n) (hget : ∀ k, k < n → get' k = get k) (hf : ∀ k, k < n → AV.freshs (get k) = true) :
    RetIs [.row e sz n get] (.tup [.val v, .so 0, .i k c]) (.tup [.val v, .so id, .i k c]) O nid := by
  subst hn
  refine ⟨[(0, id)], ⟨⟨⟨rfl, rfl, ?_⟩, trivial⟩, ⟨⟨rfl, rfl, trivial, ?_⟩, trivial⟩, rfl⟩, rfl, hf⟩
  · exact rfl
  · show (match AO.row e sz n' get, getO id O with
      | .dead, _ => True
      | o, some ([], o') => AOEq (o.ren (rn [(0, id)])) o'
      | _, _ => False)
    rw [hg]
    exact ⟨rfl, rfl, rfl, hget⟩

theorem catPQ (p q : List Int) : ∀ j, j < (p ++ q).length → catG p.length (rowsI p) (rowsI q) j = rowsI (p ++ q) j := by
  intro j _
  unfold catG rowsI
  rw [getD_appX]
  split <;> rfl
set_option maxRecDepth 20000 in
set_option maxHeartbeats 4000000 in
theorem Solve_fn (l : List Cl) (hl : l.length < 2^62) (n : Int) :
    CtrM Try.prog 24 false [] [.rs 2 l.length (rowsC l), .i .i64 n] (SolvK l n) (fun _ => []) SolK.os SolK.av := by
  refine fn_of_execM tabOk Try.func24 (by kernel_rfl) rfl (N := Try.f24.ntmps) rfl (res := [.tmp 4, .tmp 5, .tmp 6]) rfl false true [] _ _ _ _ rfl (fun _ => rfl) [] ?_
  repeat refine Or.inl ?_
  refine ⟨_, _, Right_fn l hl n, ?_⟩
  repeat refine Or.inl ?_
  refine ⟨fun h => ?_, fun h => ?_⟩
  · have h : (!rightB l n) = true := h
    exact RetM.of SolK.bad (show rightB l n = false by simpa using h) ⟨[], ⟨⟨⟨rfl, rfl, AVEq.refl _⟩, trivial⟩, trivial, rfl⟩, rfl, trivial⟩
  have h : (!rightB l n) = false := h
  have hrt : rightB l n = true := by simpa using h
  have hR := rightB_iff.1 hrt
  obtain ⟨m, rfl⟩ := Int.eq_ofNat_of_zero_le hR.lo
  have hr : RightC (m : Nat) l := hR.cl
  have hm : m ≤ 400 := by have := hR.hi; omega
  have hr4 : RightC 400 l := fun c hc => by
    have := hr c hc
    omega
  have cf : Ctr Try.prog 72 [gM l, .i .i64 m, .val (.slice none 0 0)] (firstO (firstL l m [])) (firstR (firstL l m [])) :=
    Ctr.of_eq (args := [gM l, .i .i64 m, .rs 1 0 (rowsI [])]) ⟨AVEq.refl _, AVEq.refl _, ⟨rfl, rfl⟩⟩ (first_fn l m hr hm hR.len [] (by simp) (by simp))
  repeat refine Or.inl ?_
  refine ⟨_, _, graph_fn l hr4 hR.len, ?_⟩
  cases e : firstL l m [] with
  | some vs =>
    rw [e] at cf
    repeat refine Or.inl ?_
    refine ⟨_, _, cf, ?_⟩
    refine ⟨fun _ => ?_, fun h => (by cases h)⟩
    exact RetM.of (SolK.sat vs) ⟨hrt, by rw [Int.toNat_natCast]; exact e⟩ (RetIs.so_v_i rfl rfl (fun _ _ => rfl) (fun _ _ => rfl))
  | none =>
    rw [e] at cf
    repeat refine Or.inl ?_
    refine ⟨_, _, cf, ?_⟩
    refine ⟨fun h => (by cases h), fun _ => ?_⟩
    obtain ⟨v0, hv0, hb1, hb2⟩ := unsat_both hr (firstL_none.1 e)
    repeat refine Or.inl ?_
    refine ⟨[], Nat, fun k => k ≤ v0, fun k => [⟨28, [], .i .i64 k⟩], fun _ => [], fun k => v0 - k,
      ⟨0, [], Nat.zero_le _, rfl, rfl, rfl, rfl, rfl, ⟨rfl, rfl⟩, trivial⟩, ?_⟩
    rintro k hk
    refine .inl ⟨fun hc => ?_, fun hc => ?_⟩
    · have hc := dlt hc
      have w2 : IntKind.i64.wrap (2 * (k : Int)) = 2 * k := wr (by omega) (by omega)
      have w3 : IntKind.i64.wrap (IntKind.i64.wrap (2 * (k : Int)) + 1) = 2 * k + 1 := by rw [w2]; exact wr (by omega) (by omega)
      have hlt : PathR l (2 * (k : Int)) (2 * (k : Int) + 1) none → k + 1 ≤ v0 := fun hy => by
        have hk : k ≤ v0 := hk
        rcases Nat.lt_or_eq_of_le hk with h | h
        · exact h
        · subst h
          obtain ⟨p, hp⟩ := hy.some_of (by omega) hb1
          cases hp
      refine .inl (.inr (.inr ⟨false, [], rfl, _, _, _, _, _, path_fn l m hr hm hR.len (IntKind.i64.wrap (2 * (k : Int))) (IntKind.i64.wrap (IntKind.i64.wrap (2 * (k : Int)) + 1)) (by rw [w2]; omega), fun y hy => ?_⟩))
      rw [w3, w2] at hy
      cases y with
      | none =>
        refine .inr (.inr ⟨false, [], rfl, _, _, _, _, _, path_fn l m hr hm hR.len (IntKind.i64.wrap (IntKind.i64.wrap (2 * (k : Int)) + 1)) (IntKind.i64.wrap (2 * (k : Int))) (by rw [w3]; omega), fun z hz => ?_⟩)
        rw [w3, w2] at hz
        cases z with
        | none =>
          refine ⟨fun h => (by cases h), fun _ => ?_⟩
          exact ⟨k + 1, [], hlt hy, by have := hlt hy; dsimp only; omega, rfl, rfl, rfl, rfl, rfl, ⟨rfl, wr (by omega) (by omega)⟩, trivial⟩
        | some q =>
          refine fun c2 hc2 => ?_
          refine ⟨fun h => (by cases h), fun _ => ?_⟩
          exact ⟨k + 1, [], hlt hy, by have := hlt hy; dsimp only; omega, rfl, rfl, rfl, rfl, rfl, ⟨rfl, wr (by omega) (by omega)⟩, trivial⟩
      | some p =>
        refine .inr (.inr ⟨false, [], rfl, _, _, _, _, _, path_fn l m hr hm hR.len (IntKind.i64.wrap (IntKind.i64.wrap (2 * (k : Int)) + 1)) (IntKind.i64.wrap (2 * (k : Int))) (by rw [w3]; omega), fun z hz => ?_⟩)
        rw [w3, w2] at hz
        cases z with
        | none =>
          have hz : PathR l (2 * (k : Int) + 1) (2 * (k : Int)) none := hz
          have hlt2 : k + 1 ≤ v0 := by
            have hk : k ≤ v0 := hk
            rcases Nat.lt_or_eq_of_le hk with h | h
            · exact h
            · subst h
              obtain ⟨p, hp⟩ := hz.some_of (by omega) hb2
              cases hp
          refine fun c1 hc1 => ?_
          refine ⟨fun h => ?_, fun _ => ?_⟩
          · have h : ((c1 == false) && false) = true := h
            simp at h
          exact ⟨k + 1, [], hlt2, by dsimp only; omega, rfl, rfl, rfl, rfl, rfl, ⟨rfl, wr (by omega) (by omega)⟩, trivial⟩
        | some q =>
          have hy : PathOk l (2 * (k : Int)) (2 * (k : Int) + 1) p := hy
          have hz : PathOk l (2 * (k : Int) + 1) (2 * (k : Int)) q := hz
          refine fun c1 hc1 => ?_
          have e1 : c1 = false := by
            cases c1 with
            | false => rfl
            | true => have := hc1 rfl; have := hy.pos; omega
          subst e1
          refine fun c2 hc2 => ?_
          have e2 : c2 = false := by
            cases c2 with
            | false => rfl
            | true => have := hc2 rfl; have := hz.pos; omega
          subst e2
          refine ⟨fun _ => ?_, fun h => (by cases h)⟩
          have hp1 := hy.len hr
          have hq1 := hz.len hr
          refine ⟨fits (by omega), ?_⟩
          refine RetM.of (SolK.uns (p ++ q)) ⟨hrt, by rw [Int.toNat_natCast]; exact e, ?_⟩ (RetIs.v_so_i rfl (by simp) ?_ (fun _ _ => rfl))
          · have := ref_of_paths (l := l) (n := m) (a := 2 * (k : Int)) (p := p) (q := q) hr (by rw [opp_even]; exact hy) (by rw [opp_even]; exact hz)
            exact this
          · exact fun j hj => catPQ p q j hj
    · have hc := dnlt hc
      have hc : (m : Int) ≤ k := hc
      have hk : k ≤ v0 := hk
      omega
end Go.Proofs.Ytilhaifmfiobhaa
end

section
/-
  Follows.
-/
namespace Go.Proofs.Ytilhaifmfiobhaa
open Go.Eng

set_option maxRecDepth 20000 in
set_option maxHeartbeats 4000000 in
theorem Follows_fn (l : List Cl) (hl : l.length < 2^62) (n : Int) (lits : List Int) (hll : lits.length ≤ 100000) :
    Ctr Try.prog 23 [.rs 2 l.length (rowsC l), .i .i64 n, .rs 1 lits.length (rowsI lits)] [] (.b (followsB l n lits)) := by
  refine fn_of_exec tabOk Try.func23 (by kernel_rfl) rfl (N := Try.f23.ntmps) rfl (res := [.tmp 6]) rfl rfl [] ?_
  repeat refine Or.inl ?_
  refine ⟨_, _, Right_fn l hl n, ?_⟩
  repeat refine Or.inl ?_
  refine ⟨fun h => ?_, fun h => ?_⟩
  · have h : (!rightB l n) = true := h
    refine RetIs.b ?_
    unfold followsB
    rw [show rightB l n = false by simpa using h]
    rfl
  have h : (!rightB l n) = false := h
  have hrt : rightB l n = true := by simpa using h
  have hR := rightB_iff.1 hrt
  obtain ⟨m, rfl⟩ := Int.eq_ofNat_of_zero_le hR.lo
  have hr : RightC (m : Nat) l := hR.cl
  have hm : m ≤ 400 := by have := hR.hi; omega
  have hr4 : RightC 400 l := fun c hc => by
    have := hr c hc
    omega
  have step : ∀ k, k < lits.length → (lits.take (k + 1)).map opp = (lits.take k).map opp ++ [opp (lits.getD k 0)] := fun k hk => by
    rw [List.take_succ_eq_append_getElem hk, List.map_append]
    simp [List.getD, hk]
  have w2 : IntKind.i64.wrap (2 * (m : Int)) = 2 * m := wr (by omega) (by omega)
  repeat refine Or.inl ?_
  refine ⟨[(7, 3, 1)], Nat, fun k => k ≤ lits.length ∧ ∀ j, j < k → 0 ≤ lits.getD j 0 ∧ lits.getD j 0 < 2 * (m : Int), fun k => [⟨18, [], .i .i64 k⟩, ⟨7, [], .so 0⟩], fun k => [⟨0, [], .row 3 1 ((lits.take k).map opp).length (rowsI ((lits.take k).map opp))⟩], fun k => lits.length - k,
    ⟨0, [], ⟨Nat.zero_le _, fun j hj => by omega⟩, rfl, rfl, rfl, rfl, rfl, ⟨⟨rfl, rfl⟩, rfl⟩, ⟨rfl, rfl, rfl, fun j hj => by cases hj⟩⟩, ?_⟩
  rintro k ⟨hk, hok⟩
  refine .inl ⟨fun hc => ?_, fun hc => ?_⟩
  · have hc := dlt hc
    repeat refine Or.inl ?_
    refine ⟨⟨by omega, by omega⟩, ?_⟩
    have ek : (k : Int).toNat = k := Int.toNat_natCast k
    refine .inl ⟨fun h2 => RetIs.b ?_, fun h2 => ?_⟩
    · have h2 : (decide (lits.getD (k : Int).toNat 0 < 0) || decide (lits.getD (k : Int).toNat 0 ≥ IntKind.i64.wrap (2 * (m : Int)))) = true := h2
      rw [ek, w2, Bool.or_eq_true, decide_eq_true_eq, decide_eq_true_eq] at h2
      have e : okLits m lits = false := not_all 0 (j := k) (by omega) (by rw [Bool.and_eq_false_iff, decide_eq_false_iff_not, decide_eq_false_iff_not]; omega)
      unfold followsB
      rw [e, Bool.false_and, Bool.and_false]
    have h2 : (decide (lits.getD (k : Int).toNat 0 < 0) || decide (lits.getD (k : Int).toNat 0 ≥ IntKind.i64.wrap (2 * (m : Int)))) = false := h2
    rw [ek, w2, Bool.or_eq_false_iff, decide_eq_false_iff_not, decide_eq_false_iff_not] at h2
    refine ⟨fits (by simp only [List.length_map, List.length_take]; omega), ?_⟩
    refine ⟨k + 1, [(0, 2)], ⟨by omega, fun j hj => ?_⟩, by dsimp only; omega, rfl, rfl, rfl, rfl, rfl, ⟨⟨rfl, wr (by omega) (by omega)⟩, rfl⟩, snocZ_row _ _ ?_⟩
    · by_cases h : j < k
      · exact hok j h
      · obtain rfl : j = k := by omega
        omega
    · rw [ek, step k (by omega), bits_opp (by omega) (by omega)]
  · have hc := dnlt hc
    have hk2 : lits.take k = lits := List.take_of_length_le (by omega)
    have hin : ∀ x ∈ lits, 0 ≤ x ∧ x < 2 * (m : Int) := fun x hx => by
      obtain ⟨j, hj, rfl⟩ := mem_getDX hx
      exact hok j (by omega)
    have ho : okLits m lits = true := okLits_iff.2 hin
    have hop : ∀ x ∈ lits.map opp, 0 ≤ x ∧ x < 2 * (m : Int) := fun x hx => by
      obtain ⟨y, hy, rfl⟩ := List.mem_map.1 hx
      exact opp_in (hin y hy)
    rw [hk2]
    have cf := first_fn l m hr hm hR.len (lits.map opp) hop (by rw [List.length_map]; omega)
    refine .inl ⟨_, _, graph_fn l hr4 hR.len, ?_⟩
    cases e : firstL l m (lits.map opp) with
    | some vs =>
      rw [e] at cf
      refine .inl ⟨_, _, cf, ?_⟩
      refine RetIs.b ?_
      unfold followsB
      rw [Int.toNat_natCast, e]
      simp
    | none =>
      rw [e] at cf
      refine .inl ⟨_, _, cf, ?_⟩
      refine RetIs.b ?_
      unfold followsB
      rw [Int.toNat_natCast, e, hrt, ho]
      rfl
end Go.Proofs.Ytilhaifmfiobhaa
end

section
/-
  Small functions: lists alike, opposites, what is implied, the assignment with a number.
-/
namespace Go.Proofs.Ytilhaifmfiobhaa
open Go.Eng

/-- Equality of two lists, looked through from the front. -/
def eqUpto {α : Type} (d : α) (a b : List α) (k : Nat) : Prop := ∀ j, j < k → a.getD j d = b.getD j d
theorem eqUpto_all {α : Type} {d : α} {a b : List α} (hl : a.length = b.length) (h : eqUpto d a b a.length) : a = b := by
  refine List.ext_getElem hl fun j h1 h2 => ?_
  have := h j h1
  simp only [List.getD, List.getElem?_eq_getElem h1, List.getElem?_eq_getElem h2, Option.getD_some] at this
  exact this

set_option maxRecDepth 20000 in
theorem ints26_fn (a b : List Int) (ha : a.length < 2^62) (hb : b.length < 2^62) : Ctr Try.prog 26 [.rs 1 a.length (rowsI a), .rs 1 b.length (rowsI b)] [] (.b (decide (a = b))) := by
  refine fn_of_exec tabOk Try.func26 (by kernel_rfl) rfl (N := Try.f26.ntmps) rfl (res := [.tmp 4]) rfl rfl [] ?_
  refine .inl ⟨fun h => ?_, fun h => ?_⟩
  · refine RetIs.b ?_
    have h : ((a.length : Int) != b.length) = true := h
    simp at h
    simp
    intro he
    exact h (by rw [he])
  have h : ((a.length : Int) != b.length) = false := h
  simp at h
  have hl : a.length = b.length := by omega
  refine .inl ⟨[], Nat, fun k => k ≤ a.length ∧ eqUpto 0 a b k, fun k => [⟨5, [], .i .i64 k⟩], fun _ => [], fun k => a.length - k,
    ⟨0, [], ⟨Nat.zero_le _, fun j hj => by omega⟩, rfl, rfl, rfl, rfl, rfl, ⟨rfl, rfl⟩, trivial⟩, ?_⟩
  rintro k ⟨hk, he⟩
  refine .inl ⟨fun hc => ?_, fun hc => ?_⟩
  · have hc := dlt hc
    refine .inl ⟨⟨by omega, by omega⟩, ⟨by omega, by omega⟩, ⟨fun h2 => ?_, fun h2 => ?_⟩⟩
    · refine RetIs.b ?_
      have h2 : (a.getD (k : Int).toNat 0 != b.getD (k : Int).toNat 0) = true := h2
      rw [Int.toNat_natCast] at h2
      simp only [bne_iff_ne] at h2
      symm
      rw [decide_eq_false_iff_not]
      rintro rfl
      exact h2 rfl
    · have h2 : (a.getD (k : Int).toNat 0 != b.getD (k : Int).toNat 0) = false := h2
      rw [Int.toNat_natCast] at h2
      have h3 : a.getD k 0 = b.getD k 0 := by simpa using h2
      refine ⟨k + 1, [], ⟨by omega, fun j hj => ?_⟩, by dsimp only; omega, rfl, rfl, rfl, rfl, rfl, ⟨rfl, wr (by omega) (by omega)⟩, trivial⟩
      by_cases hjk : j = k
      · rw [hjk]; exact h3
      · exact he j (by omega)
  · have hc := dnlt hc
    refine RetIs.b ?_
    have hk2 : k = a.length := by omega
    subst hk2
    simp [eqUpto_all hl he]

set_option maxRecDepth 20000 in
theorem ints43_fn (a b : List Int) (ha : a.length < 2^62) (hb : b.length < 2^62) : Ctr Try.prog 43 [.rs 1 a.length (rowsI a), .rs 1 b.length (rowsI b)] [] (.b (decide (a = b))) := by
  refine fn_of_exec tabOk Try.func43 (by kernel_rfl) rfl (N := Try.f43.ntmps) rfl (res := [.tmp 4]) rfl rfl [] ?_
  refine .inl ⟨fun h => ?_, fun h => ?_⟩
  · refine RetIs.b ?_
    have h : ((a.length : Int) != b.length) = true := h
    simp at h
    simp
    intro he
    exact h (by rw [he])
  have h : ((a.length : Int) != b.length) = false := h
  simp at h
  have hl : a.length = b.length := by omega
  refine .inl ⟨[], Nat, fun k => k ≤ a.length ∧ eqUpto 0 a b k, fun k => [⟨5, [], .i .i64 k⟩], fun _ => [], fun k => a.length - k,
    ⟨0, [], ⟨Nat.zero_le _, fun j hj => by omega⟩, rfl, rfl, rfl, rfl, rfl, ⟨rfl, rfl⟩, trivial⟩, ?_⟩
  rintro k ⟨hk, he⟩
  refine .inl ⟨fun hc => ?_, fun hc => ?_⟩
  · have hc := dlt hc
    refine .inl ⟨⟨by omega, by omega⟩, ⟨by omega, by omega⟩, ⟨fun h2 => ?_, fun h2 => ?_⟩⟩
    · refine RetIs.b ?_
      have h2 : (a.getD (k : Int).toNat 0 != b.getD (k : Int).toNat 0) = true := h2
      rw [Int.toNat_natCast] at h2
      simp only [bne_iff_ne] at h2
      symm
      rw [decide_eq_false_iff_not]
      rintro rfl
      exact h2 rfl
    · have h2 : (a.getD (k : Int).toNat 0 != b.getD (k : Int).toNat 0) = false := h2
      rw [Int.toNat_natCast] at h2
      have h3 : a.getD k 0 = b.getD k 0 := by simpa using h2
      refine ⟨k + 1, [], ⟨by omega, fun j hj => ?_⟩, by dsimp only; omega, rfl, rfl, rfl, rfl, rfl, ⟨rfl, wr (by omega) (by omega)⟩, trivial⟩
      by_cases hjk : j = k
      · rw [hjk]; exact h3
      · exact he j (by omega)
  · have hc := dnlt hc
    refine RetIs.b ?_
    have hk2 : k = a.length := by omega
    subst hk2
    simp [eqUpto_all hl he]

set_option maxRecDepth 20000 in
theorem ints57_fn (a b : List Int) (ha : a.length < 2^62) (hb : b.length < 2^62) : Ctr Try.prog 57 [.rs 1 a.length (rowsI a), .rs 1 b.length (rowsI b)] [] (.b (decide (a = b))) := by
  refine fn_of_exec tabOk Try.func57 (by kernel_rfl) rfl (N := Try.f57.ntmps) rfl (res := [.tmp 4]) rfl rfl [] ?_
  refine .inl ⟨fun h => ?_, fun h => ?_⟩
  · refine RetIs.b ?_
    have h : ((a.length : Int) != b.length) = true := h
    simp at h
    simp
    intro he
    exact h (by rw [he])
  have h : ((a.length : Int) != b.length) = false := h
  simp at h
  have hl : a.length = b.length := by omega
  refine .inl ⟨[], Nat, fun k => k ≤ a.length ∧ eqUpto 0 a b k, fun k => [⟨5, [], .i .i64 k⟩], fun _ => [], fun k => a.length - k,
    ⟨0, [], ⟨Nat.zero_le _, fun j hj => by omega⟩, rfl, rfl, rfl, rfl, rfl, ⟨rfl, rfl⟩, trivial⟩, ?_⟩
  rintro k ⟨hk, he⟩
  refine .inl ⟨fun hc => ?_, fun hc => ?_⟩
  · have hc := dlt hc
    refine .inl ⟨⟨by omega, by omega⟩, ⟨by omega, by omega⟩, ⟨fun h2 => ?_, fun h2 => ?_⟩⟩
    · refine RetIs.b ?_
      have h2 : (a.getD (k : Int).toNat 0 != b.getD (k : Int).toNat 0) = true := h2
      rw [Int.toNat_natCast] at h2
      simp only [bne_iff_ne] at h2
      symm
      rw [decide_eq_false_iff_not]
      rintro rfl
      exact h2 rfl
    · have h2 : (a.getD (k : Int).toNat 0 != b.getD (k : Int).toNat 0) = false := h2
      rw [Int.toNat_natCast] at h2
      have h3 : a.getD k 0 = b.getD k 0 := by simpa using h2
      refine ⟨k + 1, [], ⟨by omega, fun j hj => ?_⟩, by dsimp only; omega, rfl, rfl, rfl, rfl, rfl, ⟨rfl, wr (by omega) (by omega)⟩, trivial⟩
      by_cases hjk : j = k
      · rw [hjk]; exact h3
      · exact he j (by omega)
  · have hc := dnlt hc
    refine RetIs.b ?_
    have hk2 : k = a.length := by omega
    subst hk2
    simp [eqUpto_all hl he]

set_option maxRecDepth 20000 in
theorem bools_fn (a b : List Bool) (ha : a.length < 2^62) (hb : b.length < 2^62) : Ctr Try.prog 35 [.rs 1 a.length (rowsB a), .rs 1 b.length (rowsB b)] [] (.b (decide (a = b))) := by
  refine fn_of_exec tabOk Try.func35 (by kernel_rfl) rfl (N := Try.f35.ntmps) rfl (res := [.tmp 4]) rfl rfl [] ?_
  refine .inl ⟨fun h => ?_, fun h => ?_⟩
  · refine RetIs.b ?_
    have h : ((a.length : Int) != b.length) = true := h
    simp at h
    simp
    intro he
    exact h (by rw [he])
  have h : ((a.length : Int) != b.length) = false := h
  simp at h
  have hl : a.length = b.length := by omega
  refine .inl ⟨[], Nat, fun k => k ≤ a.length ∧ eqUpto false a b k, fun k => [⟨5, [], .i .i64 k⟩], fun _ => [], fun k => a.length - k,
    ⟨0, [], ⟨Nat.zero_le _, fun j hj => by omega⟩, rfl, rfl, rfl, rfl, rfl, ⟨rfl, rfl⟩, trivial⟩, ?_⟩
  rintro k ⟨hk, he⟩
  refine .inl ⟨fun hc => ?_, fun hc => ?_⟩
  · have hc := dlt hc
    refine .inl ⟨⟨by omega, by omega⟩, ⟨by omega, by omega⟩, ⟨fun h2 => ?_, fun h2 => ?_⟩⟩
    · refine RetIs.b ?_
      have h2 : (a.getD (k : Int).toNat false != b.getD (k : Int).toNat false) = true := h2
      rw [Int.toNat_natCast] at h2
      simp only [bne_iff_ne] at h2
      symm
      rw [decide_eq_false_iff_not]
      rintro rfl
      exact h2 rfl
    · have h2 : (a.getD (k : Int).toNat false != b.getD (k : Int).toNat false) = false := h2
      rw [Int.toNat_natCast] at h2
      have h3 : a.getD k false = b.getD k false := by simpa using h2
      refine ⟨k + 1, [], ⟨by omega, fun j hj => ?_⟩, by dsimp only; omega, rfl, rfl, rfl, rfl, rfl, ⟨rfl, wr (by omega) (by omega)⟩, trivial⟩
      by_cases hjk : j = k
      · rw [hjk]; exact h3
      · exact he j (by omega)
  · have hc := dnlt hc
    refine RetIs.b ?_
    have hk2 : k = a.length := by omega
    subst hk2
    simp [eqUpto_all hl he]

set_option maxRecDepth 20000 in
theorem opposite_fn (x : Int) (h0 : 0 ≤ x) (h1 : x < 1000000) : Ctr Try.prog 81 [.i .i64 x] [] (.i .i64 (opp x)) := by
  refine fn_of_exec tabOk Try.func81 (by kernel_rfl) rfl (N := Try.f81.ntmps) rfl (res := [.tmp 2]) rfl rfl [] ?_
  repeat refine Or.inl ?_
  refine ⟨by decide, ⟨fun h => RetIs.i ?_, fun h => RetIs.i ?_⟩⟩
  · have h : (x.tmod 2 == 0) = true := h
    rw [Int.tmod_eq_emod_of_nonneg h0, beq_iff_eq] at h
    rw [show IntKind.i64.wrap (x + 1) = x + 1 from wr (by omega) (by omega)]
    unfold opp
    omega
  · have h : (x.tmod 2 == 0) = false := h
    rw [Int.tmod_eq_emod_of_nonneg h0, beq_eq_false_iff_ne] at h
    rw [show IntKind.i64.wrap (x - 1) = x - 1 from wr (by omega) (by omega)]
    unfold opp
    omega

theorem hasN_succ (l : List Cl) (x y : Int) : hasN (succL l x) y = l.any fun c => (c.a == opp x && c.b == y) || (c.b == opp x && c.a == y) := by
  rw [Bool.eq_iff_iff, hasN_iff, List.any_eq_true]
  have := @Ed_iff l x y
  unfold Ed at this
  rw [this]
  refine exists_congr fun c => and_congr_right fun _ => ?_
  simp only [Bool.or_eq_true, Bool.and_eq_true, beq_iff_eq]
  rw [opp_iff, opp_iff]
  exact or_congr (and_congr_right fun _ => eq_comm) (and_congr_right fun _ => eq_comm)
theorem not_any {α : Type} (d : α) {p : α → Bool} {l : List α} (h : ∀ j, j < l.length → p (l.getD j d) = false) : l.any p = false := by
  rw [List.any_eq_false]
  intro x hx
  obtain ⟨j, hj, rfl⟩ := List.getElem_of_mem hx
  have := h j hj
  rw [gdX hj] at this
  rw [this]
  simp
set_option maxRecDepth 20000 in
set_option maxHeartbeats 1000000 in
theorem implies_fn (l : List Cl) (hl : l.length < 2^62) (x y : Int) (h0 : 0 ≤ x) (h1 : x < 1000000) : Ctr Try.prog 80 [.rs 2 l.length (rowsC l), .i .i64 x, .i .i64 y] [] (.b (hasN (succL l x) y)) := by
  refine fn_of_exec tabOk Try.func80 (by kernel_rfl) rfl (N := Try.f80.ntmps) rfl (res := [.tmp 6]) rfl rfl [] ?_
  rw [hasN_succ]
  repeat refine Or.inl ?_
  refine ⟨[], Nat, fun k => k ≤ l.length ∧ ∀ j, j < k → (((l.getD j dC).a == opp x && (l.getD j dC).b == y) || ((l.getD j dC).b == opp x && (l.getD j dC).a == y)) = false, fun k => [⟨7, [], .i .i64 k⟩], fun _ => [], fun k => l.length - k,
    ⟨0, [], ⟨Nat.zero_le _, fun j hj => by omega⟩, rfl, rfl, rfl, rfl, rfl, ⟨rfl, rfl⟩, trivial⟩, ?_⟩
  rintro k ⟨hk, hno⟩
  refine .inl ⟨fun hc => ?_, fun hc => ?_⟩
  · have hc := dlt hc
    have ek : (k : Int).toNat = k := Int.toNat_natCast k
    repeat refine Or.inl ?_
    refine ⟨⟨by omega, by omega⟩, ?_⟩
    repeat refine Or.inl ?_
    refine ⟨[], _, opposite_fn x h0 h1, fun _ => ⟨by omega, by omega⟩, fun _ => ⟨by omega, by omega⟩, ?_⟩
    repeat refine Or.inl ?_
    refine ⟨[], _, fun _ => opposite_fn x h0 h1, fun _ => ⟨by omega, by omega⟩, ⟨fun h3 => RetIs.b ?_, fun h3 => ?_⟩⟩
    · have h3 : (((l.getD (k : Int).toNat dC).a == opp x && (l.getD (k : Int).toNat dC).b == y) || ((l.getD (k : Int).toNat dC).b == opp x && (l.getD (k : Int).toNat dC).a == y)) = true := h3
      rw [ek] at h3
      symm
      rw [List.any_eq_true]
      exact ⟨l.getD k dC, getD_memA dC (by omega), h3⟩
    · have h3 : (((l.getD (k : Int).toNat dC).a == opp x && (l.getD (k : Int).toNat dC).b == y) || ((l.getD (k : Int).toNat dC).b == opp x && (l.getD (k : Int).toNat dC).a == y)) = false := h3
      rw [ek] at h3
      refine ⟨k + 1, [], ⟨by omega, fun j hj => ?_⟩, by dsimp only; omega, rfl, rfl, rfl, rfl, rfl, ⟨rfl, wr (by omega) (by omega)⟩, trivial⟩
      by_cases hjk : j = k
      · rw [hjk]; exact h3
      · exact hno j (by omega)
  · have hc := dnlt hc
    obtain rfl : k = l.length := by omega
    exact RetIs.b (not_any dC hno).symm

theorem after_bit : ∀ (n k j : Nat), j < n → (after n k).getD j false = decide (k / 2 ^ (n - 1 - j) % 2 = 1)
  | 0, _, _, h => by omega
  | n + 1, k, j, h => by
    unfold after
    rw [getD_snoc', after_len]
    by_cases hj : j < n
    · rw [if_pos hj, after_bit n (k / 2) j hj, Nat.div_div_eq_div_mul]
      have : 2 * 2 ^ (n - 1 - j) = 2 ^ (n + 1 - 1 - j) := by rw [show n + 1 - 1 - j = (n - 1 - j) + 1 by omega, Nat.pow_succ, Nat.mul_comm]
      rw [this]
    · obtain rfl : j = n := by omega
      rw [if_neg hj, if_pos rfl]
      simp
/-- The values behind m steps. -/
def afterG (n k m j : Nat) : Bool := decide (n - m ≤ j) && (after n k).getD j false
set_option maxRecDepth 20000 in
set_option maxHeartbeats 1000000 in
theorem after_fn (n k : Nat) (hn : n ≤ 400) (hk : k < 2 ^ 62) : Ctr Try.prog 82 [.i .i64 n, .i .i64 k] [.row 4 1 (after n k).length (rowsB (after n k))] (.so 0) := by
  refine fn_of_exec tabOk Try.func82 (by kernel_rfl) rfl (N := Try.f82.ntmps) rfl (res := [.tmp 4]) rfl rfl [] ?_
  refine ⟨⟨rfl, by omega, by rw [Int.toNat_natCast]; show 1 * n ≤ _; omega⟩, ?_⟩
  repeat refine Or.inl ?_
  refine ⟨[], Nat, fun m => m ≤ n, fun m => [⟨6, [], .i .i64 ((n : Int) - 1 - m)⟩, ⟨1, [], .i .i64 ((k / 2 ^ m : Nat) : Int)⟩], fun m => [⟨0, [], .row 4 1 n fun j => [.b (afterG n k m j)]⟩], fun m => n - m,
    ⟨0, [], Nat.zero_le _, rfl, rfl, rfl, rfl, rfl, ⟨⟨rfl, ?_⟩, ⟨rfl, ?_⟩⟩, ⟨rfl, rfl, ?_, fun j hj => ?_⟩⟩, ?_⟩
  · rw [wr (by omega) (by omega)]
    omega
  · simp
  · omega
  · show [AV.b false] = [AV.b (afterG n k 0 j)]
    unfold afterG
    rw [decide_eq_false (by omega)]
    rfl
  rintro m hm
  have hm : m ≤ n := hm
  have hq : k / 2 ^ m < 2 ^ 62 := Nat.lt_of_le_of_lt (Nat.div_le_self _ _) hk
  refine .inl ⟨fun hc => ?_, fun hc => ?_⟩
  · have hc : decide ((n : Int) - 1 - m ≥ 0) = true := hc
    rw [decide_eq_true_eq] at hc
    have hmn : m < n := by omega
    repeat refine Or.inl ?_
    refine ⟨by decide, ⟨⟨by omega, by omega⟩, by omega, ?_⟩⟩
    repeat refine Or.inl ?_
    refine ⟨by decide, ?_⟩
    refine ⟨m + 1, [], hmn, by dsimp only; omega, rfl, rfl, rfl, rfl, rfl, ⟨⟨rfl, ?_⟩, ⟨rfl, ?_⟩⟩, ⟨rfl, rfl, rfl, fun j hj => ?_⟩⟩
    · rw [wr (by omega) (by omega)]
      omega
    · show IntKind.i64.wrap (((k / 2 ^ m : Nat) : Int).tdiv 2) = ((k / 2 ^ (m + 1) : Nat) : Int)
      rw [Nat.pow_succ, ← Nat.div_div_eq_div_mul]
      generalize k / 2 ^ m = q at hq ⊢
      rw [Int.tdiv_eq_ediv_of_nonneg (by omega), wr (by omega) (by omega)]
      omega
    · show (if j = ((n : Int) - 1 - m).toNat then Go.Eng.over 0 [AV.b (((k / 2 ^ m : Nat) : Int).tmod 2 == 1)] [AV.b (afterG n k m j)] else [AV.b (afterG n k m j)]) = [AV.b (afterG n k (m + 1) j)]
      by_cases h : j = ((n : Int) - 1 - m).toNat
      · rw [if_pos h]
        have hb := after_bit n k j (by omega)
        rw [show n - 1 - j = m by omega] at hb
        unfold afterG
        rw [hb, decide_eq_true (show n - (m + 1) ≤ j by omega), Bool.true_and]
        generalize k / 2 ^ m = q
        rw [Int.tmod_eq_emod_of_nonneg (by omega)]
        have : ((q : Int) % 2 == 1) = decide (q % 2 = 1) := by
          rw [Bool.eq_iff_iff, beq_iff_eq, decide_eq_true_eq]
          omega
        rw [this]
        rfl
      · rw [if_neg h]
        unfold afterG
        have : decide (n - (m + 1) ≤ j) = decide (n - m ≤ j) := by rw [Bool.eq_iff_iff, decide_eq_true_eq, decide_eq_true_eq]; omega
        rw [this]
  · have hc : decide ((n : Int) - 1 - m ≥ 0) = false := hc
    rw [decide_eq_false_iff_not] at hc
    obtain rfl : m = n := by omega
    refine RetIs.so rfl (after_len m k).symm (fun j _ => ?_) (fun _ _ => rfl)
    show [AV.b (afterG m k m j)] = [AV.b ((after m k).getD j false)]
    unfold afterG
    rw [decide_eq_true (by omega), Bool.true_and]
end Go.Proofs.Ytilhaifmfiobhaa
end

section
/-
  First, Follows and Forced of the reference; Forced.
-/
namespace Go.Proofs.Ytilhaifmfiobhaa
open Go.Eng

theorem shl_one {n : Nat} (hn : n ≤ 20) : IntKind.i64.wrap (1 * 2 ^ (min (n : Int).toNat IntKind.i64.bits)) = ((2 ^ n : Nat) : Int) := by
  have h1 : min (n : Int).toNat IntKind.i64.bits = n := by
    rw [Int.toNat_natCast]
    exact Nat.min_eq_left (by show n ≤ 64; omega)
  have h2 : (2 : Nat) ^ n ≤ 2 ^ 20 := Nat.pow_le_pow_right (by decide) hn
  rw [h1, Int.one_mul]
  have h3 : (2 : Int) ^ n = ((2 ^ n : Nat) : Int) := by simp
  rw [h3]
  generalize 2 ^ n = q at h2 ⊢
  exact wr (by omega) (by omega)
theorem check_good {l : List Cl} {n : Nat} (h : RightP l n) {k : Nat} : checkB l n (after n k) = true ↔ Good l n [] (after n k) := by
  rw [checkB_iff, Int.toNat_natCast]
  exact ⟨fun h => h.2, fun g => ⟨h, g⟩⟩

set_option maxRecDepth 20000 in
set_option maxHeartbeats 1000000 in
theorem rFirst_fn (l : List Cl) (hl : l.length < 2^62) (n : Nat) (h : RightP l n) (hn : n ≤ 20) : Ctr Try.prog 33 [.rs 2 l.length (rowsC l), .i .i64 n] (firstO (firstL l n [])) (firstR (firstL l n [])) := by
  refine fn_of_exec tabOk Try.func33 (by kernel_rfl) rfl (N := Try.f33.ntmps) rfl (res := [.tmp 4, .tmp 5]) rfl rfl [] ?_
  have hs := shl_one hn
  have h2 : (2 : Nat) ^ n ≤ 2 ^ 20 := Nat.pow_le_pow_right (by decide) hn
  repeat refine Or.inl ?_
  refine ⟨[], Nat, fun k => k ≤ 2 ^ n ∧ ∀ j, j < k → ¬ Good l n [] (after n j), fun k => [⟨6, [], .i .i64 k⟩], fun _ => [], fun k => 2 ^ n - k,
    ⟨0, [], ⟨Nat.zero_le _, fun j hj => by omega⟩, rfl, rfl, rfl, rfl, rfl, ⟨rfl, rfl⟩, trivial⟩, ?_⟩
  rintro k ⟨hk, hno⟩
  refine .inl ⟨by omega, ⟨fun hc => ?_, fun hc => ?_⟩⟩
  · have hc := dlt hc
    rw [hs] at hc
    have hc : (k : Int) < ((2 ^ n : Nat) : Int) := hc
    repeat refine Or.inl ?_
    refine ⟨_, _, after_fn n k (by omega) (by omega), ?_⟩
    repeat refine Or.inl ?_
    refine ⟨[], _, rCheck_fn l hl n (after n k) (by rw [after_len]; omega), ?_⟩
    refine ⟨fun h3 => ?_, fun h3 => ?_⟩
    · have h3 : checkB l n (after n k) = true := h3
      have e : firstL l n [] = some (after n k) := first_of_least (by omega) ((check_good h).1 h3) hno
      rw [e]
      exact RetIs.sob rfl rfl (fun _ _ => rfl) (fun _ _ => rfl) rfl
    · have h3 : checkB l n (after n k) = false := h3
      refine ⟨k + 1, [], ⟨by omega, fun j hj => ?_⟩, by dsimp only; omega, rfl, rfl, rfl, rfl, rfl, ⟨rfl, wr (by omega) (by omega)⟩, trivial⟩
      by_cases hjk : j = k
      · subst hjk
        intro g
        rw [(check_good h).2 g] at h3
        cases h3
      · exact hno j (by omega)
  · have hc := dnlt hc
    rw [hs] at hc
    have hc : ((2 ^ n : Nat) : Int) ≤ (k : Int) := hc
    have e : firstL l n [] = none := none_of_all fun j hj => hno j (by omega)
    rw [e]
    exact ⟨⟨[], ⟨⟨⟨rfl, rfl, AVEq.refl _⟩, trivial⟩, trivial, rfl⟩, rfl, trivial⟩⟩

theorem any_upto_succ {α : Type} (d : α) (p : α → Bool) (l : List α) (k : Nat) (h : k < l.length) : (l.take (k + 1)).any p = ((l.take k).any p || p (l.getD k d)) := by
  rw [List.take_succ_eq_append_getElem h, List.any_append]
  simp [List.getD, h]
set_option maxRecDepth 20000 in
set_option maxHeartbeats 1000000 in
theorem rFollows_fn (l : List Cl) (hl : l.length < 2^62) (n : Int) (hn : rightB l n = true → n ≤ 20) (lits : List Int) (hll : lits.length < 2^62) :
    Ctr Try.prog 32 [.rs 2 l.length (rowsC l), .i .i64 n, .rs 1 lits.length (rowsI lits)] [] (.b (followsB l n lits)) := by
  refine fn_of_exec tabOk Try.func32 (by kernel_rfl) rfl (N := Try.f32.ntmps) rfl (res := [.tmp 6]) rfl rfl [] ?_
  repeat refine Or.inl ?_
  refine ⟨[], _, rRight_fn l hl n, ?_⟩
  repeat refine Or.inl ?_
  refine ⟨fun h => ?_, fun h => ?_⟩
  · have h : (!rightB l n) = true := h
    refine RetIs.b ?_
    unfold followsB
    rw [show rightB l n = false by simpa using h]
    rfl
  have h : (!rightB l n) = false := h
  have hrt : rightB l n = true := by simpa using h
  have hR := rightB_iff.1 hrt
  have hn := hn hrt
  obtain ⟨m, rfl⟩ := Int.eq_ofNat_of_zero_le hR.lo
  have hs := shl_one (n := m) (by omega)
  have hm20 : (2 : Nat) ^ m ≤ 2 ^ 20 := Nat.pow_le_pow_right (by decide) (by omega)
  have w2 : IntKind.i64.wrap (2 * (m : Int)) = 2 * m := wr (by omega) (by omega)
  repeat refine Or.inl ?_
  refine ⟨[], Nat, fun k => k ≤ lits.length ∧ ∀ j, j < k → 0 ≤ lits.getD j 0 ∧ lits.getD j 0 < 2 * (m : Int), fun k => [⟨7, [], .i .i64 k⟩], fun _ => [], fun k => lits.length - k,
    ⟨0, [], ⟨Nat.zero_le _, fun j hj => by omega⟩, rfl, rfl, rfl, rfl, rfl, ⟨rfl, rfl⟩, trivial⟩, ?_⟩
  rintro k ⟨hk, hok⟩
  refine .inl ⟨fun hc => ?_, fun hc => ?_⟩
  · have hc := dlt hc
    have ek : (k : Int).toNat = k := Int.toNat_natCast k
    repeat refine Or.inl ?_
    refine ⟨⟨by omega, by omega⟩, fun _ => ⟨by omega, by omega⟩, ⟨fun h2 => RetIs.b ?_, fun h2 => ?_⟩⟩
    · have h2 : (decide (lits.getD (k : Int).toNat 0 < 0) || decide (lits.getD (k : Int).toNat 0 ≥ IntKind.i64.wrap (2 * (m : Int)))) = true := h2
      rw [ek, w2, Bool.or_eq_true, decide_eq_true_eq, decide_eq_true_eq] at h2
      have e : okLits m lits = false := not_all 0 (j := k) (by omega) (by rw [Bool.and_eq_false_iff, decide_eq_false_iff_not, decide_eq_false_iff_not]; omega)
      unfold followsB
      rw [e, Bool.false_and, Bool.and_false]
    have h2 : (decide (lits.getD (k : Int).toNat 0 < 0) || decide (lits.getD (k : Int).toNat 0 ≥ IntKind.i64.wrap (2 * (m : Int)))) = false := h2
    rw [ek, w2, Bool.or_eq_false_iff, decide_eq_false_iff_not, decide_eq_false_iff_not] at h2
    refine ⟨k + 1, [], ⟨by omega, fun j hj => ?_⟩, by dsimp only; omega, rfl, rfl, rfl, rfl, rfl, ⟨rfl, wr (by omega) (by omega)⟩, trivial⟩
    by_cases h : j = k
    · subst h
      omega
    · exact hok j (by omega)
  have hc := dnlt hc
  have hin : ∀ x ∈ lits, 0 ≤ x ∧ x < 2 * (m : Int) := fun x hx => by
    obtain ⟨j, hj, rfl⟩ := mem_getDX hx
    exact hok j (by omega)
  repeat refine Or.inl ?_
  refine ⟨[], Nat, fun k => k ≤ 2 ^ m ∧ ∀ j, j < k → Good l m [] (after m j) → ∃ x ∈ lits, tv (after m j) x = true, fun k => [⟨8, [], .i .i64 k⟩], fun _ => [], fun k => 2 ^ m - k,
    ⟨0, [], ⟨Nat.zero_le _, fun j hj => by omega⟩, rfl, rfl, rfl, rfl, rfl, ⟨rfl, rfl⟩, trivial⟩, ?_⟩
  rintro k ⟨hk, hno⟩
  refine .inl ⟨by omega, ⟨fun hc => ?_, fun hc => ?_⟩⟩
  · have hc := dlt hc
    rw [hs] at hc
    have hc : (k : Int) < ((2 ^ m : Nat) : Int) := hc
    have hal := after_len m k
    repeat refine Or.inl ?_
    refine ⟨_, _, after_fn m k (by omega) (by omega), ?_⟩
    repeat refine Or.inl ?_
    refine ⟨[], _, rCheck_fn l hl m (after m k) (by rw [after_len]; omega), ?_⟩
    repeat refine Or.inl ?_
    refine ⟨[], Nat, fun i => i ≤ lits.length, fun i => [⟨11, [], .i .i64 i⟩, ⟨10, [], .b (!checkB l m (after m k) || (lits.take i).any (tv (after m k)))⟩], fun _ => [], fun i => lits.length - i,
      ⟨0, [], Nat.zero_le _, rfl, rfl, rfl, rfl, rfl, ⟨⟨rfl, rfl⟩, show (!checkB l m (after m k)) = (!checkB l m (after m k) || (lits.take 0).any (tv (after m k))) from by simp⟩, trivial⟩, ?_⟩
    intro i hi
    have hi : i ≤ lits.length := hi
    refine .inl ⟨fun hc2 => ?_, fun hc2 => ?_⟩
    · have hc2 := dlt hc2
      have hx := hin _ (getD_memX (l := lits) (k := (i : Int).toNat) (by omega))
      repeat refine Or.inl ?_
      refine ⟨fun _ => ⟨by omega, by omega⟩, ?_⟩
      repeat refine Or.inl ?_
      refine ⟨[], _, fun _ => rTrue_fn (after m k) (by omega) _ hx.1 (by omega), ?_⟩
      refine ⟨i + 1, [], by omega, by dsimp only; omega, rfl, rfl, rfl, rfl, rfl, ⟨⟨rfl, wr (by omega) (by omega)⟩, ?_⟩, trivial⟩
      rw [any_upto_succ 0 _ _ _ (by omega), ← Bool.or_assoc]
      rfl
    · have hc2 := dnlt hc2
      have e : lits.take i = lits := List.take_of_length_le (by omega)
      rw [e]
      repeat refine Or.inl ?_
      refine ⟨fun h3 => RetIs.b ?_, fun h3 => ?_⟩
      · have h3 : (!(!checkB l m (after m k) || lits.any (tv (after m k)))) = true := h3
        rw [Bool.not_eq_true', Bool.or_eq_false_iff, Bool.not_eq_false', List.any_eq_false] at h3
        symm
        rw [Bool.eq_false_iff]
        intro hf
        obtain ⟨x, hx, ht⟩ := (followsB_iff.1 hf).2.2 (after m k) ((check_good hR).1 h3.1)
        exact h3.2 x hx ht
      · have h3 : (!(!checkB l m (after m k) || lits.any (tv (after m k)))) = false := h3
        rw [Bool.not_eq_false', Bool.or_eq_true, Bool.not_eq_true'] at h3
        refine ⟨k + 1, [], ⟨by omega, fun j hj g => ?_⟩, by dsimp only; omega, rfl, rfl, rfl, rfl, rfl, ⟨rfl, wr (by omega) (by omega)⟩, trivial⟩
        by_cases hjk : j = k
        · subst hjk
          rcases h3 with h3 | h3
          · rw [(check_good hR).2 g] at h3
            cases h3
          · exact List.any_eq_true.1 h3
        · exact hno j (by omega) g
  · have hc := dnlt hc
    rw [hs] at hc
    have hc : ((2 ^ m : Nat) : Int) ≤ (k : Int) := hc
    refine RetIs.b ?_
    symm
    rw [followsB_iff]
    refine ⟨hR, hin, fun vals g => ?_⟩
    rw [Int.toNat_natCast] at g
    obtain ⟨e1, e2⟩ := after_num m vals g.len
    rw [← e1] at g ⊢
    exact hno _ (by omega) g
theorem rFollows_one (l : List Cl) (hl : l.length < 2^62) (n : Int) (hn : rightB l n = true → n ≤ 20) (x x' : Int) (e : x' = x) :
    Ctr Try.prog 32 [.rs 2 l.length (rowsC l), .i .i64 n, .rs 1 1 (rowOf 1 [.i .i64 x'])] [] (.b (followsB l n [x])) := by
  subst e
  refine Ctr.of_eq (args := [.rs 2 l.length (rowsC l), .i .i64 n, .rs 1 1 (rowsI [x'])]) ⟨AVEq.refl _, AVEq.refl _, ⟨rfl, rfl, fun k hk => ?_⟩⟩ (rFollows_fn l hl n hn [x'] (by simp))
  obtain rfl : k = 0 := by
    have : k < 1 := hk
    omega
  rfl
theorem Follows_one (l : List Cl) (hl : l.length < 2^62) (n : Int) (x x' : Int) (e : x' = x) :
    Ctr Try.prog 23 [.rs 2 l.length (rowsC l), .i .i64 n, .rs 1 1 (rowOf 1 [.i .i64 x'])] [] (.b (followsB l n [x])) := by
  subst e
  refine Ctr.of_eq (args := [.rs 2 l.length (rowsC l), .i .i64 n, .rs 1 1 (rowsI [x'])]) ⟨AVEq.refl _, AVEq.refl _, ⟨rfl, rfl, fun k hk => ?_⟩⟩ (Follows_fn l hl n [x'] (by simp))
  obtain rfl : k = 0 := by
    have : k < 1 := hk
    omega
  rfl
theorem first_one (l : List Cl) (n : Nat) (hr : RightC n l) (hn : n ≤ 400) (hl : l.length ≤ 4000) (x x' : Int) (e : x' = x) (hx : 0 ≤ x ∧ x < 2 * (n : Int)) :
    Ctr Try.prog 72 [gM l, .i .i64 n, .rs 1 1 (rowOf 1 [.i .i64 x'])] (firstO (firstL l n [x])) (firstR (firstL l n [x])) := by
  subst e
  refine Ctr.of_eq (args := [gM l, .i .i64 n, .rs 1 1 (rowsI [x'])]) ⟨AVEq.refl _, AVEq.refl _, ⟨rfl, rfl, fun k hk => ?_⟩⟩ (first_fn l n hr hn hl [x'] (fun y hy => by rw [List.mem_singleton.1 hy]; exact hx) (by simp))
  obtain rfl : k = 0 := by
    have : k < 1 := hk
    omega
  rfl

def okO (y : List Int × Int) : List AO := if y.2 = 0 then [.row 3 1 y.1.length (rowsI y.1)] else []
def okR (y : List Int × Int) : AV := .tup [if y.2 = 0 then .so 0 else .val (.slice none 0 0), .i .i64 y.2]
theorem forcedY_bad {l : List Cl} {n : Int} (h : rightB l n = false) : forcedY l n = ([], 1) := by
  unfold forcedY
  rw [h]
  rfl
theorem forcedY_uns {l : List Cl} {n : Int} (h : rightB l n = true) (e : firstL l n.toNat [] = none) : forcedY l n = ([], 17) := by
  unfold forcedY
  rw [h, e]
  rfl
theorem forcedY_sat {l : List Cl} {n : Int} {vs : List Bool} (h : rightB l n = true) (e : firstL l n.toNat [] = some vs) : forcedY l n = (forcedL l n.toNat vs, 0) := by
  unfold forcedY
  rw [h, e]
  rfl
theorem RetIs.so_i {k : IntKind} {c : Int} {e sz n n' : Nat} {get get' : Nat → List AV} {id nid : Nat} {O : List OE} (hg : getO id O = some ([], .row e sz n' get')) (hn : n' = n) (hget : ∀ k, k < n → get' k = get k) (hf : ∀ k, k < n → AV.freshs (get k) = true) :
    RetIs [.row e sz n get] (.tup [.so 0, .i k c]) (.tup [.so id, .i k c]) O nid := by
  subst hn
  refine ⟨[(0, id)], ⟨⟨⟨rfl, rfl, ?_⟩, trivial⟩, ⟨⟨rfl, rfl, trivial, ?_⟩, trivial⟩, rfl⟩, rfl, hf⟩
  · exact rfl
  · show (match AO.row e sz n' get, getO id O with
      | .dead, _ => True
      | o, some ([], o') => AOEq (o.ren (rn [(0, id)])) o'
      | _, _ => False)
    rw [hg]
    exact ⟨rfl, rfl, rfl, hget⟩
/-- The values forced of the first variables. -/
def forcedT (l : List Cl) (n : Nat) (vs : List Bool) (k : Nat) : List Int := (List.range k).map (forcedAt l n vs)
theorem forcedT_succ (l : List Cl) (n : Nat) (vs : List Bool) (k : Nat) : forcedT l n vs (k + 1) = forcedT l n vs k ++ [forcedAt l n vs k] := by
  unfold forcedT
  rw [List.range_succ, List.map_append]
  rfl
theorem forcedT_len (l : List Cl) (n : Nat) (vs : List Bool) (k : Nat) : (forcedT l n vs k).length = k := by simp [forcedT]

set_option maxRecDepth 20000 in
set_option maxHeartbeats 4000000 in
theorem rForced_fn (l : List Cl) (hl : l.length < 2^62) (n : Int) (hn : rightB l n = true → n ≤ 20) : Ctr Try.prog 34 [.rs 2 l.length (rowsC l), .i .i64 n] (okO (forcedY l n)) (okR (forcedY l n)) := by
  refine fn_of_exec tabOk Try.func34 (by kernel_rfl) rfl (N := Try.f34.ntmps) rfl (res := [.tmp 4, .tmp 5]) rfl rfl [] ?_
  repeat refine Or.inl ?_
  refine ⟨[], _, rRight_fn l hl n, ?_⟩
  repeat refine Or.inl ?_
  refine ⟨fun h => ?_, fun h => ?_⟩
  · have h : (!rightB l n) = true := h
    rw [forcedY_bad (show rightB l n = false by simpa using h)]
    exact ⟨⟨[], ⟨⟨⟨rfl, rfl, AVEq.refl _⟩, trivial⟩, trivial, rfl⟩, rfl, trivial⟩⟩
  have h : (!rightB l n) = false := h
  have hrt : rightB l n = true := by simpa using h
  have hR := rightB_iff.1 hrt
  have hn2 := hn hrt
  obtain ⟨m, rfl⟩ := Int.eq_ofNat_of_zero_le hR.lo
  have cf := rFirst_fn l hl m hR (by omega)
  cases e : firstL l m [] with
  | none =>
    rw [e] at cf
    repeat refine Or.inl ?_
    refine ⟨_, _, cf, ?_⟩
    repeat refine Or.inl ?_
    repeat refine Or.inl ?_
    refine ⟨fun _ => ?_, fun h => (by cases h)⟩
    rw [forcedY_uns hrt e]
    exact ⟨⟨[], ⟨⟨⟨rfl, rfl, AVEq.refl _⟩, trivial⟩, trivial, rfl⟩, rfl, trivial⟩⟩
  | some vs =>
    rw [e] at cf
    repeat refine Or.inl ?_
    refine ⟨_, _, cf, ?_⟩
    repeat refine Or.inl ?_
    refine ⟨fun h => (by cases h), fun _ => ?_⟩
    rw [forcedY_sat hrt e]
    have hvl : vs.length = m := (firstL_some.1 e).good.len
    repeat refine Or.inl ?_
    refine ⟨[(8, 3, 1)], Nat, fun k => k ≤ m, fun k => [⟨9, [], .i .i64 k⟩, ⟨8, [], .so 1⟩], fun k => [⟨1, [], .row 3 1 (forcedT l m vs k).length (rowsI (forcedT l m vs k))⟩], fun k => m - k,
      ⟨0, [], Nat.zero_le _, rfl, rfl, rfl, rfl, rfl, ⟨⟨rfl, rfl⟩, rfl⟩, ⟨rfl, rfl, rfl, fun j hj => by cases hj⟩⟩, ?_⟩
    intro k hk
    have hk : k ≤ m := hk
    refine .inl ⟨fun hc => ?_, fun hc => ?_⟩
    · have hc := dlt hc
      have hc : (k : Int) < m := hc
      have w2 : IntKind.i64.wrap (2 * (k : Int)) = 2 * k := wr (by omega) (by omega)
      have w3 : IntKind.i64.wrap (IntKind.i64.wrap (2 * (k : Int)) + 1) = 2 * k + 1 := by rw [w2]; exact wr (by omega) (by omega)
      have fy := forced_yes (v := k) hR hc e
      have fo := forced_no (v := k) hR hc e
      rw [Int.toNat_natCast] at fy fo
      have fr := forced_rng (l := l) (n := m) (v := k) e
      rw [Int.toNat_natCast] at fr
      have hln := forcedT_len l m vs k
      repeat refine Or.inl ?_
      refine ⟨[], _, rFollows_one l hl m hn (2 * (k : Int)) _ w2, ?_⟩
      repeat refine Or.inl ?_
      refine ⟨fun h2 => ?_, fun h2 => ?_⟩
      · have h2 : followsB l m [2 * (k : Int)] = true := h2
        rw [fy, decide_eq_true_eq] at h2
        refine ⟨fits (by omega), ?_⟩
        refine ⟨k + 1, [(1, 4)], by dsimp only; omega, by dsimp only; omega, rfl, rfl, rfl, rfl, rfl, ⟨⟨rfl, wr (by omega) (by omega)⟩, rfl⟩, snocZ_row _ _ ?_⟩
        rw [forcedT_succ, h2]
      have h2 : followsB l m [2 * (k : Int)] = false := h2
      rw [fy, decide_eq_false_iff_not] at h2
      repeat refine Or.inl ?_
      refine ⟨[], _, rFollows_one l hl m hn (2 * (k : Int) + 1) _ w3, ?_⟩
      repeat refine Or.inl ?_
      refine ⟨fun h3 => ?_, fun h3 => ?_⟩
      · have h3 : followsB l m [2 * (k : Int) + 1] = true := h3
        rw [fo, decide_eq_true_eq] at h3
        refine ⟨fits (by omega), ?_⟩
        refine ⟨k + 1, [(1, 5)], by dsimp only; omega, by dsimp only; omega, rfl, rfl, rfl, rfl, rfl, ⟨⟨rfl, wr (by omega) (by omega)⟩, rfl⟩, snocZ_row _ _ ?_⟩
        rw [forcedT_succ, h3]
      · have h3 : followsB l m [2 * (k : Int) + 1] = false := h3
        rw [fo, decide_eq_false_iff_not] at h3
        refine ⟨fits (by omega), ?_⟩
        refine ⟨k + 1, [(1, 5)], by dsimp only; omega, by dsimp only; omega, rfl, rfl, rfl, rfl, rfl, ⟨⟨rfl, wr (by omega) (by omega)⟩, rfl⟩, snocZ_row _ _ ?_⟩
        rw [forcedT_succ, show forcedAt l m vs k = -1 by omega]
    · have hc := dnlt hc
      have hc : (m : Int) ≤ k := hc
      obtain rfl : k = m := by omega
      have e2 : forcedL l (k : Int).toNat vs = forcedT l k vs k := by unfold forcedL forcedT; rw [Int.toNat_natCast, hvl]
      rw [e2]
      exact RetIs.so_i rfl rfl (fun _ _ => rfl) (fun _ _ => rfl)

set_option maxRecDepth 20000 in
set_option maxHeartbeats 4000000 in
theorem Forced_fn (l : List Cl) (hl : l.length < 2^62) (n : Int) : Ctr Try.prog 25 [.rs 2 l.length (rowsC l), .i .i64 n] (okO (forcedY l n)) (okR (forcedY l n)) := by
  refine fn_of_exec tabOk Try.func25 (by kernel_rfl) rfl (N := Try.f25.ntmps) rfl (res := [.tmp 4, .tmp 5]) rfl rfl [] ?_
  refine (.inr (.inr ⟨false, [], rfl, _, _, _, _, _, Solve_fn l hl n, fun y hy => ?_⟩))
  cases y with
  | bad =>
    have hy : rightB l n = false := hy
    repeat refine Or.inl ?_
    refine ⟨fun _ => ?_, fun h => (by cases h)⟩
    rw [forcedY_bad hy]
    exact ⟨⟨[], ⟨⟨⟨rfl, rfl, AVEq.refl _⟩, trivial⟩, trivial, rfl⟩, rfl, trivial⟩⟩
  | uns c =>
    obtain ⟨hrt, e, _⟩ := hy
    repeat refine Or.inl ?_
    refine ⟨fun _ => ?_, fun h => (by cases h)⟩
    rw [forcedY_uns hrt e]
    exact ⟨⟨[], ⟨⟨⟨rfl, rfl, AVEq.refl _⟩, trivial⟩, trivial, rfl⟩, rfl, trivial⟩⟩
  | sat vs =>
    obtain ⟨hrt, e⟩ := hy
    repeat refine Or.inl ?_
    refine ⟨fun h => (by cases h), fun _ => ?_⟩
    rw [forcedY_sat hrt e]
    have hR := rightB_iff.1 hrt
    obtain ⟨m, rfl⟩ := Int.eq_ofNat_of_zero_le hR.lo
    rw [Int.toNat_natCast] at e ⊢
    have hr : RightC (m : Nat) l := hR.cl
    have hm : m ≤ 400 := by have := hR.hi; omega
    have hr4 : RightC 400 l := fun c hc => by
      have := hr c hc
      omega
    have hvl : vs.length = m := (firstL_some.1 e).good.len
    repeat refine Or.inl ?_
    refine ⟨_, _, graph_fn l hr4 hR.len, ?_⟩
    repeat refine Or.inl ?_
    refine ⟨[(10, 3, 1)], Nat, fun k => k ≤ m, fun k => [⟨31, [], .i .i64 k⟩, ⟨10, [], .so 1⟩], fun k => [⟨1, [], .row 3 1 (forcedT l m vs k).length (rowsI (forcedT l m vs k))⟩], fun k => m - k,
      ⟨0, [], Nat.zero_le _, rfl, rfl, rfl, rfl, rfl, ⟨⟨rfl, rfl⟩, rfl⟩, ⟨rfl, rfl, rfl, fun j hj => by cases hj⟩⟩, ?_⟩
    intro k hk
    have hk : k ≤ m := hk
    refine .inl ⟨fun hc => ?_, fun hc => ?_⟩
    · have hc := dlt hc
      have hc : (k : Int) < vs.length := hc
      rw [hvl] at hc
      have ek : (k : Int).toNat = k := Int.toNat_natCast k
      have w2 : IntKind.i64.wrap (2 * (k : Int)) = 2 * k := wr (by omega) (by omega)
      have w3 : IntKind.i64.wrap (IntKind.i64.wrap (2 * (k : Int)) + 1) = 2 * k + 1 := by rw [w2]; exact wr (by omega) (by omega)
      have o2 : bitsI .xor .i64 (IntKind.i64.wrap (2 * (k : Int))) 1 = 2 * k + 1 := by rw [w2, bits_opp (by omega) (by omega), opp_even]
      have o3 : bitsI .xor .i64 (IntKind.i64.wrap (IntKind.i64.wrap (2 * (k : Int)) + 1)) 1 = 2 * k := by rw [w3, bits_opp (by omega) (by omega), opp_odd]
      have hln := forcedT_len l m vs k
      repeat refine Or.inl ?_
      refine ⟨⟨by omega, by omega⟩, by omega, ?_⟩
      repeat refine Or.inl ?_
      refine ⟨fun h2 => ?_, fun h2 => ?_⟩
      · have h2 : vs.getD (k : Int).toNat false = true := h2
        rw [ek] at h2
        have ef := forcedAt_t (l := l) (n := m) (v := k) h2
        have cf := first_one l m hr hm hR.len (2 * (k : Int) + 1) _ o2 (by omega)
        cases e3 : firstL l m [2 * (k : Int) + 1] with
        | some us =>
          rw [e3] at cf ef
          repeat refine Or.inl ?_
          refine ⟨_, _, cf, ?_⟩
          repeat refine Or.inl ?_
          refine ⟨fun _ => ?_, fun h => (by cases h)⟩
          refine ⟨fits (by omega), ?_⟩
          refine ⟨k + 1, [(1, 5)], by dsimp only; omega, by dsimp only; omega, rfl, rfl, rfl, rfl, rfl, ⟨⟨rfl, wr (by omega) (by omega)⟩, rfl⟩, snocZ_row _ _ ?_⟩
          rw [forcedT_succ, ef]
          rfl
        | none =>
          rw [e3] at cf ef
          repeat refine Or.inl ?_
          refine ⟨_, _, cf, ?_⟩
          repeat refine Or.inl ?_
          refine ⟨fun h => (by cases h), fun _ => ?_⟩
          refine ⟨fits (by omega), ?_⟩
          refine ⟨k + 1, [(1, 4)], by dsimp only; omega, by dsimp only; omega, rfl, rfl, rfl, rfl, rfl, ⟨⟨rfl, wr (by omega) (by omega)⟩, rfl⟩, snocZ_row _ _ ?_⟩
          rw [forcedT_succ, ef]
          rfl
      · have h2 : vs.getD (k : Int).toNat false = false := h2
        rw [ek] at h2
        have ef := forcedAt_f (l := l) (n := m) (v := k) h2
        have cf := first_one l m hr hm hR.len (2 * (k : Int)) _ o3 (by omega)
        cases e3 : firstL l m [2 * (k : Int)] with
        | some us =>
          rw [e3] at cf ef
          repeat refine Or.inl ?_
          refine ⟨_, _, cf, ?_⟩
          repeat refine Or.inl ?_
          refine ⟨fun _ => ?_, fun h => (by cases h)⟩
          refine ⟨fits (by omega), ?_⟩
          refine ⟨k + 1, [(1, 5)], by dsimp only; omega, by dsimp only; omega, rfl, rfl, rfl, rfl, rfl, ⟨⟨rfl, wr (by omega) (by omega)⟩, rfl⟩, snocZ_row _ _ ?_⟩
          rw [forcedT_succ, ef]
          rfl
        | none =>
          rw [e3] at cf ef
          repeat refine Or.inl ?_
          refine ⟨_, _, cf, ?_⟩
          repeat refine Or.inl ?_
          refine ⟨fun h => (by cases h), fun _ => ?_⟩
          refine ⟨fits (by omega), ?_⟩
          refine ⟨k + 1, [(1, 4)], by dsimp only; omega, by dsimp only; omega, rfl, rfl, rfl, rfl, rfl, ⟨⟨rfl, wr (by omega) (by omega)⟩, rfl⟩, snocZ_row _ _ ?_⟩
          rw [forcedT_succ, ef]
          rfl
    · have hc := dnlt hc
      have hc : (vs.length : Int) ≤ k := hc
      obtain rfl : k = m := by omega
      have e2 : forcedL l k vs = forcedT l k vs k := by unfold forcedL forcedT; rw [hvl]
      rw [e2]
      exact RetIs.so_i rfl rfl (fun _ _ => rfl) (fun _ _ => rfl)
end Go.Proofs.Ytilhaifmfiobhaa
end

section
/-
  Refute, and that of the reference.
-/
namespace Go.Proofs.Ytilhaifmfiobhaa
open Go.Eng

theorem stepB_false {l : List Cl} {n : Int} {c : List Int} {j : Nat} (hj : j < c.length) (h : stepB l n c j = false) : refB l n c = false := by
  rw [Bool.eq_false_iff]
  intro hf
  have := refB_iff.1 hf
  unfold stepB at h
  have h1 := this.rng j hj
  have h2 := this.ed j hj
  unfold Ed at h2
  rw [decide_eq_true h1.1, decide_eq_true h1.2, decide_eq_true h2] at h
  cases h
theorem refB_none {l : List Cl} {n : Int} {c : List Int} (h : ¬ ((1 ≤ c.length) ∧ (c.length : Int) ≤ 4 * n)) : refB l n c = false := by
  rw [Bool.eq_false_iff]
  intro hf
  have := refB_iff.1 hf
  exact h ⟨this.one, this.len⟩
theorem refB_both {l : List Cl} {n : Int} {c : List Int} (h1 : 1 ≤ c.length) (h2 : (c.length : Int) ≤ 4 * n) (h3 : ∀ j, j < c.length → stepB l n c j = true) : refB l n c = c.any fun x => hasN c (opp x) := by
  have e : ((List.range c.length).any fun i => decide (opp (c.getD i 0) ∈ c)) = c.any fun x => hasN c (opp x) := by
    rw [Bool.eq_iff_iff, List.any_eq_true, List.any_eq_true]
    constructor
    · rintro ⟨i, hi, h⟩
      exact ⟨_, getD_memX (List.mem_range.1 hi), hasN_iff.2 (of_decide_eq_true h)⟩
    · rintro ⟨x, hx, h⟩
      obtain ⟨i, hi, rfl⟩ := mem_getDX hx
      exact ⟨i, List.mem_range.2 hi, decide_eq_true (hasN_iff.1 h)⟩
  unfold refB
  rw [decide_eq_true h1, decide_eq_true h2, e, show (List.range c.length).all (stepB l n c) = true from List.all_eq_true.2 fun i hi => h3 i (List.mem_range.1 hi)]
  rfl
theorem stepB_iff {l : List Cl} {n : Int} {c : List Int} {j : Nat} : stepB l n c j = true ↔ (0 ≤ c.getD j 0 ∧ c.getD j 0 < 2 * n) ∧ hasN (succL l (c.getD j 0)) (c.getD ((j + 1) % c.length) 0) = true := by
  unfold stepB
  rw [Bool.and_eq_true, Bool.and_eq_true, decide_eq_true_eq, decide_eq_true_eq, decide_eq_true_eq, hasN_iff]
theorem next_at {k n : Nat} (hk : k < n) (hn : n < 2 ^ 61) : (IntKind.i64.wrap ((k : Int) + 1)).tmod n = (((k + 1) % n : Nat) : Int) := by
  rw [wr (by omega) (by omega), Int.tmod_eq_emod_of_nonneg (by omega)]
  exact (Int.natCast_emod (k + 1) n).symm

set_option maxRecDepth 20000 in
set_option maxHeartbeats 4000000 in
theorem Refute_fn (l : List Cl) (hl : l.length < 2^62) (n : Int) (c : List Int) (hcl : c.length < 2 ^ 60) :
    Ctr Try.prog 30 [.rs 2 l.length (rowsC l), .i .i64 n, .rs 1 c.length (rowsI c)] [] (.b (rightB l n && refB l n c)) := by
  refine fn_of_exec tabOk Try.func30 (by kernel_rfl) rfl (N := Try.f30.ntmps) rfl (res := [.tmp 6]) rfl rfl [] ?_
  repeat refine Or.inl ?_
  refine ⟨[], _, Right_fn l hl n, ?_⟩
  repeat refine Or.inl ?_
  refine ⟨fun h => RetIs.b ?_, fun h => ?_⟩
  · have h : ((!rightB l n || ((c.length : Int) == 0)) || decide ((c.length : Int) > IntKind.i64.wrap (4 * n))) = true := h
    cases hrt : rightB l n with
    | false => rfl
    | true =>
      have hR := rightB_iff.1 hrt
      have h1 := hR.lo
      have h2 := hR.hi
      rw [hrt, wr (by omega) (by omega)] at h
      simp only [Bool.not_true, Bool.false_or, Bool.or_eq_true, beq_iff_eq, decide_eq_true_eq] at h
      rw [refB_none (by omega)]
      rfl
  have h : ((!rightB l n || ((c.length : Int) == 0)) || decide ((c.length : Int) > IntKind.i64.wrap (4 * n))) = false := h
  rw [Bool.or_eq_false_iff, Bool.or_eq_false_iff, Bool.not_eq_false'] at h
  obtain ⟨⟨hrt, h0⟩, h4⟩ := h
  have hR := rightB_iff.1 hrt
  obtain ⟨m, rfl⟩ := Int.eq_ofNat_of_zero_le hR.lo
  have hm : m ≤ 400 := by have := hR.hi; omega
  have hr : RightC (m : Nat) l := hR.cl
  have hr4 : RightC 400 l := fun c hc => by
    have := hr c hc
    omega
  have w4 : IntKind.i64.wrap (4 * (m : Int)) = 4 * m := wr (by omega) (by omega)
  have w2 : IntKind.i64.wrap (2 * (m : Int)) = 2 * m := wr (by omega) (by omega)
  rw [w4, decide_eq_false_iff_not] at h4
  rw [beq_eq_false_iff_ne] at h0
  rw [hrt, Bool.true_and]
  repeat refine Or.inl ?_
  refine ⟨_, _, graph_fn l hr4 hR.len, ?_⟩
  repeat refine Or.inl ?_
  refine ⟨[], Nat, fun k => k ≤ c.length ∧ ∀ j, j < k → stepB l m c j = true, fun k => [⟨31, [], .i .i64 k⟩, ⟨8, [], .b ((c.take k).any fun x => hasN c (opp x))⟩], fun _ => [], fun k => c.length - k,
    ⟨0, [], ⟨Nat.zero_le _, fun j hj => by omega⟩, rfl, rfl, rfl, rfl, rfl, ⟨⟨rfl, rfl⟩, show false = (c.take 0).any _ from by simp⟩, trivial⟩, ?_⟩
  rintro k ⟨hk, hno⟩
  refine .inl ⟨fun hc => ?_, fun hc => ?_⟩
  · have hc := dlt hc
    have hc : (k : Int) < c.length := hc
    have ek : (k : Int).toNat = k := Int.toNat_natCast k
    have en := next_at (k := k) (n := c.length) (by omega) (by omega)
    have enn : ((((k + 1) % c.length : Nat) : Int)).toNat = (k + 1) % c.length := Int.toNat_natCast _
    have hlt : (k + 1) % c.length < c.length := Nat.mod_lt _ (by omega)
    have hsl := succL_len l (c.getD (k : Int).toNat 0)
    have hll := hR.len
    repeat refine Or.inl ?_
    refine ⟨⟨by omega, by omega⟩, ?_⟩
    repeat refine Or.inl ?_
    refine ⟨_, _, ⟨fun _ => ⟨fun _ _ => rfl, rfl, lookOk_g l (c.getD (k : Int).toNat 0)⟩, ?_⟩⟩
    refine ⟨fun _ => by show (c.length : Int) ≠ 0; omega, fun _ => ⟨by rw [en]; omega, by rw [en]; omega⟩, ?_⟩
    repeat refine Or.inl ?_
    refine ⟨[], _, fun _ => contains_fn (succL l (c.getD (k : Int).toNat 0)) (by omega) _, ?_⟩
    repeat refine Or.inl ?_
    refine ⟨fun h3 => RetIs.b ?_, fun h3 => ?_⟩
    · have h3 : ((decide (c.getD (k : Int).toNat 0 < 0) || decide (c.getD (k : Int).toNat 0 ≥ IntKind.i64.wrap (2 * (m : Int)))) || !hasN (succL l (c.getD (k : Int).toNat 0)) (c.getD ((IntKind.i64.wrap ((k : Int) + 1)).tmod c.length).toNat 0)) = true := h3
      rw [en, enn, ek, w2] at h3
      symm
      refine stepB_false (j := k) (by omega) ?_
      rw [Bool.eq_false_iff]
      intro hf
      have := stepB_iff.1 hf
      rw [this.2, decide_eq_false (by omega), decide_eq_false (by omega)] at h3
      cases h3
    have h3 : ((decide (c.getD (k : Int).toNat 0 < 0) || decide (c.getD (k : Int).toNat 0 ≥ IntKind.i64.wrap (2 * (m : Int)))) || !hasN (succL l (c.getD (k : Int).toNat 0)) (c.getD ((IntKind.i64.wrap ((k : Int) + 1)).tmod c.length).toNat 0)) = false := h3
    rw [en, enn, w2] at h3
    simp only [Bool.or_eq_false_iff, decide_eq_false_iff_not, Bool.not_eq_false'] at h3
    have ho : bitsI .xor .i64 (c.getD (k : Int).toNat 0) 1 = opp (c.getD (k : Int).toNat 0) := bits_opp (by omega) (by omega)
    repeat refine Or.inl ?_
    refine ⟨[], _, fun _ => contains_fn c (by omega) _, ?_⟩
    refine ⟨k + 1, [], ⟨by omega, fun j hj => ?_⟩, by dsimp only; omega, rfl, rfl, rfl, rfl, rfl, ⟨⟨rfl, wr (by omega) (by omega)⟩, ?_⟩, trivial⟩
    · by_cases hjk : j = k
      · subst hjk
        rw [ek] at h3
        exact stepB_iff.2 ⟨by omega, h3.2⟩
      · exact hno j (by omega)
    · rw [ho, ek, any_upto_succ 0 _ _ _ (by omega)]
      rfl
  · have hc := dnlt hc
    have hc : (c.length : Int) ≤ k := hc
    obtain rfl : k = c.length := by omega
    refine RetIs.b ?_
    rw [refB_both (by omega) (by omega) hno, List.take_length]

set_option maxRecDepth 20000 in
set_option maxHeartbeats 4000000 in
theorem rRefute_fn (l : List Cl) (hl : l.length < 2^62) (n : Int) (c : List Int) (hcl : c.length < 2 ^ 60) :
    Ctr Try.prog 31 [.rs 2 l.length (rowsC l), .i .i64 n, .rs 1 c.length (rowsI c)] [] (.b (rightB l n && refB l n c)) := by
  refine fn_of_exec tabOk Try.func31 (by kernel_rfl) rfl (N := Try.f31.ntmps) rfl (res := [.tmp 6]) rfl rfl [] ?_
  repeat refine Or.inl ?_
  refine ⟨[], _, rRight_fn l hl n, ?_⟩
  repeat refine Or.inl ?_
  refine ⟨fun h => RetIs.b ?_, fun h => ?_⟩
  · have h : ((!rightB l n || decide ((c.length : Int) < 1)) || decide ((c.length : Int) > IntKind.i64.wrap (4 * n))) = true := h
    cases hrt : rightB l n with
    | false => rfl
    | true =>
      have hR := rightB_iff.1 hrt
      have h1 := hR.lo
      have h2 := hR.hi
      rw [hrt, wr (by omega) (by omega)] at h
      simp only [Bool.not_true, Bool.false_or, Bool.or_eq_true, decide_eq_true_eq] at h
      rw [refB_none (by omega)]
      rfl
  have h : ((!rightB l n || decide ((c.length : Int) < 1)) || decide ((c.length : Int) > IntKind.i64.wrap (4 * n))) = false := h
  rw [Bool.or_eq_false_iff, Bool.or_eq_false_iff, Bool.not_eq_false'] at h
  obtain ⟨⟨hrt, h0⟩, h4⟩ := h
  have hR := rightB_iff.1 hrt
  obtain ⟨m, rfl⟩ := Int.eq_ofNat_of_zero_le hR.lo
  have hm : m ≤ 400 := by have := hR.hi; omega
  have hr : RightC (m : Nat) l := hR.cl
  have w4 : IntKind.i64.wrap (4 * (m : Int)) = 4 * m := wr (by omega) (by omega)
  have w2 : IntKind.i64.wrap (2 * (m : Int)) = 2 * m := wr (by omega) (by omega)
  rw [w4, decide_eq_false_iff_not] at h4
  rw [decide_eq_false_iff_not] at h0
  rw [hrt, Bool.true_and]
  repeat refine Or.inl ?_
  refine ⟨[], Nat, fun k => k ≤ c.length ∧ ∀ j, j < k → 0 ≤ c.getD j 0 ∧ c.getD j 0 < 2 * (m : Int), fun k => [⟨7, [], .i .i64 k⟩], fun _ => [], fun k => c.length - k,
    ⟨0, [], ⟨Nat.zero_le _, fun j hj => by omega⟩, rfl, rfl, rfl, rfl, rfl, ⟨rfl, rfl⟩, trivial⟩, ?_⟩
  rintro k ⟨hk, hok⟩
  refine .inl ⟨fun hc => ?_, fun hc => ?_⟩
  · have hc := dlt hc
    have ek : (k : Int).toNat = k := Int.toNat_natCast k
    repeat refine Or.inl ?_
    refine ⟨⟨by omega, by omega⟩, fun _ => ⟨by omega, by omega⟩, ⟨fun h2 => RetIs.b ?_, fun h2 => ?_⟩⟩
    · have h2 : (decide (c.getD (k : Int).toNat 0 < 0) || decide (c.getD (k : Int).toNat 0 ≥ IntKind.i64.wrap (2 * (m : Int)))) = true := h2
      rw [ek, w2, Bool.or_eq_true, decide_eq_true_eq, decide_eq_true_eq] at h2
      symm
      refine stepB_false (j := k) (by omega) ?_
      rw [Bool.eq_false_iff]
      intro hf
      have := stepB_iff.1 hf
      omega
    have h2 : (decide (c.getD (k : Int).toNat 0 < 0) || decide (c.getD (k : Int).toNat 0 ≥ IntKind.i64.wrap (2 * (m : Int)))) = false := h2
    rw [ek, w2, Bool.or_eq_false_iff, decide_eq_false_iff_not, decide_eq_false_iff_not] at h2
    refine ⟨k + 1, [], ⟨by omega, fun j hj => ?_⟩, by dsimp only; omega, rfl, rfl, rfl, rfl, rfl, ⟨rfl, wr (by omega) (by omega)⟩, trivial⟩
    by_cases h : j = k
    · subst h
      omega
    · exact hok j (by omega)
  have hc := dnlt hc
  have hrg : ∀ j, j < c.length → 0 ≤ c.getD j 0 ∧ c.getD j 0 < 2 * (m : Int) := fun j hj => hok j (by omega)
  repeat refine Or.inl ?_
  refine ⟨[], Nat, fun k => k ≤ c.length ∧ ∀ j, j < k → stepB l m c j = true, fun k => [⟨9, [], .i .i64 k⟩, ⟨8, [], .b ((c.take k).any fun x => hasN c (opp x))⟩], fun _ => [], fun k => c.length - k,
    ⟨0, [], ⟨Nat.zero_le _, fun j hj => by omega⟩, rfl, rfl, rfl, rfl, rfl, ⟨⟨rfl, rfl⟩, show false = (c.take 0).any _ from by simp⟩, trivial⟩, ?_⟩
  rintro k ⟨hk, hno⟩
  refine .inl ⟨fun hc => ?_, fun hc => ?_⟩
  · have hc := dlt hc
    have hc : (k : Int) < c.length := hc
    have ek : (k : Int).toNat = k := Int.toNat_natCast k
    have en := next_at (k := k) (n := c.length) (by omega) (by omega)
    have enn : ((((k + 1) % c.length : Nat) : Int)).toNat = (k + 1) % c.length := Int.toNat_natCast _
    have hlt : (k + 1) % c.length < c.length := Nat.mod_lt _ (by omega)
    have hkr := hrg k (by omega)
    repeat refine Or.inl ?_
    refine ⟨⟨by omega, by omega⟩, by show (c.length : Int) ≠ 0; omega, ⟨by rw [en]; omega, by rw [en]; omega⟩, ?_⟩
    repeat refine Or.inl ?_
    refine ⟨[], _, implies_fn l hl _ _ (by rw [ek]; omega) (by rw [ek]; omega), ?_⟩
    repeat refine Or.inl ?_
    refine ⟨fun h3 => RetIs.b ?_, fun h3 => ?_⟩
    · have h3 : (!hasN (succL l (c.getD (k : Int).toNat 0)) (c.getD ((IntKind.i64.wrap ((k : Int) + 1)).tmod c.length).toNat 0)) = true := h3
      rw [en, enn, ek] at h3
      symm
      refine stepB_false (j := k) (by omega) ?_
      rw [Bool.eq_false_iff]
      intro hf
      have := stepB_iff.1 hf
      rw [this.2] at h3
      cases h3
    have h3 : (!hasN (succL l (c.getD (k : Int).toNat 0)) (c.getD ((IntKind.i64.wrap ((k : Int) + 1)).tmod c.length).toNat 0)) = false := h3
    rw [en, enn, ek, Bool.not_eq_false'] at h3
    repeat refine Or.inl ?_
    refine ⟨[], Nat, fun i => i ≤ c.length, fun i => [⟨10, [], .i .i64 i⟩, ⟨8, [], .b (((c.take k).any fun x => hasN c (opp x)) || (c.take i).any fun y => y == opp (c.getD k 0))⟩], fun _ => [], fun i => c.length - i,
      ⟨0, [], Nat.zero_le _, rfl, rfl, rfl, rfl, rfl, ⟨⟨rfl, rfl⟩, show ((c.take k).any fun x => hasN c (opp x)) = (((c.take k).any fun x => hasN c (opp x)) || (c.take 0).any fun y => y == opp (c.getD k 0)) from by simp⟩, trivial⟩, ?_⟩
    intro i hi
    have hi : i ≤ c.length := hi
    refine .inl ⟨fun hc2 => ?_, fun hc2 => ?_⟩
    · have hc2 := dlt hc2
      have hc2 : (i : Int) < c.length := hc2
      repeat refine Or.inl ?_
      refine ⟨fun _ => ⟨by omega, by omega⟩, fun _ => ⟨by omega, by omega⟩, ?_⟩
      repeat refine Or.inl ?_
      refine ⟨[], _, fun _ => opposite_fn _ (by rw [ek]; omega) (by rw [ek]; omega), ?_⟩
      refine ⟨i + 1, [], by omega, by dsimp only; omega, rfl, rfl, rfl, rfl, rfl, ⟨⟨rfl, wr (by omega) (by omega)⟩, ?_⟩, trivial⟩
      rw [any_upto_succ 0 _ _ _ (by omega), ← Bool.or_assoc, ek]
      rfl
    · have hc2 := dnlt hc2
      have hc2 : (c.length : Int) ≤ i := hc2
      have e : c.take i = c := List.take_of_length_le (by omega)
      rw [e]
      refine ⟨k + 1, [], ⟨by omega, fun j hj => ?_⟩, by dsimp only; omega, rfl, rfl, rfl, rfl, rfl, ⟨⟨rfl, wr (by omega) (by omega)⟩, ?_⟩, trivial⟩
      · by_cases hjk : j = k
        · subst hjk
          exact stepB_iff.2 ⟨by omega, h3⟩
        · exact hno j (by omega)
      · show (((c.take k).any fun x => hasN c (opp x)) || c.any fun y => y == opp (c.getD k 0)) = (c.take (k + 1)).any fun x => hasN c (opp x)
        rw [any_upto_succ 0 _ _ _ (by omega)]
        congr 1
        unfold hasN
        rw [Bool.eq_iff_iff, List.any_eq_true, List.any_eq_true]
        simp only [beq_iff_eq]
        exact exists_congr fun x => and_congr_right fun _ => eq_comm
  · have hc := dnlt hc
    have hc : (c.length : Int) ≤ k := hc
    obtain rfl : k = c.length := by omega
    refine RetIs.b ?_
    rw [refB_both (by omega) (by omega) hno, List.take_length]
end Go.Proofs.Ytilhaifmfiobhaa
end

section
/-
  The small examples.
-/
namespace Go.Proofs.Ytilhaifmfiobhaa
open Go.Eng

theorem two {p : Nat → Prop} (h0 : p 0) (h1 : p 1) : ∀ k, k < 2 → p k := by
  intro k hk
  match k, hk with
  | 0, _ => exact h0
  | 1, _ => exact h1
theorem one {p : Nat → Prop} (h0 : p 0) : ∀ k, k < 1 → p k := by
  intro k hk
  match k, hk with
  | 0, _ => exact h0
theorem SolvK.of_sat {l : List Cl} {n : Int} {y : SolK} {vs : List Bool} (h : SolvK l n y) (hr : rightB l n = true) (e : firstL l n.toNat [] = some vs) : y = .sat vs := by
  cases y with
  | bad =>
    have h : rightB l n = false := h
    rw [hr] at h
    cases h
  | sat us =>
    obtain ⟨_, h⟩ := h
    rw [e] at h
    rw [Option.some.inj h]
  | uns c =>
    obtain ⟨_, h, _⟩ := h
    rw [e] at h
    cases h
theorem SolvK.of_uns {l : List Cl} {n : Int} {y : SolK} (h : SolvK l n y) (hr : rightB l n = true) (e : firstL l n.toNat [] = none) : ∃ c, y = .uns c ∧ RefP l n c := by
  cases y with
  | bad =>
    have h : rightB l n = false := h
    rw [hr] at h
    cases h
  | sat us =>
    obtain ⟨_, h⟩ := h
    rw [e] at h
    cases h
  | uns c => exact ⟨c, rfl, h.2.2⟩
theorem SolvK.of_bad {l : List Cl} {n : Int} {y : SolK} (h : SolvK l n y) (hr : rightB l n = false) : y = .bad := by
  cases y with
  | bad => rfl
  | sat us =>
    rw [h.1] at hr
    cases hr
  | uns c =>
    rw [h.1] at hr
    cases hr
def exTwo : List Cl := [⟨0, 2⟩, ⟨1, 3⟩]
def exOne : List Cl := [⟨0, 0⟩, ⟨1, 2⟩]
def exNone : List Cl := [⟨0, 0⟩, ⟨1, 1⟩]
def exBad : List Cl := [⟨0, 4⟩]

set_option maxRecDepth 20000 in
set_option maxHeartbeats 4000000 in
theorem small_fn : Ctr Try.prog 21 [] [] (.b true) := by
  refine fn_of_exec tabOk Try.func21 (by kernel_rfl) rfl (N := Try.f21.ntmps) rfl (res := [.tmp 0]) rfl rfl
    [(2, [.eq 0 (.row 25 2 exTwo.length (rowsC exTwo))]), (3, [.eq 1 (.row 25 2 exOne.length (rowsC exOne))]), (4, [.eq 2 (.row 25 2 exNone.length (rowsC exNone))])] ?_
  refine ⟨⟨rfl, rfl, rfl, two rfl rfl⟩, ⟨rfl, rfl, rfl, two rfl rfl⟩, ⟨rfl, rfl, rfl, two rfl rfl⟩, ?_⟩
  have s0 : CtrM Try.prog 24 false [] [.val (.slice none 0 0), .i .i64 2] (SolvK [] 2) (fun _ => []) SolK.os SolK.av :=
    CtrM.of_eqs (args := [.rs 2 0 (rowsC []), .i .i64 2]) ⟨⟨rfl, rfl⟩, AVEq.refl _⟩ (Solve_fn [] (by decide) 2)
  refine .inr (.inr ⟨false, [], rfl, _, _, _, _, _, s0, fun y0 hy0 => ?_⟩)
  obtain rfl := SolvK.of_sat hy0 (by decide) (show firstL [] 2 [] = some [false, false] by decide)
  refine .inr (.inr ⟨false, [], rfl, _, _, _, _, _, Solve_fn exTwo (by decide) 2, fun y1 hy1 => ?_⟩)
  obtain rfl := SolvK.of_sat hy1 (by decide) (show firstL exTwo 2 [] = some [false, true] by decide)
  refine .inr (.inr ⟨false, [], rfl, _, _, _, _, _, Solve_fn exOne (by decide) 2, fun y2 hy2 => ?_⟩)
  obtain rfl := SolvK.of_sat hy2 (by decide) (show firstL exOne 2 [] = some [true, true] by decide)
  refine .inr (.inr ⟨false, [], rfl, _, _, _, _, _, Solve_fn exNone (by decide) 1, fun y3 hy3 => ?_⟩)
  obtain ⟨c, rfl, hc⟩ := SolvK.of_uns hy3 (by decide) (show firstL exNone 1 [] = none by decide)
  have s4 : CtrM Try.prog 24 false [] [.rs 2 1 (rowOf 2 [.i .i64 0, .i .i64 4]), .i .i64 2] (SolvK exBad 2) (fun _ => []) SolK.os SolK.av :=
    CtrM.of_eqs (args := [.rs 2 1 (rowsC exBad), .i .i64 2]) ⟨⟨rfl, rfl, one rfl⟩, AVEq.refl _⟩ (Solve_fn exBad (by decide) 2)
  refine .inr (.inr ⟨false, [], rfl, _, _, _, _, _, s4, fun y4 hy4 => ?_⟩)
  obtain rfl := SolvK.of_bad hy4 (by decide)
  have f1 : Ctr Try.prog 25 [.rs 2 exTwo.length (rowsC exTwo), .i .i64 2] [.row 3 1 2 (rowsI [-1, -1])] (.tup [.so 0, .i .i64 0]) := by
    have := Forced_fn exTwo (by decide) 2
    rw [show forcedY exTwo 2 = ([-1, -1], 0) by decide] at this
    exact this
  have f2 : Ctr Try.prog 25 [.rs 2 exOne.length (rowsC exOne), .i .i64 2] [.row 3 1 2 (rowsI [1, 1])] (.tup [.so 0, .i .i64 0]) := by
    have := Forced_fn exOne (by decide) 2
    rw [show forcedY exOne 2 = ([1, 1], 0) by decide] at this
    exact this
  repeat refine Or.inl ?_
  refine ⟨_, _, f1, ?_⟩
  repeat refine Or.inl ?_
  refine ⟨_, _, f2, ?_⟩
  have b1 : Ctr Try.prog 35 [.rs 1 2 (fun k => [.b ([false, false].getD k false)]), .rs 1 2 (rowOf 1 [.b false, .b false])] [] (.b true) :=
    Ctr.of_eq (args := [.rs 1 2 (rowsB [false, false]), .rs 1 2 (rowsB [false, false])]) ⟨⟨rfl, rfl, two rfl rfl⟩, ⟨rfl, rfl, two rfl rfl⟩⟩ (bools_fn [false, false] [false, false] (by decide) (by decide))
  have b2 : Ctr Try.prog 35 [.rs 1 2 (fun k => [.b ([false, true].getD k false)]), .rs 1 2 (rowOf 1 [.b false, .b true])] [] (.b true) :=
    Ctr.of_eq (args := [.rs 1 2 (rowsB [false, true]), .rs 1 2 (rowsB [false, true])]) ⟨⟨rfl, rfl, two rfl rfl⟩, ⟨rfl, rfl, two rfl rfl⟩⟩ (bools_fn [false, true] [false, true] (by decide) (by decide))
  have b3 : Ctr Try.prog 35 [.rs 1 2 (fun k => [.b ([true, true].getD k false)]), .rs 1 2 (rowOf 1 [.b true, .b true])] [] (.b true) :=
    Ctr.of_eq (args := [.rs 1 2 (rowsB [true, true]), .rs 1 2 (rowsB [true, true])]) ⟨⟨rfl, rfl, two rfl rfl⟩, ⟨rfl, rfl, two rfl rfl⟩⟩ (bools_fn [true, true] [true, true] (by decide) (by decide))
  repeat refine Or.inl ?_
  refine ⟨[], _, b1, ?_⟩
  repeat refine Or.inl ?_
  refine ⟨[], _, fun _ => b2, ?_⟩
  repeat refine Or.inl ?_
  refine ⟨[], _, fun _ => b3, ?_⟩
  have r1 : Ctr Try.prog 30 [.rs 2 exNone.length (rowsC exNone), .i .i64 1, .rs 1 c.length (rowsI c)] [] (.b true) := by
    have hcl : (c.length : Int) ≤ 4 * 1 := hc.len
    have := Refute_fn exNone (by decide) 1 c (by omega)
    rw [show (rightB exNone 1 && refB exNone 1 c) = true by rw [refB_iff.2 hc]; decide] at this
    exact this
  have r2 : Ctr Try.prog 30 [.rs 2 exNone.length (rowsC exNone), .i .i64 1, .rs 1 2 (rowOf 1 [.i .i64 0, .i .i64 1])] [] (.b true) :=
    Ctr.of_eq (args := [.rs 2 exNone.length (rowsC exNone), .i .i64 1, .rs 1 2 (rowsI [0, 1])]) ⟨AVEq.refl _, AVEq.refl _, ⟨rfl, rfl, two rfl rfl⟩⟩ (by
      have := Refute_fn exNone (by decide) 1 [0, 1] (by decide)
      rw [show (rightB exNone 1 && refB exNone 1 [0, 1]) = true by decide] at this
      exact this)
  have i1 : Ctr Try.prog 26 [.rs 1 2 (rowsI [-1, -1]), .rs 1 2 (rowOf 1 [.i .i64 (-1), .i .i64 (-1)])] [] (.b true) :=
    Ctr.of_eq (args := [.rs 1 2 (rowsI [-1, -1]), .rs 1 2 (rowsI [-1, -1])]) ⟨AVEq.refl _, ⟨rfl, rfl, two rfl rfl⟩⟩ (ints26_fn [-1, -1] [-1, -1] (by decide) (by decide))
  have i2 : Ctr Try.prog 26 [.rs 1 2 (rowsI [1, 1]), .rs 1 2 (rowOf 1 [.i .i64 1, .i .i64 1])] [] (.b true) :=
    Ctr.of_eq (args := [.rs 1 2 (rowsI [1, 1]), .rs 1 2 (rowsI [1, 1])]) ⟨AVEq.refl _, ⟨rfl, rfl, two rfl rfl⟩⟩ (ints26_fn [1, 1] [1, 1] (by decide) (by decide))
  have g1 : Ctr Try.prog 23 [.rs 2 exTwo.length (rowsC exTwo), .i .i64 2, .rs 1 2 (rowOf 1 [.i .i64 0, .i .i64 2])] [] (.b true) :=
    Ctr.of_eq (args := [.rs 2 exTwo.length (rowsC exTwo), .i .i64 2, .rs 1 2 (rowsI [0, 2])]) ⟨AVEq.refl _, AVEq.refl _, ⟨rfl, rfl, two rfl rfl⟩⟩ (by
      have := Follows_fn exTwo (by decide) 2 [0, 2] (by decide)
      rw [show followsB exTwo 2 [0, 2] = true by decide] at this
      exact this)
  have g2 : Ctr Try.prog 23 [.rs 2 exTwo.length (rowsC exTwo), .i .i64 2, .rs 1 1 (rowOf 1 [.i .i64 0])] [] (.b false) := by
    have := Follows_one exTwo (by decide) 2 0 0 rfl
    rw [show followsB exTwo 2 [0] = false by decide] at this
    exact this
  repeat refine Or.inl ?_
  refine ⟨[], _, fun _ => r1, ?_⟩
  repeat refine Or.inl ?_
  refine ⟨[], _, fun _ => r2, ?_⟩
  repeat refine Or.inl ?_
  refine ⟨[], _, fun _ => i1, ?_⟩
  repeat refine Or.inl ?_
  refine ⟨[], _, fun _ => i2, ?_⟩
  repeat refine Or.inl ?_
  refine ⟨[], _, fun _ => g1, ?_⟩
  repeat refine Or.inl ?_
  refine ⟨[], _, fun _ => g2, ?_⟩
  exact RetIs.b rfl
end Go.Proofs.Ytilhaifmfiobhaa
end

section
/-
  SatTells and SatDecides.
-/
namespace Go.Proofs.Ytilhaifmfiobhaa
open Go.Eng

theorem ints26_same (a : List Int) (ha : a.length < 2^62) : Ctr Try.prog 26 [.rs 1 a.length (rowsI a), .rs 1 a.length (rowsI a)] [] (.b true) := by
  have := ints26_fn a a ha ha
  rw [decide_eq_true rfl] at this
  exact this
theorem ints26_nil : Ctr Try.prog 26 [.val (.slice none 0 0), .val (.slice none 0 0)] [] (.b true) :=
  Ctr.of_eq (args := [.rs 1 0 (rowsI []), .rs 1 0 (rowsI [])]) ⟨⟨rfl, rfl⟩, ⟨rfl, rfl⟩⟩ (ints26_same [] (by decide))
theorem bools_same (a : List Bool) (ha : a.length < 2^62) : Ctr Try.prog 35 [.rs 1 a.length (rowsB a), .rs 1 a.length (rowsB a)] [] (.b true) := by
  have := bools_fn a a ha ha
  rw [decide_eq_true rfl] at this
  exact this
theorem bools_nil : Ctr Try.prog 35 [.val (.slice none 0 0), .val (.slice none 0 0)] [] (.b true) :=
  Ctr.of_eq (args := [.rs 1 0 (rowsB []), .rs 1 0 (rowsB [])]) ⟨⟨rfl, rfl⟩, ⟨rfl, rfl⟩⟩ (bools_same [] (by decide))
theorem Refute_nil (l : List Cl) (hl : l.length < 2^62) (n : Int) : Ctr Try.prog 30 [.rs 2 l.length (rowsC l), .i .i64 n, .val (.slice none 0 0)] [] (.b (rightB l n && refB l n [])) :=
  Ctr.of_eq (args := [.rs 2 l.length (rowsC l), .i .i64 n, .rs 1 0 (rowsI [])]) ⟨AVEq.refl _, AVEq.refl _, ⟨rfl, rfl⟩⟩ (Refute_fn l hl n [] (by decide))
theorem rRefute_nil (l : List Cl) (hl : l.length < 2^62) (n : Int) : Ctr Try.prog 31 [.rs 2 l.length (rowsC l), .i .i64 n, .val (.slice none 0 0)] [] (.b (rightB l n && refB l n [])) :=
  Ctr.of_eq (args := [.rs 2 l.length (rowsC l), .i .i64 n, .rs 1 0 (rowsI [])]) ⟨AVEq.refl _, AVEq.refl _, ⟨rfl, rfl⟩⟩ (rRefute_fn l hl n [] (by decide))
theorem Check_nil (l : List Cl) (hl : l.length < 2^62) (n : Int) : Ctr Try.prog 28 [.rs 2 l.length (rowsC l), .i .i64 n, .val (.slice none 0 0)] [] (.b (checkB l n [])) :=
  Ctr.of_eq (args := [.rs 2 l.length (rowsC l), .i .i64 n, .rs 1 0 (rowsB [])]) ⟨AVEq.refl _, AVEq.refl _, ⟨rfl, rfl⟩⟩ (Check_fn l hl n [] (by decide))
theorem sat_ref {l : List Cl} {n : Int} {vs : List Bool} (e : firstL l n.toNat [] = some vs) (c : List Int) : refB l n c = false := by
  rw [Bool.eq_false_iff]
  intro h
  exact (refB_iff.1 h).no vs (firstL_some.1 e).good.sat
theorem uns_check {l : List Cl} {n : Int} (e : firstL l n.toNat [] = none) (vs : List Bool) : checkB l n vs = false := by
  rw [Bool.eq_false_iff]
  intro h
  exact firstL_none.1 e ⟨vs, (checkB_iff.1 h).2⟩

set_option maxRecDepth 20000 in
set_option maxHeartbeats 4000000 in
theorem satTells_fn (l : List Cl) (n : Int) (vals : List Bool) (lits : List Int) :
    Ctr Try.prog 5 [.rs 2 l.length (rowsC l), .i .i64 n, .rs 1 vals.length (rowsB vals), .rs 1 lits.length (rowsI lits)] [] (.b true) := by
  refine fn_of_exec tabOk Try.func5 (by kernel_rfl) rfl (N := Try.f5.ntmps) rfl (res := [.tmp 8]) rfl rfl [] ?_
  repeat refine Or.inl ?_
  refine ⟨[], _, small_fn, ?_⟩
  repeat refine Or.inl ?_
  refine ⟨fun _ => RetIs.b rfl, fun h => ?_⟩
  have h : (((decide ((l.length : Int) > 40) || (decide (n > 9) && decide (n ≤ 400))) || decide ((vals.length : Int) > 12)) || decide ((lits.length : Int) > 40)) = false := h
  simp only [Bool.or_eq_false_iff, Bool.and_eq_false_iff, decide_eq_false_iff_not] at h
  have hl : l.length < 2 ^ 62 := by omega
  have hv : vals.length < 2 ^ 62 := by omega
  have hll : lits.length < 2 ^ 60 := by omega
  have hn : rightB l n = true → n ≤ 20 := fun hr => by
    have := (rightB_iff.1 hr).hi
    omega
  repeat refine Or.inl ?_
  refine ⟨[], _, Right_fn l hl n, ?_⟩
  repeat refine Or.inl ?_
  refine ⟨[], _, rRight_fn l hl n, ?_⟩
  repeat refine Or.inl ?_
  refine ⟨[], _, fun _ => Check_fn l hl n vals hv, ?_⟩
  repeat refine Or.inl ?_
  refine ⟨[], _, fun _ => rCheck_fn l hl n vals hv, ?_⟩
  repeat refine Or.inl ?_
  refine ⟨[], _, fun _ => Refute_fn l hl n lits hll, ?_⟩
  repeat refine Or.inl ?_
  refine ⟨[], _, fun _ => rRefute_fn l hl n lits hll, ?_⟩
  repeat refine Or.inl ?_
  refine ⟨[], _, fun _ => Follows_fn l hl n lits (by omega), ?_⟩
  repeat refine Or.inl ?_
  refine ⟨[], _, fun _ => rFollows_fn l hl n hn lits (by omega), ?_⟩
  repeat refine Or.inl ?_
  refine ⟨fun h2 => ?_, fun _ => ?_⟩
  · have h2 : ((((rightB l n != rightB l n) || (checkB l n vals != checkB l n vals)) || ((rightB l n && refB l n lits) != (rightB l n && refB l n lits))) || (followsB l n lits != followsB l n lits)) = true := h2
    simp at h2
  refine .inr (.inr ⟨false, [], rfl, _, _, _, _, _, Solve_fn l hl n, fun y hy => ?_⟩)
  cases hrt : rightB l n with
  | false =>
    obtain rfl := SolvK.of_bad hy hrt
    have rr := rRight_fn l hl n
    rw [hrt] at rr
    have f := Forced_fn l hl n
    rw [forcedY_bad hrt] at f
    repeat refine Or.inl ?_
    refine ⟨[], _, rr, ?_⟩
    repeat refine Or.inl ?_
    refine ⟨fun _ => ?_, fun h => (by cases h)⟩
    repeat refine Or.inl ?_
    refine ⟨_, _, f, ?_⟩
    exact RetIs.b rfl
  | true =>
  have rr := rRight_fn l hl n
  rw [hrt] at rr
  have hR := rightB_iff.1 hrt
  have hn2 := hn hrt
  obtain ⟨m, rfl⟩ := Int.eq_ofNat_of_zero_le hR.lo
  have cf := rFirst_fn l hl m hR (by omega)
  have f := Forced_fn l hl m
  have g := rForced_fn l hl m hn
  cases e : firstL l m [] with
  | some vs =>
    obtain rfl := SolvK.of_sat hy hrt e
    have hvl : vs.length = m := (firstL_some.1 e).good.len
    rw [e] at cf
    rw [forcedY_sat hrt e] at f g
    repeat refine Or.inl ?_
    refine ⟨[], _, rr, ?_⟩
    repeat refine Or.inl ?_
    refine ⟨fun h => (by cases h), fun _ => ?_⟩
    repeat refine Or.inl ?_
    refine ⟨_, _, cf, ?_⟩
    repeat refine Or.inl ?_
    refine ⟨_, _, f, ?_⟩
    repeat refine Or.inl ?_
    refine ⟨_, _, g, ?_⟩
    repeat refine Or.inl ?_
    refine ⟨[], _, fun _ => ints26_same (forcedL l (m : Int).toNat vs) (by simp [forcedL]; omega), ?_⟩
    repeat refine Or.inl ?_
    refine ⟨[], _, fun _ => bools_same vs (by omega), ?_⟩
    repeat refine Or.inl ?_
    refine ⟨fun h => (by cases h), fun _ => ?_⟩
    repeat refine Or.inl ?_
    refine ⟨fun _ => ?_, fun h => (by cases h)⟩
    exact RetIs.b rfl
  | none =>
    obtain ⟨c, rfl, hc⟩ := SolvK.of_uns hy hrt e
    have hcl : (c.length : Int) ≤ 4 * m := hc.len
    rw [e] at cf
    rw [forcedY_uns hrt e] at f g
    repeat refine Or.inl ?_
    refine ⟨[], _, rr, ?_⟩
    repeat refine Or.inl ?_
    refine ⟨fun h => (by cases h), fun _ => ?_⟩
    repeat refine Or.inl ?_
    refine ⟨_, _, cf, ?_⟩
    repeat refine Or.inl ?_
    refine ⟨_, _, f, ?_⟩
    repeat refine Or.inl ?_
    refine ⟨_, _, g, ?_⟩
    repeat refine Or.inl ?_
    refine ⟨[], _, fun _ => ints26_nil, ?_⟩
    repeat refine Or.inl ?_
    refine ⟨[], _, fun _ => bools_nil, ?_⟩
    repeat refine Or.inl ?_
    refine ⟨fun h => (by cases h), fun _ => ?_⟩
    repeat refine Or.inl ?_
    refine ⟨fun h => (by cases h), fun _ => ?_⟩
    have r := rRefute_fn l hl m c (by omega)
    rw [hrt, refB_iff.2 hc] at r
    repeat refine Or.inl ?_
    refine ⟨[], _, fun _ => r, ?_⟩
    exact RetIs.b rfl

set_option maxRecDepth 20000 in
set_option maxHeartbeats 4000000 in
theorem satDecides_fn (l : List Cl) (n : Int) (vals : List Bool) (cyc : List Int) :
    Ctr Try.prog 6 [.rs 2 l.length (rowsC l), .i .i64 n, .rs 1 vals.length (rowsB vals), .rs 1 cyc.length (rowsI cyc)] [] (.b true) := by
  refine fn_of_exec tabOk Try.func6 (by kernel_rfl) rfl (N := Try.f6.ntmps) rfl (res := [.tmp 8]) rfl rfl [] ?_
  repeat refine Or.inl ?_
  refine ⟨[], _, small_fn, ?_⟩
  repeat refine Or.inl ?_
  refine ⟨[], _, fun hg => rRight_fn l (by
    have hg : (((decide ((l.length : Int) > 120) || decide (n > 60)) || decide ((vals.length : Int) > 60)) || decide ((cyc.length : Int) > 250)) = false := hg.1
    simp only [Bool.or_eq_false_iff, decide_eq_false_iff_not] at hg
    omega) n, ?_⟩
  repeat refine Or.inl ?_
  refine ⟨fun _ => RetIs.b rfl, fun h => ?_⟩
  have h : ((((decide ((l.length : Int) > 120) || decide (n > 60)) || decide ((vals.length : Int) > 60)) || decide ((cyc.length : Int) > 250)) || !rightB l n) = false := h
  simp only [Bool.or_eq_false_iff, Bool.not_eq_false', decide_eq_false_iff_not] at h
  have hrt := h.2
  have hl : l.length < 2 ^ 62 := by omega
  have hv : vals.length < 2 ^ 62 := by omega
  have hll : cyc.length < 2 ^ 60 := by omega
  have hR := rightB_iff.1 hrt
  refine .inr (.inr ⟨false, [], rfl, _, _, _, _, _, Solve_fn l hl n, fun y hy => ?_⟩)
  cases e : firstL l n.toNat [] with
  | some vs =>
    obtain rfl := SolvK.of_sat hy hrt e
    have hg := (firstL_some.1 e).good
    have hvl := hg.len
    have hlo := hR.lo
    have c1 : Ctr Try.prog 28 [.rs 2 l.length (rowsC l), .i .i64 n, .rs 1 vs.length (rowsB vs)] [] (.b true) := by
      have := Check_fn l hl n vs (by omega)
      rw [checkB_iff.2 ⟨hR, hg⟩] at this
      exact this
    have r1 : Ctr Try.prog 30 [.rs 2 l.length (rowsC l), .i .i64 n, .rs 1 cyc.length (rowsI cyc)] [] (.b false) := by
      have := Refute_fn l hl n cyc hll
      rw [sat_ref e, Bool.and_false] at this
      exact this
    have r2 := Refute_nil l hl n
    have c2 := Check_fn l hl n vals hv
    repeat refine Or.inl ?_
    refine ⟨[], _, fun _ => c1, ?_⟩
    repeat refine Or.inl ?_
    refine ⟨[], _, fun _ => r1, ?_⟩
    repeat refine Or.inl ?_
    refine ⟨[], _, fun _ => r2, ?_⟩
    repeat refine Or.inl ?_
    refine ⟨[], _, fun _ => c2, ?_⟩
    repeat refine Or.inl ?_
    refine ⟨fun h => (by cases h), fun _ => ?_⟩
    repeat refine Or.inl ?_
    refine ⟨[], _, fun _ => c2, ?_⟩
    repeat refine Or.inl ?_
    refine ⟨[], _, fun _ => r1, ?_⟩
    refine RetIs.b ?_
    cases checkB l n vals <;> rfl
  | none =>
    obtain ⟨c, rfl, hc⟩ := SolvK.of_uns hy hrt e
    have hcl := hc.len
    have c1 := Check_nil l hl n
    have r1 := Refute_fn l hl n cyc hll
    have r2 : Ctr Try.prog 30 [.rs 2 l.length (rowsC l), .i .i64 n, .rs 1 c.length (rowsI c)] [] (.b true) := by
      have := Refute_fn l hl n c (by omega)
      rw [refB_iff.2 hc, hrt] at this
      exact this
    have c2 : Ctr Try.prog 28 [.rs 2 l.length (rowsC l), .i .i64 n, .rs 1 vals.length (rowsB vals)] [] (.b false) := by
      have := Check_fn l hl n vals hv
      rw [uns_check e] at this
      exact this
    repeat refine Or.inl ?_
    refine ⟨[], _, fun _ => c1, ?_⟩
    repeat refine Or.inl ?_
    refine ⟨[], _, fun _ => r1, ?_⟩
    repeat refine Or.inl ?_
    refine ⟨[], _, fun _ => r2, ?_⟩
    repeat refine Or.inl ?_
    refine ⟨[], _, fun _ => c2, ?_⟩
    repeat refine Or.inl ?_
    refine ⟨fun h => (by cases h), fun _ => ?_⟩
    repeat refine Or.inl ?_
    refine ⟨[], _, fun _ => c2, ?_⟩
    repeat refine Or.inl ?_
    refine ⟨[], _, fun _ => r1, ?_⟩
    exact RetIs.b rfl
end Go.Proofs.Ytilhaifmfiobhaa
end

section
/-
  SatFirst.
-/
namespace Go.Proofs.Ytilhaifmfiobhaa
open Go.Eng

theorem catC0 (f : Nat → List AV) (o : List Cl) : ∀ q, q < o.length → catG 0 f (rowsC o) q = rowsC o q := by
  intro q _
  unfold catG
  rw [if_neg (by omega), Nat.sub_zero]
theorem getD_snocC (o : List Cl) (c : Cl) (q : Nat) : (o ++ [c]).getD q dC = if q < o.length then o.getD q dC else if q = o.length then c else dC := by
  simp only [List.getD]
  by_cases h : q < o.length
  · rw [if_pos h, List.getElem?_append_left h]
  · rw [if_neg h, List.getElem?_append_right (by omega)]
    by_cases h2 : q = o.length
    · rw [if_pos h2, h2]; simp
    · rw [if_neg h2, List.getElem?_eq_none (by simp; omega)]; rfl
theorem catC2 (o : List Cl) (c : Cl) : ∀ q, q < (o ++ [c]).length → catG o.length (rowsC o) (rowOf 2 c.av) q = rowsC (o ++ [c]) q := by
  intro q hq
  unfold catG rowsC
  rw [getD_snocC]
  by_cases h : q < o.length
  · rw [if_pos h, if_pos h]
  · rw [if_neg h, if_neg h]
    have : q = o.length := by simp at hq; omega
    subst this
    rw [Nat.sub_self, if_pos rfl]
    rfl
theorem catC1 (f : Nat → List AV) (o : List Cl) (c : Cl) : ∀ q, q < (o ++ [c]).length → catG (0 + o.length) (catG 0 f (rowsC o)) (rowOf 2 c.av) q = rowsC (o ++ [c]) q := by
  intro q hq
  rw [← catC2 o c q hq, Nat.zero_add]
  unfold catG
  split
  · rw [if_neg (by omega), Nat.sub_zero]
  · rfl
theorem snocC_row (o : List Cl) (c : Cl) {l : List Cl} (hl : l = o ++ [c]) : AOEq (.row 25 2 l.length (rowsC l)) (.row 25 2 (o.length + 1) (catG o.length (rowsC o) (rowOf 2 c.av))) := by
  subst hl
  exact ⟨rfl, rfl, by simp, catC2 o c⟩
theorem snocC_av (f : Nat → List AV) (o : List Cl) (c : Cl) {l : List Cl} (hl : l = o ++ [c]) : AVEq (.rs 2 l.length (rowsC l)) (.rs 2 (0 + o.length + 1) (catG (0 + o.length) (catG 0 f (rowsC o)) (rowOf 2 c.av))) := by
  subst hl
  exact ⟨rfl, by simp, catC1 f o c⟩

set_option maxRecDepth 20000 in
set_option maxHeartbeats 4000000 in
theorem satFirst_fn (l : List Cl) (n : Int) (vals : List Bool) :
    Ctr Try.prog 7 [.rs 2 l.length (rowsC l), .i .i64 n, .rs 1 vals.length (rowsB vals)] [] (.b true) := by
  refine fn_of_exec tabOk Try.func7 (by kernel_rfl) rfl (N := Try.f7.ntmps) rfl (res := [.tmp 6]) rfl rfl [(16, [.sl 90 .u])] ?_
  repeat refine Or.inl ?_
  refine ⟨[], _, small_fn, ?_⟩
  repeat refine Or.inl ?_
  refine ⟨[], _, fun hg => rRight_fn l (by
    have hg : ((decide ((l.length : Int) > 120) || decide (n > 40)) || decide ((vals.length : Int) > 40)) = false := hg.1
    simp only [Bool.or_eq_false_iff, decide_eq_false_iff_not] at hg
    omega) n, ?_⟩
  repeat refine Or.inl ?_
  refine ⟨fun _ => RetIs.b rfl, fun h => ?_⟩
  have h : (((decide ((l.length : Int) > 120) || decide (n > 40)) || decide ((vals.length : Int) > 40)) || !rightB l n) = false := h
  simp only [Bool.or_eq_false_iff, Bool.not_eq_false', decide_eq_false_iff_not] at h
  have hrt := h.2
  have hl : l.length < 2 ^ 62 := by omega
  have hv : vals.length < 2 ^ 62 := by omega
  have hR := rightB_iff.1 hrt
  refine .inr (.inr ⟨false, [], rfl, _, _, _, _, _, Solve_fn l hl n, fun y hy => ?_⟩)
  cases e : firstL l n.toNat [] with
  | none =>
    obtain ⟨c, rfl, hc⟩ := SolvK.of_uns hy hrt e
    have c2 : Ctr Try.prog 28 [.rs 2 l.length (rowsC l), .i .i64 n, .rs 1 vals.length (rowsB vals)] [] (.b false) := by
      have := Check_fn l hl n vals hv
      rw [uns_check e] at this
      exact this
    repeat refine Or.inl ?_
    refine ⟨fun _ => ?_, fun h => (by cases h)⟩
    repeat refine Or.inl ?_
    refine ⟨[], _, fun _ => c2, ?_⟩
    exact RetIs.b rfl
  | some vs =>
    obtain rfl := SolvK.of_sat hy hrt e
    obtain ⟨m, rfl⟩ := Int.eq_ofNat_of_zero_le hR.lo
    rw [Int.toNat_natCast] at e
    have hF := firstL_some.1 e
    have hvl : vs.length = m := hF.good.len
    repeat refine Or.inl ?_
    refine ⟨fun h => (by cases h), fun _ => ?_⟩
    repeat refine Or.inl ?_
    refine ⟨fun h => ?_, fun _ => ?_⟩
    · have h : ((vs.length : Int) != m) = true := h
      rw [hvl] at h
      simp at h
    refine .inr ⟨[], Unit, fun _ => True, fun _ => [], fun _ => [], ?_, fun _ _ => ?_⟩
    · repeat refine Or.inl ?_
      refine ⟨[], _, Check_fn l hl m vals hv, ?_⟩
      repeat refine Or.inl ?_
      refine ⟨fun hch => ?_, fun _ => ⟨(), [], trivial, rfl, rfl, rfl, rfl, rfl, trivial, trivial⟩⟩
      have hch : checkB l m vals = true := hch
      have g := (checkB_iff.1 hch).2
      rw [Int.toNat_natCast] at g
      have hal := g.len
      repeat refine Or.inl ?_
      refine ⟨[], Nat, fun k => k ≤ m ∧ ∀ w, w < k → vs.getD w false = vals.getD w false, fun k => [⟨11, [], .i .i64 k⟩], fun _ => [], fun k => m - k,
        ⟨0, [], ⟨Nat.zero_le _, fun j hj => by omega⟩, rfl, rfl, rfl, rfl, rfl, ⟨rfl, rfl⟩, trivial⟩, ?_⟩
      rintro k ⟨hk, heq⟩
      have ek : (k : Int).toNat = k := Int.toNat_natCast k
      have lt : decide ((k : Int) < m) = true → k < m := fun h => by
        have := of_decide_eq_true h
        omega
      repeat refine Or.inl ?_
      refine ⟨fun hg => ⟨by omega, by have := lt hg.1; omega⟩, fun hg => by have := lt hg.1; omega, fun hg => ⟨by omega, by have := lt hg.1; omega⟩, ⟨fun hc => ?_, fun hc => ?_⟩⟩
      · have hc : (decide ((k : Int) < m) && (vs.getD (k : Int).toNat false == vals.getD (k : Int).toNat false)) = true := hc
        rw [ek, Bool.and_eq_true, beq_iff_eq] at hc
        have := lt hc.1
        refine ⟨k + 1, [], ⟨by omega, fun j hj => ?_⟩, by dsimp only; omega, rfl, rfl, rfl, rfl, rfl, ⟨rfl, wr (by omega) (by omega)⟩, trivial⟩
        by_cases hjk : j = k
        · rw [hjk]; exact hc.2
        · exact heq j (by omega)
      · have hc : (decide ((k : Int) < m) && (vs.getD (k : Int).toNat false == vals.getD (k : Int).toNat false)) = false := hc
        repeat refine Or.inl ?_
        refine ⟨fun hg => ⟨by omega, by have := lt hg.1; omega⟩, fun hg => by have := lt hg.1; omega, ⟨fun h2 => ?_, fun _ => ⟨(), [], trivial, rfl, rfl, rfl, rfl, rfl, trivial, trivial⟩⟩⟩
        have h2 : (decide ((k : Int) < m) && vs.getD (k : Int).toNat false) = true := h2
        rw [ek, Bool.and_eq_true] at h2
        rw [ek, h2.1, Bool.true_and, beq_eq_false_iff_ne] at hc
        have := first_le hF g (lt h2.1) heq hc
        rw [this] at h2
        cases h2.2
    refine ⟨fits (by omega), ?_⟩
    have hmore : ∀ k, k ≤ m → (l ++ unitsV vs k).length = l.length + k := fun k _ => by simp [unitsV]
    repeat refine Or.inl ?_
    refine ⟨trivial, ?_⟩
    repeat refine Or.inl ?_
    refine ⟨[], Nat, fun k => k ≤ m, fun k => [⟨13, [], .i .i64 k⟩, ⟨12, [], .so 2⟩], fun k => [⟨2, [], .row 25 2 (l ++ unitsV vs k).length (rowsC (l ++ unitsV vs k))⟩], fun k => m - k,
      ⟨0, [], Nat.zero_le _, rfl, rfl, rfl, rfl, rfl, ⟨⟨rfl, rfl⟩, rfl⟩, ⟨rfl, rfl, by simp [unitsV], fun q hq => ?_⟩⟩, ?_⟩
    · have e0 : l ++ unitsV vs 0 = l := by simp [unitsV]
      have hq : q < (l ++ unitsV vs 0).length := hq
      show catG 0 _ (rowsC l) q = rowsC (l ++ unitsV vs 0) q
      rw [e0] at hq ⊢
      exact catC0 _ l q hq
    intro k hk
    have hk : k ≤ m := hk
    have hln := hmore k hk
    refine .inl ⟨fun hc => ?_, fun hc => RetIs.b rfl⟩
    have hc := dlt hc
    have hc : (k : Int) < m := hc
    have ek : (k : Int).toNat = k := Int.toNat_natCast k
    have w2 : IntKind.i64.wrap (2 * (k : Int)) = 2 * k := wr (by omega) (by omega)
    have w3 : IntKind.i64.wrap (IntKind.i64.wrap (2 * (k : Int)) + 1) = 2 * k + 1 := by rw [w2]; exact wr (by omega) (by omega)
    have us := unitsV_succ vs k
    repeat refine Or.inl ?_
    refine ⟨⟨by omega, by omega⟩, by omega, ?_⟩
    repeat refine Or.inl ?_
    refine ⟨fun h2 => ?_, fun h2 => ?_⟩
    · have h2 : vs.getD (k : Int).toNat false = true := h2
      rw [ek] at h2
      have hlit : litOf vs k = 2 * (k : Int) := if_pos h2
      have hu := first_unsat hF (v := k) (by omega) h2
      have hr2 : RightP ((l ++ unitsV vs k) ++ [unit (2 * (k : Int) + 1)]) m := by
        refine (hR.append (unitsV_right vs (k := k) (by omega)) (by have := hR.len; simp [unitsV]; omega)).append (fun c hc => ?_) (by rw [hln]; simp; omega)
        rw [List.mem_singleton.1 hc]
        exact ⟨⟨by show 0 ≤ 2 * (k : Int) + 1; omega, by show 2 * (k : Int) + 1 < _; omega⟩, ⟨by show 0 ≤ 2 * (k : Int) + 1; omega, by show 2 * (k : Int) + 1 < _; omega⟩⟩
      refine ⟨fits (by omega), fits (by omega), ?_⟩
      have av : ∀ f, AVEq (.rs 2 ((l ++ unitsV vs k) ++ [unit (2 * (k : Int) + 1)]).length (rowsC ((l ++ unitsV vs k) ++ [unit (2 * (k : Int) + 1)])))
          (.rs 2 (0 + (l ++ unitsV vs k).length + 1) (catG (0 + (l ++ unitsV vs k).length) (catG 0 f (rowsC (l ++ unitsV vs k))) (rowOf 2 [.i .i64 (IntKind.i64.wrap (IntKind.i64.wrap (2 * (k : Int)) + 1)), .i .i64 (IntKind.i64.wrap (IntKind.i64.wrap (2 * (k : Int)) + 1))]))) := fun f => by
        rw [w3]
        exact snocC_av f _ (unit (2 * (k : Int) + 1)) rfl
      refine .inr (.inr ⟨false, [], rfl, _, _, _, _, _, CtrM.of_eqs (args := [.rs 2 ((l ++ unitsV vs k) ++ [unit (2 * (k : Int) + 1)]).length (rowsC ((l ++ unitsV vs k) ++ [unit (2 * (k : Int) + 1)])), .i .i64 m]) ⟨av _, AVEq.refl _⟩ (Solve_fn ((l ++ unitsV vs k) ++ [unit (2 * (k : Int) + 1)]) (by simp [unitsV]; omega) m), fun y2 hy2 => ?_⟩)
      obtain ⟨c2, rfl, _⟩ := SolvK.of_uns hy2 (rightB_iff.2 hr2) (firstL_none.2 hu)
      repeat refine Or.inl ?_
      refine ⟨fun h => (by cases h), fun _ => ?_⟩
      refine ⟨fits (by omega), ?_⟩
      refine ⟨k + 1, [(2, 9)], by dsimp only; omega, by dsimp only; omega, rfl, rfl, rfl, rfl, rfl, ⟨⟨rfl, wr (by omega) (by omega)⟩, rfl⟩, ?_⟩
      rw [w2]
      exact snocC_row _ (unit (2 * (k : Int))) (by rw [us, hlit, List.append_assoc])
    · have h2 : vs.getD (k : Int).toNat false = false := h2
      rw [ek] at h2
      have hlit : litOf vs k = 2 * (k : Int) + 1 := if_neg (by rw [h2]; decide)
      refine ⟨fits (by omega), ?_⟩
      refine ⟨k + 1, [(2, 4)], by dsimp only; omega, by dsimp only; omega, rfl, rfl, rfl, rfl, rfl, ⟨⟨rfl, wr (by omega) (by omega)⟩, rfl⟩, ?_⟩
      rw [w3]
      exact snocC_row _ (unit (2 * (k : Int) + 1)) (by rw [us, hlit, List.append_assoc])
end Go.Proofs.Ytilhaifmfiobhaa
end
