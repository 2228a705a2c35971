/-
  Bridges: ranks, and what is chosen.
-/
import Derived.Test.YtklmfkejgjhneaaR4
namespace Go.Proofs.Ytklmfkejgjhneaa
open Go.Eng

theorem rankStep_len (B : List Bri) (R : List Int) (i : Int) : (rankStep B R i).length = R.length := by simp [rankStep]
theorem rankRound_len (B : List Bri) : ∀ (o : List Int) (R : List Int), (rankRound B o R).length = R.length
  | [], R => rfl
  | i :: r, R => by
    have := rankRound_len B r (rankStep B R i)
    rw [rankStep_len] at this
    exact this
theorem rankIt_len (B : List Bri) (o : List Int) (R : List Int) : ∀ k, (rankIt B o R k).length = R.length
  | 0 => rfl
  | k + 1 => by
    show (rankRound B o (rankIt B o R k)).length = _
    rw [rankRound_len, rankIt_len B o R k]
def RBd (R : List Int) (m : Nat) : Prop := ∀ j, 0 ≤ R.getD j 0 ∧ R.getD j 0 ≤ m
theorem RBd.step {B : List Bri} {R : List Int} {m : Nat} (h : RBd R m) (i : Int) : RBd (rankStep B R i) (m + 1) := by
  intro j
  unfold rankStep
  by_cases ht : (br B i).to.toNat < R.length
  · rw [getD_setD 0 R _ _ ht]
    split
    · have h1 := h (br B i).to.toNat
      have h2 := h (br B i).fr.toNat
      omega
    · have h1 := h j
      omega
  · rw [List.set_eq_of_length_le (by omega)]
    have h1 := h j
    omega
theorem RBd.round {B : List Bri} : ∀ (o : List Int) {R : List Int} {m : Nat}, RBd R m → RBd (rankRound B o R) (m + o.length)
  | [], R, m, h => h
  | i :: r, R, m, h => by
    have := RBd.round (B := B) r (h.step (B := B) i)
    have e : m + 1 + r.length = m + (i :: r).length := by simp; omega
    rw [e] at this
    exact this
theorem RBd.mono {R : List Int} {m q : Nat} (h : RBd R m) (hm : m ≤ q) : RBd R q := fun j => by
  have := h j
  omega
theorem getD_repl {n j : Nat} : (List.replicate n (0 : Int)).getD j 0 = 0 := by
  simp only [List.getD]
  rw [List.getElem?_replicate]
  split <;> rfl
theorem RBd.it {B : List Bri} {o : List Int} {n : Nat} : ∀ k, RBd (rankIt B o (List.replicate n 0) k) (k * o.length)
  | 0 => fun j => by
    show 0 ≤ (List.replicate n (0 : Int)).getD j 0 ∧ (List.replicate n (0 : Int)).getD j 0 ≤ _
    rw [getD_repl]
    simp
  | k + 1 => by
    have := (RBd.it (B := B) (o := o) (n := n) k).round (B := B) o
    rw [Nat.add_mul, Nat.one_mul]
    exact this
theorem rankRound_take (B : List Bri) (o : List Int) (R : List Int) (k : Nat) (h : k < o.length) : rankRound B (o.take (k + 1)) R = rankStep B (rankRound B (o.take k) R) (o.getD k 0) := foldl_take _ _ o k 0 h
theorem rank_row (B : List Bri) (R : List Int) (i : Int) {m : Nat} (hR : R.length = m) (ht : (br B i).to.toNat < m) {v : Int} (hv : v = max (R.getD (br B i).to.toNat 0) (R.getD (br B i).fr.toNat 0 + 1)) :
    AOEq (.row 3 1 m (rowsI (rankStep B R i))) (.row 3 1 m (fun q => if q = (br B i).to.toNat then over 0 [.i .i64 v] (rowsI R q) else rowsI R q)) := by
  subst hv
  refine ⟨rfl, rfl, rfl, fun q hq => ?_⟩
  unfold rankStep rowsI
  rw [getD_setD 0 R _ _ (by omega)]
  dsimp only
  by_cases h : q = (br B i).to.toNat
  · rw [if_pos h, if_pos h]
    rfl
  · rw [if_neg h, if_neg h]

set_option maxRecDepth 20000 in
set_option maxHeartbeats 2000000 in
theorem ranks_fn (B : List Bri) (n : Int) (hV : Valid B n) (o : List Int) (hO : OkO B o) (hol : o.length < 1000000) :
    Ctr Try.prog 91 [.rs 3 B.length (rowsB B), .rs 1 o.length (rowsI o), .i .i64 n] [.row 3 1 (ranksL B o n).length (rowsI (ranksL B o n))] (.so 0) := by
  refine fn_of_exec tabOk Try.func91 (by kernel_rfl) rfl (N := Try.f91.ntmps) rfl (res := [.tmp 6]) rfl rfl [] ?_
  have hh := hV.hi
  have hlo := hV.lo
  refine ⟨⟨rfl, by omega, show 8 * n.toNat ≤ 140737488355328 from by omega⟩, ?_⟩
  repeat refine Or.inl ?_
  refine ⟨[], Nat, fun r => r ≤ n.toNat, fun r => [⟨14, [], .i .i64 r⟩], fun r => [⟨0, [], .row 3 1 n.toNat (rowsI (rankIt B o (List.replicate n.toNat 0) r))⟩], fun r => n.toNat - r,
    ⟨0, [], Nat.zero_le _, rfl, rfl, rfl, rfl, rfl, ⟨rfl, rfl⟩, ⟨rfl, rfl, rfl, fun q hq => by show _ = [AV.i .i64 ((List.replicate n.toNat (0 : Int)).getD q 0)]; rw [getD_repl]; rfl⟩⟩, ?_⟩
  intro r hr
  refine .inl ⟨fun hc => ?_, fun hc => ?_⟩
  · have hc : decide ((r : Int) < n) = true := hc
    rw [decide_eq_true_eq] at hc
    have hMl := rankIt_len B o (List.replicate n.toNat 0) r
    rw [List.length_replicate] at hMl
    have hMb := RBd.it (B := B) (o := o) (n := n.toNat) r
    have hMb := hMb.mono (show r * o.length ≤ 12 * 1000000 from Nat.mul_le_mul (by omega) (by omega))
    have hnx : rankIt B o (List.replicate n.toNat 0) (r + 1) = rankRound B o (rankIt B o (List.replicate n.toNat 0) r) := rfl
    generalize rankIt B o (List.replicate n.toNat 0) r = M at *
    repeat refine Or.inl ?_
    refine ⟨[], Nat, fun k => k ≤ o.length, fun k => [⟨18, [], .i .i64 k⟩], fun k => [⟨0, [], .row 3 1 n.toNat (rowsI (rankRound B (o.take k) M))⟩], fun k => o.length - k,
      ⟨0, [], Nat.zero_le _, rfl, rfl, rfl, rfl, rfl, ⟨rfl, rfl⟩, ⟨rfl, rfl, rfl, fun _ _ => rfl⟩⟩, ?_⟩
    intro k hk
    refine .inl ⟨fun hc => ?_, fun hc => ?_⟩
    · have hc := dlt hc
      have ek : (k : Int).toNat = k := Int.toNat_natCast k
      have hs := rankRound_take B o M k (by omega)
      have hl2 : (rankRound B (o.take k) M).length = n.toNat := by rw [rankRound_len, hMl]
      have hb2 := hMb.round (B := B) (o.take k)
      have htk : (o.take k).length = k := by rw [List.length_take]; omega
      rw [htk] at hb2
      generalize rankRound B (o.take k) M = M2 at *
      have hmem : o.getD (k : Int).toNat 0 ∈ o := by rw [ek]; exact getD_memD 0 (by omega)
      have hi := hO _ hmem
      have hb := hV.br hi
      have hs : rankRound B (o.take (k + 1)) M = rankStep B M2 (o.getD (k : Int).toNat 0) := by rw [ek]; exact hs
      have f1 : 0 ≤ (B.getD (o.getD (k : Int).toNat 0).toNat dB).fr := hb.1
      have f2 : (B.getD (o.getD (k : Int).toNat 0).toNat dB).fr < n := hb.2.1
      have f3 : 0 ≤ (B.getD (o.getD (k : Int).toNat 0).toNat dB).to := hb.2.2.1
      have f4 : (B.getD (o.getD (k : Int).toNat 0).toNat dB).to < n := hb.2.2.2
      have g1 := hb2 (br B (o.getD (k : Int).toNat 0)).fr.toNat
      have hrow := rank_row B M2 (o.getD (k : Int).toNat 0) hl2 (show (br B (o.getD (k : Int).toNat 0)).to.toNat < n.toNat from by
        have h1 : 0 ≤ (br B (o.getD (k : Int).toNat 0)).to := f3
        have h2 : (br B (o.getD (k : Int).toNat 0)).to < n := f4
        omega) (v := max (M2.getD (br B (o.getD (k : Int).toNat 0)).to.toNat 0) (IntKind.i64.wrap (M2.getD (br B (o.getD (k : Int).toNat 0)).fr.toNat 0 + 1))) (by rw [wr (by omega) (by omega)])
      rw [← hs] at hrow
      repeat refine Or.inl ?_
      refine ⟨⟨by omega, by omega⟩, ⟨hi.1, hi.2⟩, ?_⟩
      repeat refine Or.inl ?_
      refine ⟨⟨f3, by omega⟩, by omega, ⟨f1, by omega⟩, by omega, ⟨f3, by omega⟩, by omega, ?_⟩
      exact ⟨k + 1, [], by dsimp only; omega, by dsimp only; omega, rfl, rfl, rfl, rfl, rfl, ⟨rfl, wr (by omega) (by omega)⟩, hrow⟩
    · have hc := dnlt hc
      have hk2 : o.take k = o := List.take_of_length_le (by omega)
      rw [hk2]
      exact ⟨r + 1, [], by dsimp only; omega, by dsimp only; omega, rfl, rfl, rfl, rfl, rfl, ⟨rfl, wr (by omega) (by omega)⟩, ⟨rfl, rfl, rfl, fun _ _ => by rw [hnx]⟩⟩
  · have hc : decide ((r : Int) < n) = false := hc
    rw [decide_eq_false_iff_not] at hc
    obtain rfl : r = n.toNat := by omega
    have hl : (ranksL B o n).length = n.toNat := by unfold ranksL; rw [rankIt_len, List.length_replicate]
    exact RetIs.so rfl hl.symm (fun _ _ => rfl) (fun _ _ => rfl)

/-! ### what is chosen, both rounds alike -/
abbrev II := List Int × List Int
def cstep (B : List Bri) (r : Nat) (s : II) (k : Nat) : Option II :=
  if ((br B k).own != decide ((r : Int) = 1)) = true then some s else
  if reachB B s.1 (br B k).to (br B k).fr = true then (if r = 0 then none else some (s.1, s.2 ++ [(k : Int)])) else some (s.1 ++ [(k : Int)], s.2)
def cfold (B : List Bri) (r : Nat) (s : II) : Nat → Option II
  | 0 => some s
  | k + 1 => (cfold B r s k).bind fun t => cstep B r t k
def cAll (B : List Bri) : Nat → Option II
  | 0 => some ([], [])
  | r + 1 => (cAll B r).bind fun s => cfold B r s B.length
theorem passF_succ (B : List Bri) (k : Nat) : passF B (k + 1) = (match passF B k with
    | none => none
    | some o => if (br B k).own = true then some o else if reachB B o (br B k).to (br B k).fr = true then none else some (o ++ [(k : Int)])) := rfl
theorem passO_succ (B : List Bri) (o0 : List Int) (k : Nat) : passO B o0 (k + 1) = if (br B k).own = false then passO B o0 k else
    if reachB B (passO B o0 k).1 (br B k).to (br B k).fr = true then ((passO B o0 k).1, (passO B o0 k).2 ++ [(k : Int)]) else ((passO B o0 k).1 ++ [(k : Int)], (passO B o0 k).2) := rfl
theorem cfold0 (B : List Bri) : ∀ k, cfold B 0 ([], []) k = (passF B k).map fun o => (o, [])
  | 0 => rfl
  | k + 1 => by
    show (cfold B 0 ([], []) k).bind _ = _
    rw [cfold0 B k, passF_succ]
    cases passF B k with
    | none => rfl
    | some o =>
      show cstep B 0 (o, []) k = _
      unfold cstep
      dsimp only
      cases (br B k).own with
      | true => rfl
      | false =>
        cases reachB B o (br B k).to (br B k).fr <;> rfl
theorem cfold1 (B : List Bri) (o0 : List Int) : ∀ k, cfold B 1 (o0, []) k = some (passO B o0 k)
  | 0 => rfl
  | k + 1 => by
    show (cfold B 1 (o0, []) k).bind _ = _
    rw [cfold1 B o0 k]
    show cstep B 1 (passO B o0 k) k = _
    rw [passO_succ]
    unfold cstep
    cases (br B k).own with
    | true => cases reachB B (passO B o0 k).1 (br B k).to (br B k).fr <;> rfl
    | false => rfl
theorem cAll2 (B : List Bri) : cAll B 2 = (passF B B.length).map fun o => passO B o B.length := by
  show ((some ([], [])).bind fun s => cfold B 0 s B.length).bind (fun s => cfold B 1 s B.length) = _
  show (cfold B 0 ([], []) B.length).bind (fun s => cfold B 1 s B.length) = _
  rw [cfold0]
  cases passF B B.length with
  | none => rfl
  | some o => exact cfold1 B o B.length
structure COk (B : List Bri) (s : II) (k m : Nat) : Prop where
  ok : ∀ i ∈ s.1, 0 ≤ i ∧ i < B.length
  okc : ∀ i ∈ s.2, 0 ≤ i ∧ i < B.length
  len : s.1.length + s.2.length ≤ m * B.length + k
theorem COk.step {B : List Bri} {r : Nat} {s t : II} {k m : Nat} (h : COk B s k m) (hk : k < B.length) (ht : cstep B r s k = some t) : COk B t (k + 1) m := by
  have hl := h.len
  unfold cstep at ht
  split at ht
  · cases ht
    exact ⟨h.ok, h.okc, by omega⟩
  · split at ht
    · split at ht
      · cases ht
      · cases ht
        refine ⟨h.ok, fun i hi => ?_, by dsimp only; rw [List.length_append]; simp only [List.length_cons, List.length_nil]; omega⟩
        rcases List.mem_append.1 hi with hi | hi
        · exact h.okc i hi
        · rw [List.mem_singleton.1 hi]; omega
    · cases ht
      refine ⟨fun i hi => ?_, h.okc, by dsimp only; rw [List.length_append]; simp only [List.length_cons, List.length_nil]; omega⟩
      rcases List.mem_append.1 hi with hi | hi
      · exact h.ok i hi
      · rw [List.mem_singleton.1 hi]; omega
theorem COk.fold {B : List Bri} {r m : Nat} {s : II} (h : COk B s 0 m) : ∀ k, k ≤ B.length → ∀ t, cfold B r s k = some t → COk B t k m
  | 0, _, t, ht => by cases ht; exact h
  | k + 1, hk, t, ht => by
    have ht : (cfold B r s k).bind (fun t => cstep B r t k) = some t := ht
    rw [Option.bind_eq_some_iff] at ht
    obtain ⟨u, h1, h2⟩ := ht
    exact (COk.fold h k (by omega) u h1).step (by omega) h2
theorem COk.all {B : List Bri} : ∀ r s, cAll B r = some s → COk B s 0 r
  | 0, s, h => by
    cases h
    exact ⟨fun i hi => (by cases hi), fun i hi => (by cases hi), Nat.zero_le _⟩
  | r + 1, s, h => by
    have h : (cAll B r).bind (fun s => cfold B r s B.length) = some s := h
    rw [Option.bind_eq_some_iff] at h
    obtain ⟨u, h1, h2⟩ := h
    have h3 := (COk.all r u h1).fold B.length (Nat.le_refl _) s h2
    exact ⟨h3.ok, h3.okc, by have := h3.len; rw [Nat.add_mul]; omega⟩
theorem injm2 {i j : Nat} {a b : AO} (h : Nat.beq i j = false) : injm 0 [(0, i), (1, j)] [⟨0, [], a⟩, ⟨1, [], b⟩] = true := by
  have h2 : Nat.beq j i = false := by
    rw [Bool.eq_false_iff] at h ⊢
    intro he
    have := Nat.eq_of_beq_eq_true he
    subst this
    simp at h
  simp [injm, idm, inj, notIn, rn, h2]
theorem RetIs.soo {e f sz tz n n' p p' : Nat} {get get' got got' : Nat → List AV} {i j nid : Nat} {c d : AV} {O : List OE} (hg : getO i O = some ([], .row e sz n' get')) (hn : n' = n) (hget : ∀ k, k < n → get' k = get k) (hf : ∀ k, k < n → AV.freshs (get k) = true)
    (hg2 : getO j O = some ([], .row f tz p' got')) (hn2 : p' = p) (hget2 : ∀ k, k < p → got' k = got k) (hf2 : ∀ k, k < p → AV.freshs (got k) = true) (hij : Nat.beq i j = false) (hc : c.fresh = true) (hlt : c.lt 2 = true) (hd : AV.ren (rn [(0, i), (1, j)]) c = d) :
    RetIs [.row e sz n get, .row f tz p got] (.tup [.so 0, .so 1, c]) (.tup [.so i, .so j, d]) O nid := by
  subst hn
  subst hn2
  refine ⟨[(0, i), (1, j)], ⟨⟨⟨rfl, ?_, ?_⟩, trivial⟩, ⟨⟨rfl, rfl, trivial, ?_⟩, ⟨rfl, rfl, trivial, ?_⟩, trivial⟩, injm2 hij⟩, ?_, ⟨hf, hf2⟩⟩
  · show AV.lts 2 [.so 0, .so 1, c] = true
    simp only [AV.lts, AV.lt, hlt]
    rfl
  · subst hd
    exact rfl
  · show (match AO.row e sz n' get, getO i O with
      | .dead, _ => True
      | o, some ([], o') => AOEq (o.ren (rn [(0, i), (1, j)])) o'
      | _, _ => False)
    rw [hg]
    exact ⟨rfl, rfl, rfl, hget⟩
  · show (match AO.row f tz p' got, getO j O with
      | .dead, _ => True
      | o, some ([], o') => AOEq (o.ren (rn [(0, i), (1, j)])) o'
      | _, _ => False)
    rw [hg2]
    exact ⟨rfl, rfl, rfl, hget2⟩
  · show AV.freshs [.so 0, .so 1, c] = true
    simp [AV.freshs, AV.fresh, hc]
/-- What a function that chooses returns. -/
def chosenB (B : List Bri) : Option II := cAll B 2
def chO (B : List Bri) : List Int := match chosenB B with | some s => s.1 | none => []
def chC (B : List Bri) : List Int := match chosenB B with | some s => s.2 | none => []

set_option maxRecDepth 20000 in
set_option maxHeartbeats 2000000 in
theorem chosen_fn (B : List Bri) (n : Int) (hV : Valid B n) :
    Ctr Try.prog 92 [.rs 3 B.length (rowsB B)] [.row 3 1 (chO B).length (rowsI (chO B)), .row 3 1 (chC B).length (rowsI (chC B))] (.tup [.so 0, .so 1, .b (chosenB B).isSome]) := by
  refine fn_of_exec tabOk Try.func92 (by kernel_rfl) rfl (N := Try.f92.ntmps) rfl (res := [.tmp 2, .tmp 3, .tmp 4]) rfl rfl [(999999, [.nl 2 3 1, .nl 3 3 1])] ?_
  have hBl := hV.len
  have hh := hV.hi
  repeat refine Or.inl ?_
  refine ⟨[(5, 3, 1), (6, 3, 1)], Nat × II, fun x => x.1 ≤ 2 ∧ cAll B x.1 = some x.2, fun x => [⟨7, [], .i .i64 x.1⟩, ⟨5, [], .so 0⟩, ⟨6, [], .so 1⟩], fun x => [⟨0, [], .row 3 1 x.2.1.length (rowsI x.2.1)⟩, ⟨1, [], .row 3 1 x.2.2.length (rowsI x.2.2)⟩], fun x => 2 - x.1,
    ⟨(0, ([], [])), [], ⟨Nat.zero_le _, rfl⟩, rfl, rfl, rfl, rfl, rfl, ⟨⟨rfl, rfl⟩, rfl, rfl⟩, ⟨⟨rfl, rfl, rfl, fun j hj => by cases hj⟩, ⟨rfl, rfl, rfl, fun j hj => by cases hj⟩⟩⟩, ?_⟩
  rintro ⟨r, s⟩ ⟨hr, hs⟩
  dsimp only at hr hs
  refine .inl ⟨fun hc => ?_, fun hc => ?_⟩
  · have hc : decide ((r : Int) < 2) = true := hc
    rw [decide_eq_true_eq] at hc
    have hok := COk.all r s hs
    have hnx : cAll B (r + 1) = cfold B r s B.length := by
      show (cAll B r).bind _ = _
      rw [hs]
      rfl
    repeat refine Or.inl ?_
    refine ⟨[], Nat × II, fun x => x.1 ≤ B.length ∧ cfold B r s x.1 = some x.2, fun x => [⟨8, [], .i .i64 x.1⟩, ⟨5, [], .so 0⟩, ⟨6, [], .so 1⟩], fun x => [⟨0, [], .row 3 1 x.2.1.length (rowsI x.2.1)⟩, ⟨1, [], .row 3 1 x.2.2.length (rowsI x.2.2)⟩], fun x => B.length - x.1,
      ⟨(0, s), [], ⟨Nat.zero_le _, rfl⟩, rfl, rfl, rfl, rfl, rfl, ⟨⟨rfl, rfl⟩, rfl, rfl⟩, ⟨AOEq.refl _, same_row rfl⟩⟩, ?_⟩
    rintro ⟨k, o, c⟩ ⟨hk, ht⟩
    dsimp only at hk ht
    have hok2 := hok.fold k hk (o, c) ht
    have hol : o.length < 1000000 := by
      have := hok2.len
      dsimp only at this
      have h2 : r * B.length ≤ 2 * 200 := Nat.mul_le_mul hr hBl
      omega
    have hcl : c.length < 1000000 := by
      have := hok2.len
      dsimp only at this
      have h2 : r * B.length ≤ 2 * 200 := Nat.mul_le_mul hr hBl
      omega
    refine .inl ⟨fun hc2 => ?_, fun hc2 => ?_⟩
    · have hc2 := dlt hc2
      have ek : (k : Int).toNat = k := Int.toNat_natCast k
      have w : IntKind.i64.wrap ((k : Int) + 1) = ((k + 1 : Nat) : Int) := wr (by omega) (by omega)
      have hi : 0 ≤ (k : Int) ∧ (k : Int) < B.length := ⟨by omega, by omega⟩
      have hb := hV.br hi
      have f1 : 0 ≤ (B.getD (k : Int).toNat dB).fr := hb.1
      have f2 : (B.getD (k : Int).toNat dB).fr < n := hb.2.1
      have f3 : 0 ≤ (B.getD (k : Int).toNat dB).to := hb.2.2.1
      have f4 : (B.getD (k : Int).toNat dB).to < n := hb.2.2.2
      have hsucc : cfold B r s (k + 1) = cstep B r (o, c) k := by
        show (cfold B r s k).bind _ = _
        rw [ht]
        rfl
      repeat refine Or.inl ?_
      refine ⟨⟨by omega, by omega⟩, ?_⟩
      repeat refine Or.inl ?_
      refine ⟨fun h3 => ?_, fun h3 => ?_⟩
      · have h3 : ((br B (k : Int)).own != decide ((r : Int) = 1)) = true := h3
        exact ⟨(k + 1, (o, c)), [], ⟨by dsimp only; omega, by dsimp only; rw [hsucc]; unfold cstep; rw [if_pos h3]⟩, by dsimp only; omega, rfl, rfl, rfl, rfl, rfl, ⟨⟨rfl, w⟩, rfl, rfl⟩, ⟨AOEq.refl _, same_row rfl⟩⟩
      · have h3 : ((br B (k : Int)).own != decide ((r : Int) = 1)) = false := h3
        have hO : OkO B o := hok2.ok
        have h5 : ((br B (k : Int)).own != decide ((r : Int) = 1)) = true ↔ False := by rw [h3]; simp
        have hrl := ReachL_len B o (B.getD (k : Int).toNat dB).to
        repeat refine Or.inl ?_
        refine ⟨_, _, rReach_fn B n hV o hO hol (B.getD (k : Int).toNat dB).to f3 f4, ?_⟩
        repeat refine Or.inl ?_
        refine ⟨_, _, hasR_fn (ReachL B o (B.getD (k : Int).toNat dB).to) (by omega) (B.getD (k : Int).toNat dB).fr, ?_⟩
        repeat refine Or.inl ?_
        have hm : hasN (ReachL B o (B.getD (k : Int).toNat dB).to) (B.getD (k : Int).toNat dB).fr = reachB B o (br B k).to (br B k).fr := by
          rw [Bool.eq_iff_iff, hasN_iff, mem_ReachL hV hO f3 f4]
          exact (reachB_iff hV hO f3 f4 f1).symm
        have hcs : cstep B r (o, c) k = if reachB B o (br B k).to (br B k).fr = true then (if r = 0 then none else some (o, c ++ [(k : Int)])) else some (o ++ [(k : Int)], c) := by
          unfold cstep
          rw [if_neg (by rw [h3]; decide)]
        rw [← hsucc, ← hm] at hcs
        refine ⟨fun h4 => ?_, fun h4 => ?_⟩
        · have h4 : (hasN (ReachL B o (B.getD (k : Int).toNat dB).to) (B.getD (k : Int).toNat dB).fr && ((r : Int) == 0)) = true := h4
          rw [Bool.and_eq_true, beq_iff_eq] at h4
          have hr0 : r = 0 := by omega
          rw [if_pos h4.1, if_pos hr0] at hcs
          have hn : cAll B 2 = none := by
            have h6 : cfold B r s B.length = none := by
              have : ∀ m, cfold B r s (k + 1 + m) = none := by
                intro m
                induction m with
                | zero => exact hcs
                | succ m ih =>
                  show (cfold B r s (k + 1 + m)).bind _ = none
                  rw [ih]
                  rfl
              have h7 := this (B.length - (k + 1))
              rwa [Nat.add_sub_cancel' (by omega)] at h7
            rw [h6] at hnx
            subst hr0
            show (cAll B 1).bind _ = none
            rw [hnx]
            rfl
          have e1 : chO B = [] := by unfold chO chosenB; rw [hn]
          have e2 : chC B = [] := by unfold chC chosenB; rw [hn]
          have e3 : (chosenB B).isSome = false := by unfold chosenB; rw [hn]; rfl
          rw [e1, e2, e3]
          exact RetIs.soo rfl rfl (fun _ hk => by cases hk) (fun _ hk => by cases hk) rfl rfl (fun _ hk => by cases hk) (fun _ hk => by cases hk) rfl rfl rfl rfl
        have h4 : (hasN (ReachL B o (B.getD (k : Int).toNat dB).to) (B.getD (k : Int).toNat dB).fr && ((r : Int) == 0)) = false := h4
        repeat refine Or.inl ?_
        refine ⟨fun h8 => ?_, fun h8 => ?_⟩
        · have h8 : hasN (ReachL B o (B.getD (k : Int).toNat dB).to) (B.getD (k : Int).toNat dB).fr = true := h8
          have hr0 : r ≠ 0 := by
            rw [h8, Bool.true_and, beq_eq_false_iff_ne] at h4
            omega
          rw [if_pos h8, if_neg hr0] at hcs
          refine ⟨fits (by dsimp only; omega), ?_⟩
          exact ⟨(k + 1, (o, c ++ [(k : Int)])), [(1, 5)], ⟨by dsimp only; omega, hcs⟩, by dsimp only; omega, rfl, rfl, rfl, rfl, rfl, ⟨⟨rfl, w⟩, rfl, rfl⟩, ⟨AOEq.refl _, snocZ_row _ _ rfl⟩⟩
        · have h8 : hasN (ReachL B o (B.getD (k : Int).toNat dB).to) (B.getD (k : Int).toNat dB).fr = false := h8
          rw [if_neg (by rw [h8]; decide)] at hcs
          refine ⟨fits (by dsimp only; omega), ?_⟩
          exact ⟨(k + 1, (o ++ [(k : Int)], c)), [(0, 5)], ⟨by dsimp only; omega, hcs⟩, by dsimp only; omega, rfl, rfl, rfl, rfl, rfl, ⟨⟨rfl, w⟩, rfl, rfl⟩, ⟨snocZ_row _ _ rfl, same_row rfl⟩⟩
    · have hc2 := dnlt hc2
      obtain rfl : k = B.length := by omega
      exact ⟨(r + 1, (o, c)), [], ⟨by dsimp only; omega, by dsimp only; rw [hnx]; exact ht⟩, by dsimp only; omega, rfl, rfl, rfl, rfl, rfl, ⟨⟨rfl, wr (by omega) (by omega)⟩, rfl, rfl⟩, ⟨AOEq.refl _, same_row rfl⟩⟩
  · have hc : decide ((r : Int) < 2) = false := hc
    rw [decide_eq_false_iff_not] at hc
    obtain rfl : r = 2 := by omega
    have e1 : chO B = s.1 := by unfold chO chosenB; rw [hs]
    have e2 : chC B = s.2 := by unfold chC chosenB; rw [hs]
    have e3 : (chosenB B).isSome = true := by unfold chosenB; rw [hs]; rfl
    rw [e1, e2, e3]
    exact RetIs.soo rfl rfl (fun _ _ => rfl) (fun _ _ => rfl) rfl rfl (fun _ _ => rfl) (fun _ _ => rfl) rfl rfl rfl rfl
end Go.Proofs.Ytklmfkejgjhneaa
