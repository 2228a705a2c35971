/-
  Several texts in one: Cv6, Cv7, Cv8p, Cv8, Cv9, Cva, Cvb, Cvc.
-/
import Derived.Test.YtnookbebiacaeaaMg14

section
/-
  Conversations: an event is added.
-/
namespace Go.Proofs.Ytnookbebiacaeaa
open Go.Eng

/-! ### right events -/
theorem setT (e o : Ev) : setF e o sT = { o with t := e.t } := by
  unfold setF
  rw [if_pos (bytes_eq.2 rfl)]
theorem neQT : ¬ bytesEq sQ sT = true := fun h => absurd (bytes_eq.1 h) (by decide)
theorem setQ (e o : Ev) : setF e o sQ = { o with q := e.q } := by
  unfold setF
  rw [if_neg neQT, if_pos (bytes_eq.2 rfl)]
theorem neWT : ¬ bytesEq sW sT = true := fun h => absurd (bytes_eq.1 h) (by decide)
theorem neWQ : ¬ bytesEq sW sQ = true := fun h => absurd (bytes_eq.1 h) (by decide)
theorem setW (e o : Ev) : setF e o sW = { o with w := e.w } := by
  unfold setF
  rw [if_neg neWT, if_neg neWQ, if_pos (bytes_eq.2 rfl)]
theorem neNT : ¬ bytesEq sN sT = true := fun h => absurd (bytes_eq.1 h) (by decide)
theorem neNQ : ¬ bytesEq sN sQ = true := fun h => absurd (bytes_eq.1 h) (by decide)
theorem neNW : ¬ bytesEq sN sW = true := fun h => absurd (bytes_eq.1 h) (by decide)
theorem setN (e o : Ev) : setF e o sN = { o with n := e.n } := by
  unfold setF
  rw [if_neg neNT, if_neg neNQ, if_neg neNW, if_pos (bytes_eq.2 rfl)]
theorem neXT : ¬ bytesEq sX sT = true := fun h => absurd (bytes_eq.1 h) (by decide)
theorem neXQ : ¬ bytesEq sX sQ = true := fun h => absurd (bytes_eq.1 h) (by decide)
theorem neXW : ¬ bytesEq sX sW = true := fun h => absurd (bytes_eq.1 h) (by decide)
theorem neXN : ¬ bytesEq sX sN = true := fun h => absurd (bytes_eq.1 h) (by decide)
theorem setX (e o : Ev) : setF e o sX = { o with x := e.x } := by
  unfold setF
  rw [if_neg neXT, if_neg neXQ, if_neg neXW, if_neg neXN, if_pos (bytes_eq.2 rfl)]
theorem neFT : ¬ bytesEq sF sT = true := fun h => absurd (bytes_eq.1 h) (by decide)
theorem neFQ : ¬ bytesEq sF sQ = true := fun h => absurd (bytes_eq.1 h) (by decide)
theorem neFW : ¬ bytesEq sF sW = true := fun h => absurd (bytes_eq.1 h) (by decide)
theorem neFN : ¬ bytesEq sF sN = true := fun h => absurd (bytes_eq.1 h) (by decide)
theorem neFX : ¬ bytesEq sF sX = true := fun h => absurd (bytes_eq.1 h) (by decide)
theorem setFF (e o : Ev) : setF e o sF = { o with fs := e.fs } := by
  unfold setF
  rw [if_neg neFT, if_neg neFQ, if_neg neFW, if_neg neFN, if_neg neFX, if_pos (bytes_eq.2 rfl)]
theorem spare0 {e : Ev} (h : e.k = 0) : spareE e = { e with n := 0 } := by
  unfold spareE spTo usesS
  rw [if_pos h]
  simp only [List.take_length, List.foldl_cons, List.foldl_nil, setT, setQ, setW, setX, setFF]
theorem spare1 {e : Ev} (h : e.k = 1) : spareE e = { e with q := -1, w := -1, n := 0 } := by
  unfold spareE spTo usesS
  rw [if_neg (by omega), if_pos h]
  simp only [List.take_length, List.foldl_cons, List.foldl_nil, setT, setX, setFF]
theorem spare2 {e : Ev} (h : e.k = 2) : spareE e = { e with q := -1, w := -1, n := 0, x := noB, fs := [] } := by
  unfold spareE spTo usesS
  rw [if_neg (by omega), if_neg (by omega), if_pos h]
  simp only [List.take_length, List.foldl_cons, List.foldl_nil, setT]
theorem spare34 {e : Ev} (h : e.k = 3 ∨ e.k = 4) : spareE e = { e with q := -1, w := -1, x := noB, fs := [] } := by
  unfold spareE spTo usesS
  rw [if_neg (by omega), if_neg (by omega), if_neg (by omega), if_pos h]
  simp only [List.take_length, List.foldl_cons, List.foldl_nil, setT, setN]
theorem spare57 {e : Ev} (h : e.k = 5 ∨ e.k = 7) : spareE e = { e with t := -1, q := -1, n := 0, x := noB, fs := [] } := by
  unfold spareE spTo usesS
  rw [if_neg (by omega), if_neg (by omega), if_neg (by omega), if_neg (by omega), if_pos h]
  simp only [List.take_length, List.foldl_cons, List.foldl_nil, setW]
theorem spare9 {e : Ev} (h : e.k = 9) : spareE e = { e with t := -1, q := -1, x := noB, fs := [] } := by
  unfold spareE spTo usesS
  rw [if_neg (by omega), if_neg (by omega), if_neg (by omega), if_neg (by omega), if_neg (by omega), if_pos h]
  simp only [List.take_length, List.foldl_cons, List.foldl_nil, setW, setN]
theorem spare68 {e : Ev} (h : e.k = 6 ∨ e.k = 8) : spareE e = { e with t := -1, q := -1, w := -1, n := 0, x := noB, fs := [] } := by
  unfold spareE spTo usesS
  rw [if_neg (by omega), if_neg (by omega), if_neg (by omega), if_neg (by omega), if_neg (by omega), if_neg (by omega)]
  simp only [List.take_length, List.foldl_nil]
theorem fields_k {e : Ev} (h : fieldsE e = true) : 0 ≤ e.k ∧ e.k ≤ 9 := by
  by_cases h0 : e.k = 0
  · omega
  by_cases h1 : e.k = 1 ∨ e.k = 2
  · omega
  by_cases h3 : e.k = 3 ∨ e.k = 4
  · omega
  by_cases h5 : e.k = 5 ∨ e.k = 7
  · omega
  by_cases h9 : e.k = 9
  · omega
  unfold fieldsE at h
  rw [if_neg h0, if_neg h1, if_neg h3, if_neg h5, if_neg h9, Bool.or_eq_true, beq_iff_eq, beq_iff_eq] at h
  omega
structure Rt (e : Ev) : Prop where
  t : -1 ≤ e.t
  q : -1 ≤ e.q
  s : 0 ≤ e.s ∧ e.s < 100000
  a : 0 ≤ e.a ∧ e.a < 2000
  k : 0 ≤ e.k ∧ e.k ≤ 9
  cs : e.cs.length ≤ 8 ∧ ∀ c ∈ e.cs, 0 ≤ c
  fs : e.fs.length ≤ 4
  x : e.x.size ≤ 4000
  del : e.k = 2 → 0 ≤ e.t
  qpost : e.k ≠ 0 → e.q = -1
  sp : e = spareE e
theorem right_rt {e : Ev} (h : rightE e = true) : Rt e := by
  unfold rightE whoB bl at h
  simp only [Bool.and_eq_true, decide_eq_true_eq] at h
  obtain ⟨hc, ⟨⟨⟨⟨⟨⟨⟨ha, hs⟩, hg⟩, hst⟩, hcl⟩, hf⟩, hx⟩, hfs⟩, hsp⟩ := h
  have hk := fields_k hf
  have hfl : e.fs.length ≤ 4 := by
    unfold filesB at hfs
    rw [Bool.and_eq_true, decide_eq_true_eq] at hfs
    omega
  have hcs : ∀ c ∈ e.cs, 0 ≤ c := fun c hcm => by
    obtain ⟨j, hj, rfl⟩ := mem_getDI hcm
    unfold causesB at hc
    rw [List.all_eq_true] at hc
    have := hc j (List.mem_range.2 hj)
    unfold badC bl at this
    rw [Bool.not_eq_true', Bool.or_eq_false_iff, Bool.not_eq_false', Bool.and_eq_true, decide_eq_true_eq] at this
    exact this.1.1
  have key : (-1 ≤ e.t ∧ -1 ≤ e.q) ∧ (e.k = 2 → 0 ≤ e.t) ∧ (e.k ≠ 0 → e.q = -1) := by
    unfold fieldsE mb bl at hf
    by_cases h0 : e.k = 0
    · rw [if_pos h0] at hf
      simp only [Bool.and_eq_true, Bool.or_eq_true, beq_iff_eq, decide_eq_true_eq] at hf
      exact ⟨by omega, fun h => by omega, fun h => absurd h0 h⟩
    by_cases h1 : e.k = 1 ∨ e.k = 2
    · rw [if_neg h0, if_pos h1] at hf
      simp only [Bool.and_eq_true, decide_eq_true_eq] at hf
      have hq : e.q = -1 := by
        rcases h1 with h1 | h1
        · rw [spare1 h1] at hsp; rw [hsp]
        · rw [spare2 h1] at hsp; rw [hsp]
      exact ⟨by omega, fun _ => by omega, fun _ => hq⟩
    by_cases h3 : e.k = 3 ∨ e.k = 4
    · rw [if_neg h0, if_neg h1, if_pos h3] at hf
      simp only [Bool.and_eq_true, decide_eq_true_eq] at hf
      have hq : e.q = -1 := by rw [spare34 h3] at hsp; rw [hsp]
      exact ⟨by omega, fun _ => by omega, fun _ => hq⟩
    have htq : e.t = -1 ∧ e.q = -1 := by
      by_cases h5 : e.k = 5 ∨ e.k = 7
      · rw [spare57 h5] at hsp; rw [hsp]; exact ⟨rfl, rfl⟩
      by_cases h9 : e.k = 9
      · rw [spare9 h9] at hsp; rw [hsp]; exact ⟨rfl, rfl⟩
      · rw [spare68 (by omega)] at hsp; rw [hsp]; exact ⟨rfl, rfl⟩
    exact ⟨by omega, fun _ => by omega, fun _ => htq.2⟩
  exact ⟨key.1.1, key.1.2, by omega, by omega, hk, ⟨by omega, hcs⟩, hfl, by omega, key.2.1, key.2.2, hsp⟩
theorem Rt.fit {e : Ev} (h : Rt e) : e.fit := by
  have h1 := h.cs.1
  have h2 := h.fs
  unfold Ev.fit
  omega

/-! ### adding -/
/-- x is an event, but no message of the group. -/
def badM (E : List Ev) (e : Ev) (x : Int) : Bool := (x != -1) && (((E.getD x.toNat dE).k != 0) || ((E.getD x.toNat dE).g != e.g))
/-- The events afterwards, and what is returned. -/
def addC (E : List Ev) (e : Ev) : List Ev × (Int × Int) :=
  if rightE e = false then (E, (0, 2))
  else if e.s < (idsOf E e.a).length then (if alikeE (E.getD ((idsOf E e.a).getD e.s.toNat 0).toNat dE) e = false then (E, (0, 5)) else (E, ((idsOf E e.a).getD e.s.toNat 0, 0)))
  else if (decide (e.s > (idsOf E e.a).length) || missE E e) = true then (E, (0, 14))
  else if (badM E e e.t || badM E e e.q) = true then (E, (0, 4))
  else if (delB E e.t || delB E e.q) = true then (E, (0, 7))
  else if E.length ≥ 100000 then (E, (0, 6)) else (E ++ [e], ((E.length : Int), 0))
def rowO (E : List Ev) : AO := .row 96 12 E.length (rE E)
def ownO (E : List Ev) (x : Nat) : AO := mrL (fun a => .i .i64 a) (fun l => .row 3 1 l.length (rI l)) dG (ownL E) x
def delO (E : List Ev) : AO := mpL (fun a => .i .i64 a) (fun b => .b b) dD (delL E)
abbrev cvI (E : List Ev) : List AO := [.cells 182 [.so 1, .mo 2, .mo 4], rowO E, ownO E 3, .dead, delO E]
abbrev cvO (E : List Ev) : List AO := [.cells 182 [.so 5, .mo 2, .mo 4], .dead, ownO E 6, .dead, delO E]
abbrev cvN (E : List Ev) : List AO := [rowO E, .dead]
/-- Events that fit, and not too many of them. -/
def okE (E : List Ev) : Prop := E.length ≤ 100000 ∧ ∀ e ∈ E, Rt e
theorem AOEq.own (E : List Ev) (x : Nat) : AOEq (ownO E x) (ownO E x) := ⟨rfl, rfl, rfl, rfl, fun _ _ => ⟨rfl, KDEq.refl _, rfl⟩⟩
theorem look_del (E : List Ev) (t : Int) : LookOk (delL E).length (fun i => .i .i64 ((delL E).getD i dD).1) (fun i => .b ((delL E).getD i dD).2) (.i .i64 t) (.b (delB E t)) (.b false) (mget (delL E) t).isSome := by
  have := lookOk_mget (kf := fun a => .i .i64 a) (vf := fun b : Bool => AV.b b) (d := dD) (L := delL E) i64_inj t false
  rwa [delB_get] at this
theorem snocE_row (E : List Ev) (e : Ev) : AOEq (rowO (E ++ [e])) (.row 96 12 (E.length + 1) (catG E.length (rE E) (rowOf 12 e.av))) := by
  refine ⟨rfl, rfl, by simp, fun k hk => ?_⟩
  unfold catG rE
  by_cases h : k < E.length
  · rw [if_pos h, getD_snoc, if_pos h]
  · have : k = E.length := by
      rw [List.length_append, List.length_singleton] at hk
      omega
    subst this
    rw [if_neg h, getD_snoc, if_neg h, if_pos rfl]
    simp
    rfl
theorem snocI_row (l : List Int) (x : Int) : KDEq (.row 3 1 (l.length + 1) (catG l.length (rI l) (rowOf 1 [.i .i64 x]))) (.row 3 1 (l ++ [x]).length (rI (l ++ [x]))) := by
  refine ⟨rfl, rfl, by simp, fun k hk => ?_⟩
  have hk : k < l.length + 1 := hk
  unfold catG rI
  by_cases h : k < l.length
  · rw [if_pos h, getD_snoc, if_pos h]
  · have : k = l.length := by omega
    subst this
    rw [if_neg h, getD_snoc, if_neg h, if_pos rfl]
    simp
    rfl
theorem pair_row (x y : Int) : AOEq (.row 3 1 2 (rI [x, y])) (.row 3 1 2 (rowOf 1 [.i .i64 x, .i .i64 y])) := by
  refine ⟨rfl, rfl, rfl, fun k hk => ?_⟩
  match k, hk with
  | 0, _ => rfl
  | 1, _ => rfl
theorem delO_two (E : List Ev) (e : Ev) (h : e.k = 2) : AOEq (delO (E ++ [e])) (mpL (fun a => .i .i64 a) (fun b => .b b) dD (mset (delL E) e.t true)) := by
  unfold delO
  rw [delL_snoc, if_pos h]
  exact AOEq.refl _
theorem delO_same (E : List Ev) (e : Ev) (h : ¬ e.k = 2) : AOEq (delO (E ++ [e])) (delO E) := by
  unfold delO
  rw [delL_snoc, if_neg h]
  exact AOEq.refl _
theorem own_new {E : List Ev} {e : Ev} (h : mget (ownL E) e.a = none) : (ownL (E ++ [e])).length = (ownL E).length + 1 ∧ (∀ j, j < (ownL E).length → (ownL (E ++ [e])).getD j dG = (ownL E).getD j dG) ∧ (ownL (E ++ [e])).getD (ownL E).length dG = (e.a, [(E.length : Int)]) := by
  rw [ownL_snoc, mset_new h, h]
  refine ⟨by simp, fun j hj => ?_, ?_⟩
  · rw [getD_snoc, if_pos hj]
  · rw [getD_snoc, if_neg (Nat.lt_irrefl _), if_pos rfl]
    rfl
theorem own_old {E : List Ev} {e : Ev} {own : List Int} (h : mget (ownL E) e.a = some own) : ∃ i, i < (ownL E).length ∧ ((ownL E).getD i dG).1 = e.a ∧ ((ownL E).getD i dG).2 = own ∧ (ownL (E ++ [e])).length = (ownL E).length ∧
    ∀ j, j < (ownL E).length → ((ownL (E ++ [e])).getD j dG).1 = ((ownL E).getD j dG).1 ∧ ((ownL (E ++ [e])).getD j dG).2 = if j = i then own ++ [(E.length : Int)] else ((ownL E).getD j dG).2 := by
  rw [ownL_snoc, h]
  exact mset_at dG h
set_option maxRecDepth 20000 in
set_option maxHeartbeats 64000000 in
theorem add_no (E : List Ev) (hE : okE E) (e : Ev) (h1 : e.cs.length < 2^62) (h2 : e.fs.length < 2^62) (hnone : mget (ownL E) e.a = none) :
    CtrM Try.prog 74 true [.cells 182 [.so 1, .mo 2, .mo 4], rowO E, ownO E 3, .dead, delO E] [.p 0 0, .ag e.av] (fun _ : Unit => True) (fun _ => cvO (addC E e).1) (fun _ => cvN (addC E e).1) (fun _ => .tup [.i .i64 (addC E e).2.1, .i .i64 (addC E e).2.2]) := by
  have hids : idsOf E e.a = [] := by unfold idsOf; rw [hnone]; rfl
  refine fn_of_execM tabOk Try.func74 (by kernel_rfl) rfl (N := Try.f74.ntmps) rfl (res := [.tmp 4, .tmp 5]) rfl true false [.cells 182 [.so 1, .mo 2, .mo 4], rowO E, ownO E 3, .dead, delO E] _ _ _ _ rfl (fun h => by cases h) [(3, [.take 2]), (1000010, [.eq 6 (.row 3 1 2 (rI [e.t, e.q]))]), (999999, [.put 2, .nx 2, .mvc 0 0])] ?_
  repeat refine Or.inl ?_
  refine ⟨[], _, right_fn e h1 h2, ?_⟩
  refine ⟨fun h => ?_, fun h => ?_⟩
  · have h : (!rightE e) = true := h
    rw [Bool.not_eq_true'] at h
    have hA : addC E e = (E, (0, 2)) := by unfold addC; rw [if_pos h]
    rw [hA]
    refine ⟨⟨(), [(5, 7), (6, 6)], trivial, ⟨⟨⟨rfl, rfl, AVEq.refl _⟩, trivial⟩, ⟨⟨rfl, rfl, rfl, ⟨rfl, AVsEq.refl _⟩⟩, ⟨rfl, rfl, trivial, trivial⟩, ⟨rfl, rfl, rfl, AOEq.own E _⟩, ⟨rfl, rfl, trivial, trivial⟩, ⟨rfl, rfl, trivial, AOEq.refl _⟩, ⟨rfl, rfl, trivial, AOEq.refl _⟩, ⟨rfl, rfl, trivial, trivial⟩, trivial⟩, rfl⟩, rfl, fun h => (by cases h)⟩⟩
  have h : (!rightE e) = false := h
  rw [Bool.not_eq_false'] at h
  have hrt := right_rt h
  have hr1 : ¬ rightE e = false := by rw [h]; decide
  have hEl := hE.1
  refine Or.inr ?_
  refine ⟨false, ⟨keysI, rfl, fun i hi he => mget_none hnone dG i hi (i64_inj _ _ he)⟩, ?_⟩
  repeat refine Or.inl ?_
  refine ⟨fun hs => ?_, fun _ => ?_⟩
  · have hs : decide (e.s < 0) = true := hs
    rw [decide_eq_true_eq] at hs
    have := hrt.s
    omega
  have hlt : ¬ e.s < (idsOf E e.a).length := by rw [hids]; have := hrt.s; simp; omega
  have hlid : ((idsOf E e.a).length : Int) = 0 := by rw [hids]; rfl
  repeat refine Or.inl ?_
  refine ⟨[], _, fun _ => missing_fn E _ _ e (by have := hrt.cs.1; omega), ?_⟩
  refine ⟨fun hm => ?_, fun hm => ?_⟩
  · have hm : (decide (e.s > 0) || missE E e) = true := hm
    have hA : addC E e = (E, (0, 14)) := by unfold addC; rw [if_neg hr1, if_neg hlt, if_pos (by rw [hlid]; exact hm)]
    rw [hA]
    refine ⟨⟨(), [(5, 7), (6, 6)], trivial, ⟨⟨⟨rfl, rfl, AVEq.refl _⟩, trivial⟩, ⟨⟨rfl, rfl, rfl, ⟨rfl, AVsEq.refl _⟩⟩, ⟨rfl, rfl, trivial, trivial⟩, ⟨rfl, rfl, rfl, AOEq.own E _⟩, ⟨rfl, rfl, trivial, trivial⟩, ⟨rfl, rfl, trivial, AOEq.refl _⟩, ⟨rfl, rfl, trivial, AOEq.refl _⟩, ⟨rfl, rfl, trivial, trivial⟩, trivial⟩, rfl⟩, rfl, fun h => (by cases h)⟩⟩
  have hm : (decide (e.s > 0) || missE E e) = false := hm
  have hm1 : ¬ (decide (e.s > (idsOf E e.a).length) || missE E e) = true := by rw [hlid, hm]; decide
  have hms : missE E e = false := by rw [Bool.or_eq_false_iff] at hm; exact hm.2
  have hx : ∀ x, x = e.t ∨ x = e.q → x ≠ -1 → 0 ≤ x ∧ x < E.length := fun x hx hn => by
    unfold missE at hms
    rw [List.any_eq_false] at hms
    have h3 := hrt.t
    have h4 := hrt.q
    have h5 := hms x (by rcases hx with rfl | rfl <;> simp)
    rw [decide_eq_true_eq] at h5
    rcases hx with rfl | rfl <;> omega
  repeat refine Or.inl ?_
  refine ⟨pair_row e.t e.q, ?_⟩
  repeat refine Or.inl ?_
  refine ⟨[], Nat, fun j => j ≤ 2 ∧ (1 ≤ j → badM E e e.t = false) ∧ (2 ≤ j → badM E e e.q = false), fun j => [⟨60, [], .i .i64 j⟩], fun _ => [], fun j => 2 - j,
    ⟨0, [], ⟨by omega, fun h => by omega, fun h => by omega⟩, rfl, rfl, rfl, rfl, rfl, ⟨rfl, rfl⟩, trivial⟩, ?_⟩
  rintro j ⟨hj, hj1, hj2⟩
  have hj : j ≤ 2 := hj
  refine .inl ⟨fun hc => ?_, fun hc => ?_⟩
  · have hc := dlt hc
    have hc : (j : Int) < (2 : Nat) := hc
    have ej : (j : Int).toNat = j := Int.toNat_natCast j
    have hxj : [e.t, e.q].getD (j : Int).toNat 0 = e.t ∨ [e.t, e.q].getD (j : Int).toNat 0 = e.q := by
      rw [ej]
      match j, hc with
      | 0, _ => exact .inl rfl
      | 1, _ => exact .inr rfl
      | j + 2, h => omega
    have hxx := hx _ hxj
    have g0 : (([e.t, e.q].getD (j : Int).toNat 0) != -1) = true → 0 ≤ [e.t, e.q].getD (j : Int).toNat 0 ∧ [e.t, e.q].getD (j : Int).toNat 0 < E.length := fun h => hxx (by rw [bne_iff_ne] at h; exact h)
    repeat refine Or.inl ?_
    refine ⟨⟨by omega, by omega⟩, by omega, ?_⟩
    refine ⟨fun hg => g0 hg.1, fun hg => by have := g0 hg.1; omega, ?_⟩
    refine ⟨fun hg => g0 hg.2.1, fun hg => by have := g0 hg.2.1; omega, ?_⟩
    refine ⟨fun hb => ?_, fun hb => ?_⟩
    · have hb : badM E e ([e.t, e.q].getD (j : Int).toNat 0) = true := hb
      have hA : addC E e = (E, (0, 4)) := by
        unfold addC
        rw [if_neg hr1, if_neg hlt, if_neg hm1, if_pos ?_]
        rcases hxj with h | h <;> rw [h] at hb <;> rw [hb]
        · rfl
        · rw [Bool.or_true]
      rw [hA]
      refine ⟨⟨(), [(5, 8), (6, 7)], trivial, ⟨⟨⟨rfl, rfl, AVEq.refl _⟩, trivial⟩, ⟨⟨rfl, rfl, rfl, ⟨rfl, AVsEq.refl _⟩⟩, ⟨rfl, rfl, trivial, trivial⟩, ⟨rfl, rfl, rfl, AOEq.own E _⟩, ⟨rfl, rfl, trivial, trivial⟩, ⟨rfl, rfl, trivial, AOEq.refl _⟩, ⟨rfl, rfl, trivial, AOEq.refl _⟩, ⟨rfl, rfl, trivial, trivial⟩, trivial⟩, rfl⟩, rfl, fun h => (by cases h)⟩⟩
    · have hb : badM E e ([e.t, e.q].getD (j : Int).toNat 0) = false := hb
      refine ⟨j + 1, [], ⟨by omega, fun h => ?_, fun h => ?_⟩, by dsimp only; omega, rfl, rfl, rfl, rfl, rfl, ⟨rfl, wr (by omega) (by omega)⟩, trivial⟩
      · match j, hj1, hb with
        | 0, _, hb => exact hb
        | j + 1, hj1, _ => exact hj1 (by omega)
      · match j, hc, hb, h with
        | 0, _, _, h => omega
        | 1, _, hb, _ => exact hb
  have hc : ¬ (j : Int) < (2 : Nat) := by have := hc; rw [decide_eq_false_iff_not] at this; exact this
  have hj2' : j = 2 := by omega
  subst hj2'
  have hbt := hj1 (by omega)
  have hbq := hj2 (by omega)
  have hb1 : ¬ (badM E e e.t || badM E e e.q) = true := by rw [hbt, hbq]; decide
  repeat refine Or.inl ?_
  refine ⟨_, _, ⟨keysI, rfl, look_del E e.t⟩, ?_⟩
  refine ⟨_, _, fun _ => ⟨keysI, rfl, look_del E e.q⟩, ?_⟩
  refine ⟨fun hd => ?_, fun hd => ?_⟩
  · have hd : (delB E e.t || delB E e.q) = true := hd
    have hA : addC E e = (E, (0, 7)) := by unfold addC; rw [if_neg hr1, if_neg hlt, if_neg hm1, if_neg hb1, if_pos hd]
    rw [hA]
    refine ⟨⟨(), [(5, 8), (6, 7)], trivial, ⟨⟨⟨rfl, rfl, AVEq.refl _⟩, trivial⟩, ⟨⟨rfl, rfl, rfl, ⟨rfl, AVsEq.refl _⟩⟩, ⟨rfl, rfl, trivial, trivial⟩, ⟨rfl, rfl, rfl, AOEq.own E _⟩, ⟨rfl, rfl, trivial, trivial⟩, ⟨rfl, rfl, trivial, AOEq.refl _⟩, ⟨rfl, rfl, trivial, AOEq.refl _⟩, ⟨rfl, rfl, trivial, trivial⟩, trivial⟩, rfl⟩, rfl, fun h => (by cases h)⟩⟩
  have hd : (delB E e.t || delB E e.q) = false := hd
  have hd1 : ¬ (delB E e.t || delB E e.q) = true := by rw [hd]; decide
  repeat refine Or.inl ?_
  refine ⟨fun hn => ?_, fun hn => ?_⟩
  · have hn : decide ((E.length : Int) ≥ 100000) = true := hn
    rw [decide_eq_true_eq] at hn
    have hA : addC E e = (E, (0, 6)) := by unfold addC; rw [if_neg hr1, if_neg hlt, if_neg hm1, if_neg hb1, if_neg hd1, if_pos (by omega)]
    rw [hA]
    refine ⟨⟨(), [(5, 8), (6, 7)], trivial, ⟨⟨⟨rfl, rfl, AVEq.refl _⟩, trivial⟩, ⟨⟨rfl, rfl, rfl, ⟨rfl, AVsEq.refl _⟩⟩, ⟨rfl, rfl, trivial, trivial⟩, ⟨rfl, rfl, rfl, AOEq.own E _⟩, ⟨rfl, rfl, trivial, trivial⟩, ⟨rfl, rfl, trivial, AOEq.refl _⟩, ⟨rfl, rfl, trivial, AOEq.refl _⟩, ⟨rfl, rfl, trivial, trivial⟩, trivial⟩, rfl⟩, rfl, fun h => (by cases h)⟩⟩
  have hn : decide ((E.length : Int) ≥ 100000) = false := hn
  rw [decide_eq_false_iff_not] at hn
  have hA : addC E e = (E ++ [e], ((E.length : Int), 0)) := by unfold addC; rw [if_neg hr1, if_neg hlt, if_neg hm1, if_neg hb1, if_neg hd1, if_neg (by omega)]
  rw [hA]
  have hcs := hrt.cs.1
  have hfs := hrt.fs
  refine Or.inr ?_
  refine ⟨_, cloneE_fn e (by omega) (by omega), ?_⟩
  refine ⟨fits (by omega), ?_⟩
  obtain ⟨hL1, hL2, hL3⟩ := own_new hnone
  have hk1 : ∀ j, j < (ownL E).length → AV.i .i64 ((ownL (E ++ [e])).getD j dG).1 = AV.i .i64 ((ownL E).getD j dG).1 := fun j hj => by rw [hL2 j hj]
  have hk2 : AV.i .i64 ((ownL (E ++ [e])).getD (ownL E).length dG).1 = AV.i .i64 e.a := by rw [hL3]
  refine ⟨(by decide), ?_⟩
  refine ⟨(ownL E).length + 1, fun j => .i .i64 ((ownL (E ++ [e])).getD j dG).1, fun j => j, (ownL E).length + 1, (ownL E).length, ⟨keysI, rfl, rfl, .inr ⟨rfl, fun i hi he => mget_none hnone dG i hi (i64_inj _ _ he), rfl, rfl, rfl, fun j hj => ⟨hk1 j hj, rfl⟩, hk2, rfl⟩⟩, ?_⟩
  have hq : KDEq (.row 3 1 1 (rowOf 1 [.i .i64 (E.length : Int)])) (.row 3 1 ((ownL (E ++ [e])).getD (ownL E).length dG).2.length (rI ((ownL (E ++ [e])).getD (ownL E).length dG).2)) := by
    rw [hL3]
    refine ⟨rfl, rfl, rfl, fun k hk => ?_⟩
    match k, hk with
    | 0, _ => rfl
  have hkid : ∀ j, j < (ownL E).length + 1 → j ≠ (ownL E).length → KD.row 3 1 ((ownL (E ++ [e])).getD j dG).2.length (rI ((ownL (E ++ [e])).getD j dG).2) = .row 3 1 ((ownL E).getD j dG).2.length (rI ((ownL E).getD j dG).2) := fun j hj hne => by
    rw [hL2 j (by omega)]
  have hown : AOEq (ownO (E ++ [e]) 12) (.mr ((ownL E).length + 1) (fun j => .i .i64 ((ownL (E ++ [e])).getD j dG).1) (fun j => .row 3 1 ((ownL (E ++ [e])).getD j dG).2.length (rI ((ownL (E ++ [e])).getD j dG).2)) (fun i => i) ((ownL E).length + 1) 12 none) :=
    ⟨hL1.symm, hL1.symm, rfl, rfl, fun j hj => ⟨rfl, KDEq.refl _, rfl⟩⟩
  repeat refine Or.inl ?_
  refine ⟨fun hk => ?_, fun hk => ?_⟩
  · have hk : decide (e.k = 2) = true := hk
    rw [decide_eq_true_eq] at hk
    refine ⟨_, _, _, _, _, ⟨keysI, rfl, updOk_mset (L := delL E) (d := dD) (vf := fun b : Bool => AV.b b) i64_inj e.t true⟩, ?_⟩
    refine ⟨fun j => .row 3 1 ((ownL (E ++ [e])).getD j dG).2.length (rI ((ownL (E ++ [e])).getD j dG).2), ⟨hkid, hq, rfl⟩, ?_⟩
    refine ⟨⟨(), [(5, 13), (6, 12)], trivial, ⟨⟨⟨rfl, rfl, AVEq.refl _⟩, trivial⟩, ⟨⟨rfl, rfl, rfl, ⟨rfl, AVsEq.refl _⟩⟩, ⟨rfl, rfl, trivial, trivial⟩, ⟨rfl, rfl, rfl, hown⟩, ⟨rfl, rfl, trivial, trivial⟩, ⟨rfl, rfl, trivial, delO_two E e hk⟩, ⟨rfl, rfl, trivial, snocE_row E e⟩, ⟨rfl, rfl, trivial, trivial⟩, trivial⟩, rfl⟩, rfl, fun h => (by cases h)⟩⟩
  · have hk : decide (e.k = 2) = false := hk
    rw [decide_eq_false_iff_not] at hk
    refine ⟨fun j => .row 3 1 ((ownL (E ++ [e])).getD j dG).2.length (rI ((ownL (E ++ [e])).getD j dG).2), ⟨hkid, hq, rfl⟩, ?_⟩
    refine ⟨⟨(), [(5, 13), (6, 12)], trivial, ⟨⟨⟨rfl, rfl, AVEq.refl _⟩, trivial⟩, ⟨⟨rfl, rfl, rfl, ⟨rfl, AVsEq.refl _⟩⟩, ⟨rfl, rfl, trivial, trivial⟩, ⟨rfl, rfl, rfl, hown⟩, ⟨rfl, rfl, trivial, trivial⟩, ⟨rfl, rfl, trivial, delO_same E e hk⟩, ⟨rfl, rfl, trivial, snocE_row E e⟩, ⟨rfl, rfl, trivial, trivial⟩, trivial⟩, rfl⟩, rfl, fun h => (by cases h)⟩⟩
set_option maxRecDepth 20000 in
set_option maxHeartbeats 64000000 in
theorem add_yes (E : List Ev) (hE : okE E) (e : Ev) (h1 : e.cs.length < 2^62) (h2 : e.fs.length < 2^62) (own : List Int) (hsome : mget (ownL E) e.a = some own) :
    CtrM Try.prog 74 true [.cells 182 [.so 1, .mo 2, .mo 4], rowO E, ownO E 3, .dead, delO E] [.p 0 0, .ag e.av] (fun _ : Unit => True) (fun _ => cvO (addC E e).1) (fun _ => cvN (addC E e).1) (fun _ => .tup [.i .i64 (addC E e).2.1, .i .i64 (addC E e).2.2]) := by
  have hids : idsOf E e.a = own := by unfold idsOf; rw [hsome]; rfl
  obtain ⟨i, hi, hki, hval, hlen, hsame⟩ := own_old hsome
  have hsp := idsOf_spec E e.a
  rw [hids] at hsp
  have hol : own.length ≤ 100000 := by
    have := hsp.2.1
    have hb : ∀ x ∈ own, 0 ≤ x ∧ x < E.length := fun x hx => ⟨(hsp.1 x hx).1, (hsp.1 x hx).2.1⟩
    have := asc_len this hb
    have := hE.1
    omega
  refine fn_of_execM tabOk Try.func74 (by kernel_rfl) rfl (N := Try.f74.ntmps) rfl (res := [.tmp 4, .tmp 5]) rfl true false [.cells 182 [.so 1, .mo 2, .mo 4], rowO E, ownO E 3, .dead, delO E] _ _ _ _ rfl (fun h => by cases h) [(3, [.take 2, .eq 6 (.row 3 1 own.length (rI own))]), (1000010, [.eq 7 (.row 3 1 2 (rI [e.t, e.q]))]), (999999, [.put 2, .nx 2, .mvc 0 0])] ?_
  repeat refine Or.inl ?_
  refine ⟨[], _, right_fn e h1 h2, ?_⟩
  refine ⟨fun h => ?_, fun h => ?_⟩
  · have h : (!rightE e) = true := h
    rw [Bool.not_eq_true'] at h
    have hA : addC E e = (E, (0, 2)) := by unfold addC; rw [if_pos h]
    rw [hA]
    refine ⟨⟨(), [(5, 7), (6, 6)], trivial, ⟨⟨⟨rfl, rfl, AVEq.refl _⟩, trivial⟩, ⟨⟨rfl, rfl, rfl, ⟨rfl, AVsEq.refl _⟩⟩, ⟨rfl, rfl, trivial, trivial⟩, ⟨rfl, rfl, rfl, AOEq.own E _⟩, ⟨rfl, rfl, trivial, trivial⟩, ⟨rfl, rfl, trivial, AOEq.refl _⟩, ⟨rfl, rfl, trivial, AOEq.refl _⟩, ⟨rfl, rfl, trivial, trivial⟩, trivial⟩, rfl⟩, rfl, fun h => (by cases h)⟩⟩
  have h : (!rightE e) = false := h
  rw [Bool.not_eq_false'] at h
  have hrt := right_rt h
  have hr1 : ¬ rightE e = false := by rw [h]; decide
  have hEl := hE.1
  refine Or.inl ⟨i, hi, ?_⟩
  refine ⟨⟨rfl, rfl, by show ((ownL E).getD i dG).2.length = own.length; rw [hval], fun k hk => by show rI ((ownL E).getD i dG).2 k = rI own k; rw [hval]⟩, ?_⟩
  refine ⟨true, ⟨keysI, rfl, congrArg (AV.i .i64) hki⟩, ?_⟩
  repeat refine Or.inl ?_
  refine ⟨fun hs => ?_, fun hs => ?_⟩
  · have hs : decide (e.s < (own.length : Int)) = true := hs
    rw [decide_eq_true_eq] at hs
    have hs0 := hrt.s.1
    have hxm := hsp.1 _ (getD_memI (l := own) (k := e.s.toNat) (by omega))
    have hEx := hE.2 _ (getD_memE (l := E) (k := (own.getD e.s.toNat 0).toNat) (by omega))
    have cA := alike_fn (E.getD (own.getD e.s.toNat 0).toNat dE) e hEx.fit hrt.fit
    repeat refine Or.inl ?_
    refine ⟨⟨by omega, by omega⟩, by omega, ?_⟩
    refine ⟨⟨by omega, by omega⟩, by omega, ?_⟩
    repeat refine Or.inl ?_
    refine ⟨[], _, cA, ?_⟩
    refine ⟨fun ha => ?_, fun ha => ?_⟩
    · have ha : (!alikeE (E.getD (own.getD e.s.toNat 0).toNat dE) e) = true := ha
      rw [Bool.not_eq_true'] at ha
      have hA : addC E e = (E, (0, 5)) := by unfold addC; rw [if_neg hr1, hids, if_pos hs, if_pos ha]
      rw [hA]
      refine ⟨fun i => .row 3 1 ((ownL E).getD i dG).2.length (rI ((ownL E).getD i dG).2), ⟨fun _ _ _ => rfl, ⟨rfl, rfl, by rw [hval], fun k hk => by rw [hval]⟩, rfl⟩, ?_⟩
      refine ⟨⟨(), [(5, 9), (6, 8)], trivial, ⟨⟨⟨rfl, rfl, AVEq.refl _⟩, trivial⟩, ⟨⟨rfl, rfl, rfl, ⟨rfl, AVsEq.refl _⟩⟩, ⟨rfl, rfl, trivial, trivial⟩, ⟨rfl, rfl, rfl, AOEq.own E _⟩, ⟨rfl, rfl, trivial, trivial⟩, ⟨rfl, rfl, trivial, AOEq.refl _⟩, ⟨rfl, rfl, trivial, AOEq.refl _⟩, ⟨rfl, rfl, trivial, trivial⟩, trivial⟩, rfl⟩, rfl, fun h => (by cases h)⟩⟩
    · have ha : (!alikeE (E.getD (own.getD e.s.toNat 0).toNat dE) e) = false := ha
      have hA : addC E e = (E, (own.getD e.s.toNat 0, 0)) := by unfold addC; rw [if_neg hr1, hids, if_pos hs, if_neg (fun h => by rw [h] at ha; cases ha)]
      rw [hA]
      repeat refine Or.inl ?_
      refine ⟨⟨by omega, by omega⟩, by omega, ?_⟩
      refine ⟨fun i => .row 3 1 ((ownL E).getD i dG).2.length (rI ((ownL E).getD i dG).2), ⟨fun _ _ _ => rfl, ⟨rfl, rfl, by rw [hval], fun k hk => by rw [hval]⟩, rfl⟩, ?_⟩
      refine ⟨⟨(), [(5, 9), (6, 8)], trivial, ⟨⟨⟨rfl, rfl, AVEq.refl _⟩, trivial⟩, ⟨⟨rfl, rfl, rfl, ⟨rfl, AVsEq.refl _⟩⟩, ⟨rfl, rfl, trivial, trivial⟩, ⟨rfl, rfl, rfl, AOEq.own E _⟩, ⟨rfl, rfl, trivial, trivial⟩, ⟨rfl, rfl, trivial, AOEq.refl _⟩, ⟨rfl, rfl, trivial, AOEq.refl _⟩, ⟨rfl, rfl, trivial, trivial⟩, trivial⟩, rfl⟩, rfl, fun h => (by cases h)⟩⟩
  have hs : decide (e.s < (own.length : Int)) = false := hs
  rw [decide_eq_false_iff_not] at hs
  have hlt : ¬ e.s < (idsOf E e.a).length := by rw [hids]; exact hs
  have hlid : ((idsOf E e.a).length : Int) = (own.length : Int) := by rw [hids]
  repeat refine Or.inl ?_
  refine ⟨[], _, fun _ => missing_fn E _ _ e (by have := hrt.cs.1; omega), ?_⟩
  refine ⟨fun hm => ?_, fun hm => ?_⟩
  · have hm : (decide (e.s > (own.length : Int)) || missE E e) = true := hm
    have hA : addC E e = (E, (0, 14)) := by unfold addC; rw [if_neg hr1, if_neg hlt, if_pos (by rw [hlid]; exact hm)]
    rw [hA]
    refine ⟨fun i => .row 3 1 ((ownL E).getD i dG).2.length (rI ((ownL E).getD i dG).2), ⟨fun _ _ _ => rfl, ⟨rfl, rfl, by rw [hval], fun k hk => by rw [hval]⟩, rfl⟩, ?_⟩
    refine ⟨⟨(), [(5, 9), (6, 8)], trivial, ⟨⟨⟨rfl, rfl, AVEq.refl _⟩, trivial⟩, ⟨⟨rfl, rfl, rfl, ⟨rfl, AVsEq.refl _⟩⟩, ⟨rfl, rfl, trivial, trivial⟩, ⟨rfl, rfl, rfl, AOEq.own E _⟩, ⟨rfl, rfl, trivial, trivial⟩, ⟨rfl, rfl, trivial, AOEq.refl _⟩, ⟨rfl, rfl, trivial, AOEq.refl _⟩, ⟨rfl, rfl, trivial, trivial⟩, trivial⟩, rfl⟩, rfl, fun h => (by cases h)⟩⟩
  have hm : (decide (e.s > (own.length : Int)) || missE E e) = false := hm
  have hm1 : ¬ (decide (e.s > (idsOf E e.a).length) || missE E e) = true := by rw [hlid, hm]; decide
  have hms : missE E e = false := by rw [Bool.or_eq_false_iff] at hm; exact hm.2
  have hx : ∀ x, x = e.t ∨ x = e.q → x ≠ -1 → 0 ≤ x ∧ x < E.length := fun x hx hn => by
    unfold missE at hms
    rw [List.any_eq_false] at hms
    have h3 := hrt.t
    have h4 := hrt.q
    have h5 := hms x (by rcases hx with rfl | rfl <;> simp)
    rw [decide_eq_true_eq] at h5
    rcases hx with rfl | rfl <;> omega
  repeat refine Or.inl ?_
  refine ⟨pair_row e.t e.q, ?_⟩
  repeat refine Or.inl ?_
  refine ⟨[], Nat, fun j => j ≤ 2 ∧ (1 ≤ j → badM E e e.t = false) ∧ (2 ≤ j → badM E e e.q = false), fun j => [⟨60, [], .i .i64 j⟩], fun _ => [], fun j => 2 - j,
    ⟨0, [], ⟨by omega, fun h => by omega, fun h => by omega⟩, rfl, rfl, rfl, rfl, rfl, ⟨rfl, rfl⟩, trivial⟩, ?_⟩
  rintro j ⟨hj, hj1, hj2⟩
  have hj : j ≤ 2 := hj
  refine .inl ⟨fun hc => ?_, fun hc => ?_⟩
  · have hc := dlt hc
    have hc : (j : Int) < (2 : Nat) := hc
    have ej : (j : Int).toNat = j := Int.toNat_natCast j
    have hxj : [e.t, e.q].getD (j : Int).toNat 0 = e.t ∨ [e.t, e.q].getD (j : Int).toNat 0 = e.q := by
      rw [ej]
      match j, hc with
      | 0, _ => exact .inl rfl
      | 1, _ => exact .inr rfl
      | j + 2, h => omega
    have hxx := hx _ hxj
    have g0 : (([e.t, e.q].getD (j : Int).toNat 0) != -1) = true → 0 ≤ [e.t, e.q].getD (j : Int).toNat 0 ∧ [e.t, e.q].getD (j : Int).toNat 0 < E.length := fun h => hxx (by rw [bne_iff_ne] at h; exact h)
    repeat refine Or.inl ?_
    refine ⟨⟨by omega, by omega⟩, by omega, ?_⟩
    refine ⟨fun hg => g0 hg.1, fun hg => by have := g0 hg.1; omega, ?_⟩
    refine ⟨fun hg => g0 hg.2.1, fun hg => by have := g0 hg.2.1; omega, ?_⟩
    refine ⟨fun hb => ?_, fun hb => ?_⟩
    · have hb : badM E e ([e.t, e.q].getD (j : Int).toNat 0) = true := hb
      have hA : addC E e = (E, (0, 4)) := by
        unfold addC
        rw [if_neg hr1, if_neg hlt, if_neg hm1, if_pos ?_]
        rcases hxj with h | h <;> rw [h] at hb <;> rw [hb]
        · rfl
        · rw [Bool.or_true]
      rw [hA]
      refine ⟨fun i => .row 3 1 ((ownL E).getD i dG).2.length (rI ((ownL E).getD i dG).2), ⟨fun _ _ _ => rfl, ⟨rfl, rfl, by rw [hval], fun k hk => by rw [hval]⟩, rfl⟩, ?_⟩
      refine ⟨⟨(), [(5, 10), (6, 9)], trivial, ⟨⟨⟨rfl, rfl, AVEq.refl _⟩, trivial⟩, ⟨⟨rfl, rfl, rfl, ⟨rfl, AVsEq.refl _⟩⟩, ⟨rfl, rfl, trivial, trivial⟩, ⟨rfl, rfl, rfl, AOEq.own E _⟩, ⟨rfl, rfl, trivial, trivial⟩, ⟨rfl, rfl, trivial, AOEq.refl _⟩, ⟨rfl, rfl, trivial, AOEq.refl _⟩, ⟨rfl, rfl, trivial, trivial⟩, trivial⟩, rfl⟩, rfl, fun h => (by cases h)⟩⟩
    · have hb : badM E e ([e.t, e.q].getD (j : Int).toNat 0) = false := hb
      refine ⟨j + 1, [], ⟨by omega, fun h => ?_, fun h => ?_⟩, by dsimp only; omega, rfl, rfl, rfl, rfl, rfl, ⟨rfl, wr (by omega) (by omega)⟩, trivial⟩
      · match j, hj1, hb with
        | 0, _, hb => exact hb
        | j + 1, hj1, _ => exact hj1 (by omega)
      · match j, hc, hb, h with
        | 0, _, _, h => omega
        | 1, _, hb, _ => exact hb
  have hc : ¬ (j : Int) < (2 : Nat) := by have := hc; rw [decide_eq_false_iff_not] at this; exact this
  have hj2' : j = 2 := by omega
  subst hj2'
  have hbt := hj1 (by omega)
  have hbq := hj2 (by omega)
  have hb1 : ¬ (badM E e e.t || badM E e e.q) = true := by rw [hbt, hbq]; decide
  repeat refine Or.inl ?_
  refine ⟨_, _, ⟨keysI, rfl, look_del E e.t⟩, ?_⟩
  refine ⟨_, _, fun _ => ⟨keysI, rfl, look_del E e.q⟩, ?_⟩
  refine ⟨fun hd => ?_, fun hd => ?_⟩
  · have hd : (delB E e.t || delB E e.q) = true := hd
    have hA : addC E e = (E, (0, 7)) := by unfold addC; rw [if_neg hr1, if_neg hlt, if_neg hm1, if_neg hb1, if_pos hd]
    rw [hA]
    refine ⟨fun i => .row 3 1 ((ownL E).getD i dG).2.length (rI ((ownL E).getD i dG).2), ⟨fun _ _ _ => rfl, ⟨rfl, rfl, by rw [hval], fun k hk => by rw [hval]⟩, rfl⟩, ?_⟩
    refine ⟨⟨(), [(5, 10), (6, 9)], trivial, ⟨⟨⟨rfl, rfl, AVEq.refl _⟩, trivial⟩, ⟨⟨rfl, rfl, rfl, ⟨rfl, AVsEq.refl _⟩⟩, ⟨rfl, rfl, trivial, trivial⟩, ⟨rfl, rfl, rfl, AOEq.own E _⟩, ⟨rfl, rfl, trivial, trivial⟩, ⟨rfl, rfl, trivial, AOEq.refl _⟩, ⟨rfl, rfl, trivial, AOEq.refl _⟩, ⟨rfl, rfl, trivial, trivial⟩, trivial⟩, rfl⟩, rfl, fun h => (by cases h)⟩⟩
  have hd : (delB E e.t || delB E e.q) = false := hd
  have hd1 : ¬ (delB E e.t || delB E e.q) = true := by rw [hd]; decide
  repeat refine Or.inl ?_
  refine ⟨fun hn => ?_, fun hn => ?_⟩
  · have hn : decide ((E.length : Int) ≥ 100000) = true := hn
    rw [decide_eq_true_eq] at hn
    have hA : addC E e = (E, (0, 6)) := by unfold addC; rw [if_neg hr1, if_neg hlt, if_neg hm1, if_neg hb1, if_neg hd1, if_pos (by omega)]
    rw [hA]
    refine ⟨fun i => .row 3 1 ((ownL E).getD i dG).2.length (rI ((ownL E).getD i dG).2), ⟨fun _ _ _ => rfl, ⟨rfl, rfl, by rw [hval], fun k hk => by rw [hval]⟩, rfl⟩, ?_⟩
    refine ⟨⟨(), [(5, 10), (6, 9)], trivial, ⟨⟨⟨rfl, rfl, AVEq.refl _⟩, trivial⟩, ⟨⟨rfl, rfl, rfl, ⟨rfl, AVsEq.refl _⟩⟩, ⟨rfl, rfl, trivial, trivial⟩, ⟨rfl, rfl, rfl, AOEq.own E _⟩, ⟨rfl, rfl, trivial, trivial⟩, ⟨rfl, rfl, trivial, AOEq.refl _⟩, ⟨rfl, rfl, trivial, AOEq.refl _⟩, ⟨rfl, rfl, trivial, trivial⟩, trivial⟩, rfl⟩, rfl, fun h => (by cases h)⟩⟩
  have hn : decide ((E.length : Int) ≥ 100000) = false := hn
  rw [decide_eq_false_iff_not] at hn
  have hA : addC E e = (E ++ [e], ((E.length : Int), 0)) := by unfold addC; rw [if_neg hr1, if_neg hlt, if_neg hm1, if_neg hb1, if_neg hd1, if_neg (by omega)]
  rw [hA]
  have hcs := hrt.cs.1
  have hfs := hrt.fs
  refine Or.inr ?_
  refine ⟨_, cloneE_fn e (by omega) (by omega), ?_⟩
  refine ⟨fits (by omega), ?_⟩
  refine ⟨fits (by omega), ?_⟩
  refine ⟨_, _, _, _, _, ⟨keysI, rfl, rfl, .inl ⟨⟨_, rfl⟩, congrArg (AV.i .i64) hki, rfl, rfl, fun _ _ => ⟨rfl, rfl⟩⟩⟩, ?_⟩
  have hkk : ((ownL (E ++ [e])).getD i dG).2 = own ++ [(E.length : Int)] := by rw [(hsame i hi).2, if_pos rfl]
  have hq : KDEq (.row 3 1 (own.length + 1) (catG own.length (rI own) (rowOf 1 [.i .i64 (E.length : Int)]))) (.row 3 1 ((ownL (E ++ [e])).getD i dG).2.length (rI ((ownL (E ++ [e])).getD i dG).2)) := by
    rw [hkk]
    exact snocI_row own _
  have hkid : ∀ j, j < (ownL E).length → j ≠ i → KD.row 3 1 ((ownL (E ++ [e])).getD j dG).2.length (rI ((ownL (E ++ [e])).getD j dG).2) = .row 3 1 ((ownL E).getD j dG).2.length (rI ((ownL E).getD j dG).2) := fun j hj hne => by
    rw [(hsame j hj).2, if_neg hne]
  have hown : AOEq (ownO (E ++ [e]) 13) (.mr (ownL E).length (fun i => .i .i64 ((ownL E).getD i dG).1) (fun j => .row 3 1 ((ownL (E ++ [e])).getD j dG).2.length (rI ((ownL (E ++ [e])).getD j dG).2)) (fun i => i) (ownL E).length 13 none) :=
    ⟨hlen.symm, hlen.symm, rfl, rfl, fun j hj => ⟨congrArg (AV.i .i64) (hsame j (by rw [hlen] at hj; exact hj)).1.symm, KDEq.refl _, rfl⟩⟩
  repeat refine Or.inl ?_
  refine ⟨fun hk => ?_, fun hk => ?_⟩
  · have hk : decide (e.k = 2) = true := hk
    rw [decide_eq_true_eq] at hk
    refine ⟨_, _, _, _, _, ⟨keysI, rfl, updOk_mset (L := delL E) (d := dD) (vf := fun b : Bool => AV.b b) i64_inj e.t true⟩, ?_⟩
    refine ⟨fun j => .row 3 1 ((ownL (E ++ [e])).getD j dG).2.length (rI ((ownL (E ++ [e])).getD j dG).2), ⟨hkid, hq, rfl⟩, ?_⟩
    refine ⟨⟨(), [(5, 14), (6, 13)], trivial, ⟨⟨⟨rfl, rfl, AVEq.refl _⟩, trivial⟩, ⟨⟨rfl, rfl, rfl, ⟨rfl, AVsEq.refl _⟩⟩, ⟨rfl, rfl, trivial, trivial⟩, ⟨rfl, rfl, rfl, hown⟩, ⟨rfl, rfl, trivial, trivial⟩, ⟨rfl, rfl, trivial, delO_two E e hk⟩, ⟨rfl, rfl, trivial, snocE_row E e⟩, ⟨rfl, rfl, trivial, trivial⟩, trivial⟩, rfl⟩, rfl, fun h => (by cases h)⟩⟩
  · have hk : decide (e.k = 2) = false := hk
    rw [decide_eq_false_iff_not] at hk
    refine ⟨fun j => .row 3 1 ((ownL (E ++ [e])).getD j dG).2.length (rI ((ownL (E ++ [e])).getD j dG).2), ⟨hkid, hq, rfl⟩, ?_⟩
    refine ⟨⟨(), [(5, 14), (6, 13)], trivial, ⟨⟨⟨rfl, rfl, AVEq.refl _⟩, trivial⟩, ⟨⟨rfl, rfl, rfl, ⟨rfl, AVsEq.refl _⟩⟩, ⟨rfl, rfl, trivial, trivial⟩, ⟨rfl, rfl, rfl, hown⟩, ⟨rfl, rfl, trivial, trivial⟩, ⟨rfl, rfl, trivial, delO_same E e hk⟩, ⟨rfl, rfl, trivial, snocE_row E e⟩, ⟨rfl, rfl, trivial, trivial⟩, trivial⟩, rfl⟩, rfl, fun h => (by cases h)⟩⟩
end Go.Proofs.Ytnookbebiacaeaa
end

section
/-
  Conversations: a new one, an event of it, all of them, one erased.
-/
namespace Go.Proofs.Ytnookbebiacaeaa
open Go.Eng

theorem add_fn (E : List Ev) (hE : okE E) (e : Ev) (h1 : e.cs.length < 2^62) (h2 : e.fs.length < 2^62) :
    CtrM Try.prog 74 true [.cells 182 [.so 1, .mo 2, .mo 4], rowO E, ownO E 3, .dead, delO E] [.p 0 0, .ag e.av] (fun _ : Unit => True) (fun _ => cvO (addC E e).1) (fun _ => cvN (addC E e).1) (fun _ => .tup [.i .i64 (addC E e).2.1, .i .i64 (addC E e).2.2]) := by
  cases h : mget (ownL E) e.a with
  | none => exact add_no E hE e h1 h2 h
  | some own => exact add_yes E hE e h1 h2 own h
theorem addC_ok {E : List Ev} (hE : okE E) (e : Ev) : okE (addC E e).1 := by
  unfold addC
  by_cases h1 : rightE e = false
  · rw [if_pos h1]; exact hE
  rw [if_neg h1]
  by_cases h2 : e.s < (idsOf E e.a).length
  · rw [if_pos h2]
    split <;> exact hE
  rw [if_neg h2]
  by_cases h3 : (decide (e.s > (idsOf E e.a).length) || missE E e) = true
  · rw [if_pos h3]; exact hE
  rw [if_neg h3]
  by_cases h4 : (badM E e e.t || badM E e e.q) = true
  · rw [if_pos h4]; exact hE
  rw [if_neg h4]
  by_cases h5 : (delB E e.t || delB E e.q) = true
  · rw [if_pos h5]; exact hE
  rw [if_neg h5]
  by_cases h6 : E.length ≥ 100000
  · rw [if_pos h6]; exact hE
  rw [if_neg h6]
  refine ⟨by simp; omega, fun x hx => ?_⟩
  rcases List.mem_append.1 hx with hx | hx
  · exact hE.2 x hx
  · rw [List.mem_singleton] at hx
    subst hx
    refine right_rt ?_
    cases hr : rightE x
    · exact absurd hr h1
    · rfl
set_option maxRecDepth 20000 in
theorem new_fn : CtrM Try.prog 73 true [] [] (fun _ : Unit => True) (fun _ => []) (fun _ => [.cells 182 [.so 1, .mo 2, .mo 4], rowO [], ownO [] 3, .dead, delO []]) (fun _ => .p 0 0) := by
  refine fn_of_execM tabOk Try.func73 (by kernel_rfl) rfl (N := Try.f73.ntmps) rfl (res := [.tmp 0]) rfl true false [] _ _ _ _ rfl (fun h => by cases h) [(999999, [.nlc 2 0 96 12, .mk 0 (fun _ => .row 3 1 0 (rI []))])] ?_
  refine ⟨rfl, ?_⟩
  refine ⟨⟨(), [(0, 2), (1, 3), (2, 0), (3, 4), (4, 1)], trivial, ⟨⟨⟨rfl, rfl, AVEq.refl _⟩, trivial⟩, ⟨⟨rfl, rfl, rfl, ⟨rfl, AVsEq.refl _⟩⟩, ⟨rfl, rfl, trivial, ⟨rfl, rfl, rfl, fun k hk => absurd hk (Nat.not_lt_zero k)⟩⟩, ⟨rfl, rfl, rfl, ⟨rfl, rfl, rfl, rfl, fun i hi => absurd hi (Nat.not_lt_zero i)⟩⟩, ⟨rfl, rfl, trivial, trivial⟩, ⟨rfl, rfl, trivial, ⟨rfl, rfl, fun i hi => absurd hi (Nat.not_lt_zero i)⟩⟩, trivial⟩, rfl⟩, rfl, fun h => (by cases h)⟩⟩
def zP (E : List Ev) (i : Int) : Bool := decide (i < 0) || decide (i ≥ (E.length : Int))
def getC (E : List Ev) (i : Int) : Ev × Bool := if zP E i = true then (dE, false) else (E.getD i.toNat dE, true)
set_option maxRecDepth 20000 in
set_option maxHeartbeats 4000000 in
theorem get_fn (E : List Ev) (hE : okE E) (i : Int) : CtrM Try.prog 75 true [.cells 182 [.so 1, .mo 2, .mo 4], rowO E, ownO E 3, .dead, delO E] [.p 0 0, .i .i64 i] (fun _ : Unit => True) (fun _ => cvI E) (fun _ => []) (fun _ => .tup [.ag (getC E i).1.av, .b (getC E i).2]) := by
  refine fn_of_execM tabOk Try.func75 (by kernel_rfl) rfl (N := Try.f75.ntmps) rfl (res := [.cell 4 96, .tmp 5]) rfl true false [.cells 182 [.so 1, .mo 2, .mo 4], rowO E, ownO E 3, .dead, delO E] _ _ _ _ rfl (fun h => by cases h) [(1000002, [.eq 5 (.cells 96 dE.av)])] ?_
  repeat refine Or.inl ?_
  refine ⟨fun h => ?_, fun h => ?_⟩
  · have h : zP E i = true := h
    have hG : getC E i = (dE, false) := by unfold getC; rw [if_pos h]
    rw [hG]
    refine ⟨⟨rfl, AVEq.refl _, AVEq.refl _, ⟨rfl, rfl⟩, AVEq.refl _, AVEq.refl _, AVEq.refl _, AVEq.refl _, AVEq.refl _, AVEq.refl _, AVEq.refl _, ⟨rfl, rfl⟩, AVEq.refl _⟩, ?_⟩
    refine ⟨⟨(), [], trivial, ⟨⟨⟨rfl, rfl, AVEq.refl _⟩, trivial⟩, ⟨⟨rfl, rfl, rfl, ⟨rfl, AVsEq.refl _⟩⟩, ⟨rfl, rfl, trivial, AOEq.refl _⟩, ⟨rfl, rfl, rfl, AOEq.own E _⟩, ⟨rfl, rfl, trivial, trivial⟩, ⟨rfl, rfl, trivial, AOEq.refl _⟩, trivial⟩, rfl⟩, rfl, fun h => (by cases h)⟩⟩
  · have h : zP E i = false := h
    have hG : getC E i = (E.getD i.toNat dE, true) := by unfold getC; rw [if_neg (by rw [h]; decide)]
    rw [hG]
    unfold zP at h
    rw [Bool.or_eq_false_iff, decide_eq_false_iff_not, decide_eq_false_iff_not] at h
    have hm := hE.2 _ (getD_memE (l := E) (k := i.toNat) (by omega))
    have hcs := hm.cs.1
    have hfs := hm.fs
    repeat refine Or.inl ?_
    refine ⟨⟨by omega, by omega⟩, by omega, ?_⟩
    refine Or.inr (Or.inl ?_)
    refine ⟨_, cloneE_fn (E.getD i.toNat dE) (by omega) (by omega), ?_⟩
    refine ⟨⟨(), [], trivial, ⟨⟨⟨rfl, rfl, AVEq.refl _⟩, trivial⟩, ⟨⟨rfl, rfl, rfl, ⟨rfl, AVsEq.refl _⟩⟩, ⟨rfl, rfl, trivial, AOEq.refl _⟩, ⟨rfl, rfl, rfl, AOEq.own E _⟩, ⟨rfl, rfl, trivial, trivial⟩, ⟨rfl, rfl, trivial, AOEq.refl _⟩, trivial⟩, rfl⟩, rfl, fun h => (by cases h)⟩⟩
/-! ### erasing -/
/-- The event goes bare when i is erased. -/
def goesB (i : Int) (j : Nat) (e : Ev) : Bool := ((j : Int) == i) || ((e.k == 1) && (e.t == i))
/-- The first k events, once i is erased. -/
def eraseTo (E : List Ev) (i : Int) (k : Nat) : List Ev := E.mapIdx fun j e => if (decide (j < k) && goesB i j e) = true then bareE e else e
/-- What is erased, and what is returned. -/
def eraseC (E : List Ev) (i : Int) : List Ev × Int := if (zP E i || ((E.getD i.toNat dE).k != 0)) = true then (E, 4) else (eraseTo E i E.length, 0)
theorem eraseTo_len (E : List Ev) (i : Int) (k : Nat) : (eraseTo E i k).length = E.length := by simp [eraseTo]
theorem eraseTo_getD (E : List Ev) (i : Int) (k j : Nat) (hj : j < E.length) : (eraseTo E i k).getD j dE = if (decide (j < k) && goesB i j (E.getD j dE)) = true then bareE (E.getD j dE) else E.getD j dE := by
  unfold eraseTo
  rw [gdI (by simpa using hj), gdI hj, List.getElem_mapIdx]
theorem eraseTo_zero (E : List Ev) (i : Int) : eraseTo E i 0 = E := by
  refine List.ext_getElem (by simp [eraseTo]) fun j h1 h2 => ?_
  simp [eraseTo]
theorem bareE_a (e : Ev) : (bareE e).a = e.a := by unfold bareE; split <;> rfl
theorem bareE_t (e : Ev) : (bareE e).t = e.t := by unfold bareE; split <;> rfl
theorem bareE_k (e : Ev) : (bareE e).k = e.k := by unfold bareE; split <;> rfl
theorem ownL_congr {E E' : List Ev} (h : E.map Ev.a = E'.map Ev.a) : ownL E = ownL E' := by
  have key : ∀ (F : List Ev) (L : List (Int × List Int)) (n : Nat), (F.zipIdx n).foldl ownStep L = ((F.map Ev.a).zipIdx n).foldl (fun L p => mset L p.1 ((mget L p.1).getD [] ++ [(p.2 : Int)])) L := by
    intro F
    induction F with
    | nil => intro L n; rfl
    | cons e r ih =>
      intro L n
      simp only [List.zipIdx_cons, List.map_cons, List.foldl_cons]
      exact ih _ _
  unfold ownL
  rw [key, key, h]
theorem delL_congr {E E' : List Ev} (h : E.map (fun e => (e.k, e.t)) = E'.map (fun e => (e.k, e.t))) : delL E = delL E' := by
  have key : ∀ (F : List Ev) (L : List (Int × Bool)), F.foldl delStep L = (F.map fun e => (e.k, e.t)).foldl (fun L p => if p.1 = 2 then mset L p.2 true else L) L := by
    intro F
    induction F with
    | nil => intro L; rfl
    | cons e r ih =>
      intro L
      simp only [List.map_cons, List.foldl_cons]
      exact ih _
  unfold delL
  rw [key, key, h]
theorem eraseTo_map {α : Type} (f : Ev → α) (hf : ∀ e, f (bareE e) = f e) (E : List Ev) (i : Int) (k : Nat) : (eraseTo E i k).map f = E.map f := by
  refine List.ext_getElem (by simp [eraseTo]) fun j h1 h2 => ?_
  simp only [eraseTo, List.getElem_map, List.getElem_mapIdx]
  split
  · exact hf _
  · rfl
theorem eraseTo_own (E : List Ev) (i : Int) (k : Nat) : ownL (eraseTo E i k) = ownL E := ownL_congr (eraseTo_map Ev.a bareE_a E i k)
theorem eraseTo_del (E : List Ev) (i : Int) (k : Nat) : delL (eraseTo E i k) = delL E := delL_congr (eraseTo_map (fun e => (e.k, e.t)) (fun e => by rw [bareE_k, bareE_t]) E i k)
theorem erase_yes {E : List Ev} {i : Int} {j : Nat} (hj : j < E.length) (hb : goesB i j (E.getD j dE) = true) : ∀ k, k < E.length → rE (eraseTo E i (j + 1)) k = if k = j then (bareE (E.getD j dE)).av else rE (eraseTo E i j) k := by
  intro k hk
  unfold rE
  rw [eraseTo_getD E i (j + 1) k hk, eraseTo_getD E i j k hk]
  by_cases h : k = j
  · subst h
    rw [if_pos rfl, if_pos (by rw [hb, Bool.and_true]; exact decide_eq_true (by omega))]
  · rw [if_neg h]
    have : decide (k < j + 1) = decide (k < j) := by
      rw [decide_eq_decide]
      omega
    rw [this]
theorem erase_no {E : List Ev} {i : Int} {j : Nat} (hj : j < E.length) (hb : goesB i j (E.getD j dE) = false) : eraseTo E i (j + 1) = eraseTo E i j := by
  refine List.ext_getElem (by rw [eraseTo_len, eraseTo_len]) fun k h1 h2 => ?_
  have hk : k < E.length := by rw [eraseTo_len] at h1; exact h1
  rw [← gdI h1, ← gdI h2, eraseTo_getD E i (j + 1) k hk, eraseTo_getD E i j k hk]
  by_cases h : k = j
  · subst h
    rw [hb, Bool.and_false, Bool.and_false]
  · have : decide (k < j + 1) = decide (k < j) := by
      rw [decide_eq_decide]
      omega
    rw [this]
theorem Rt.bare {e : Ev} (h : Rt e) : Rt (bareE e) := by
  unfold bareE
  split
  · rename_i hk
    refine ⟨h.t, h.q, h.s, h.a, h.k, h.cs, Nat.zero_le _, Nat.zero_le _, h.del, h.qpost, ?_⟩
    have hsp := h.sp
    rcases hk with hk | hk
    · rw [spare0 hk] at hsp
      rw [spare0 (e := { e with x := noB, fs := [] }) hk]
      have : e.n = 0 := by rw [hsp]
      rw [Ev.mk.injEq]
      exact ⟨rfl, rfl, rfl, rfl, rfl, rfl, rfl, rfl, this, rfl, rfl, rfl⟩
    · rw [spare1 hk] at hsp
      rw [spare1 (e := { e with x := noB, fs := [] }) hk]
      have h1 : e.q = -1 := by rw [hsp]
      have h2 : e.w = -1 := by rw [hsp]
      have h3 : e.n = 0 := by rw [hsp]
      rw [Ev.mk.injEq]
      exact ⟨rfl, rfl, rfl, rfl, rfl, rfl, h1, h2, h3, rfl, rfl, rfl⟩
  · exact h
theorem eraseTo_ok {E : List Ev} (hE : okE E) (i : Int) (k : Nat) : okE (eraseTo E i k) := by
  refine ⟨by rw [eraseTo_len]; exact hE.1, fun e he => ?_⟩
  obtain ⟨j, hj, rfl⟩ := List.getElem_of_mem he
  have hj' : j < E.length := by rw [eraseTo_len] at hj; exact hj
  have hm := hE.2 _ (List.getElem_mem hj')
  rw [← gdI hj, eraseTo_getD E i k j hj', gdI hj']
  split
  · exact hm.bare
  · exact hm
theorem eraseC_ok {E : List Ev} (hE : okE E) (i : Int) : okE (eraseC E i).1 := by
  unfold eraseC
  split
  · exact hE
  · exact eraseTo_ok hE i _
set_option maxRecDepth 20000 in
set_option maxHeartbeats 16000000 in
theorem erase_fn (E : List Ev) (hE : okE E) (i : Int) : CtrM Try.prog 76 true [.cells 182 [.so 1, .mo 2, .mo 4], rowO E, ownO E 3, .dead, delO E] [.p 0 0, .i .i64 i] (fun _ : Unit => True) (fun _ => cvI (eraseC E i).1) (fun _ => []) (fun _ => .i .i64 (eraseC E i).2) := by
  refine fn_of_execM tabOk Try.func76 (by kernel_rfl) rfl (N := Try.f76.ntmps) rfl (res := [.tmp 4]) rfl true false [.cells 182 [.so 1, .mo 2, .mo 4], rowO E, ownO E 3, .dead, delO E] _ _ _ _ rfl (fun h => by cases h) [] ?_
  have hEl := hE.1
  repeat refine Or.inl ?_
  have hz : zP E i = false → 0 ≤ i ∧ i < E.length := fun h => by
    unfold zP at h
    rw [Bool.or_eq_false_iff, decide_eq_false_iff_not, decide_eq_false_iff_not] at h
    omega
  refine ⟨fun hg => hz hg.1, fun hg => ?_, ?_⟩
  · have hg : zP E i = false := hg.1
    have := hz hg
    omega
  refine ⟨fun h => ?_, fun h => ?_⟩
  · have h : (zP E i || ((E.getD i.toNat dE).k != 0)) = true := h
    have hA : eraseC E i = (E, 4) := by unfold eraseC; rw [if_pos h]
    rw [hA]
    refine ⟨⟨(), [], trivial, ⟨⟨⟨rfl, rfl, AVEq.refl _⟩, trivial⟩, ⟨⟨rfl, rfl, rfl, ⟨rfl, AVsEq.refl _⟩⟩, ⟨rfl, rfl, trivial, AOEq.refl _⟩, ⟨rfl, rfl, rfl, AOEq.own E _⟩, ⟨rfl, rfl, trivial, trivial⟩, ⟨rfl, rfl, trivial, AOEq.refl _⟩, trivial⟩, rfl⟩, rfl, fun h => (by cases h)⟩⟩
  have h : (zP E i || ((E.getD i.toNat dE).k != 0)) = false := h
  have hA : eraseC E i = (eraseTo E i E.length, 0) := by unfold eraseC; rw [if_neg (by rw [h]; decide)]
  rw [hA]
  have aoE0 : AOEq (rowO (eraseTo E i 0)) (rowO E) := by rw [eraseTo_zero]; exact AOEq.refl _
  repeat refine Or.inl ?_
  refine ⟨[], Nat, fun j => j ≤ E.length, fun j => [⟨34, [], .i .i64 j⟩], fun j => [⟨1, [], rowO (eraseTo E i j)⟩], fun j => E.length - j,
    ⟨0, [], Nat.zero_le _, rfl, rfl, rfl, rfl, rfl, ⟨rfl, rfl⟩, aoE0⟩, ?_⟩
  intro j hj
  have hj : j ≤ E.length := hj
  refine .inl ⟨fun hc => ?_, fun hc => ?_⟩
  · have hc := dlt hc
    have hc : (j : Int) < E.length := hc
    have ej : (j : Int).toNat = j := Int.toNat_natCast j
    have hlen := eraseTo_len E i j
    have hget : (eraseTo E i j).getD j dE = E.getD j dE := by
      rw [eraseTo_getD E i j j (by omega), if_neg (by simp)]
    repeat refine Or.inl ?_
    refine ⟨⟨by omega, by omega⟩, by omega, ?_⟩
    have hm := (eraseTo_ok hE i j).2 _ (getD_memE (l := eraseTo E i j) (k := (j : Int).toNat) (by omega))
    have hcs := hm.cs.1
    have hfs := hm.fs
    repeat refine Or.inl ?_
    refine ⟨fun hb => ?_, fun hb => ?_⟩
    · have hb : goesB i j ((eraseTo E i j).getD (j : Int).toNat dE) = true := hb
      refine Or.inr ?_
      refine ⟨_, bare_fn ((eraseTo E i j).getD (j : Int).toNat dE) (by omega) (by omega), ?_⟩
      refine ⟨⟨by omega, by omega⟩, by omega, ?_⟩
      rw [ej, hget] at hb
      refine ⟨j + 1, [], (by show j + 1 ≤ E.length; omega), by dsimp only; omega, rfl, rfl, rfl, rfl, rfl, ⟨rfl, wr (by omega) (by omega)⟩, ?_⟩
      refine ⟨rfl, rfl, by rw [eraseTo_len, eraseTo_len], fun k hk => ?_⟩
      rw [eraseTo_len] at hk
      rw [erase_yes (by omega) hb k hk, ej, hget]
      by_cases hkj : k = j
      · rw [if_pos hkj]
        show (if k = j then over 0 (bareE (E.getD j dE)).av (rE (eraseTo E i j) k) else rE (eraseTo E i j) k) = _
        rw [if_pos hkj]
        rfl
      · rw [if_neg hkj]
        show (if k = j then over 0 (bareE (E.getD j dE)).av (rE (eraseTo E i j) k) else rE (eraseTo E i j) k) = _
        rw [if_neg hkj]
    · have hb : goesB i j ((eraseTo E i j).getD (j : Int).toNat dE) = false := hb
      rw [ej, hget] at hb
      have aoE : AOEq (rowO (eraseTo E i (j + 1))) (rowO (eraseTo E i j)) := by rw [erase_no (by omega) hb]; exact AOEq.refl _
      refine ⟨j + 1, [], (by show j + 1 ≤ E.length; omega), by dsimp only; omega, rfl, rfl, rfl, rfl, rfl, ⟨rfl, wr (by omega) (by omega)⟩, aoE⟩
  · have hc := dnlt hc
    have hje : j = E.length := by omega
    have aoO : AOEq (ownO (eraseTo E i j) 3) (ownO E 3) := by
      unfold ownO
      rw [eraseTo_own]
      exact AOEq.own E _
    have aoD : AOEq (delO (eraseTo E i j)) (delO E) := by
      unfold delO
      rw [eraseTo_del]
      exact AOEq.refl _
    rw [← hje]
    refine ⟨⟨(), [], trivial, ⟨⟨⟨rfl, rfl, AVEq.refl _⟩, trivial⟩, ⟨⟨rfl, rfl, rfl, ⟨rfl, AVsEq.refl _⟩⟩, ⟨rfl, rfl, trivial, AOEq.refl _⟩, ⟨rfl, rfl, rfl, aoO⟩, ⟨rfl, rfl, trivial, trivial⟩, ⟨rfl, rfl, trivial, aoD⟩, trivial⟩, rfl⟩, rfl, fun h => (by cases h)⟩⟩
set_option maxRecDepth 20000 in
set_option maxHeartbeats 16000000 in
theorem all_fn (E : List Ev) (hE : okE E) : CtrM Try.prog 81 true [.cells 182 [.so 1, .mo 2, .mo 4], rowO E, ownO E 3, .dead, delO E] [.p 0 0] (fun _ : Unit => True) (fun _ => cvI E) (fun _ => [rowO E]) (fun _ => .so 5) := by
  refine fn_of_execM tabOk Try.func81 (by kernel_rfl) rfl (N := Try.f81.ntmps) rfl (res := [.tmp 2]) rfl true false [.cells 182 [.so 1, .mo 2, .mo 4], rowO E, ownO E 3, .dead, delO E] _ _ _ _ rfl (fun h => by cases h) [(1000001, [.nl 3 96 12])] ?_
  have hEl := hE.1
  repeat refine Or.inl ?_
  refine ⟨[], Nat, fun j => j ≤ E.length, fun j => [⟨11, [], .i .i64 j⟩, ⟨3, [], .so 5⟩], fun j => [⟨5, [], rowO (E.take j)⟩], fun j => E.length - j,
    ⟨0, [], Nat.zero_le _, rfl, rfl, rfl, rfl, rfl, ⟨⟨rfl, rfl⟩, rfl⟩, ⟨rfl, rfl, rfl, fun k hk => absurd hk (Nat.not_lt_zero k)⟩⟩, ?_⟩
  intro j hj
  have hj : j ≤ E.length := hj
  refine .inl ⟨fun hc => ?_, fun hc => ?_⟩
  · have hc := dlt hc
    have hc : (j : Int) < E.length := hc
    have ej : (j : Int).toNat = j := Int.toNat_natCast j
    have hm := hE.2 _ (getD_memE (l := E) (k := (j : Int).toNat) (by omega))
    have hcs := hm.cs.1
    have hfs := hm.fs
    have htl : (E.take j).length = j := by rw [List.length_take]; omega
    repeat refine Or.inl ?_
    refine ⟨⟨by omega, by omega⟩, by omega, ?_⟩
    refine Or.inr (Or.inl ?_)
    refine ⟨_, cloneE_fn (E.getD (j : Int).toNat dE) (by omega) (by omega), ?_⟩
    refine ⟨fits (by omega), ?_⟩
    have hsn : E.take (j + 1) = E.take j ++ [E.getD j dE] := by rw [List.take_succ_eq_append_getElem (by omega), gdI (by omega)]
    have aoS : AOEq (rowO (E.take (j + 1))) (.row 96 12 ((E.take j).length + 1) (catG (E.take j).length (rE (E.take j)) (rowOf 12 (E.getD (j : Int).toNat dE).av))) := by
      rw [hsn, ej]
      exact snocE_row _ _
    refine ⟨j + 1, [(5, 8)], (by show j + 1 ≤ E.length; omega), by dsimp only; omega, rfl, rfl, rfl, rfl, rfl, ⟨⟨rfl, wr (by omega) (by omega)⟩, rfl⟩, aoS⟩
  · have hc := dnlt hc
    have hje : j = E.length := by
      have hc : (E.length : Int) ≤ j := hc
      omega
    have aoR : AOEq (rowO E) (rowO (E.take j)) := by rw [hje, List.take_length]; exact AOEq.refl _
    refine ⟨⟨(), [], trivial, ⟨⟨⟨rfl, rfl, AVEq.refl _⟩, trivial⟩, ⟨⟨rfl, rfl, rfl, ⟨rfl, AVsEq.refl _⟩⟩, ⟨rfl, rfl, trivial, AOEq.refl _⟩, ⟨rfl, rfl, rfl, AOEq.own E _⟩, ⟨rfl, rfl, trivial, trivial⟩, ⟨rfl, rfl, trivial, AOEq.refl _⟩, ⟨rfl, rfl, trivial, aoR⟩, trivial⟩, rfl⟩, rfl, fun h => (by cases h)⟩⟩
end Go.Proofs.Ytnookbebiacaeaa
end

section
/-
  Conversations: what has come before an event, in plain words.
-/
namespace Go.Proofs.Ytnookbebiacaeaa
open Go.Eng

theorem asc_uni : ∀ {L M : List Int}, L.Pairwise (· < ·) → M.Pairwise (· < ·) → (∀ x, x ∈ L ↔ x ∈ M) → L = M
  | [], [], _, _, _ => rfl
  | [], b :: M, _, _, h => absurd ((h b).2 (by simp)) (by simp)
  | a :: L, [], _, _, h => absurd ((h a).1 (by simp)) (by simp)
  | a :: L, b :: M, hL, hM, h => by
    rw [List.pairwise_cons] at hL hM
    have hab : a = b := by
      have h1 := (h a).1 (by simp)
      have h2 := (h b).2 (by simp)
      rw [List.mem_cons] at h1 h2
      rcases h1 with h1 | h1
      · exact h1
      · rcases h2 with h2 | h2
        · exact h2.symm
        · have := hL.1 b h2
          have := hM.1 a h1
          omega
    subst hab
    rw [asc_uni hL.2 hM.2 fun x => ?_]
    constructor
    · intro hx
      have := (h x).1 (by simp [hx])
      rw [List.mem_cons] at this
      rcases this with rfl | h'
      · exact absurd (hL.1 x hx) (by omega)
      · exact h'
    · intro hx
      have := (h x).2 (by simp [hx])
      rw [List.mem_cons] at this
      rcases this with rfl | h'
      · exact absurd (hM.1 x hx) (by omega)
      · exact h'
theorem sortI_up {l : List Int} (h : l.Nodup) : (sortI l).Pairwise (· < ·) := by
  have h1 := List.pairwise_mergeSort (le := fun x y : Int => decide (x ≤ y)) (fun a b c h1 h2 => by simp at *; omega) (fun a b => by simp; omega) l
  have h2 : (sortI l).Pairwise (· ≤ ·) := h1.imp fun h => by simpa using h
  have h3 : (sortI l).Nodup := (List.mergeSort_perm l _).nodup_iff.2 h
  exact (h2.and h3).imp fun h => by
    have := h.1
    have := h.2
    omega
theorem sortI_in {l : List Int} {x : Int} : x ∈ sortI l ↔ x ∈ l := List.mem_mergeSort
theorem nodup_leI {l : List Int} {m : Nat} (h : l.Nodup) (hr : ∀ x ∈ l, 0 ≤ x ∧ x < m) : l.length ≤ m := by
  rw [← sortI_length l]
  exact asc_len (sortI_up h) fun x hx => hr x (sortI_in.1 hx)

/-! ### events that name earlier ones -/
theorem idsOf_pre (E : List Ev) (a : Int) : ∀ j, idsOf (E.take j) a <+: idsOf E a := by
  refine snoc_ind (p := fun E => ∀ j, idsOf (E.take j) a <+: idsOf E a) ?_ ?_ E
  · intro j
    rw [List.take_nil]
    exact List.prefix_refl _
  · intro E e ih j
    by_cases hj : j ≤ E.length
    · rw [List.take_append_of_le_length hj]
      refine (ih j).trans ?_
      rw [idsOf_snoc]
      split
      · exact List.prefix_append _ _
      · exact List.prefix_refl _
    · rw [List.take_of_length_le (by simp; omega)]
      exact List.prefix_refl _
/-- Each event names earlier ones only, and follows its author's last. -/
structure WfE (E : List Ev) (j : Nat) (e : Ev) : Prop where
  t : -1 ≤ e.t ∧ e.t < j
  q : -1 ≤ e.q ∧ e.q < j
  cs : ∀ c ∈ e.cs, 0 ≤ c ∧ c < j
  s : e.s = (idsOf (E.take j) e.a).length
def Wf (E : List Ev) : Prop := ∀ j, j < E.length → WfE E j (E.getD j dE)
structure Cok (E : List Ev) : Prop where
  ok : okE E
  wf : Wf E
theorem cok_nil : Cok [] := ⟨⟨Nat.zero_le _, fun _ h => by cases h⟩, fun j hj => absurd hj (Nat.not_lt_zero j)⟩
theorem idsOf_lt {E : List Ev} {a x : Int} (h : x ∈ idsOf E a) : 0 ≤ x ∧ x < E.length := ⟨((idsOf_spec E a).1 x h).1, ((idsOf_spec E a).1 x h).2.1⟩
theorem WfE.own {E : List Ev} {j : Nat} {e : Ev} (h : WfE E j e) (hj : j ≤ E.length) (hs : e.s > 0) : e.s ≤ (idsOf E e.a).length ∧ 0 ≤ (idsOf E e.a).getD (e.s - 1).toNat 0 ∧ (idsOf E e.a).getD (e.s - 1).toNat 0 < j := by
  obtain ⟨r, hr⟩ := idsOf_pre E e.a j
  have hs' := h.s
  have hl : (idsOf (E.take j) e.a).length ≤ (idsOf E e.a).length := by rw [← hr, List.length_append]; omega
  have hk : (e.s - 1).toNat < (idsOf (E.take j) e.a).length := by omega
  have hg : (idsOf E e.a).getD (e.s - 1).toNat 0 = (idsOf (E.take j) e.a).getD (e.s - 1).toNat 0 := by
    rw [← hr]
    simp only [List.getD, List.getElem?_append_left hk]
  have hm := idsOf_lt (getD_memI hk)
  rw [hg]
  rw [List.length_take] at hm
  omega
theorem names_lt {E : List Ev} {j : Nat} {e : Ev} (h : WfE E j e) (hj : j ≤ E.length) {x : Int} (hx : x ∈ namesE E e) : 0 ≤ x ∧ x < j := by
  unfold namesE keepF rawN at hx
  rw [List.mem_filter] at hx
  obtain ⟨hx, h0⟩ := hx
  have h0 : ¬ x < 0 := by
    intro h
    have h0 : (!decide (x < 0)) = true := h0
    rw [decide_eq_true h] at h0
    cases h0
  have ht := h.t
  have hq := h.q
  rw [List.mem_append, List.mem_cons, List.mem_cons] at hx
  rcases hx with (rfl | rfl | hc) | ho
  · omega
  · omega
  · exact h.cs x hc
  · split at ho
    · rename_i hs
      rw [List.mem_singleton] at ho
      subst ho
      have := h.own hj hs
      omega
    · cases ho
/-- What the event at j names. -/
def nmE (E : List Ev) (j : Int) : List Int := namesE E (E.getD j.toNat dE)
theorem nm_lt {E : List Ev} (h : Wf E) {j : Int} (h0 : 0 ≤ j) (h1 : j < E.length) {x : Int} (hx : x ∈ nmE E j) : 0 ≤ x ∧ x < j := by
  have := names_lt (h j.toNat (by omega)) (by omega) hx
  omega
/-- y has come before x. -/
inductive Rch (E : List Ev) : Int → Int → Prop
  | one {x y : Int} : 0 ≤ x → x < E.length → y ∈ nmE E x → Rch E x y
  | step {x y z : Int} : 0 ≤ x → x < E.length → y ∈ nmE E x → Rch E y z → Rch E x z
theorem Rch.src {E : List Ev} {x y : Int} (h : Rch E x y) : 0 ≤ x ∧ x < E.length := by
  cases h with
  | one a b _ => exact ⟨a, b⟩
  | step a b _ _ => exact ⟨a, b⟩
theorem Rch.lt {E : List Ev} (hw : Wf E) {x y : Int} (h : Rch E x y) : 0 ≤ y ∧ y < x := by
  induction h with
  | one a b c => exact nm_lt hw a b c
  | step a b c _ ih =>
    have := nm_lt hw a b c
    omega
theorem Rch.snoc {E : List Ev} {x y z : Int} (h : Rch E x y) (hz : z ∈ nmE E y) (h0 : 0 ≤ y) (h1 : y < E.length) : Rch E x z := by
  induction h with
  | one a b c => exact .step a b c (.one h0 h1 hz)
  | step a b c _ ih => exact .step a b c (ih hz h0 h1)
theorem Rch.cases {E : List Ev} {x z : Int} (h : Rch E x z) : z ∈ nmE E x ∨ ∃ y, y ∈ nmE E x ∧ Rch E y z := by
  cases h with
  | one _ _ c => exact .inl c
  | step _ _ c d => exact .inr ⟨_, c, d⟩
open Classical in
/-- What has come before the event at i, ascending. -/
noncomputable def pastL (E : List Ev) (i : Int) : List Int := ((List.range E.length).map Int.ofNat).filter fun y => decide (Rch E i y)
theorem past_in {E : List Ev} (hw : Wf E) {i y : Int} : y ∈ pastL E i ↔ Rch E i y := by
  unfold pastL
  rw [List.mem_filter, @decide_eq_true_eq _ (Classical.propDecidable _)]
  refine ⟨fun h => h.2, fun h => ⟨?_, h⟩⟩
  have h1 := h.lt hw
  have h2 := h.src
  rw [List.mem_map]
  exact ⟨y.toNat, List.mem_range.2 (by omega), by show ((y.toNat : Nat) : Int) = y; omega⟩
theorem past_asc (E : List Ev) (i : Int) : (pastL E i).Pairwise (· < ·) := by
  unfold pastL
  refine List.Pairwise.filter _ ?_
  rw [List.pairwise_map]
  exact List.pairwise_lt_range.imp fun h => by show ((_ : Nat) : Int) < ((_ : Nat) : Int); omega
theorem past_out {E : List Ev} {i : Int} (h : zP E i = true) : pastL E i = [] := by
  unfold pastL
  rw [List.filter_eq_nil_iff]
  intro y _
  rw [@decide_eq_true_eq _ (Classical.propDecidable _)]
  intro hr
  have := hr.src
  unfold zP at h
  rw [Bool.or_eq_true, decide_eq_true_eq, decide_eq_true_eq] at h
  omega

/-! ### a search that goes on from what it has found -/
/-- The first c of i and what was found have been looked at. -/
structure Srch (E : List Ev) (i : Int) (g : List Int) (c : Nat) : Prop where
  le : c ≤ g.length + 1
  nd : g.Nodup
  rch : ∀ y ∈ g, Rch E i y
  cl : ∀ k, k < c → ∀ y ∈ nmE E ((i :: g).getD k 0), y ∈ g
theorem srch_start (E : List Ev) (i : Int) : Srch E i [] 0 := ⟨by simp, List.nodup_nil, fun _ h => (by cases h), fun k hk => absurd hk (Nat.not_lt_zero k)⟩
/-- The names that are new are put behind. -/
def addN (g : List Int) (l : List Int) : List Int := l.foldl (fun g x => if x ∈ g then g else g ++ [x]) g
theorem addN_pre (l : List Int) : ∀ g, g <+: addN g l := by
  induction l with
  | nil => intro g; exact List.prefix_refl _
  | cons x l ih =>
    intro g
    unfold addN
    rw [List.foldl_cons]
    refine List.IsPrefix.trans ?_ (ih _)
    split
    · exact List.prefix_refl _
    · exact List.prefix_append _ _
theorem addN_in (l : List Int) : ∀ g y, y ∈ addN g l ↔ y ∈ g ∨ y ∈ l := by
  induction l with
  | nil => intro g y; simp [addN]
  | cons x l ih =>
    intro g y
    have : addN g (x :: l) = addN (if x ∈ g then g else g ++ [x]) l := rfl
    rw [this, ih, List.mem_cons]
    split
    · rename_i hx
      constructor
      · rintro (h | h)
        · exact .inl h
        · exact .inr (.inr h)
      · rintro (h | rfl | h)
        · exact .inl h
        · exact .inl hx
        · exact .inr h
    · rw [List.mem_append, List.mem_singleton]
      constructor
      · rintro ((h | h) | h)
        · exact .inl h
        · exact .inr (.inl h)
        · exact .inr (.inr h)
      · rintro (h | h | h)
        · exact .inl (.inl h)
        · exact .inl (.inr h)
        · exact .inr h
theorem addN_nd (l : List Int) : ∀ g, g.Nodup → (addN g l).Nodup := by
  induction l with
  | nil => intro g h; exact h
  | cons x l ih =>
    intro g h
    refine ih _ ?_
    show (if x ∈ g then g else g ++ [x]).Nodup
    split
    · exact h
    · rename_i hx
      rw [List.nodup_append]
      refine ⟨h, by simp, fun a ha b hb => ?_⟩
      rw [List.mem_singleton] at hb
      subst hb
      intro he
      subst he
      exact hx ha
theorem addN_snoc (g l : List Int) (x : Int) : addN g (l ++ [x]) = if x ∈ addN g l then addN g l else addN g l ++ [x] := by
  unfold addN
  rw [List.foldl_append]
  rfl
theorem Srch.at {E : List Ev} (hw : Wf E) {i : Int} {g : List Int} {c : Nat} (h : Srch E i g c) (h0 : 0 ≤ i) (h1 : i < E.length) {k : Nat} (hk : k < g.length + 1) : 0 ≤ (i :: g).getD k 0 ∧ (i :: g).getD k 0 < E.length ∧ ∀ y ∈ nmE E ((i :: g).getD k 0), Rch E i y := by
  cases k with
  | zero => exact ⟨h0, h1, fun y hy => .one h0 h1 hy⟩
  | succ k =>
    have hm : g.getD k 0 ∈ g := getD_memI (by omega)
    have hr := h.rch _ hm
    have hl := hr.lt hw
    refine ⟨hl.1, by show g.getD k 0 < _; omega, fun y hy => hr.snoc hy hl.1 (by omega)⟩
theorem Srch.next {E : List Ev} (hw : Wf E) {i : Int} {g : List Int} {c : Nat} (h : Srch E i g c) (h0 : 0 ≤ i) (h1 : i < E.length) (hc : c < g.length + 1) : Srch E i (addN g (nmE E ((i :: g).getD c 0))) (c + 1) := by
  obtain ⟨_, _, hnm⟩ := h.at hw h0 h1 hc
  have hp := addN_pre (nmE E ((i :: g).getD c 0)) g
  obtain ⟨r, hr⟩ := hp
  have hlen : g.length ≤ (addN g (nmE E ((i :: g).getD c 0))).length := by rw [← hr, List.length_append]; omega
  refine ⟨by omega, addN_nd _ _ h.nd, fun y hy => ?_, fun k hk y hy => ?_⟩
  · rcases (addN_in _ _ _).1 hy with hy | hy
    · exact h.rch y hy
    · exact hnm y hy
  · have hg : (i :: addN g (nmE E ((i :: g).getD c 0))).getD k 0 = (i :: g).getD k 0 := by
      have : k < (i :: g).length := by simp; omega
      rw [← hr]
      show ((i :: g) ++ r).getD k 0 = _
      simp only [List.getD, List.getElem?_append_left this]
    rw [hg] at hy
    rw [addN_in]
    by_cases hkc : k = c
    · subst hkc
      exact .inr hy
    · exact .inl (h.cl k (by omega) y hy)
theorem Srch.len {E : List Ev} (hw : Wf E) {i : Int} {g : List Int} {c : Nat} (h : Srch E i g c) (h0 : 0 ≤ i) : g.length ≤ i.toNat := by
  refine nodup_leI h.nd fun x hx => ?_
  have := (h.rch x hx).lt hw
  omega
theorem Srch.done {E : List Ev} (hw : Wf E) {i : Int} {g : List Int} {c : Nat} (h : Srch E i g c) (hc : g.length + 1 ≤ c) : sortI g = pastL E i := by
  refine asc_uni (sortI_up h.nd) (past_asc E i) fun x => ?_
  rw [sortI_in, past_in hw]
  refine ⟨h.rch x, fun hr => ?_⟩
  have key : ∀ a b, Rch E a b → (a = i ∨ a ∈ g) → b ∈ g := by
    have cl : ∀ a, (a = i ∨ a ∈ g) → ∀ y ∈ nmE E a, y ∈ g := by
      rintro a (rfl | ha) y hy
      · exact h.cl 0 (by omega) y hy
      · obtain ⟨k, hk, rfl⟩ := mem_getDI ha
        exact h.cl (k + 1) (by omega) y hy
    intro a b hab
    induction hab with
    | one _ _ hy => exact fun ha => cl _ ha _ hy
    | step _ _ hy _ ih => exact fun ha => ih (.inr (cl _ ha _ hy))
  exact key i x hr (.inl rfl)
end Go.Proofs.Ytnookbebiacaeaa
end

section
/-
  Conversations: what has come before an event (Past, Before).
-/
namespace Go.Proofs.Ytnookbebiacaeaa
open Go.Eng

def setS (g : List Int) : List (Int × Bool) := g.map fun x => (x, true)
def mpS (g : List Int) : AO := mpL (fun a => .i .i64 a) (fun b => .b b) dD (setS g)
theorem setS_get (g : List Int) (x : Int) : (mget (setS g) x).getD false = decide (x ∈ g) := by
  induction g with
  | nil => rfl
  | cons y g ih =>
    show ((if y = x then some true else mget (setS g) x)).getD false = _
    by_cases h : y = x
    · rw [if_pos h, decide_eq_true (by rw [h]; exact List.mem_cons_self)]
      rfl
    · rw [if_neg h, ih, Bool.eq_iff_iff, decide_eq_true_eq, decide_eq_true_eq, List.mem_cons]
      exact ⟨fun hx => .inr hx, fun hx => hx.resolve_left fun e => h e.symm⟩
theorem setS_none {g : List Int} {x : Int} (h : x ∉ g) : mget (setS g) x = none := by
  induction g with
  | nil => rfl
  | cons y g ih =>
    show (if y = x then some true else mget (setS g) x) = none
    rw [if_neg (fun e => h (by rw [e]; exact List.mem_cons_self))]
    exact ih fun hx => h (List.mem_cons_of_mem _ hx)
theorem setS_snoc {g : List Int} {x : Int} (h : x ∉ g) : mset (setS g) x true = setS (g ++ [x]) := by
  rw [mset_new (setS_none h)]
  unfold setS
  rw [List.map_append]
  rfl
theorem take_snocI {l : List Int} {k : Nat} (h : k < l.length) : l.take (k + 1) = l.take k ++ [l.getD k 0] := by rw [List.take_succ_eq_append_getElem h, gdI h]
def quL (i : Int) (g : List Int) (c : Nat) : List Int := (i :: g).drop c
theorem snocI_row2 (l : List Int) (x : Int) : AOEq (.row 3 1 (l ++ [x]).length (rI (l ++ [x]))) (.row 3 1 (l.length + 1) (catG l.length (rI l) (rowOf 1 [.i .i64 x]))) := by
  refine ⟨rfl, rfl, by simp, fun k hk => ?_⟩
  unfold catG rI
  by_cases h : k < l.length
  · rw [if_pos h, getD_snoc, if_pos h]
  · have : k = l.length := by
      rw [List.length_append, List.length_singleton] at hk
      omega
    subst this
    rw [if_neg h, getD_snoc, if_neg h, if_pos rfl]
    simp
    rfl
set_option maxRecDepth 20000 in
set_option maxHeartbeats 16000000 in
theorem past_fn (E : List Ev) (hC : Cok E) (i : Int) : Ctr Try.prog 83 [.rp (cvA E), .i .i64 i] [.row 3 1 (pastL E i).length (rI (pastL E i))] (.so 0) := by
  refine fn_of_exec tabOk Try.func83 (by kernel_rfl) rfl (N := Try.f83.ntmps) rfl (res := [.tmp 4]) rfl rfl [(1000004, [.nl 6 3 1]), (1000005, [.sl 24 .u]), (9, [.own 7]), (999999, [.nl 4 3 1])] ?_
  have hw := hC.wf
  have hEl := hC.ok.1
  repeat refine Or.inl ?_
  refine ⟨fun h => ?_, fun h => ?_⟩
  · have h : zP E i = true := h
    rw [past_out h]
    exact RetIs.so rfl rfl (fun k hk => by cases hk) (fun k hk => by cases hk)
  have h : zP E i = false := h
  unfold zP at h
  rw [Bool.or_eq_false_iff, decide_eq_false_iff_not, decide_eq_false_iff_not] at h
  have h0 : 0 ≤ i := by omega
  have h1 : i < E.length := by omega
  repeat refine Or.inl ?_
  refine ⟨trivial, ?_⟩
  repeat refine Or.inl ?_
  refine ⟨[], List Int × Nat, fun x => Srch E i x.1 x.2, fun x => [⟨7, [], .so 2⟩, ⟨6, [], .so 1⟩], fun x => [⟨0, [], mpS x.1⟩, ⟨1, [], .row 3 1 x.1.length (rI x.1)⟩, ⟨2, [], .row 3 1 (quL i x.1 x.2).length (rI (quL i x.1 x.2))⟩], fun x => i.toNat + 2 - x.2,
    ⟨([], 0), [], srch_start E i, rfl, rfl, rfl, rfl, rfl, ⟨rfl, rfl⟩, ⟨⟨rfl, rfl, fun j hj => by cases hj⟩, ⟨rfl, rfl, rfl, fun j hj => by cases hj⟩, ⟨rfl, rfl, rfl, fun j hj => by
      have : j = 0 := by
        have hj : j < 1 := hj
        omega
      subst this
      rfl⟩⟩⟩, ?_⟩
  rintro ⟨g, c⟩ hS
  have hS : Srch E i g c := hS
  have hgl := hS.len hw h0
  have hcl := hS.le
  have hql : (quL i g c).length = g.length + 1 - c := by unfold quL; rw [List.length_drop]; rfl
  refine .inl ⟨fun hc => ?_, fun hc => ?_⟩
  · have hc : decide (((quL i g c).length : Int) > 0) = true := hc
    rw [decide_eq_true_eq] at hc
    have hcg : c < g.length + 1 := by omega
    have hq0 : (quL i g c).getD (0 : Int).toNat 0 = (i :: g).getD c 0 := by
      unfold quL
      show ((i :: g).drop c).getD 0 0 = _
      simp only [List.getD, List.getElem?_drop, Nat.add_zero]
    have hat := hS.at hw h0 h1 hcg
    have hx := hat
    rw [← hq0] at hx
    have hWf := hw ((quL i g c).getD (0 : Int).toNat 0).toNat (by omega)
    have hRt := hC.ok.2 _ (getD_memE (l := E) (k := ((quL i g c).getD (0 : Int).toNat 0).toNat) (by omega))
    have hcs := hRt.cs.1
    have hid : (idsOf E (E.getD ((quL i g c).getD (0 : Int).toNat 0).toNat dE).a).length ≤ E.length := asc_len (idsOf_spec E _).2.1 fun x hx => idsOf_lt hx
    have hsl : (E.getD ((quL i g c).getD (0 : Int).toNat 0).toNat dE).s ≤ (idsOf E (E.getD ((quL i g c).getD (0 : Int).toNat 0).toNat dE).a).length := by
      have hs := hRt.s
      by_cases hs0 : (E.getD ((quL i g c).getD (0 : Int).toNat 0).toNat dE).s > 0
      · exact (hWf.own (by omega) hs0).1
      · omega
    repeat refine Or.inl ?_
    refine ⟨⟨by first | omega | (dsimp only; omega), by first | omega | (dsimp only; omega)⟩, by first | omega | (dsimp only; omega), ?_⟩
    refine ⟨⟨by first | omega | (dsimp only; omega), by first | omega | (dsimp only; omega)⟩, ?_⟩
    refine Or.inl ⟨_, _, names_fn E (E.getD ((quL i g c).getD (0 : Int).toNat 0).toNat dE) (by omega) hsl (by omega), ?_⟩
    repeat refine Or.inl ?_
    refine ⟨⟨by decide, by first | omega | (dsimp only; omega), by first | omega | (dsimp only; omega)⟩, ?_⟩
    have hns : (nmE E ((i :: g).getD c 0)).length ≤ 200 := by
      unfold nmE namesE keepF
      refine Nat.le_trans (List.length_filter_le _ _) ?_
      rw [hq0] at hcs
      unfold rawN
      rw [List.length_append, List.length_cons, List.length_cons]
      split
      · rw [List.length_singleton]; omega
      · rw [List.length_nil]; omega
    have hns2 : (nmE E ((quL i g c).getD (0 : Int).toNat 0)).length ≤ 200 := by rw [hq0]; exact hns
    have hGl : ∀ k, (addN g ((nmE E ((quL i g c).getD (0 : Int).toNat 0)).take k)).length ≤ i.toNat := fun k => by
      refine nodup_leI (addN_nd _ _ hS.nd) fun y hy => ?_
      have hr : Rch E i y := by
        rcases (addN_in _ _ _).1 hy with hy | hy
        · exact hS.rch y hy
        · exact hx.2.2 y (List.mem_of_mem_take hy)
      have := hr.lt hw
      omega
    have hGg : ∀ k, g.length ≤ (addN g ((nmE E ((quL i g c).getD (0 : Int).toNat 0)).take k)).length := fun k => (addN_pre _ g).length_le
    have hql2 : ∀ G : List Int, (quL i G (c + 1)).length = G.length - c := fun G => by unfold quL; rw [List.length_drop, List.length_cons]; omega
    have aoQ0 : AOEq (.row 3 1 (quL i (addN g ((nmE E ((quL i g c).getD (0 : Int).toNat 0)).take 0)) (c + 1)).length (rI (quL i (addN g ((nmE E ((quL i g c).getD (0 : Int).toNat 0)).take 0)) (c + 1)))) (.row 3 1 (((quL i g c).length : Int) - 1).toNat fun k => rI (quL i g c) (k + Int.toNat 1)) := by
      have e0 : addN g ((nmE E ((quL i g c).getD (0 : Int).toNat 0)).take 0) = g := rfl
      rw [e0]
      refine ⟨rfl, rfl, by rw [hql2, hql]; omega, fun k _ => ?_⟩
      unfold rI quL
      simp only [List.getD, List.getElem?_drop]
      rw [show c + 1 + k = c + (k + Int.toNat 1) by show _ = c + (k + 1); omega]
    repeat refine Or.inl ?_
    refine ⟨[], Nat, fun k => k ≤ (nmE E ((quL i g c).getD (0 : Int).toNat 0)).length, fun k => [⟨43, [], .i .i64 k⟩, ⟨7, [], .so 4⟩, ⟨6, [], .so 1⟩],
      fun k => [⟨0, [], mpS (addN g ((nmE E ((quL i g c).getD (0 : Int).toNat 0)).take k))⟩, ⟨1, [], .row 3 1 (addN g ((nmE E ((quL i g c).getD (0 : Int).toNat 0)).take k)).length (rI (addN g ((nmE E ((quL i g c).getD (0 : Int).toNat 0)).take k)))⟩,
        ⟨4, [], .row 3 1 (quL i (addN g ((nmE E ((quL i g c).getD (0 : Int).toNat 0)).take k)) (c + 1)).length (rI (quL i (addN g ((nmE E ((quL i g c).getD (0 : Int).toNat 0)).take k)) (c + 1)))⟩], fun k => (nmE E ((quL i g c).getD (0 : Int).toNat 0)).length - k,
      ⟨0, [], Nat.zero_le _, rfl, rfl, rfl, rfl, rfl, ⟨⟨rfl, rfl⟩, rfl, rfl⟩, ⟨AOEq.refl _, AOEq.refl _, aoQ0⟩⟩, ?_⟩
    intro k hk
    have hk : k ≤ (nmE E ((quL i g c).getD (0 : Int).toNat 0)).length := hk
    refine .inl ⟨fun hc2 => ?_, fun hc2 => ?_⟩
    · have hc2 := dlt hc2
      have hc2 : (k : Int) < (nmE E ((quL i g c).getD (0 : Int).toNat 0)).length := hc2
      have ek : (k : Int).toNat = k := Int.toNat_natCast k
      have hx1 : (nmE E ((quL i g c).getD (0 : Int).toNat 0)).getD (k : Int).toNat 0 ∈ nmE E ((quL i g c).getD (0 : Int).toNat 0) := getD_memI (by omega)
      have hts : (nmE E ((quL i g c).getD (0 : Int).toNat 0)).take (k + 1) = (nmE E ((quL i g c).getD (0 : Int).toNat 0)).take k ++ [(nmE E ((quL i g c).getD (0 : Int).toNat 0)).getD (k : Int).toNat 0] := by
        rw [ek]
        exact take_snocI (by omega)
      have hG1 := addN_snoc g ((nmE E ((quL i g c).getD (0 : Int).toNat 0)).take k) ((nmE E ((quL i g c).getD (0 : Int).toNat 0)).getD (k : Int).toNat 0)
      rw [← hts] at hG1
      have hl1 := hGl k
      have hl2 := hGg k
      have hl3 := hql2 (addN g ((nmE E ((quL i g c).getD (0 : Int).toNat 0)).take k))
      repeat refine Or.inl ?_
      refine ⟨⟨by first | omega | (dsimp only; omega), by first | omega | (dsimp only; omega)⟩, by first | omega | (dsimp only; omega), ?_⟩
      repeat refine Or.inl ?_
      refine ⟨_, _, ⟨keysI, rfl, lookOk_mget (kf := fun a => .i .i64 a) (vf := fun b : Bool => AV.b b) (d := dD) (L := setS (addN g ((nmE E ((quL i g c).getD (0 : Int).toNat 0)).take k))) i64_inj ((nmE E ((quL i g c).getD (0 : Int).toNat 0)).getD (k : Int).toNat 0) false⟩, ?_⟩
      refine ⟨fun h4 => ?_, fun h4 => ?_⟩
      · have h4 : (!(mget (setS (addN g ((nmE E ((quL i g c).getD (0 : Int).toNat 0)).take k))) ((nmE E ((quL i g c).getD (0 : Int).toNat 0)).getD (k : Int).toNat 0)).getD false) = true := h4
        rw [setS_get, Bool.not_eq_true', decide_eq_false_iff_not] at h4
        rw [if_neg h4] at hG1
        have hms := setS_snoc h4
        refine ⟨_, _, _, _, _, ⟨keysI, rfl, updOk_mset (L := setS (addN g ((nmE E ((quL i g c).getD (0 : Int).toNat 0)).take k))) (d := dD) (vf := fun b : Bool => AV.b b) i64_inj ((nmE E ((quL i g c).getD (0 : Int).toNat 0)).getD (k : Int).toNat 0) true⟩, ?_⟩
        repeat refine Or.inl ?_
        refine ⟨fits (by omega), ?_⟩
        refine ⟨fits (by omega), ?_⟩
        have aoM : AOEq (mpS (addN g ((nmE E ((quL i g c).getD (0 : Int).toNat 0)).take (k + 1)))) (mpL (fun a => .i .i64 a) (fun b => .b b) dD (mset (setS (addN g ((nmE E ((quL i g c).getD (0 : Int).toNat 0)).take k))) ((nmE E ((quL i g c).getD (0 : Int).toNat 0)).getD (k : Int).toNat 0) true)) := by
          rw [hG1, hms]
          exact AOEq.refl _
        have aoG : AOEq (.row 3 1 (addN g ((nmE E ((quL i g c).getD (0 : Int).toNat 0)).take (k + 1))).length (rI (addN g ((nmE E ((quL i g c).getD (0 : Int).toNat 0)).take (k + 1))))) (.row 3 1 ((addN g ((nmE E ((quL i g c).getD (0 : Int).toNat 0)).take k)).length + 1) (catG (addN g ((nmE E ((quL i g c).getD (0 : Int).toNat 0)).take k)).length (rI (addN g ((nmE E ((quL i g c).getD (0 : Int).toNat 0)).take k))) (rowOf 1 [.i .i64 ((nmE E ((quL i g c).getD (0 : Int).toNat 0)).getD (k : Int).toNat 0)]))) := by
          rw [hG1]
          exact snocI_row2 _ _
        have aoQ : AOEq (.row 3 1 (quL i (addN g ((nmE E ((quL i g c).getD (0 : Int).toNat 0)).take (k + 1))) (c + 1)).length (rI (quL i (addN g ((nmE E ((quL i g c).getD (0 : Int).toNat 0)).take (k + 1))) (c + 1)))) (.row 3 1 ((quL i (addN g ((nmE E ((quL i g c).getD (0 : Int).toNat 0)).take k)) (c + 1)).length + 1) (catG (quL i (addN g ((nmE E ((quL i g c).getD (0 : Int).toNat 0)).take k)) (c + 1)).length (rI (quL i (addN g ((nmE E ((quL i g c).getD (0 : Int).toNat 0)).take k)) (c + 1))) (rowOf 1 [.i .i64 ((nmE E ((quL i g c).getD (0 : Int).toNat 0)).getD (k : Int).toNat 0)]))) := by
          have hq : quL i (addN g ((nmE E ((quL i g c).getD (0 : Int).toNat 0)).take k) ++ [(nmE E ((quL i g c).getD (0 : Int).toNat 0)).getD (k : Int).toNat 0]) (c + 1) = quL i (addN g ((nmE E ((quL i g c).getD (0 : Int).toNat 0)).take k)) (c + 1) ++ [(nmE E ((quL i g c).getD (0 : Int).toNat 0)).getD (k : Int).toNat 0] := by
            have hle : c + 1 ≤ (i :: addN g ((nmE E ((quL i g c).getD (0 : Int).toNat 0)).take k)).length := by rw [List.length_cons]; omega
            show (i :: (addN g ((nmE E ((quL i g c).getD (0 : Int).toNat 0)).take k) ++ [(nmE E ((quL i g c).getD (0 : Int).toNat 0)).getD (k : Int).toNat 0])).drop (c + 1) = _
            rw [← List.cons_append, List.drop_append_of_le_length hle]
            rfl
          rw [hG1, hq]
          exact snocI_row2 _ _
        refine ⟨k + 1, [(1, 6), (4, 8)], (by show k + 1 ≤ _; omega), by first | omega | (dsimp only; omega), rfl, rfl, rfl, rfl, rfl, ⟨⟨rfl, wr (by omega) (by omega)⟩, rfl, rfl⟩, ⟨aoM, aoG, aoQ⟩⟩
      · have h4 : (!(mget (setS (addN g ((nmE E ((quL i g c).getD (0 : Int).toNat 0)).take k))) ((nmE E ((quL i g c).getD (0 : Int).toNat 0)).getD (k : Int).toNat 0)).getD false) = false := h4
        rw [setS_get, Bool.not_eq_false', decide_eq_true_eq] at h4
        rw [if_pos h4] at hG1
        have aoM : AOEq (mpS (addN g ((nmE E ((quL i g c).getD (0 : Int).toNat 0)).take (k + 1)))) (mpS (addN g ((nmE E ((quL i g c).getD (0 : Int).toNat 0)).take k))) := by rw [hG1]; exact AOEq.refl _
        have aoG : AOEq (.row 3 1 (addN g ((nmE E ((quL i g c).getD (0 : Int).toNat 0)).take (k + 1))).length (rI (addN g ((nmE E ((quL i g c).getD (0 : Int).toNat 0)).take (k + 1))))) (.row 3 1 (addN g ((nmE E ((quL i g c).getD (0 : Int).toNat 0)).take k)).length (rI (addN g ((nmE E ((quL i g c).getD (0 : Int).toNat 0)).take k)))) := by rw [hG1]; exact AOEq.refl _
        have aoQ : AOEq (.row 3 1 (quL i (addN g ((nmE E ((quL i g c).getD (0 : Int).toNat 0)).take (k + 1))) (c + 1)).length (rI (quL i (addN g ((nmE E ((quL i g c).getD (0 : Int).toNat 0)).take (k + 1))) (c + 1)))) (.row 3 1 (quL i (addN g ((nmE E ((quL i g c).getD (0 : Int).toNat 0)).take k)) (c + 1)).length (rI (quL i (addN g ((nmE E ((quL i g c).getD (0 : Int).toNat 0)).take k)) (c + 1)))) := by rw [hG1]; exact AOEq.refl _
        refine ⟨k + 1, [], (by show k + 1 ≤ _; omega), by first | omega | (dsimp only; omega), rfl, rfl, rfl, rfl, rfl, ⟨⟨rfl, wr (by omega) (by omega)⟩, rfl, rfl⟩, ⟨aoM, aoG, aoQ⟩⟩
    · have hc2 := dnlt hc2
      have hc2 : ((nmE E ((quL i g c).getD (0 : Int).toNat 0)).length : Int) ≤ k := hc2
      have hkk : (nmE E ((quL i g c).getD (0 : Int).toNat 0)).take k = nmE E ((i :: g).getD c 0) := by rw [List.take_of_length_le (by omega), hq0]
      have hN := hS.next hw h0 h1 hcg
      rw [← hkk] at hN
      have aoQr : AOEq (.row 3 1 (quL i (addN g ((nmE E ((quL i g c).getD (0 : Int).toNat 0)).take k)) (c + 1)).length (rI (quL i (addN g ((nmE E ((quL i g c).getD (0 : Int).toNat 0)).take k)) (c + 1)))) (.row 3 1 (quL i (addN g ((nmE E ((quL i g c).getD (0 : Int).toNat 0)).take k)) (c + 1)).length (rI (quL i (addN g ((nmE E ((quL i g c).getD (0 : Int).toNat 0)).take k)) (c + 1)))) := AOEq.refl _
      refine ⟨(addN g ((nmE E ((quL i g c).getD (0 : Int).toNat 0)).take k), c + 1), [(2, 4)], hN, by first | omega | (dsimp only; omega), rfl, rfl, rfl, rfl, rfl, ⟨rfl, rfl⟩, ⟨AOEq.refl _, AOEq.refl _, aoQr⟩⟩
  · have hc : decide (((quL i g c).length : Int) > 0) = false := hc
    rw [decide_eq_false_iff_not] at hc
    have hd := hS.done hw (by omega)
    have hl : (sortI g).length = g.length := sortI_length g
    refine Or.inr (Or.inr ?_)
    refine ⟨false, [1], rfl, Unit, _, _, _, _, sortRow_ctr sortsRow (kt := 3) g (rI g) (fun _ _ => rfl) (by omega), fun _ _ => ?_⟩
    refine RetIs.so rfl (by rw [← hd, hl]) (fun k hk => ?_) (fun k hk => ?_)
    · rw [hd]
      rfl
    · rfl
end Go.Proofs.Ytnookbebiacaeaa
end

section
/-
  Conversations: Before; what stays true of a conversation; Open and Copy.
-/
namespace Go.Proofs.Ytnookbebiacaeaa
open Go.Eng

theorem past_len {E : List Ev} (hC : Cok E) (i : Int) : (pastL E i).length ≤ E.length := asc_len (past_asc E i) fun x hx => by
  have h := (past_in hC.wf).1 hx
  have := h.lt hC.wf
  have := h.src
  omega
set_option maxRecDepth 20000 in
theorem before_fn (E : List Ev) (hC : Cok E) (x y : Int) : Ctr Try.prog 85 [.rp (cvA E), .i .i64 x, .i .i64 y] [] (.b (decide (x ∈ pastL E y))) := by
  refine fn_of_exec tabOk Try.func85 (by kernel_rfl) rfl (N := Try.f85.ntmps) rfl (res := [.tmp 6]) rfl rfl [] ?_
  have hl := past_len hC y
  have hEl := hC.ok.1
  repeat refine Or.inl ?_
  refine ⟨_, _, past_fn E hC y, ?_⟩
  refine Or.inl ?_
  refine ⟨[], _, containsI_fn (pastL E y) (by omega) x, ?_⟩
  exact RetIs.b rfl
theorem addC_shape {E : List Ev} {e : Ev} : (addC E e).1 = E ∨ ((addC E e) = (E ++ [e], ((E.length : Int), 0)) ∧ rightE e = true ∧ ¬ e.s < (idsOf E e.a).length ∧ (decide (e.s > (idsOf E e.a).length) || missE E e) = false ∧ (badM E e e.t || badM E e e.q) = false ∧ (delB E e.t || delB E e.q) = false ∧ E.length < 100000) := by
  unfold addC
  by_cases h1 : rightE e = false
  · rw [if_pos h1]; exact .inl rfl
  rw [if_neg h1]
  by_cases h2 : e.s < (idsOf E e.a).length
  · rw [if_pos h2]
    split <;> exact .inl rfl
  rw [if_neg h2]
  by_cases h3 : (decide (e.s > (idsOf E e.a).length) || missE E e) = true
  · rw [if_pos h3]; exact .inl rfl
  rw [if_neg h3]
  by_cases h4 : (badM E e e.t || badM E e e.q) = true
  · rw [if_pos h4]; exact .inl rfl
  rw [if_neg h4]
  by_cases h5 : (delB E e.t || delB E e.q) = true
  · rw [if_pos h5]; exact .inl rfl
  rw [if_neg h5]
  by_cases h6 : E.length ≥ 100000
  · rw [if_pos h6]; exact .inl rfl
  rw [if_neg h6]
  refine .inr ⟨rfl, ?_, h2, Bool.eq_false_iff.2 h3, Bool.eq_false_iff.2 h4, Bool.eq_false_iff.2 h5, by omega⟩
  cases h : rightE e
  · exact absurd h h1
  · rfl
theorem miss_no {E : List Ev} {e : Ev} (h : missE E e = false) : e.t < E.length ∧ e.q < E.length ∧ ∀ c ∈ e.cs, c < E.length := by
  unfold missE at h
  rw [List.any_eq_false] at h
  have key : ∀ x ∈ e.t :: e.q :: e.cs, x < E.length := fun x hx => by
    have := h x hx
    rw [decide_eq_true_eq] at this
    omega
  exact ⟨key _ (by simp), key _ (by simp), fun c hc => key c (by simp [hc])⟩
theorem addC_cok {E : List Ev} (hC : Cok E) (e : Ev) : Cok (addC E e).1 := by
  refine ⟨addC_ok hC.ok e, ?_⟩
  rcases addC_shape (E := E) (e := e) with h | ⟨h, hr, h2, h3, _⟩
  · rw [h]; exact hC.wf
  · rw [h]
    intro j hj
    have hj : j < (E ++ [e]).length := hj
    rw [List.length_append, List.length_singleton] at hj
    show WfE (E ++ [e]) j ((E ++ [e]).getD j dE)
    rw [getD_snoc]
    by_cases hjl : j < E.length
    · rw [if_pos hjl]
      have hw := hC.wf j hjl
      exact ⟨hw.t, hw.q, hw.cs, by rw [List.take_append_of_le_length (by omega)]; exact hw.s⟩
    · have hje : j = E.length := by omega
      rw [if_neg hjl, if_pos hje, hje]
      have hrt := right_rt hr
      rw [Bool.or_eq_false_iff, decide_eq_false_iff_not] at h3
      have hm := miss_no h3.2
      refine ⟨⟨hrt.t, hm.1⟩, ⟨hrt.q, hm.2.1⟩, fun c hc => ⟨hrt.cs.2 c hc, hm.2.2 c hc⟩, ?_⟩
      rw [List.take_append_of_le_length (Nat.le_refl _), List.take_length]
      omega
theorem bareE_wf (e : Ev) : (bareE e).t = e.t ∧ (bareE e).q = e.q ∧ (bareE e).cs = e.cs ∧ (bareE e).s = e.s ∧ (bareE e).a = e.a := by
  unfold bareE
  split <;> exact ⟨rfl, rfl, rfl, rfl, rfl⟩
theorem idsOf_congr {E E' : List Ev} (h : E.map Ev.a = E'.map Ev.a) (a : Int) : idsOf E a = idsOf E' a := by
  unfold idsOf
  rw [ownL_congr h]
theorem eraseTo_wf {E : List Ev} (hw : Wf E) (i : Int) (k : Nat) : Wf (eraseTo E i k) := by
  intro j hj
  rw [eraseTo_len] at hj
  have h := hw j hj
  rw [eraseTo_getD E i k j hj]
  have hm : ∀ a, idsOf ((eraseTo E i k).take j) a = idsOf (E.take j) a := fun a => idsOf_congr (by rw [List.map_take, List.map_take, eraseTo_map Ev.a bareE_a]) a
  split
  · obtain ⟨b1, b2, b3, b4, b5⟩ := bareE_wf (E.getD j dE)
    exact ⟨by rw [b1]; exact h.t, by rw [b2]; exact h.q, by rw [b3]; exact h.cs, by rw [b4, b5, hm]; exact h.s⟩
  · exact ⟨h.t, h.q, h.cs, by rw [hm]; exact h.s⟩
theorem eraseC_cok {E : List Ev} (hC : Cok E) (i : Int) : Cok (eraseC E i).1 := by
  refine ⟨eraseC_ok hC.ok i, ?_⟩
  unfold eraseC
  split
  · exact hC.wf
  · exact eraseTo_wf hC.wf i _
/-- All events put into a new conversation. -/
def copyC (E : List Ev) : List Ev := E.foldl (fun F e => (addC F e).1) []
theorem copy_snoc (E : List Ev) (k : Nat) (h : k < E.length) : copyC (E.take (k + 1)) = (addC (copyC (E.take k)) (E.getD k dE)).1 := by
  rw [List.take_succ_eq_append_getElem h, ← gdI (d := dE) h]
  unfold copyC
  rw [List.foldl_append]
  rfl
theorem fold_cok (l : List Ev) : ∀ F, Cok F → Cok (l.foldl (fun F e => (addC F e).1) F) := by
  induction l with
  | nil => intro F h; exact h
  | cons e r ih => intro F h; exact ih _ (addC_cok h e)
theorem copy_cok (E : List Ev) : Cok (copyC E) := fold_cok E [] cok_nil
set_option maxRecDepth 20000 in
set_option maxHeartbeats 16000000 in
theorem copy_fn (E : List Ev) (hE : okE E) : CtrM Try.prog 94 true [.cells 182 [.so 1, .mo 2, .mo 4], rowO E, ownO E 3, .dead, delO E] [.p 0 0] (fun _ : Unit => True) (fun _ => cvI E) (fun _ => [.cells 182 [.so 6, .mo 7, .mo 9], rowO (copyC E), ownO (copyC E) 8, .dead, delO (copyC E)]) (fun _ => .p 5 0) := by
  refine fn_of_execM tabOk Try.func94 (by kernel_rfl) rfl (N := Try.f94.ntmps) rfl (res := [.tmp 2]) rfl true false [.cells 182 [.so 1, .mo 2, .mo 4], rowO E, ownO E 3, .dead, delO E] _ _ _ _ rfl (fun h => by cases h) [] ?_
  have hEl := hE.1
  have aoD0 : AOEq (delO []) (delO []) := AOEq.refl _
  refine Or.inr (Or.inr ?_)
  refine ⟨true, [], rfl, Unit, _, _, _, _, new_fn, fun _ _ => ?_⟩
  repeat refine Or.inl ?_
  refine ⟨[], Nat, fun j => j ≤ E.length, fun j => [⟨12, [], .i .i64 j⟩], fun j => [⟨5, [], .cells 182 [.so 6, .mo 7, .mo 9]⟩, ⟨6, [], rowO (copyC (E.take j))⟩, ⟨7, [], ownO (copyC (E.take j)) 8⟩, ⟨8, [], .dead⟩, ⟨9, [], delO (copyC (E.take j))⟩], fun j => E.length - j,
    ⟨0, [], Nat.zero_le _, rfl, rfl, rfl, rfl, rfl, ⟨rfl, rfl⟩, ⟨AOEq.refl _, AOEq.refl _, AOEq.own _ _, AOEq.refl _, aoD0⟩⟩, ?_⟩
  intro j hj
  have hj : j ≤ E.length := hj
  refine .inl ⟨fun hc => ?_, fun hc => ?_⟩
  · have hc := dlt hc
    have hc : (j : Int) < E.length := hc
    have ej : (j : Int).toNat = j := Int.toNat_natCast j
    have hm := hE.2 _ (getD_memE (l := E) (k := (j : Int).toNat) (by omega))
    have hcs := hm.cs.1
    have hfs := hm.fs
    have hF := copy_cok (E.take j)
    repeat refine Or.inl ?_
    refine ⟨⟨by omega, by omega⟩, by omega, ?_⟩
    refine Or.inr (Or.inr ?_)
    refine ⟨true, [5, 6, 7, 8, 9], rfl, Unit, _, _, _, _, add_fn (copyC (E.take j)) hF.ok (E.getD (j : Int).toNat dE) (by omega) (by omega), fun _ _ => ?_⟩
    have hsn : copyC (E.take (j + 1)) = (addC (copyC (E.take j)) (E.getD (j : Int).toNat dE)).1 := by rw [ej]; exact copy_snoc E j (by omega)
    have aoR : AOEq (rowO (copyC (E.take (j + 1)))) (rowO (addC (copyC (E.take j)) (E.getD (j : Int).toNat dE)).1) := by rw [hsn]; exact AOEq.refl _
    have aoO : AOEq (ownO (copyC (E.take (j + 1))) 12) (ownO (addC (copyC (E.take j)) (E.getD (j : Int).toNat dE)).1 12) := by rw [hsn]; exact AOEq.own _ _
    have aoD : AOEq (delO (copyC (E.take (j + 1)))) (delO (addC (copyC (E.take j)) (E.getD (j : Int).toNat dE)).1) := by rw [hsn]; exact AOEq.refl _
    repeat refine Or.inl ?_
    refine ⟨j + 1, [(6, 11), (8, 12)], (by show j + 1 ≤ E.length; omega), by dsimp only; omega, rfl, rfl, rfl, rfl, rfl, ⟨rfl, wr (by omega) (by omega)⟩, ⟨AOEq.refl _, aoR, aoO, AOEq.refl _, aoD⟩⟩
  · have hc := dnlt hc
    have hje : j = E.length := by
      have hc : (E.length : Int) ≤ j := hc
      omega
    have hcp : copyC E = copyC (E.take j) := by rw [hje, List.take_length]
    have aoR : AOEq (rowO (copyC E)) (rowO (copyC (E.take j))) := by rw [hcp]; exact AOEq.refl _
    have aoO : AOEq (ownO (copyC E) 8) (ownO (copyC (E.take j)) 8) := by rw [hcp]; exact AOEq.own _ _
    have aoD : AOEq (delO (copyC E)) (delO (copyC (E.take j))) := by rw [hcp]; exact AOEq.refl _
    refine ⟨⟨(), [], trivial, ⟨⟨⟨rfl, rfl, AVEq.refl _⟩, trivial⟩, ⟨⟨rfl, rfl, rfl, ⟨rfl, AVsEq.refl _⟩⟩, ⟨rfl, rfl, trivial, AOEq.refl _⟩, ⟨rfl, rfl, rfl, AOEq.own E _⟩, ⟨rfl, rfl, trivial, trivial⟩, ⟨rfl, rfl, trivial, AOEq.refl _⟩, ⟨rfl, rfl, rfl, ⟨rfl, AVsEq.refl _⟩⟩, ⟨rfl, rfl, trivial, aoR⟩, ⟨rfl, rfl, rfl, aoO⟩, ⟨rfl, rfl, trivial, trivial⟩, ⟨rfl, rfl, trivial, aoD⟩, trivial⟩, rfl⟩, rfl, fun h => (by cases h)⟩⟩
end Go.Proofs.Ytnookbebiacaeaa
end

section
/-
  Conversations: Open.
-/
namespace Go.Proofs.Ytnookbebiacaeaa
open Go.Eng

/-- What the opening of l says, with E put in already. -/
def openSt (E : List Ev) : List Ev → Int
  | [] => 0
  | e :: r => if (addC E e).2.2 ≠ 0 then (addC E e).2.2 else if (addC E e).2.1 ≠ E.length then 5 else openSt (E ++ [e]) r
def openS (l : List Ev) : Int := openSt [] l
theorem addC_new {E : List Ev} {e : Ev} (h1 : (addC E e).2.2 = 0) (h2 : (addC E e).2.1 = E.length) : (addC E e).1 = E ++ [e] := by
  revert h1 h2
  unfold addC
  by_cases c1 : rightE e = false
  · rw [if_pos c1]; intro h; cases h
  rw [if_neg c1]
  by_cases c2 : e.s < (idsOf E e.a).length
  · rw [if_pos c2]
    split
    · intro h; cases h
    · intro _ h
      have h : (idsOf E e.a).getD e.s.toNat 0 = E.length := h
      by_cases c3 : 0 ≤ e.s
      · have := idsOf_lt (getD_memI (l := idsOf E e.a) (k := e.s.toNat) (by omega))
        omega
      · have hr := right_rt (e := e) (by cases h : rightE e; exact absurd h c1; rfl)
        have := hr.s
        omega
  rw [if_neg c2]
  by_cases c3 : (decide (e.s > (idsOf E e.a).length) || missE E e) = true
  · rw [if_pos c3]; intro h; cases h
  rw [if_neg c3]
  by_cases c4 : (badM E e e.t || badM E e e.q) = true
  · rw [if_pos c4]; intro h; cases h
  rw [if_neg c4]
  by_cases c5 : (delB E e.t || delB E e.q) = true
  · rw [if_pos c5]; intro h; cases h
  rw [if_neg c5]
  by_cases c6 : E.length ≥ 100000
  · rw [if_pos c6]; intro h; cases h
  rw [if_neg c6]
  exact fun _ _ => rfl
theorem open_step (l : List Ev) (j : Nat) (hj : j < l.length) (h : openSt (l.take j) (l.drop j) = openS l) :
    (if (addC (l.take j) (l.getD j dE)).2.2 ≠ 0 then (addC (l.take j) (l.getD j dE)).2.2 else if (addC (l.take j) (l.getD j dE)).2.1 ≠ j then 5 else openSt (l.take (j + 1)) (l.drop (j + 1))) = openS l := by
  rw [List.drop_eq_getElem_cons hj, ← gdI (d := dE) hj] at h
  unfold openSt at h
  have hl : (l.take j).length = j := by rw [List.length_take]; omega
  rw [hl] at h
  rw [List.take_succ_eq_append_getElem hj, ← gdI (d := dE) hj]
  exact h
def openO (l : List Ev) : List AO := if openS l = 0 then [.cells 182 [.so 1, .mo 2, .mo 4], rowO l, ownO l 3, .dead, delO l] else []
def openR (l : List Ev) : AV := .tup [if openS l = 0 then .p 0 0 else .val (.pointer none), .i .i64 (openS l)]
theorem open_no {l : List Ev} {st : Int} (h : openS l = st) (h0 : st ≠ 0) : openO l = [] ∧ openR l = .tup [.val (.pointer none), .i .i64 st] := by
  unfold openO openR
  rw [h, if_neg h0, if_neg h0]
  exact ⟨rfl, rfl⟩
theorem open_yes {l : List Ev} (h : openS l = 0) : openO l = [.cells 182 [.so 1, .mo 2, .mo 4], rowO l, ownO l 3, .dead, delO l] ∧ openR l = .tup [.p 0 0, .i .i64 0] := by
  unfold openO openR
  rw [h, if_pos rfl, if_pos rfl]
  exact ⟨rfl, rfl⟩
theorem bne_of {a b : Int} (h : (a != b) = true) : a ≠ b := by rwa [bne_iff_ne] at h
theorem beq_of {a b : Int} (h : (a != b) = false) : a = b := by
  rw [bne_eq_false_iff_eq] at h
  exact h
set_option maxRecDepth 20000 in
set_option maxHeartbeats 16000000 in
theorem open_fn (l : List Ev) (_hl : l.length < 2^62) (hk : okL l) : CtrM Try.prog 87 true [] [.rs 12 l.length (rE l)] (fun _ : Unit => True) (fun _ => []) (fun _ => openO l) (fun _ => openR l) := by
  refine fn_of_execM tabOk Try.func87 (by kernel_rfl) rfl (N := Try.f87.ntmps) rfl (res := [.tmp 2, .tmp 3]) rfl true false [] _ _ _ _ rfl (fun h => by cases h) [] ?_
  have aoD0 : AOEq (delO []) (delO []) := AOEq.refl _
  refine Or.inr (Or.inr ?_)
  refine ⟨true, [], rfl, Unit, _, _, _, _, new_fn, fun _ _ => ?_⟩
  repeat refine Or.inl ?_
  refine ⟨[], Nat, fun j => j ≤ l.length ∧ Cok (l.take j) ∧ openSt (l.take j) (l.drop j) = openS l, fun j => [⟨12, [], .i .i64 j⟩], fun j => [⟨0, [], .cells 182 [.so 1, .mo 2, .mo 4]⟩, ⟨1, [], rowO (l.take j)⟩, ⟨2, [], ownO (l.take j) 3⟩, ⟨3, [], .dead⟩, ⟨4, [], delO (l.take j)⟩], fun j => l.length - j,
    ⟨0, [], ⟨Nat.zero_le _, cok_nil, rfl⟩, rfl, rfl, rfl, rfl, rfl, ⟨rfl, rfl⟩, ⟨AOEq.refl _, AOEq.refl _, AOEq.own _ _, AOEq.refl _, aoD0⟩⟩, ?_⟩
  rintro j ⟨hj, hF, hop⟩
  have hj : j ≤ l.length := hj
  refine .inl ⟨fun hc => ?_, fun hc => ?_⟩
  · have hc := dlt hc
    have hc : (j : Int) < l.length := hc
    have ej : (j : Int).toNat = j := Int.toNat_natCast j
    have hm := hk _ (getD_memE (l := l) (k := (j : Int).toNat) (by omega))
    have hstep := open_step l j (by omega) hop
    have htl : (l.take j).length = j := by rw [List.length_take]; omega
    have hFl := hF.ok.1
    have hg : l.getD (j : Int).toNat dE = l.getD j dE := by rw [ej]
    rw [← hg] at hstep
    repeat refine Or.inl ?_
    refine ⟨⟨by omega, by omega⟩, ?_⟩
    refine Or.inr (Or.inr ?_)
    refine ⟨true, [0, 1, 2, 3, 4], rfl, Unit, _, _, _, _, add_fn (l.take j) hF.ok (l.getD (j : Int).toNat dE) hm.1 hm.2, fun _ _ => ?_⟩
    repeat refine Or.inl ?_
    refine ⟨fun h1 => ?_, fun h1 => ?_⟩
    · have h1 : ((addC (l.take j) (l.getD (j : Int).toNat dE)).2.2 != 0) = true := h1
      have h1 := bne_of h1
      rw [if_pos h1] at hstep
      have ho := open_no hstep.symm h1
      rw [ho.1, ho.2]
      exact ⟨⟨(), [], trivial, ⟨⟨⟨rfl, rfl, AVEq.refl _⟩, trivial⟩, trivial, rfl⟩, rfl, fun h => (by cases h)⟩⟩
    have h1 : ((addC (l.take j) (l.getD (j : Int).toNat dE)).2.2 != 0) = false := h1
    have h1 := beq_of h1
    rw [if_neg (fun h => h h1)] at hstep
    refine ⟨fun h2 => ?_, fun h2 => ?_⟩
    · have h2 : ((addC (l.take j) (l.getD (j : Int).toNat dE)).2.1 != (j : Int)) = true := h2
      have h2 := bne_of h2
      rw [if_pos h2] at hstep
      have ho := open_no hstep.symm (by decide)
      rw [ho.1, ho.2]
      exact ⟨⟨(), [], trivial, ⟨⟨⟨rfl, rfl, AVEq.refl _⟩, trivial⟩, trivial, rfl⟩, rfl, fun h => (by cases h)⟩⟩
    have h2 : ((addC (l.take j) (l.getD (j : Int).toNat dE)).2.1 != (j : Int)) = false := h2
    have h2 := beq_of h2
    rw [if_neg (fun h => h h2)] at hstep
    have hnew := addC_new h1 (by rw [h2, htl])
    have hts : l.take (j + 1) = (addC (l.take j) (l.getD (j : Int).toNat dE)).1 := by rw [hnew, hg, List.take_succ_eq_append_getElem (by omega), gdI (by omega)]
    have hF2 := addC_cok hF (l.getD (j : Int).toNat dE)
    rw [← hts] at hF2
    have aoR : AOEq (rowO (l.take (j + 1))) (rowO (addC (l.take j) (l.getD (j : Int).toNat dE)).1) := by rw [hts]; exact AOEq.refl _
    have aoO : AOEq (ownO (l.take (j + 1)) 7) (ownO (addC (l.take j) (l.getD (j : Int).toNat dE)).1 7) := by rw [hts]; exact AOEq.own _ _
    have aoD : AOEq (delO (l.take (j + 1))) (delO (addC (l.take j) (l.getD (j : Int).toNat dE)).1) := by rw [hts]; exact AOEq.refl _
    refine ⟨j + 1, [(1, 6), (3, 7)], ⟨(by omega), hF2, hstep⟩, by dsimp only; omega, rfl, rfl, rfl, rfl, rfl, ⟨rfl, wr (by omega) (by omega)⟩, ⟨AOEq.refl _, aoR, aoO, AOEq.refl _, aoD⟩⟩
  · have hc := dnlt hc
    have hje : j = l.length := by
      have hc : (l.length : Int) ≤ j := hc
      omega
    have ho : openS l = 0 := by
      rw [← hop, hje, List.drop_length]
      rfl
    rw [(open_yes ho).1, (open_yes ho).2]
    have htk : l.take j = l := by rw [hje, List.take_length]
    have aoR : AOEq (rowO l) (rowO (l.take j)) := by rw [htk]; exact AOEq.refl _
    have aoO : AOEq (ownO l 3) (ownO (l.take j) 3) := by rw [htk]; exact AOEq.own _ _
    have aoD : AOEq (delO l) (delO (l.take j)) := by rw [htk]; exact AOEq.refl _
    refine ⟨⟨(), [], trivial, ⟨⟨⟨rfl, rfl, AVEq.refl _⟩, trivial⟩, ⟨⟨rfl, rfl, rfl, ⟨rfl, AVsEq.refl _⟩⟩, ⟨rfl, rfl, trivial, aoR⟩, ⟨rfl, rfl, rfl, aoO⟩, ⟨rfl, rfl, trivial, trivial⟩, ⟨rfl, rfl, trivial, aoD⟩, trivial⟩, rfl⟩, rfl, fun h => (by cases h)⟩⟩
end Go.Proofs.Ytnookbebiacaeaa
end

section
/-
  Conversations: the law's examples.
-/
namespace Go.Proofs.Ytnookbebiacaeaa
open Go.Eng

def hiB : ByteArray := ⟨#[104, 105]⟩
def postE : Ev := ⟨1, 0, [], 0, 5, -1, -1, -1, 0, hiB, [], 0⟩
def hoB : ByteArray := ⟨#[104, 111]⟩
def editE (s t : Int) : Ev := ⟨1, s, [], 1, 5, t, -1, -1, 0, hoB, [], 0⟩
theorem nilAV : AVEq (.rs 1 0 (rI [])) (.val (.slice none 0 0)) := ⟨rfl, rfl⟩
set_option maxRecDepth 20000 in
theorem post_fn : CtrA Try.prog 135 [] (.ag postE.av) := by
  refine fn_of_execA tabOk Try.func135 (by kernel_rfl) rfl (N := Try.f135.ntmps) rfl (res := [.cell 0 96]) rfl rfl [(1000001, [.eq 0 (.cells 96 postE.av)])] ?_
  refine ⟨⟨rfl, AVEq.refl _, AVEq.refl _, nilAV, AVEq.refl _, AVEq.refl _, AVEq.refl _, AVEq.refl _, AVEq.refl _, AVEq.refl _, AVEq.refl _, nilAV, AVEq.refl _⟩, ?_⟩
  exact ⟨rfl, AVEq.refl (.ag postE.av)⟩
set_option maxRecDepth 20000 in
theorem edit_fn (s t : Int) : CtrA Try.prog 136 [.i .i64 s, .i .i64 t] (.ag (editE s t).av) := by
  refine fn_of_execA tabOk Try.func136 (by kernel_rfl) rfl (N := Try.f136.ntmps) rfl (res := [.cell 4 96]) rfl rfl [(1000001, [.eq 0 (.cells 96 (editE s t).av)])] ?_
  refine ⟨⟨rfl, AVEq.refl _, AVEq.refl _, nilAV, AVEq.refl _, AVEq.refl _, AVEq.refl _, AVEq.refl _, AVEq.refl _, AVEq.refl _, AVEq.refl _, nilAV, AVEq.refl _⟩, ?_⟩
  exact ⟨rfl, AVEq.refl (.ag (editE s t).av)⟩
def xxB : ByteArray := ⟨#[120, 120]⟩
def post2 : Ev := { postE with x := xxB }
def post3 : Ev := { post2 with st := 4 }
theorem ex1 : addC [] postE = ([postE], (0, 0)) := by decide +kernel
theorem ex2 : addC [postE] (editE 1 0) = ([postE, editE 1 0], (1, 0)) := by decide +kernel
theorem ex3 : addC [postE, editE 1 0] postE = ([postE, editE 1 0], (0, 0)) := by decide +kernel
theorem ex4 : addC [postE, editE 1 0] post2 = ([postE, editE 1 0], (0, 0)) := by decide +kernel
theorem ex5 : addC [postE, editE 1 0] post3 = ([postE, editE 1 0], (0, 5)) := by decide +kernel
theorem ex6 : addC [postE, editE 1 0] (editE 3 0) = ([postE, editE 1 0], (0, 14)) := by decide +kernel
theorem ex7 : addC [postE, editE 1 0] (editE 2 7) = ([postE, editE 1 0], (0, 14)) := by decide +kernel
theorem ex8 : addC [postE, editE 1 0] (editE 2 1) = ([postE, editE 1 0], (0, 4)) := by decide +kernel
end Go.Proofs.Ytnookbebiacaeaa
end

section
/-
  Conversations: the law's examples hold.
-/
namespace Go.Proofs.Ytnookbebiacaeaa
open Go.Eng

def exE : List Ev := [postE, editE 1 0]
theorem cok1 : Cok [postE] := by have := addC_cok cok_nil postE; rw [ex1] at this; exact this
theorem cok2 : Cok exE := by have := addC_cok cok1 (editE 1 0); rw [ex2] at this; exact this
theorem ex_past : pastL exE 1 = [0] := by
  refine asc_uni (past_asc _ _) (by simp) fun x => ?_
  rw [past_in cok2.wf, List.mem_singleton]
  constructor
  · intro h
    have := h.lt cok2.wf
    omega
  · rintro rfl
    exact .one (by decide) (by decide) (by decide +kernel)
theorem ex9 : eraseC exE 0 = ([bareE postE, bareE (editE 1 0)], 0) := by decide +kernel
def exF : List Ev := [bareE postE, bareE (editE 1 0)]
theorem cokF : Cok exF := by have := eraseC_cok cok2 0; rw [ex9] at this; exact this
theorem ex11 : getC exE 0 = (postE, true) := by decide +kernel
theorem ex12 : getC exF 1 = (bareE (editE 1 0), true) := by decide +kernel
/-- conv.Add at an example. -/
theorem add_ex {E : List Ev} (hE : okE E) {e : Ev} {E' : List Ev} {i st : Int} (h : addC E e = (E', (i, st))) (h1 : e.cs.length < 2^62) (h2 : e.fs.length < 2^62) :
    CtrM Try.prog 74 true [.cells 182 [.so 1, .mo 2, .mo 4], rowO E, ownO E 3, .dead, delO E] [.p 0 0, .ag e.av] (fun _ : Unit => True) (fun _ => cvO E') (fun _ => cvN E') (fun _ => .tup [.i .i64 i, .i .i64 st]) := by
  have c := add_fn E hE e h1 h2
  rw [h] at c
  exact c
set_option maxRecDepth 20000 in
set_option maxHeartbeats 4000000 in
/-- An erasing that is refused. -/
theorem erase_ro (E : List Ev) (i : Int) (h : (zP E i || ((E.getD i.toNat dE).k != 0)) = true) : Ctr Try.prog 76 [.rp (cvA E), .i .i64 i] [] (.i .i64 4) := by
  refine fn_of_exec tabOk Try.func76 (by kernel_rfl) rfl (N := Try.f76.ntmps) rfl (res := [.tmp 4]) rfl rfl [] ?_
  repeat refine Or.inl ?_
  refine ⟨fun hg => ?_, ?_⟩
  · have hg : zP E i = false := hg.1
    unfold zP at hg
    rw [Bool.or_eq_false_iff, decide_eq_false_iff_not, decide_eq_false_iff_not] at hg
    omega
  refine ⟨fun _ => RetIs.i rfl, fun h2 => ?_⟩
  have h2 : (zP E i || ((E.getD i.toNat dE).k != 0)) = false := h2
  rw [h] at h2
  cases h2
theorem get_ex {E : List Ev} (hE : okE E) {i : Int} {e : Ev} {b : Bool} (h : getC E i = (e, b)) :
    CtrM Try.prog 75 true [.cells 182 [.so 1, .mo 2, .mo 4], rowO E, ownO E 3, .dead, delO E] [.p 0 0, .i .i64 i] (fun _ : Unit => True) (fun _ => cvI E) (fun _ => []) (fun _ => .tup [.ag e.av, .b b]) := by
  have c := get_fn E hE i
  rw [h] at c
  exact c
theorem erase_ex {E : List Ev} (hE : okE E) {i : Int} {E' : List Ev} {st : Int} (h : eraseC E i = (E', st)) :
    CtrM Try.prog 76 true [.cells 182 [.so 1, .mo 2, .mo 4], rowO E, ownO E 3, .dead, delO E] [.p 0 0, .i .i64 i] (fun _ : Unit => True) (fun _ => cvI E') (fun _ => []) (fun _ => .i .i64 st) := by
  have c := erase_fn E hE i
  rw [h] at c
  exact c
set_option maxRecDepth 20000 in
set_option maxHeartbeats 16000000 in
theorem small71_fn : Ctr Try.prog 71 [] [] (.b true) := by
  refine fn_of_exec tabOk Try.func71 (by kernel_rfl) rfl (N := Try.f71.ntmps) rfl (res := [.tmp 0]) rfl rfl [] ?_
  have oN : okE [] := cok_nil.ok
  have o1 := cok1.ok
  have o2 := cok2.ok
  have oF := cokF.ok
  refine Or.inr (Or.inr ?_)
  refine ⟨true, [], rfl, Unit, _, _, _, _, new_fn, fun _ _ => ?_⟩
  repeat refine Or.inl ?_
  refine ⟨fun h => ?_, fun _ => ?_⟩
  · cases h
  refine Or.inr (Or.inl ?_)
  refine ⟨_, post_fn, ?_⟩
  refine Or.inr (Or.inr ?_)
  refine ⟨true, [0, 1, 2, 3, 4], rfl, Unit, _, _, _, _, add_ex oN ex1 (by decide) (by decide), fun _ _ => ?_⟩
  refine Or.inr (Or.inl ?_)
  refine ⟨_, edit_fn 1 0, ?_⟩
  refine Or.inr (Or.inr ?_)
  refine ⟨true, [0, 5, 2, 6, 4], rfl, Unit, _, _, _, _, add_ex o1 ex2 (by decide) (by decide), fun _ _ => ?_⟩
  refine Or.inr (Or.inl ?_)
  refine ⟨_, post_fn, ?_⟩
  refine Or.inr (Or.inr ?_)
  refine ⟨true, [0, 7, 2, 8, 4], rfl, Unit, _, _, _, _, add_ex o2 ex3 (by decide) (by decide), fun _ _ => ?_⟩
  refine Or.inr (Or.inl ?_)
  refine ⟨_, post_fn, ?_⟩
  refine Or.inr (Or.inr ?_)
  refine ⟨true, [0, 9, 2, 10, 4], rfl, Unit, _, _, _, _, add_ex o2 ex4 (by decide) (by decide), fun _ _ => ?_⟩
  refine Or.inr (Or.inr ?_)
  refine ⟨true, [0, 12, 2, 13, 4], rfl, Unit, _, _, _, _, get_ex o2 ex11, fun _ _ => ?_⟩
  refine Or.inr (Or.inr ?_)
  refine ⟨true, [0, 12, 2, 13, 4], rfl, Unit, _, _, _, _, add_ex o2 ex5 (by decide) (by decide), fun _ _ => ?_⟩
  refine Or.inr (Or.inl ?_)
  refine ⟨_, edit_fn 3 0, ?_⟩
  refine Or.inr (Or.inr ?_)
  refine ⟨true, [0, 15, 2, 16, 4], rfl, Unit, _, _, _, _, add_ex o2 ex6 (by decide) (by decide), fun _ _ => ?_⟩
  refine Or.inr (Or.inl ?_)
  refine ⟨_, edit_fn 2 7, ?_⟩
  refine Or.inr (Or.inr ?_)
  refine ⟨true, [0, 17, 2, 18, 4], rfl, Unit, _, _, _, _, add_ex o2 ex7 (by decide) (by decide), fun _ _ => ?_⟩
  refine Or.inr (Or.inl ?_)
  refine ⟨_, edit_fn 2 1, ?_⟩
  refine Or.inr (Or.inr ?_)
  refine ⟨true, [0, 19, 2, 20, 4], rfl, Unit, _, _, _, _, add_ex o2 ex8 (by decide) (by decide), fun _ _ => ?_⟩
  repeat refine Or.inl ?_
  refine ⟨_, _, fun _ => past_fn exE cok2 1, ?_⟩
  repeat refine Or.inl ?_
  refine ⟨[], _, fun _ => Ctr.of_eq (args := [.rs 1 (pastL exE 1).length (rI (pastL exE 1)), .rs 1 [(0 : Int)].length (rI [0])]) ⟨AVEq.refl _, ⟨rfl, rfl, fun k hk => ?_⟩⟩ (ints82_fn (pastL exE 1) [0] (by rw [ex_past]; decide) (by decide)), ?_⟩
  · match k, hk with
    | 0, _ => rfl
  repeat refine Or.inl ?_
  refine ⟨[], _, fun _ => before_fn exE cok2 0 1, ?_⟩
  refine Or.inr (Or.inr ?_)
  refine ⟨true, [0, 21, 2, 22, 4], rfl, Unit, _, _, _, _, erase_ex o2 ex9, fun _ _ => ?_⟩
  refine Or.inr (Or.inr ?_)
  refine ⟨true, [0, 21, 2, 22, 4], rfl, Unit, _, _, _, _, get_ex oF ex12, fun _ _ => ?_⟩
  repeat refine Or.inl ?_
  refine ⟨[], _, fun _ => erase_ro exF 1 (by decide +kernel), ?_⟩
  repeat refine Or.inl ?_
  refine ⟨[], _, fun _ => len_fn exF, ?_⟩
  refine RetIs.b ?_
  rw [ex_past]
  decide +kernel
end Go.Proofs.Ytnookbebiacaeaa
end
