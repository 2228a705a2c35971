/-
  Groups: rows, and the small functions.
-/
import Derived.Test.YtklmfkejgjhneaaG1
namespace Go.Proofs.Ytklmfkejgjhneaa
open Go.Eng

def Ev.av (e : Ev) : List AV := [.i .i64 e.author, .i .i64 e.sq, .rs 1 e.causes.length (rowsI e.causes), .i .i64 e.kind, .i .i64 e.group, .i .i64 e.target, .i .i64 e.quot, .i .i64 e.who, .i .i64 e.n, .s e.text, .rs 1 e.files.length (rowsI e.files), .i .i64 e.stp]
def Sta.av (s : Sta) : List AV := [.i .i64 s.acc, .i .i64 s.grp, .i .i64 s.fr, .i .i64 s.to]
def Gra.av (g : Gra) : List AV := [.i .i64 g.grp, .i .i64 g.per, .i .i64 g.rig]
def rowsE (l : List Ev) (k : Nat) : List AV := (l.getD k dE).av
def rowsS (l : List Sta) (k : Nat) : List AV := (l.getD k dS).av
def rowsG (l : List Gra) (k : Nat) : List AV := (l.getD k dG).av
theorem fresh_rowsS (l : List Sta) : ∀ k, k < l.length → AV.freshs (rowsS l k) = true := fun _ _ => rfl

instance : DecidableEq Sta := fun a b =>
  if h : a.acc = b.acc ∧ a.grp = b.grp ∧ a.fr = b.fr ∧ a.to = b.to then isTrue (by obtain ⟨a1, a2, a3, a4⟩ := a; obtain ⟨b1, b2, b3, b4⟩ := b; simp at h; obtain ⟨rfl, rfl, rfl, rfl⟩ := h; rfl) else isFalse (by rintro rfl; exact h ⟨rfl, rfl, rfl, rfl⟩)
theorem sta_ne (a b : Sta) : eqAVs a.av b.av = decide (a = b) := by
  obtain ⟨a1, a2, a3, a4⟩ := a
  obtain ⟨b1, b2, b3, b4⟩ := b
  simp only [Sta.av, eqAVs, eqAV]
  rw [Bool.eq_iff_iff]
  simp [Sta.mk.injEq]
set_option maxRecDepth 20000 in
theorem sameS_fn (a b : List Sta) (ha : a.length < 2^62) (hb : b.length < 2^62) : Ctr Try.prog 21 [.rs 4 a.length (rowsS a), .rs 4 b.length (rowsS b)] [] (.b (decide (a = b))) := by
  refine fn_of_exec tabOk Try.func21 (by kernel_rfl) rfl (N := Try.f21.ntmps) rfl (res := [.tmp 4]) rfl rfl [] ?_
  refine .inl ⟨fun h => ?_, fun h => ?_⟩
  · refine RetIs.b ?_
    have h : ((a.length : Int) != b.length) = true := h
    simp at h
    simp
    intro he
    exact h (by rw [he])
  have h : ((a.length : Int) != b.length) = false := h
  simp at h
  have hl : a.length = b.length := by omega
  refine .inl ⟨[], Nat, fun k => k ≤ a.length ∧ eqUpto dS a b k, fun k => [⟨5, [], .i .i64 k⟩], fun _ => [], fun k => a.length - k,
    ⟨0, [], ⟨Nat.zero_le _, fun j hj => by omega⟩, rfl, rfl, rfl, rfl, rfl, ⟨rfl, rfl⟩, trivial⟩, ?_⟩
  rintro k ⟨hk, he⟩
  refine .inl ⟨fun hc => ?_, fun hc => ?_⟩
  · have hc := dlt hc
    refine .inl ⟨⟨by omega, by omega⟩, ⟨by omega, by omega⟩, ⟨fun h2 => ?_, fun h2 => ?_⟩⟩
    · refine RetIs.b ?_
      have h2 : (!eqAVs (a.getD (k : Int).toNat dS).av (b.getD (k : Int).toNat dS).av) = true := h2
      rw [Int.toNat_natCast, sta_ne] at h2
      symm
      rw [decide_eq_false_iff_not]
      rintro rfl
      simp at h2
    · have h2 : (!eqAVs (a.getD (k : Int).toNat dS).av (b.getD (k : Int).toNat dS).av) = false := h2
      rw [Int.toNat_natCast, sta_ne] at h2
      have h3 : a.getD k dS = b.getD k dS := by simpa using h2
      refine ⟨k + 1, [], ⟨by omega, fun j hj => ?_⟩, by dsimp only; omega, rfl, rfl, rfl, rfl, rfl, ⟨rfl, wr (by omega) (by omega)⟩, trivial⟩
      by_cases hjk : j = k
      · rw [hjk]; exact h3
      · exact he j (by omega)
  · have hc := dnlt hc
    refine RetIs.b ?_
    have hk2 : k = a.length := by omega
    subst hk2
    simp [eqUpto_all hl he]
set_option maxRecDepth 20000 in
theorem intsG_fn (a b : List Int) (ha : a.length < 2^62) (hb : b.length < 2^62) : Ctr Try.prog 24 [.rs 1 a.length (rowsI a), .rs 1 b.length (rowsI b)] [] (.b (decide (a = b))) := by
  refine fn_of_exec tabOk Try.func24 (by kernel_rfl) rfl (N := Try.f24.ntmps) rfl (res := [.tmp 4]) rfl rfl [] ?_
  refine .inl ⟨fun h => ?_, fun h => ?_⟩
  · refine RetIs.b ?_
    have h : ((a.length : Int) != b.length) = true := h
    simp at h
    simp
    intro he
    exact h (by rw [he])
  have h : ((a.length : Int) != b.length) = false := h
  simp at h
  have hl : a.length = b.length := by omega
  refine .inl ⟨[], Nat, fun k => k ≤ a.length ∧ eqUpto 0 a b k, fun k => [⟨5, [], .i .i64 k⟩], fun _ => [], fun k => a.length - k,
    ⟨0, [], ⟨Nat.zero_le _, fun j hj => by omega⟩, rfl, rfl, rfl, rfl, rfl, ⟨rfl, rfl⟩, trivial⟩, ?_⟩
  rintro k ⟨hk, he⟩
  refine .inl ⟨fun hc => ?_, fun hc => ?_⟩
  · have hc := dlt hc
    refine .inl ⟨⟨by omega, by omega⟩, ⟨by omega, by omega⟩, ⟨fun h2 => ?_, fun h2 => ?_⟩⟩
    · refine RetIs.b ?_
      have h2 : (a.getD (k : Int).toNat 0 != b.getD (k : Int).toNat 0) = true := h2
      rw [Int.toNat_natCast] at h2
      symm
      rw [decide_eq_false_iff_not]
      rintro rfl
      simp at h2
    · have h2 : (a.getD (k : Int).toNat 0 != b.getD (k : Int).toNat 0) = false := h2
      rw [Int.toNat_natCast] at h2
      have h3 : a.getD k 0 = b.getD k 0 := by simpa using h2
      refine ⟨k + 1, [], ⟨by omega, fun j hj => ?_⟩, by dsimp only; omega, rfl, rfl, rfl, rfl, rfl, ⟨rfl, wr (by omega) (by omega)⟩, trivial⟩
      by_cases hjk : j = k
      · rw [hjk]; exact h3
      · exact he j (by omega)
  · have hc := dnlt hc
    refine RetIs.b ?_
    have hk2 : k = a.length := by omega
    subst hk2
    simp [eqUpto_all hl he]

def hasN (l : List Int) (n : Int) : Bool := l.any (· == n)
theorem hasN_iff {l : List Int} {n : Int} : hasN l n = true ↔ n ∈ l := by simp [hasN]
set_option maxRecDepth 20000 in
theorem hasG_fn (l : List Int) (hl : l.length < 2^62) (n : Int) : Ctr Try.prog 29 [.rs 1 l.length (rowsI l), .i .i64 n] [] (.b (hasN l n)) := by
  refine fn_of_exec tabOk Try.func29 (by kernel_rfl) rfl (N := Try.f29.ntmps) rfl (res := [.tmp 4]) rfl rfl [] ?_
  refine .inl ⟨[], Nat, fun k => k ≤ l.length ∧ (l.take k).any (· == n) = false, fun k => [⟨5, [], .i .i64 k⟩], fun _ => [], fun k => l.length - k,
    ⟨0, [], ⟨Nat.zero_le _, rfl⟩, rfl, rfl, rfl, rfl, rfl, ⟨rfl, rfl⟩, trivial⟩, ?_⟩
  rintro k ⟨hk, hno⟩
  refine .inl ⟨fun hc => ?_, fun hc => ?_⟩
  · have hc := dlt hc
    have ek : (k : Int).toNat = k := Int.toNat_natCast k
    refine Or.inl ⟨⟨by omega, by omega⟩, ⟨fun h2 => ?_, fun h2 => ?_⟩⟩
    · have h2 : (l.getD (k : Int).toNat 0 == n) = true := h2
      rw [ek] at h2
      refine RetIs.b ?_
      unfold hasN
      rw [any_atD 0 l _ k (by omega) h2]
    · have h2 : (l.getD (k : Int).toNat 0 == n) = false := h2
      rw [ek] at h2
      exact ⟨k + 1, [], ⟨by omega, by rw [any_takeD 0 l _ k (by omega), hno, h2]; rfl⟩, by dsimp only; omega, rfl, rfl, rfl, rfl, rfl, ⟨rfl, wr (by omega) (by omega)⟩, trivial⟩
  · have hc := dnlt hc
    have hk2 : l.take k = l := List.take_of_length_le (by omega)
    rw [hk2] at hno
    refine RetIs.b ?_
    unfold hasN
    rw [hno]

theorem RetIs.ib {k : IntKind} {c c' : Int} {b b' : Bool} {O : List OE} {nid : Nat} (h : c' = c) (h2 : b' = b) : RetIs [] (.tup [.i k c, .b b]) (.tup [.i k c', .b b']) O nid := by
  subst h h2
  exact ⟨[], ⟨⟨⟨rfl, rfl, AVEq.refl _⟩, trivial⟩, trivial, rfl⟩, rfl, trivial⟩
def endWho (e : Ev) : Int := if e.kind = 6 then e.author else e.who
def endIs (e : Ev) : Bool := e.kind == 6 || e.kind == 7
theorem endsP_eq (e : Ev) (a g : Int) : endsP e a g = (e.group == g && (endIs e && endWho e == a)) := by
  unfold endsP endIs endWho
  by_cases h : e.kind = 6
  · rw [if_pos h, h]; simp
  · rw [if_neg h, beq_eq_false_iff_ne.2 h]; simp
set_option maxRecDepth 20000 in
theorem ends_fn (e : Ev) : Ctr Try.prog 69 [.ag e.av] [] (.tup [.i .i64 (endWho e), .b (endIs e)]) := by
  refine fn_of_exec tabOk Try.func69 (by kernel_rfl) rfl (N := Try.f69.ntmps) rfl (res := [.tmp 2, .tmp 3]) rfl rfl [] ?_
  repeat refine Or.inl ?_
  refine ⟨fun h => ?_, fun h => ?_⟩
  · have h : (e.kind == 6) = true := h
    refine RetIs.ib ?_ ?_
    · unfold endWho
      rw [if_pos (by simpa using h)]
    · unfold endIs
      rw [h]
      rfl
  · have h : (e.kind == 6) = false := h
    refine RetIs.ib ?_ ?_
    · unfold endWho
      rw [if_neg (by simpa using h)]
    · unfold endIs
      rw [h]
      rfl
theorem cut_toNat (l : List Ev) (t : Int) : ((max (0 : Int) (min t l.length)) - 0).toNat = cut l t := by unfold cut; omega
theorem take_rowsE (l : List Ev) (m : Nat) (hm : m ≤ l.length) : ∀ k, k < (l.take m).length → rowsE l (Int.toNat 0 + k) = rowsE (l.take m) k := by
  intro k hk
  have e : Int.toNat 0 + k = k := by simp
  rw [e]
  unfold rowsE
  rw [take_getD dE l m k (by simp at hk; omega)]
theorem cut_len (l : List Ev) (t : Int) : (l.take (cut l t)).length = cut l t := by
  rw [List.length_take]
  have := cut_le l t
  omega
set_option maxRecDepth 20000 in
theorem Before_fn (l : List Ev) (t : Int) : CtrA Try.prog 72 [.rs 12 l.length (rowsE l), .i .i64 t] (.rs 12 (l.take (cut l t)).length (rowsE (l.take (cut l t)))) := by
  refine fn_of_execA tabOk Try.func72 (by kernel_rfl) rfl (N := Try.f72.ntmps) rfl (res := [.tmp 4]) rfl rfl [] ?_
  refine ⟨⟨by omega, by omega, by omega⟩, ?_⟩
  refine RetA.rs ?_ (take_rowsE l (cut l t) (cut_le l t))
  rw [cut_len]
  exact cut_toNat l t

set_option maxRecDepth 20000 in
set_option maxHeartbeats 1000000 in
theorem In_fn (l : List Ev) (hl : l.length < 2^62) (a g : Int) : Ctr Try.prog 68 [.rs 12 l.length (rowsE l), .i .i64 a, .i .i64 g] [] (.b (inN (evs l) a g l.length)) := by
  refine fn_of_exec tabOk Try.func68 (by kernel_rfl) rfl (N := Try.f68.ntmps) rfl (res := [.tmp 6]) rfl rfl [] ?_
  refine .inl ⟨[], Nat, fun k => k ≤ l.length ∧ inN (evs l) a g l.length = inN (evs l) a g k, fun k => [⟨7, [], .i .i64 ((k : Int) - 1)⟩], fun _ => [], fun k => k,
    ⟨l.length, [], ⟨Nat.le_refl _, rfl⟩, rfl, rfl, rfl, rfl, rfl, ⟨rfl, wr (by omega) (by omega)⟩, trivial⟩, ?_⟩
  rintro k ⟨hk, hI⟩
  refine .inl ⟨fun hc => ?_, fun hc => ?_⟩
  · have hc : decide ((k : Int) - 1 ≥ 0) = true := hc
    rw [decide_eq_true_eq] at hc
    obtain ⟨q, rfl⟩ : ∃ q, k = q + 1 := ⟨k - 1, by omega⟩
    have eq : (((q + 1 : Nat) : Int) - 1).toNat = q := by omega
    have hq : IntKind.i64.wrap (((q + 1 : Nat) : Int) - 1 - 1) = (q : Int) - 1 := by
      rw [wr (by omega) (by omega)]
      omega
    have hev : evs l q = l.getD q dE := rfl
    have hI : inN (evs l) a g l.length = if joinP (l.getD q dE) a g = true then true else if endsP (l.getD q dE) a g = true then false else inN (evs l) a g q := hI
    generalize inN (evs l) a g l.length = R at *
    have next : joinP (l.getD q dE) a g = false → endsP (l.getD q dE) a g = false → R = inN (evs l) a g q := fun h1 h2 => by
      rw [hI, h1, h2]
      rfl
    have hj := show joinP (l.getD q dE) a g = ((l.getD q dE).kind == 5 && (l.getD q dE).who == a && (l.getD q dE).group == g) from rfl
    have he := endsP_eq (l.getD q dE) a g
    repeat refine Or.inl ?_
    refine ⟨⟨by omega, by omega⟩, ?_⟩
    repeat refine Or.inl ?_
    refine ⟨fun h2 => ?_, fun h2 => ?_⟩
    · have h2 : ((l.getD (((q + 1 : Nat) : Int) - 1).toNat dE).group != g) = true := h2
      rw [eq, bne_iff_ne] at h2
      rw [beq_eq_false_iff_ne.2 h2] at hj he
      exact ⟨q, [], ⟨by omega, next (by rw [hj, Bool.and_false]) (by rw [he, Bool.false_and])⟩, Nat.lt_succ_self q, rfl, rfl, rfl, rfl, rfl, ⟨rfl, hq⟩, trivial⟩
    have h2 : ((l.getD (((q + 1 : Nat) : Int) - 1).toNat dE).group != g) = false := h2
    rw [eq, bne_eq_false_iff_eq] at h2
    rw [beq_iff_eq.2 h2] at hj he
    rw [Bool.and_true] at hj
    rw [Bool.true_and] at he
    repeat refine Or.inl ?_
    refine ⟨fun h3 => ?_, fun h3 => ?_⟩
    · have h3 : ((l.getD (((q + 1 : Nat) : Int) - 1).toNat dE).kind == 5 && (l.getD (((q + 1 : Nat) : Int) - 1).toNat dE).who == a) = true := h3
      rw [eq] at h3
      refine RetIs.b ?_
      rw [hI, hj, h3]
      rfl
    have h3 : ((l.getD (((q + 1 : Nat) : Int) - 1).toNat dE).kind == 5 && (l.getD (((q + 1 : Nat) : Int) - 1).toNat dE).who == a) = false := h3
    rw [eq] at h3
    rw [h3] at hj
    repeat refine Or.inl ?_
    refine ⟨[], _, ends_fn (l.getD (((q + 1 : Nat) : Int) - 1).toNat dE), ?_⟩
    repeat refine Or.inl ?_
    refine ⟨fun h4 => ?_, fun h4 => ?_⟩
    · have h4 : (endIs (l.getD (((q + 1 : Nat) : Int) - 1).toNat dE) && endWho (l.getD (((q + 1 : Nat) : Int) - 1).toNat dE) == a) = true := h4
      rw [eq] at h4
      refine RetIs.b ?_
      rw [hI, hj, he, h4]
      rfl
    · have h4 : (endIs (l.getD (((q + 1 : Nat) : Int) - 1).toNat dE) && endWho (l.getD (((q + 1 : Nat) : Int) - 1).toNat dE) == a) = false := h4
      rw [eq] at h4
      exact ⟨q, [], ⟨by omega, next hj (he.trans h4)⟩, Nat.lt_succ_self q, rfl, rfl, rfl, rfl, rfl, ⟨rfl, hq⟩, trivial⟩
  · have hc : decide ((k : Int) - 1 ≥ 0) = false := hc
    rw [decide_eq_false_iff_not] at hc
    obtain rfl : k = 0 := by omega
    refine RetIs.b ?_
    rw [hI]
    rfl

theorem bitsG_succ (l : List Gra) (g p : Int) (k : Nat) (h : k < l.length) : bitsG (l.take (k + 1)) g p = if ((l.getD k dG).grp == g && (l.getD k dG).per == p) = true then bitsI .or .i64 (bitsG (l.take k) g p) (l.getD k dG).rig else bitsG (l.take k) g p :=
  foldl_take _ _ l k dG h
/-- The rights that a person has before so many events. -/
def RightsG (gl : List Gra) (l : List Ev) (g p t : Int) : Int := rightsN (bitsG gl g p) (evs l) g p (cut l t)
set_option maxRecDepth 20000 in
set_option maxHeartbeats 1000000 in
theorem Rights_fn (gl : List Gra) (hg : gl.length < 2^62) (l : List Ev) (hl : l.length < 2^62) (g p t : Int) :
    Ctr Try.prog 27 [.rs 3 gl.length (rowsG gl), .rs 12 l.length (rowsE l), .i .i64 g, .i .i64 p, .i .i64 t] [] (.i .i64 (RightsG gl l g p t)) := by
  refine fn_of_exec tabOk Try.func27 (by kernel_rfl) rfl (N := Try.f27.ntmps) rfl (res := [.tmp 10]) rfl rfl [] ?_
  have hcl := cut_le l t
  have hcn : ((max (0 : Int) (min t l.length))) = (cut l t : Int) := by unfold cut; omega
  refine .inl ⟨[], Nat, fun k => k ≤ cut l t ∧ RightsG gl l g p t = rightsN (bitsG gl g p) (evs l) g p k, fun k => [⟨11, [], .i .i64 ((k : Int) - 1)⟩], fun _ => [], fun k => k,
    ⟨cut l t, [], ⟨Nat.le_refl _, rfl⟩, rfl, rfl, rfl, rfl, rfl, ⟨rfl, ?_⟩, trivial⟩, ?_⟩
  · show IntKind.i64.wrap (max (0 : Int) (min t l.length) - 1) = (cut l t : Int) - 1
    rw [hcn]
    exact wr (by omega) (by omega)
  rintro k ⟨hk, hI⟩
  refine .inl ⟨fun hc => ?_, fun hc => ?_⟩
  · have hc : decide ((k : Int) - 1 ≥ 0) = true := hc
    rw [decide_eq_true_eq] at hc
    obtain ⟨q, rfl⟩ : ∃ q, k = q + 1 := ⟨k - 1, by omega⟩
    have eq : (((q + 1 : Nat) : Int) - 1).toNat = q := by omega
    have hq : IntKind.i64.wrap (((q + 1 : Nat) : Int) - 1 - 1) = (q : Int) - 1 := by
      rw [wr (by omega) (by omega)]
      omega
    have hI : RightsG gl l g p t = if roleP (l.getD q dE) g p = true then (l.getD q dE).n else rightsN (bitsG gl g p) (evs l) g p q := hI
    repeat refine Or.inl ?_
    refine ⟨⟨by omega, by omega⟩, ?_⟩
    repeat refine Or.inl ?_
    refine ⟨fun h2 => ?_, fun h2 => ?_⟩
    · have h2 : roleP (l.getD (((q + 1 : Nat) : Int) - 1).toNat dE) g p = true := h2
      rw [eq] at h2
      refine RetIs.i ?_
      show (l.getD (((q + 1 : Nat) : Int) - 1).toNat dE).n = _
      rw [eq, hI, if_pos h2]
    · have h2 : roleP (l.getD (((q + 1 : Nat) : Int) - 1).toNat dE) g p = false := h2
      rw [eq] at h2
      exact ⟨q, [], ⟨by omega, by rw [hI, if_neg (by rw [h2]; decide)]⟩, Nat.lt_succ_self q, rfl, rfl, rfl, rfl, rfl, ⟨rfl, hq⟩, trivial⟩
  · have hc : decide ((k : Int) - 1 ≥ 0) = false := hc
    rw [decide_eq_false_iff_not] at hc
    obtain rfl : k = 0 := by omega
    have hI : RightsG gl l g p t = bitsG gl g p := hI
    refine .inl ⟨[], Nat, fun k => k ≤ gl.length, fun k => [⟨49, [], .i .i64 k⟩, ⟨13, [], .i .i64 (bitsG (gl.take k) g p)⟩], fun _ => [], fun k => gl.length - k,
      ⟨0, [], Nat.zero_le _, rfl, rfl, rfl, rfl, rfl, ⟨⟨rfl, rfl⟩, rfl, rfl⟩, trivial⟩, ?_⟩
    intro k hk
    refine .inl ⟨fun hc => ?_, fun hc => ?_⟩
    · have hc := dlt hc
      have ek : (k : Int).toNat = k := Int.toNat_natCast k
      have hs := bitsG_succ gl g p k (by omega)
      repeat refine Or.inl ?_
      refine ⟨⟨by omega, by omega⟩, ?_⟩
      repeat refine Or.inl ?_
      refine ⟨fun h2 => ?_, fun h2 => ?_⟩
      · have h2 : ((gl.getD (k : Int).toNat dG).grp == g && (gl.getD (k : Int).toNat dG).per == p) = true := h2
        refine ⟨k + 1, [], by dsimp only; omega, by dsimp only; omega, rfl, rfl, rfl, rfl, rfl, ⟨⟨rfl, wr (by omega) (by omega)⟩, rfl, ?_⟩, trivial⟩
        show bitsI .or .i64 (bitsG (gl.take k) g p) (gl.getD (k : Int).toNat dG).rig = _
        rw [ek] at h2 ⊢
        rw [hs, if_pos h2]
      · have h2 : ((gl.getD (k : Int).toNat dG).grp == g && (gl.getD (k : Int).toNat dG).per == p) = false := h2
        refine ⟨k + 1, [], by dsimp only; omega, by dsimp only; omega, rfl, rfl, rfl, rfl, rfl, ⟨⟨rfl, wr (by omega) (by omega)⟩, rfl, ?_⟩, trivial⟩
        show bitsG (gl.take k) g p = _
        rw [ek] at h2
        rw [hs, if_neg (by rw [h2]; decide)]
    · have hc := dnlt hc
      refine RetIs.i ?_
      rw [hI, List.take_of_length_le (by omega)]

theorem rightsN_take (b : Int) (l : List Ev) (g p : Int) (m : Nat) : rightsN b (evs (l.take m)) g p m = rightsN b (evs l) g p m := rightsN_congr (evs_take l m)
set_option maxRecDepth 20000 in
set_option maxHeartbeats 1000000 in
theorem rRights_fn (gl : List Gra) (hg : gl.length < 2^62) (l : List Ev) (hl : l.length < 2^62) (g p t : Int) :
    Ctr Try.prog 28 [.rs 3 gl.length (rowsG gl), .rs 12 l.length (rowsE l), .i .i64 g, .i .i64 p, .i .i64 t] [] (.i .i64 (RightsG gl l g p t)) := by
  refine fn_of_exec tabOk Try.func28 (by kernel_rfl) rfl (N := Try.f28.ntmps) rfl (res := [.tmp 10]) rfl rfl [] ?_
  have hcl := cut_le l t
  refine .inl ⟨[], Nat, fun k => k ≤ gl.length, fun k => [⟨12, [], .i .i64 k⟩, ⟨11, [], .i .i64 (bitsG (gl.take k) g p)⟩], fun _ => [], fun k => gl.length - k,
    ⟨0, [], Nat.zero_le _, rfl, rfl, rfl, rfl, rfl, ⟨⟨rfl, rfl⟩, rfl, rfl⟩, trivial⟩, ?_⟩
  intro k hk
  refine .inl ⟨fun hc => ?_, fun hc => ?_⟩
  · have hc := dlt hc
    have ek : (k : Int).toNat = k := Int.toNat_natCast k
    have hs := bitsG_succ gl g p k (by omega)
    repeat refine Or.inl ?_
    refine ⟨⟨by omega, by omega⟩, fun _ => ⟨by omega, by omega⟩, ?_⟩
    repeat refine Or.inl ?_
    refine ⟨fun h2 => ⟨⟨by omega, by omega⟩, ?_⟩, fun h2 => ?_⟩
    · have h2 : ((gl.getD (k : Int).toNat dG).grp == g && (gl.getD (k : Int).toNat dG).per == p) = true := h2
      refine ⟨k + 1, [], by dsimp only; omega, by dsimp only; omega, rfl, rfl, rfl, rfl, rfl, ⟨⟨rfl, wr (by omega) (by omega)⟩, rfl, ?_⟩, trivial⟩
      show bitsI .or .i64 (bitsG (gl.take k) g p) (gl.getD (k : Int).toNat dG).rig = _
      rw [ek] at h2 ⊢
      rw [hs, if_pos h2]
    · have h2 : ((gl.getD (k : Int).toNat dG).grp == g && (gl.getD (k : Int).toNat dG).per == p) = false := h2
      refine ⟨k + 1, [], by dsimp only; omega, by dsimp only; omega, rfl, rfl, rfl, rfl, rfl, ⟨⟨rfl, wr (by omega) (by omega)⟩, rfl, ?_⟩, trivial⟩
      show bitsG (gl.take k) g p = _
      rw [ek] at h2
      rw [hs, if_neg (by rw [h2]; decide)]
  · have hc := dnlt hc
    have hk2 : gl.take k = gl := List.take_of_length_le (by omega)
    rw [hk2]
    refine .inr (.inl ⟨_, Before_fn l t, ?_⟩)
    have hm : (l.take (cut l t)).length = cut l t := cut_len l t
    generalize hL : l.take (cut l t) = L at *
    have hR : RightsG gl l g p t = rightsN (bitsG gl g p) (evs L) g p L.length := by
      unfold RightsG
      rw [hm, ← hL, rightsN_take]
    refine .inl ⟨[], Nat, fun k => k ≤ L.length, fun k => [⟨14, [], .i .i64 k⟩, ⟨11, [], .i .i64 (rightsN (bitsG gl g p) (evs L) g p k)⟩], fun _ => [], fun k => L.length - k,
      ⟨0, [], Nat.zero_le _, rfl, rfl, rfl, rfl, rfl, ⟨⟨rfl, rfl⟩, rfl, rfl⟩, trivial⟩, ?_⟩
    intro q hq
    refine .inl ⟨fun hc => ?_, fun hc => ?_⟩
    · have hc := dlt hc
      have eq : (q : Int).toNat = q := Int.toNat_natCast q
      have hs : rightsN (bitsG gl g p) (evs L) g p (q + 1) = if roleP (L.getD q dE) g p = true then (L.getD q dE).n else rightsN (bitsG gl g p) (evs L) g p q := rfl
      repeat refine Or.inl ?_
      refine ⟨⟨by omega, by omega⟩, ?_⟩
      repeat refine Or.inl ?_
      refine ⟨fun h2 => ?_, fun h2 => ?_⟩
      · have h2 : roleP (L.getD (q : Int).toNat dE) g p = true := h2
        refine ⟨q + 1, [], by dsimp only; omega, by dsimp only; omega, rfl, rfl, rfl, rfl, rfl, ⟨⟨rfl, wr (by omega) (by omega)⟩, rfl, ?_⟩, trivial⟩
        show (L.getD (q : Int).toNat dE).n = _
        rw [eq] at h2 ⊢
        rw [hs, if_pos h2]
      · have h2 : roleP (L.getD (q : Int).toNat dE) g p = false := h2
        refine ⟨q + 1, [], by dsimp only; omega, by dsimp only; omega, rfl, rfl, rfl, rfl, rfl, ⟨⟨rfl, wr (by omega) (by omega)⟩, rfl, ?_⟩, trivial⟩
        show rightsN (bitsG gl g p) (evs L) g p q = _
        rw [eq] at h2
        rw [hs, if_neg (by rw [h2]; decide)]
    · have hc := dnlt hc
      obtain rfl : q = L.length := by omega
      refine RetIs.i ?_
      rw [hR]
end Go.Proofs.Ytklmfkejgjhneaa
