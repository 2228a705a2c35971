/-
  The engine: a region that draws its order, second part: the effects in the order of the text, and why they are the same in every order.
-/
import Derived.Test.YtklmfkejgjhneaaEng11a
import Derived.Orders
namespace Go.Eng
open Go.RowKit

/-- One operation's effect, what it has read, and what goes before it. -/
structure DR where
  dst : Option Nat
  tg : Tags
  eff : Eff
  nid : Nat
  ix : Nat
  bits : List Bool
  reads : List Nat
  vis : List Nat

def tbL : List Bool → Nat → Bool
  | [], _ => false
  | b :: _, 0 => b
  | _ :: r, n + 1 => tbL r n
def orL : List Bool → List Bool → List Bool
  | [], b => b
  | a :: r, [] => a :: r
  | a :: r, b :: s => (a || b) :: orL r s
theorem tbL_orL : ∀ (a b : List Bool) (i : Nat), tbL (orL a b) i = (tbL a i || tbL b i)
  | [], b, i => by simp [orL, tbL]
  | a :: r, [], i => by simp [orL, tbL]
  | a :: r, b :: s, 0 => by simp [orL, tbL]
  | a :: r, b :: s, i + 1 => by simp [orL, tbL, tbL_orL r s i]
def oneL : Nat → List Bool
  | 0 => [true]
  | n + 1 => false :: oneL n
theorem tbL_oneL : ∀ n i : Nat, tbL (oneL n) i = true → i = n
  | 0, 0, _ => rfl
  | 0, i + 1, h => by simp [oneL, tbL] at h
  | n + 1, 0, h => by simp [oneL, tbL] at h
  | n + 1, i + 1, h => by simp [oneL, tbL] at h; rw [tbL_oneL n i h]
def orK : List Bool → List Bool → (List Bool → Prop) → Prop
  | [], b, k => k b
  | a :: r, [], k => k (a :: r)
  | true :: r, _ :: s, k => orK r s fun l => k (true :: l)
  | false :: r, true :: s, k => orK r s fun l => k (true :: l)
  | false :: r, false :: s, k => orK r s fun l => k (false :: l)
theorem orK_iff : ∀ {a b : List Bool} {k : List Bool → Prop}, orK a b k → k (orL a b)
  | [], b, k, h => by simpa [orK, orL] using h
  | a :: r, [], k, h => by simpa [orK, orL] using h
  | true :: r, _ :: s, k, h => by simpa [orL] using orK_iff (a := r) (b := s) (by simpa [orK] using h)
  | false :: r, true :: s, k, h => by simpa [orL] using orK_iff (a := r) (b := s) (by simpa [orK] using h)
  | false :: r, false :: s, k, h => by simpa [orL] using orK_iff (a := r) (b := s) (by simpa [orK] using h)
def oneK : Nat → (List Bool → Prop) → Prop
  | 0, k => k [true]
  | n + 1, k => oneK n fun l => k (false :: l)
theorem oneK_iff : ∀ {n : Nat} {k : List Bool → Prop}, oneK n k → k (oneL n)
  | 0, _, h => h
  | n + 1, _, h => oneK_iff (n := n) h
def bitsAt : List DR → Nat → List Bool
  | [], _ => []
  | d :: r, j => match Nat.beq d.ix j with
    | true => d.bits
    | false => bitsAt r j
theorem bitsAt_mem : ∀ {L : List DR} {j i : Nat}, tbL (bitsAt L j) i = true → ∃ d ∈ L, d.ix = j ∧ tbL d.bits i = true
  | [], j, i, h => by simp [bitsAt, tbL] at h
  | d :: r, j, i, h => by
    unfold bitsAt at h
    split at h
    · rename_i hb
      exact ⟨d, by simp, by simpa using hb, h⟩
    · obtain ⟨e, he, h1, h2⟩ := bitsAt_mem h
      exact ⟨e, List.mem_cons_of_mem _ he, h1, h2⟩
def edgesK (L : List DR) : List Edge → List Bool → (List Bool → Prop) → Prop
  | [], b, k => k b
  | e :: r, b, k => match Region.binds .any e with
    | true => (match tbL b e.on with
      | true => edgesK L r b k
      | false => oneK e.on fun x => orK x (bitsAt L e.on) fun z => orK z b fun b' => edgesK L r b' k)
    | false => edgesK L r b k
theorem edgesK_iff {L : List DR} : ∀ {es : List Edge} {b : List Bool} {k : List Bool → Prop}, edgesK L es b k →
    ∃ b', k b' ∧ ∀ D : Nat → Bool, (∀ e ∈ es, Region.binds .any e = true → D e.on = true) → (∀ e ∈ L, D e.ix = true → ∀ i, tbL e.bits i = true → D i = true) →
      (∀ i, tbL b i = true → D i = true) → ∀ i, tbL b' i = true → D i = true
  | [], b, k, h => ⟨b, h, fun _ _ _ h => h⟩
  | e :: r, b, k, h => by
    unfold edgesK at h
    split at h
    · rename_i hb
      split at h
      · obtain ⟨b', hk, hD⟩ := edgesK_iff h
        exact ⟨b', hk, fun D h1 h2 h3 => hD D (fun e he => h1 e (List.mem_cons_of_mem _ he)) h2 h3⟩
      · obtain ⟨b', hk, hD⟩ := edgesK_iff (orK_iff (orK_iff (oneK_iff h)))
        refine ⟨b', hk, fun D h1 h2 h3 => hD D (fun e he => h1 e (List.mem_cons_of_mem _ he)) h2 fun i hi => ?_⟩
        rw [tbL_orL, tbL_orL] at hi
        simp only [Bool.or_eq_true] at hi
        rcases hi with (hi | hi) | hi
        · rw [tbL_oneL _ _ hi]
          exact h1 e (by simp) hb
        · obtain ⟨d, hd, h4, h5⟩ := bitsAt_mem hi
          exact h2 d hd (by rw [h4]; exact h1 e (by simp) hb) i h5
        · exact h3 i hi
    · obtain ⟨b', hk, hD⟩ := edgesK_iff h
      exact ⟨b', hk, fun D h1 h2 h3 => hD D (fun e he => h1 e (List.mem_cons_of_mem _ he)) h2 h3⟩
def backB (n : Nat) : List Edge → Bool
  | [] => true
  | e :: r => match Region.binds .any e with
    | true => (match Nat.blt e.on n with
      | true => backB n r
      | false => false)
    | false => backB n r
theorem backB_iff {n : Nat} : ∀ {es : List Edge}, backB n es = true → ∀ e ∈ es, Region.binds .any e = true → e.on < n
  | [], _, e, he, _ => by simp at he
  | d :: r, h, e, he, hb => by
    unfold backB at h
    rcases List.mem_cons.1 he with rfl | he
    · rw [hb] at h
      simp only at h
      split at h
      · rename_i hl
        exact blt_lt hl
      · cases h
    · split at h
      · split at h
        · exact backB_iff h e he hb
        · cases h
      · exact backB_iff h e he hb

/-! ### two operations -/
def memN (s : Nat) : List Nat → Bool
  | [] => false
  | t :: r => match Nat.beq s t with
    | true => true
    | false => memN s r
theorem memN_false {s : Nat} : ∀ {l : List Nat}, memN s l = false → s ∉ l
  | [], _ => by simp
  | t :: r, h => by
    unfold memN at h
    split at h
    · cases h
    · rename_i hb
      have h2 := memN_false h
      intro hm
      rcases List.mem_cons.1 hm with rfl | hm
      · simp at hb
      · exact h2 hm
def memO : Option Nat → List Nat → Bool
  | none, _ => false
  | some s, l => memN s l
theorem memO_false {o : Option Nat} {l : List Nat} (h : memO o l = false) : ∀ s, o = some s → s ∉ l := by
  rintro s rfl
  exact memN_false h
def inTagsO : Option Nat → Tags → Bool
  | none, _ => false
  | some s, l => inTags s l
theorem inTagsO_false {o : Option Nat} {l : Tags} (h : inTagsO o l = false) : ∀ s, o = some s → inTags s l = false := by
  rintro s rfl
  exact h
def sameO : Option Nat → Option Nat → Bool
  | some s, some t => Nat.beq s t
  | _, _ => false
theorem sameO_false {x y : Option Nat} (h : sameO x y = false) : ∀ s, x = some s → y ≠ some s := by
  rintro s rfl rfl
  simp [sameO] at h
def crB (d : DR) (id : Nat) : Bool :=
  match Nat.ble d.nid id with
  | true => Nat.blt id (effN d.nid d.eff)
  | false => false
theorem crB_iff {d : DR} {id : Nat} : crB d id = true ↔ d.nid ≤ id ∧ id < effN d.nid d.eff := by
  unfold crB
  cases h : Nat.ble d.nid id with
  | true => simp only [Nat.ble_eq] at h; simp [h, Nat.blt_eq]
  | false =>
    have : ¬ d.nid ≤ id := fun h' => by rw [← Nat.ble_eq, h] at h'; cases h'
    simp [this]
def outB (d : DR) (id : Nat) : Bool :=
  match crB d id with
  | true => false
  | false => true
theorem outB_iff {d : DR} {id : Nat} : outB d id = true ↔ crB d id = false := by
  unfold outB
  cases crB d id <;> simp
def noneIn (d : DR) : List Nat → Bool
  | [] => true
  | q :: r => match crB d q with
    | true => false
    | false => noneIn d r
theorem noneIn_iff {d : DR} : ∀ {l : List Nat}, noneIn d l = true → ∀ q ∈ l, crB d q = false
  | [], _, q, hq => by simp at hq
  | t :: r, h, q, hq => by
    unfold noneIn at h
    split at h
    · cases h
    · rename_i hb
      rcases List.mem_cons.1 hq with rfl | hq
      · exact hb
      · exact noneIn_iff h q hq
def AOsAll (f : Nat → Bool) : List AO → Bool
  | [] => true
  | o :: r => match AO.all f o with
    | true => AOsAll f r
    | false => false
theorem AOsAll_iff {f : Nat → Bool} : ∀ {l : List AO}, AOsAll f l = true → ∀ o ∈ l, AO.all f o = true
  | [], _, q, hq => by simp at hq
  | t :: r, h, q, hq => by
    unfold AOsAll at h
    split at h
    · rename_i hb
      rcases List.mem_cons.1 hq with rfl | hq
      · exact hb
      · exact AOsAll_iff h q hq
    · cases h

structure IndP (d e : DR) : Prop where
  r1 : ∀ s, e.dst = some s → s ∉ d.reads
  r2 : ∀ s, d.dst = some s → s ∉ e.reads
  t : ∀ s, e.dst = some s → inTags s d.tg = false
  v : ∀ q ∈ d.vis, crB e q = false
  k : ∀ q, effKill d.eff = some q → q ∉ e.vis
  n1 : AV.all (outB e) (effR d.eff) = true
  n2 : ∀ o ∈ effNew d.eff, AO.all (outB e) o = true
structure SepP (d e : DR) : Prop where
  dst : ∀ s, d.dst = some s → e.dst ≠ some s
  tag : ∀ s, d.dst = some s → inTags s e.tg = false
  kill : ∀ q, effKill d.eff = some q → effKill e.eff ≠ some q
  dep : tbL d.bits e.ix = true ∨ IndP d e
def indB (d e : DR) : Bool :=
  match memO e.dst d.reads, memO d.dst e.reads, inTagsO e.dst d.tg, noneIn e d.vis, memO (effKill d.eff) e.vis with
  | false, false, false, true, false => (match AV.all (outB e) (effR d.eff) with
    | true => AOsAll (outB e) (effNew d.eff)
    | false => false)
  | _, _, _, _, _ => false
theorem indB_iff {d e : DR} (h : indB d e = true) : IndP d e := by
  unfold indB at h
  split at h
  · rename_i h1 h2 h3 h4 h5
    split at h
    · rename_i h6
      exact ⟨memO_false h1, memO_false h2, inTagsO_false h3, noneIn_iff h4, memO_false h5, h6, AOsAll_iff h⟩
    · cases h
  · cases h
def sepB (d e : DR) : Bool :=
  match sameO d.dst e.dst, inTagsO d.dst e.tg, sameO (effKill d.eff) (effKill e.eff) with
  | false, false, false => (match tbL d.bits e.ix with
    | true => true
    | false => indB d e)
  | _, _, _ => false
theorem sepB_iff {d e : DR} (h : sepB d e = true) : SepP d e := by
  unfold sepB at h
  split at h
  · rename_i h1 h2 h3
    refine ⟨sameO_false h1, inTagsO_false h2, sameO_false h3, ?_⟩
    split at h
    · rename_i hb; exact .inl hb
    · exact .inr (indB_iff h)
  · cases h
def sepAll (d : DR) : List DR → Bool
  | [] => true
  | e :: r => match sepB d e with
    | true => sepAll d r
    | false => false
theorem sepAll_iff {d : DR} : ∀ {l : List DR}, sepAll d l = true → ∀ e ∈ l, SepP d e
  | [], _, q, hq => by simp at hq
  | t :: r, h, q, hq => by
    unfold sepAll at h
    split at h
    · rename_i hb
      rcases List.mem_cons.1 hq with rfl | hq
      · exact sepB_iff hb
      · exact sepAll_iff h q hq
    · cases h

/-! ### the state behind some of the operations -/
def kD (D : Nat → Bool) : List DR → KF → KF
  | [], K => K
  | d :: r, K => fun s => if D d.ix = true ∧ d.dst = some s then some (d.tg, effR d.eff) else kD D r K s
def oD (D : Nat → Bool) : List DR → OF → OF
  | [], O => O
  | d :: r, O => if D d.ix = true then effO d.tg d.nid (oD D r O) d.eff else oD D r O
def endN (n0 : Nat) : List DR → Nat
  | [] => n0
  | d :: _ => effN d.nid d.eff
def notDead : AO → Bool
  | .dead => false
  | _ => true
theorem notDead_iff {x : AO} (h : notDead x = true) : x ≠ .dead := by rintro rfl; cases h

structure Fact (P : Program) (T : List (Nat × TI)) (N : Nat) (ops : List Oper) (K0 : KF) (O0 : OF) (n0 : Nat) (r : List DR) (d : DR) (o : Oper) (Kr : List KE) (Or : List OE) : Prop where
  op : ops[d.ix]? = some o
  ix : d.ix = r.length
  dst : d.dst = o.dst
  nid : d.nid = endN n0 r
  tg : tagsOf ops Kr o.guard = some d.tg
  kr : ∀ s g av, find s Kr = some (g, av) → s ∈ d.reads ∧ av.lt d.nid = true ∧ kD (fun _ => true) r K0 s = some (g, av)
  or : ∀ id g x, getO id Or = some (g, x) → id ∈ d.vis ∧ id < d.nid ∧ x.all (fun j => Nat.blt j d.nid) = true ∧ x ≠ .dead ∧ oD (fun _ => true) r O0 id = some (g, x)
  step : stepA P T (gcOf Kr d.tg) (evalO Kr d.tg) (fun t b x => evalO Kr ((t, b) :: d.tg) x) (lkOf Or d.tg) d.nid o.op (fun e => e = d.eff)
  fit : effFit d.tg (oD (fun _ => true) r O0) d.eff
  put : ∀ n, d.dst = some n → n < N ∧ inTags n d.tg = false ∧ (∀ s g av, K0 s = some (g, av) → inTags n g = false) ∧ (∀ id g x, O0 id = some (g, x) → inTags n g = false)
  bits : ∀ D : Nat → Bool, (∀ e ∈ o.after.toList, Region.binds .any e = true → D e.on = true) → (∀ e ∈ r, D e.ix = true → ∀ i, tbL e.bits i = true → D i = true) → ∀ i, tbL d.bits i = true → D i = true
  back : ∀ e ∈ o.after.toList, Region.binds .any e = true → e.on < d.ix
  noset : notSet d.eff = true
  killv : ∀ q, effKill d.eff = some q → ∃ g x, getO q Or = some (g, x)
  rlt : (effR d.eff).lt (effN d.nid d.eff) = true
  olt : ∀ x ∈ effNew d.eff, x.all (fun j => Nat.blt j (effN d.nid d.eff)) = true
  sep : ∀ e ∈ r, SepP d e
def Facts (P : Program) (T : List (Nat × TI)) (N : Nat) (ops : List Oper) (K0 : KF) (O0 : OF) (n0 : Nat) : List DR → Prop
  | [] => True
  | d :: r => (∃ o Kr Or, Fact P T N ops K0 O0 n0 r d o Kr Or) ∧ Facts P T N ops K0 O0 n0 r

section
variable {P : Program} {T : List (Nat × TI)} {N : Nat} {ops : List Oper} {K0 : KF} {O0 : OF} {n0 : Nat}

theorem Facts.split : ∀ {A : List DR} {d : DR} {r : List DR}, Facts P T N ops K0 O0 n0 (A ++ d :: r) → (∃ o Kr Or, Fact P T N ops K0 O0 n0 r d o Kr Or) ∧ Facts P T N ops K0 O0 n0 r ∧ ∀ e ∈ A, SepP e d
  | [], d, r, h => ⟨h.1, h.2, fun e he => by simp at he⟩
  | e :: A, d, r, h => by
    obtain ⟨h1, h2, h3⟩ := Facts.split h.2
    refine ⟨h1, h2, fun e' he' => ?_⟩
    rcases List.mem_cons.1 he' with rfl | he'
    · obtain ⟨o, Kr, Or, hf⟩ := h.1
      exact hf.sep d (by simp)
    · exact h3 e' he'
theorem Facts.mono : ∀ {A r : List DR}, Facts P T N ops K0 O0 n0 (A ++ r) → Facts P T N ops K0 O0 n0 r
  | [], _, h => h
  | _ :: A, _, h => Facts.mono (A := A) h.2
theorem Facts.ix_lt : ∀ {L : List DR}, Facts P T N ops K0 O0 n0 L → ∀ e ∈ L, e.ix < L.length
  | [], _, e, he => by simp at he
  | d :: r, h, e, he => by
    rcases List.mem_cons.1 he with rfl | he
    · obtain ⟨o, Kr, Or, hf⟩ := h.1
      rw [hf.ix]; simp
    · have := Facts.ix_lt h.2 e he
      simp only [List.length_cons]; omega
theorem Facts.ix_ne {A : List DR} {d : DR} {r : List DR} (h : Facts P T N ops K0 O0 n0 (A ++ d :: r)) : ∀ e ∈ A, e.ix ≠ d.ix := by
  induction A with
  | nil => intro e he; simp at he
  | cons a A ih =>
    intro e he
    rcases List.mem_cons.1 he with rfl | he
    · obtain ⟨o, Kr, Or, hf⟩ := h.1
      have h2 := Facts.ix_lt (Facts.mono (A := A) h.2) d (by simp)
      have h3 : e.ix = (A ++ d :: r).length := hf.ix
      rw [List.length_append] at h3
      omega
    · exact ih h.2 e he
theorem endN_mono : ∀ {A r : List DR}, Facts P T N ops K0 O0 n0 (A ++ r) → endN n0 r ≤ endN n0 (A ++ r) ∧ ∀ e ∈ A, endN n0 r ≤ e.nid
  | [], r, _ => ⟨Nat.le_refl _, fun e he => by simp at he⟩
  | a :: A, r, h => by
    obtain ⟨h1, h2⟩ := endN_mono (A := A) h.2
    obtain ⟨o, Kr, Or, hf⟩ := h.1
    have h3 : a.nid = endN n0 (A ++ r) := hf.nid
    refine ⟨?_, fun e he => ?_⟩
    · show endN n0 r ≤ effN a.nid a.eff
      rw [effN_eq]; omega
    · rcases List.mem_cons.1 he with rfl | he
      · omega
      · exact h2 e he
theorem n0_le : ∀ {L : List DR}, Facts P T N ops K0 O0 n0 L → n0 ≤ endN n0 L
  | [], _ => Nat.le_refl _
  | d :: r, h => by
    have := n0_le h.2
    obtain ⟨o, Kr, Or, hf⟩ := h.1
    have h3 := hf.nid
    show n0 ≤ effN d.nid d.eff
    rw [effN_eq]; omega
theorem nid_le {L : List DR} (h : Facts P T N ops K0 O0 n0 L) : ∀ e ∈ L, effN e.nid e.eff ≤ endN n0 L := by
  intro e he
  obtain ⟨A, r, rfl⟩ := List.append_of_mem he
  exact (endN_mono (A := A) (r := e :: r) h).1

theorem kD_ind {D : Nat → Bool} {R : Tags → AV → Prop} : ∀ {L : List DR}, (∀ s g av, K0 s = some (g, av) → R g av) → (∀ e ∈ L, D e.ix = true → R e.tg (effR e.eff)) → ∀ s g av, kD D L K0 s = some (g, av) → R g av
  | [], hb, _, s, g, av, h => hb s g av h
  | e :: r, hb, hn, s, g, av, h => by
    unfold kD at h
    split at h
    · rename_i hc
      simp only [Option.some.injEq, Prod.mk.injEq] at h
      obtain ⟨rfl, rfl⟩ := h
      exact hn e (by simp) hc.1
    · exact kD_ind hb (fun e he => hn e (List.mem_cons_of_mem _ he)) s g av h
theorem oD_ind {D : Nat → Bool} {R : Tags → AO → Prop} (hdead : ∀ g x, R g x → R g .dead) : ∀ {L : List DR}, (∀ e ∈ L, notSet e.eff = true) → (∀ s g av, O0 s = some (g, av) → R g av) → (∀ e ∈ L, D e.ix = true → ∀ x ∈ effNew e.eff, R e.tg x) →
    ∀ s g av, oD D L O0 s = some (g, av) → R g av
  | [], _, hb, _, s, g, av, h => hb s g av h
  | e :: r, hset, hb, hn, s, g, av, h => by
    have ih := oD_ind hdead (L := r) (fun e he => hset e (List.mem_cons_of_mem _ he)) hb (fun e he => hn e (List.mem_cons_of_mem _ he))
    unfold oD at h
    split at h
    · rename_i hc
      have hn := hn e (by simp) hc
      have hs := hset e (by simp)
      cases he : e.eff with
      | ext os rr =>
        rw [he] at h hn
        simp only [effO] at h
        split at h
        · obtain ⟨rfl, h2⟩ := getElem?_map_some h
          exact hn av (List.mem_of_getElem? h2)
        · exact ih s g av h
      | set i o rr => rw [he] at hs; cases hs
      | app i o rr =>
        rw [he] at h hn
        simp only [effO] at h
        split at h
        · simp only [Option.some.injEq, Prod.mk.injEq] at h
          obtain ⟨rfl, rfl⟩ := h
          exact hn o (by simp [effNew])
        · split at h
          · rename_i hsi
            subst hsi
            cases ho : oD D r O0 s with
            | none => rw [ho] at h; cases h
            | some p =>
              rw [ho] at h
              simp only [Option.map_some, Option.some.injEq, Prod.mk.injEq] at h
              obtain ⟨rfl, rfl⟩ := h
              exact hdead _ _ (ih s p.1 p.2 ho)
          · exact ih s g av h
    · exact ih s g av h
theorem oD_dom {D : Nat → Bool} : ∀ {L : List DR}, (∀ e ∈ L, notSet e.eff = true) → ∀ s g av, oD D L O0 s = some (g, av) → (∃ p, O0 s = some p) ∨ ∃ e ∈ L, D e.ix = true ∧ crB e s = true
  | [], _, s, g, av, h => .inl ⟨_, h⟩
  | e :: r, hset, s, g, av, h => by
    have ih := oD_dom (D := D) (L := r) (fun e he => hset e (List.mem_cons_of_mem _ he))
    have up : ∀ g av, oD D r O0 s = some (g, av) → (∃ p, O0 s = some p) ∨ ∃ e' ∈ e :: r, D e'.ix = true ∧ crB e' s = true := fun g av h => by
      rcases ih s g av h with h | ⟨e', h1, h2⟩
      · exact .inl h
      · exact .inr ⟨e', List.mem_cons_of_mem _ h1, h2⟩
    unfold oD at h
    split at h
    · rename_i hc
      have hs := hset e (by simp)
      cases he : e.eff with
      | ext os rr =>
        rw [he] at h
        simp only [effO] at h
        split at h
        · rename_i hle
          obtain ⟨rfl, h2⟩ := getElem?_map_some h
          have := (List.getElem?_eq_some_iff.1 h2).1
          exact .inr ⟨e, by simp, hc, crB_iff.2 ⟨hle, by rw [he]; simp only [effN]; omega⟩⟩
        · exact up g av h
      | set i o rr => rw [he] at hs; cases hs
      | app i o rr =>
        rw [he] at h
        simp only [effO] at h
        split at h
        · rename_i heq
          exact .inr ⟨e, by simp, hc, crB_iff.2 ⟨by omega, by rw [he]; simp only [effN]; omega⟩⟩
        · split at h
          · rename_i hsi
            subst hsi
            cases ho : oD D r O0 s with
            | none => rw [ho] at h; cases h
            | some p => exact up p.1 p.2 ho
          · exact up g av h
    · exact up g av h
theorem Facts.sets {L : List DR} (h : Facts P T N ops K0 O0 n0 L) : ∀ e ∈ L, notSet e.eff = true := by
  intro e he
  obtain ⟨A, r, rfl⟩ := List.append_of_mem he
  obtain ⟨⟨o, Kr, Or, hf⟩, _⟩ := Facts.split h
  exact hf.noset
theorem oD_lt {D : Nat → Bool} {L : List DR} (h : Facts P T N ops K0 O0 n0 L) (hO : ∀ id g x, O0 id = some (g, x) → id < n0) : ∀ s g av, oD D L O0 s = some (g, av) → s < endN n0 L := by
  intro s g av hs
  rcases oD_dom h.sets s g av hs with ⟨p, hp⟩ | ⟨e, he, _, hc⟩
  · exact Nat.lt_of_lt_of_le (hO s p.1 p.2 hp) (n0_le h)
  · exact Nat.lt_of_lt_of_le (crB_iff.1 hc).2 (nid_le h e he)

theorem kD_congr {D D' : Nat → Bool} : ∀ {L : List DR}, (∀ e ∈ L, D e.ix = D' e.ix) → kD D L K0 = kD D' L K0
  | [], _ => rfl
  | e :: r, h => by
    funext s
    simp only [kD]
    rw [h e (by simp), kD_congr (L := r) fun e he => h e (List.mem_cons_of_mem _ he)]
theorem oD_congr {D D' : Nat → Bool} : ∀ {L : List DR}, (∀ e ∈ L, D e.ix = D' e.ix) → oD D L O0 = oD D' L O0
  | [], _ => rfl
  | e :: r, h => by
    simp only [oD]
    rw [h e (by simp), oD_congr (L := r) fun e he => h e (List.mem_cons_of_mem _ he)]
theorem kD_skip {D : Nat → Bool} {s : Nat} {r : List DR} : ∀ {A : List DR}, (∀ e ∈ A, D e.ix = true → e.dst ≠ some s) → kD D (A ++ r) K0 s = kD D r K0 s
  | [], _ => rfl
  | e :: A, h => by
    simp only [List.cons_append, kD]
    rw [if_neg (fun hc => h e (by simp) hc.1 hc.2)]
    exact kD_skip (A := A) fun e he => h e (List.mem_cons_of_mem _ he)
theorem kD_eq {D D' : Nat → Bool} {s : Nat} : ∀ {r : List DR}, (∀ e ∈ r, e.dst = some s → D e.ix = D' e.ix) → kD D r K0 s = kD D' r K0 s
  | [], _ => rfl
  | e :: r, h => by
    simp only [kD]
    rw [kD_eq (r := r) fun e he => h e (List.mem_cons_of_mem _ he)]
    by_cases hd : e.dst = some s
    · rw [h e (by simp) hd]
    · simp [hd]
theorem kD_add {D : Nat → Bool} {d : DR} {r : List DR} : ∀ {A : List DR}, (∀ e ∈ A, e.ix ≠ d.ix) → (∀ e ∈ r, e.ix ≠ d.ix) → D d.ix = false → (∀ e ∈ A, SepP e d) →
    kD (fun i => if i = d.ix then true else D i) (A ++ d :: r) K0 = fun s => if d.dst = some s then some (d.tg, effR d.eff) else kD D (A ++ d :: r) K0 s
  | [], _, hr, hD, _ => by
    funext s
    simp only [List.nil_append, kD, if_true, true_and, hD, Bool.false_eq_true, false_and, if_false]
    rw [kD_congr (L := r) (D' := D) fun e he => by simp [hr e he]]
  | e :: A, hA, hr, hD, hs => by
    funext s
    have ih := kD_add (A := A) (fun e he => hA e (List.mem_cons_of_mem _ he)) hr hD (fun e he => hs e (List.mem_cons_of_mem _ he))
    simp only [List.cons_append, kD, ih, if_neg (hA e (by simp))]
    by_cases h1 : D e.ix = true ∧ e.dst = some s
    · rw [if_pos h1, if_pos h1, if_neg]
      exact fun h2 => (hs e (by simp)).dst s h1.2 h2
    · rw [if_neg h1, if_neg h1]
theorem oD_add {D : Nat → Bool} {d : DR} {r : List DR} (hO : ∀ id g x, O0 id = some (g, x) → id < n0) (hq : ∀ q, effKill d.eff = some q → q < d.nid) : ∀ {A : List DR}, Facts P T N ops K0 O0 n0 (A ++ d :: r) → (∀ e ∈ A, e.ix ≠ d.ix) → (∀ e ∈ r, e.ix ≠ d.ix) → D d.ix = false →
    (∀ e ∈ A, D e.ix = true → ∀ q, effKill e.eff = some q → crB d q = false ∧ q < e.nid) → (∀ e ∈ A, SepP e d) →
    oD (fun i => if i = d.ix then true else D i) (A ++ d :: r) O0 = upO d.tg d.nid (oD D (A ++ d :: r) O0) d.eff
  | [], hF, _, hr, hD, _, _ => by
    have hset := hF.sets d (by simp)
    simp only [List.nil_append, oD, if_true, hD, Bool.false_eq_true, if_false]
    rw [oD_congr (L := r) (D' := D) fun e he => by simp [hr e he]]
    obtain ⟨o, Kr, Or, hf⟩ := hF.1
    funext id
    cases he : d.eff with
    | ext os rr =>
      simp only [effO, upO]
      by_cases h1 : d.nid ≤ id
      · by_cases h2 : id < d.nid + os.length
        · rw [if_pos h1, if_pos ⟨h1, h2⟩]
        · rw [if_pos h1, if_neg (fun h => h2 h.2)]
          have : os[id - d.nid]? = none := List.getElem?_eq_none (by omega)
          rw [this]
          cases ho : oD D r O0 id with
          | none => rfl
          | some p =>
            have := oD_lt hF.2 hO id p.1 p.2 ho
            rw [← hf.nid] at this
            omega
      · rw [if_neg h1, if_neg (fun h => h1 h.1)]
    | set i o rr => rw [he] at hset; cases hset
    | app i o rr => rfl
  | e :: A, hF, hA, hr, hD, hk, hs => by
    have ih := oD_add hO hq (A := A) hF.2 (fun e he => hA e (List.mem_cons_of_mem _ he)) hr hD (fun e he => hk e (List.mem_cons_of_mem _ he)) (fun e he => hs e (List.mem_cons_of_mem _ he))
    have hsete := hF.sets e (by simp)
    have hsetd := hF.sets d (by simp)
    have hle : effN d.nid d.eff ≤ e.nid := (endN_mono (A := e :: A) (r := d :: r) hF).2 e (by simp)
    have hke := hk e (by simp)
    have hse := hs e (by simp)
    simp only [List.cons_append, oD, ih, if_neg (hA e (by simp))]
    generalize oD D (A ++ d :: r) O0 = X
    by_cases h1 : D e.ix = true
    · rw [if_pos h1, if_pos h1]
      have hke := hke h1
      have hkk := hse.kill
      funext id
      cases he : e.eff with
      | set i o rr => rw [he] at hsete; cases hsete
      | ext os rr =>
        cases hd : d.eff with
        | set i o rr => rw [hd] at hsetd; cases hsetd
        | ext os' rr' =>
          rw [hd] at hle
          simp only [effN] at hle
          simp only [effO, upO]
          split <;> split <;> first | rfl | omega
        | app i' o' rr' =>
          rw [hd] at hle hq
          have hq := hq i' rfl
          simp only [effN] at hle
          simp only [effO, upO]
          repeat' split
          all_goals first | rfl | omega
      | app i o rr =>
        rw [he] at hke hkk
        obtain ⟨hk1, hk2⟩ := hke i rfl
        have hkk := hkk i rfl
        have hk3 : ¬ (d.nid ≤ i ∧ i < effN d.nid d.eff) := fun h => by rw [crB_iff.2 h] at hk1; cases hk1
        cases hd : d.eff with
        | set i o rr => rw [hd] at hsetd; cases hsetd
        | ext os' rr' =>
          rw [hd] at hle hk3
          simp only [effN] at hle hk3
          simp only [effO, upO]
          by_cases h2 : id = e.nid
          · rw [if_pos h2, if_neg (by omega), if_pos h2]
          · rw [if_neg h2, if_neg h2]
            by_cases h3 : id = i
            · subst h3
              rw [if_pos rfl, if_neg hk3, if_neg hk3, if_pos rfl]
            · rw [if_neg h3, if_neg h3]
        | app i' o' rr' =>
          rw [hd] at hle hq hk3 hkk
          have hq := hq i' rfl
          have hne : i' ≠ i := fun h => hkk (by simp [effKill, h])
          simp only [effN] at hle hk3
          simp only [effO, upO]
          by_cases h2 : id = e.nid
          · rw [if_pos h2, if_neg (by omega), if_neg (by omega), if_pos h2]
          · rw [if_neg h2, if_neg h2]
            by_cases h3 : id = i
            · subst h3
              rw [if_pos rfl, if_neg (by omega), if_neg (Ne.symm hne), if_neg (by omega), if_neg (Ne.symm hne), if_pos rfl]
            · rw [if_neg h3, if_neg h3]
              by_cases h4 : id = i'
              · subst h4
                have h5 : id ≠ d.nid := by omega
                simp [h5, h2, h3]
              · rw [if_neg h4, if_neg h4]
    · rw [if_neg h1, if_neg h1]

/-- What is seen is what is there. -/
theorem visK {D : Nat → Bool} {A r : List DR} {d : DR} (hF : Facts P T N ops K0 O0 n0 (A ++ d :: r)) (hcl : ∀ e ∈ A ++ d :: r, D e.ix = true → ∀ i, tbL e.bits i = true → D i = true) (hD : D d.ix = false) (hb : ∀ i, tbL d.bits i = true → D i = true)
    {s : Nat} (hs : s ∈ d.reads) : kD D (A ++ d :: r) K0 s = kD (fun _ => true) r K0 s := by
  obtain ⟨⟨o, Kr, Or, hf⟩, _, hA⟩ := hF.split
  rw [kD_skip (A := A) fun e he hDe hds => ?_]
  · simp only [kD]
    rw [if_neg (by simp [hD])]
    refine kD_eq fun e he hds => ?_
    rcases (hf.sep e he).dep with h | h
    · exact hb _ h
    · exact (h.r1 s hds hs).elim
  · rcases (hA e he).dep with h | h
    · have := hcl e (List.mem_append_left _ he) hDe _ h
      rw [hD] at this
      cases this
    · exact h.r2 s hds hs
theorem visO_in {D : Nat → Bool} {d : DR} {q : Nat} {g : Tags} {x : AO} (hx : x ≠ .dead) (hb : ∀ i, tbL d.bits i = true → D i = true) (hv : q ∈ d.vis) : ∀ {r : List DR}, Facts P T N ops K0 O0 n0 r → (∀ e ∈ r, SepP d e) → q < endN n0 r →
    oD (fun _ => true) r O0 q = some (g, x) → oD D r O0 q = some (g, x)
  | [], _, _, _, h => h
  | e :: r, hF, hsep, hq, h => by
    obtain ⟨o, Kr, Or, hf⟩ := hF.1
    have hset := hf.noset
    have hse := hsep e (by simp)
    simp only [oD, if_true] at h
    simp only [endN] at hq
    have ih := visO_in (g := g) hx hb hv (r := r) hF.2 (fun e he => hsep e (List.mem_cons_of_mem _ he))
    have hn := hf.nid
    by_cases hc : crB e q = true
    · have hDe : D e.ix = true := by
        rcases hse.dep with h | h
        · exact hb _ h
        · have := h.v q hv
          rw [hc] at this
          cases this
      have hc' := crB_iff.1 hc
      simp only [oD, hDe, if_true]
      cases he : e.eff with
      | set i o rr => rw [he] at hset; cases hset
      | ext os rr =>
        rw [he] at h
        simp only [effO, if_pos hc'.1] at h ⊢
        exact h
      | app i o rr =>
        rw [he] at h hc'
        simp only [effN] at hc'
        have heq : q = e.nid := by omega
        simp only [effO, if_pos heq] at h ⊢
        exact h
    · have hlt : q < e.nid := Nat.lt_of_not_le fun h => hc (crB_iff.2 ⟨h, hq⟩)
      have hstay : ∀ X : OF, (X q = some (g, x) → effO e.tg e.nid X e.eff q = some (g, x)) ∧ (effO e.tg e.nid X e.eff q = some (g, x) → X q = some (g, x)) ∨ effKill e.eff = some q := by
        intro X
        cases he : e.eff with
        | set i o rr => rw [he] at hset; cases hset
        | ext os rr => simp only [effO]; rw [if_neg (by omega)]; exact .inl ⟨id, id⟩
        | app i o rr =>
          by_cases hi : q = i
          · exact .inr (by simp [effKill, hi])
          · simp only [effO]; rw [if_neg (by omega), if_neg hi]; exact .inl ⟨id, id⟩
      rcases hstay (oD (fun _ => true) r O0) with h1 | h1
      · have h2 := ih (by rw [← hn]; exact hlt) (h1.2 h)
        simp only [oD]
        split
        · rcases hstay (oD D r O0) with h3 | h3
          · exact h3.1 h2
          · cases he : e.eff with
            | set i o rr => rw [he] at hset; cases hset
            | ext os rr => rw [he] at h3; simp [effKill] at h3
            | app i o rr =>
              rw [he] at h3 h
              simp only [effKill, Option.some.injEq] at h3
              subst h3
              simp only [effO] at h
              rw [if_neg (by omega), if_pos trivial] at h
              cases ho : oD (fun _ => true) r O0 i with
              | none => rw [ho] at h; cases h
              | some p => rw [ho] at h; simp at h; exact (hx h.2.symm).elim
        · exact h2
      · cases he : e.eff with
        | set i o rr => rw [he] at hset; cases hset
        | ext os rr => rw [he] at h1; simp [effKill] at h1
        | app i o rr =>
          rw [he] at h1 h
          simp only [effKill, Option.some.injEq] at h1
          subst h1
          simp only [effO] at h
          rw [if_neg (by omega), if_pos trivial] at h
          cases ho : oD (fun _ => true) r O0 i with
          | none => rw [ho] at h; cases h
          | some p => rw [ho] at h; simp at h; exact (hx h.2.symm).elim
theorem visO {D : Nat → Bool} {A r : List DR} {d : DR} (hF : Facts P T N ops K0 O0 n0 (A ++ d :: r)) (hcl : ∀ e ∈ A ++ d :: r, D e.ix = true → ∀ i, tbL e.bits i = true → D i = true) (hD : D d.ix = false) (hb : ∀ i, tbL d.bits i = true → D i = true)
    {q : Nat} {g : Tags} {x : AO} (hx : x ≠ .dead) (hv : q ∈ d.vis) (hq : q < d.nid) (h : oD (fun _ => true) r O0 q = some (g, x)) : oD D (A ++ d :: r) O0 q = some (g, x) := by
  obtain ⟨⟨o, Kr, Or, hf⟩, hFr, hAA⟩ := hF.split
  clear hAA
  have h1 := visO_in hx hb hv hFr hf.sep (by rw [← hf.nid]; exact hq) h
  induction A with
  | nil => simp only [List.nil_append, oD, hD, Bool.false_eq_true, if_false]; exact h1
  | cons e A ih =>
    have ih := ih hF.2 (fun e he => hcl e (List.mem_cons_of_mem _ he))
    simp only [List.cons_append, oD]
    split
    · rename_i hDe
      have hset := hF.sets e (by simp)
      have hle : effN d.nid d.eff ≤ e.nid := (endN_mono (A := e :: A) (r := d :: r) hF).2 e (by simp)
      rw [effN_eq] at hle
      obtain ⟨_, _, hA⟩ := Facts.split (A := e :: A) hF
      cases he : e.eff with
      | set i o rr => rw [he] at hset; cases hset
      | ext os rr => simp only [effO]; rw [if_neg (by omega)]; exact ih
      | app i o rr =>
        simp only [effO]
        rw [if_neg (by omega), if_neg]
        · exact ih
        · rintro rfl
          rcases (hA e (by simp)).dep with h | h
          · have := hcl e (by simp) hDe _ h
            rw [hD] at this
            cases this
          · exact h.k q (by simp [he, effKill]) hv
    · exact ih
end
end Go.Eng
