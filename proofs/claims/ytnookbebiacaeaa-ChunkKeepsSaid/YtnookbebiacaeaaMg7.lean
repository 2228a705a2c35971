/-
  Several texts in one: Eng11b, Eng11c.
-/
import Derived.Orders
import Derived.Test.YtnookbebiacaeaaMg6

section
namespace Go.Eng
open Go.RowKit
structure DR where
 dst : Option Nat
 tg : Tags
 eff : Eff
 nid : Nat
 ix : Nat
 bits : List Bool
 reads : List Nat
 vis : List Nat
def tbL : List Bool → Nat → Bool
 | [], _ => false
 | b :: _, 0 => b
 | _ :: r, n + 1 => tbL r n
def orL : List Bool → List Bool → List Bool
 | [], b => b
 | a :: r, [] => a :: r
 | a :: r, b :: s => (a || b) :: orL r s
theorem tbL_orL : ∀ (a b : List Bool) (i : Nat), tbL (orL a b) i = (tbL a i || tbL b i)
 | [], b, i => by simp [orL, tbL]
 | a :: r, [], i => by simp [orL, tbL]
 | a :: r, b :: s, 0 => by simp [orL, tbL]
 | a :: r, b :: s, i + 1 => by simp [orL, tbL, tbL_orL r s i]
def oneL : Nat → List Bool
 | 0 => [true]
 | n + 1 => false :: oneL n
theorem tbL_oneL : ∀ n i : Nat, tbL (oneL n) i = true → i = n
 | 0, 0, _ => rfl
 | 0, i + 1, h => by simp [oneL, tbL] at h
 | n + 1, 0, h => by simp [oneL, tbL] at h
 | n + 1, i + 1, h => by simp [oneL, tbL] at h; rw [tbL_oneL n i h]
def orK : List Bool → List Bool → (List Bool → Prop) → Prop
 | [], b, k => k b
 | a :: r, [], k => k (a :: r)
 | true :: r, _ :: s, k => orK r s fun l => k (true :: l)
 | false :: r, true :: s, k => orK r s fun l => k (true :: l)
 | false :: r, false :: s, k => orK r s fun l => k (false :: l)
theorem orK_iff : ∀ {a b : List Bool} {k : List Bool → Prop}, orK a b k → k (orL a b)
 | [], b, k, h => by simpa [orK, orL] using h
 | a :: r, [], k, h => by simpa [orK, orL] using h
 | true :: r, _ :: s, k, h => by simpa [orL] using orK_iff (a := r) (b := s) (by simpa [orK] using h)
 | false :: r, true :: s, k, h => by simpa [orL] using orK_iff (a := r) (b := s) (by simpa [orK] using h)
 | false :: r, false :: s, k, h => by simpa [orL] using orK_iff (a := r) (b := s) (by simpa [orK] using h)
def oneK : Nat → (List Bool → Prop) → Prop
 | 0, k => k [true]
 | n + 1, k => oneK n fun l => k (false :: l)
theorem oneK_iff : ∀ {n : Nat} {k : List Bool → Prop}, oneK n k → k (oneL n)
 | 0, _, h => h
 | n + 1, _, h => oneK_iff (n := n) h
def bitsAt : List DR → Nat → List Bool
 | [], _ => []
 | d :: r, j => match Nat.beq d.ix j with
  | true => d.bits
  | false => bitsAt r j
theorem bitsAt_mem : ∀ {L : List DR} {j i : Nat}, tbL (bitsAt L j) i = true → ∃ d ∈ L, d.ix = j ∧ tbL d.bits i = true
 | [], j, i, h => by simp [bitsAt, tbL] at h
 | d :: r, j, i, h => by
  unfold bitsAt at h
  split at h
  ·rename_i hb
   exact ⟨d, by simp, by simpa using hb, h⟩
  ·obtain ⟨e, he, h1, h2⟩ := bitsAt_mem h
   exact ⟨e, List.mem_cons_of_mem _ he, h1, h2⟩
def edgesK (L : List DR) : List Edge → List Bool → (List Bool → Prop) → Prop
 | [], b, k => k b
 | e :: r, b, k => match Region.binds .any e with
  | true => (match tbL b e.on with
   | true => edgesK L r b k
   | false => oneK e.on fun x => orK x (bitsAt L e.on) fun z => orK z b fun b' => edgesK L r b' k)
  | false => edgesK L r b k
theorem edgesK_iff {L : List DR} : ∀ {es : List Edge} {b : List Bool} {k : List Bool → Prop}, edgesK L es b k →
  ∃ b', k b' ∧ ∀ D : Nat → Bool, (∀ e ∈ es, Region.binds .any e = true → D e.on = true) → (∀ e ∈ L, D e.ix = true → ∀ i, tbL e.bits i = true → D i = true) →
   (∀ i, tbL b i = true → D i = true) → ∀ i, tbL b' i = true → D i = true
 | [], b, k, h => ⟨b, h, fun _ _ _ h => h⟩
 | e :: r, b, k, h => by
  unfold edgesK at h
  split at h
  ·rename_i hb
   split at h
   ·obtain ⟨b', hk, hD⟩ := edgesK_iff h
    exact ⟨b', hk, fun D h1 h2 h3 => hD D (fun e he => h1 e (List.mem_cons_of_mem _ he)) h2 h3⟩
   ·obtain ⟨b', hk, hD⟩ := edgesK_iff (orK_iff (orK_iff (oneK_iff h)))
    refine ⟨b', hk, fun D h1 h2 h3 => hD D (fun e he => h1 e (List.mem_cons_of_mem _ he)) h2 fun i hi => ?_⟩
    rw [tbL_orL, tbL_orL] at hi
    simp only [Bool.or_eq_true] at hi
    rcases hi with (hi | hi) | hi
    ·rw [tbL_oneL _ _ hi]
     exact h1 e (by simp) hb
    ·obtain ⟨d, hd, h4, h5⟩ := bitsAt_mem hi
     exact h2 d hd (by rw [h4]; exact h1 e (by simp) hb) i h5
    ·exact h3 i hi
  ·obtain ⟨b', hk, hD⟩ := edgesK_iff h
   exact ⟨b', hk, fun D h1 h2 h3 => hD D (fun e he => h1 e (List.mem_cons_of_mem _ he)) h2 h3⟩
def backB (n : Nat) : List Edge → Bool
 | [] => true
 | e :: r => match Region.binds .any e with
  | true => (match Nat.blt e.on n with
   | true => backB n r
   | false => false)
  | false => backB n r
theorem backB_iff {n : Nat} : ∀ {es : List Edge}, backB n es = true → ∀ e ∈ es, Region.binds .any e = true → e.on < n
 | [], _, e, he, _ => by simp at he
 | d :: r, h, e, he, hb => by
  unfold backB at h
  rcases List.mem_cons.1 he with rfl | he
  ·rw [hb] at h
   simp only at h
   split at h
   ·rename_i hl
    exact blt_lt hl
   ·cases h
  ·split at h
   ·split at h
    ·exact backB_iff h e he hb
    ·cases h
   ·exact backB_iff h e he hb
def memN (s : Nat) : List Nat → Bool
 | [] => false
 | t :: r => match Nat.beq s t with
  | true => true
  | false => memN s r
theorem memN_false {s : Nat} : ∀ {l : List Nat}, memN s l = false → s ∉ l
 | [], _ => by simp
 | t :: r, h => by
  unfold memN at h
  split at h
  ·cases h
  ·rename_i hb
   have h2 := memN_false h
   intro hm
   rcases List.mem_cons.1 hm with rfl | hm
   ·simp at hb
   ·exact h2 hm
def memO : Option Nat → List Nat → Bool
 | none, _ => false
 | some s, l => memN s l
theorem memO_false {o : Option Nat} {l : List Nat} (h : memO o l = false) : ∀ s, o = some s → s ∉ l := by
 rintro s rfl
 exact memN_false h
def inTagsO : Option Nat → Tags → Bool
 | none, _ => false
 | some s, l => inTags s l
theorem inTagsO_false {o : Option Nat} {l : Tags} (h : inTagsO o l = false) : ∀ s, o = some s → inTags s l = false := by
 rintro s rfl
 exact h
def sameO : Option Nat → Option Nat → Bool
 | some s, some t => Nat.beq s t
 | _, _ => false
theorem sameO_false {x y : Option Nat} (h : sameO x y = false) : ∀ s, x = some s → y ≠ some s := by
 rintro s rfl rfl
 simp [sameO] at h
def crB (d : DR) (id : Nat) : Bool :=
 match Nat.ble d.nid id with
 | true => Nat.blt id (effN d.nid d.eff)
 | false => false
theorem crB_iff {d : DR} {id : Nat} : crB d id = true ↔ d.nid ≤ id ∧ id < effN d.nid d.eff := by
 unfold crB
 cases h : Nat.ble d.nid id with
 | true => simp only [Nat.ble_eq] at h; simp [h, Nat.blt_eq]
 | false =>
  have : ¬ d.nid ≤ id := fun h' => by rw [← Nat.ble_eq, h] at h'; cases h'
  simp [this]
def outB (d : DR) (id : Nat) : Bool :=
 match crB d id with
 | true => false
 | false => true
theorem outB_iff {d : DR} {id : Nat} : outB d id = true ↔ crB d id = false := by
 unfold outB
 cases crB d id <;> simp
def noneIn (d : DR) : List Nat → Bool
 | [] => true
 | q :: r => match crB d q with
  | true => false
  | false => noneIn d r
theorem noneIn_iff {d : DR} : ∀ {l : List Nat}, noneIn d l = true → ∀ q ∈ l, crB d q = false
 | [], _, q, hq => by simp at hq
 | t :: r, h, q, hq => by
  unfold noneIn at h
  split at h
  ·cases h
  ·rename_i hb
   rcases List.mem_cons.1 hq with rfl | hq
   ·exact hb
   ·exact noneIn_iff h q hq
def AOsAll (f : Nat → Bool) : List AO → Bool
 | [] => true
 | o :: r => match AO.all f o with
  | true => AOsAll f r
  | false => false
theorem AOsAll_iff {f : Nat → Bool} : ∀ {l : List AO}, AOsAll f l = true → ∀ o ∈ l, AO.all f o = true
 | [], _, q, hq => by simp at hq
 | t :: r, h, q, hq => by
  unfold AOsAll at h
  split at h
  ·rename_i hb
   rcases List.mem_cons.1 hq with rfl | hq
   ·exact hb
   ·exact AOsAll_iff h q hq
  ·cases h
structure IndP (d e : DR) : Prop where
 r1 : ∀ s, e.dst = some s → s ∉ d.reads
 r2 : ∀ s, d.dst = some s → s ∉ e.reads
 t : ∀ s, e.dst = some s → inTags s d.tg = false
 v : ∀ q ∈ d.vis, crB e q = false
 k : ∀ q, effKill d.eff = some q → q ∉ e.vis
 n1 : AV.all (outB e) (effR d.eff) = true
 n2 : ∀ o ∈ effNew d.eff, AO.all (outB e) o = true
structure SepP (d e : DR) : Prop where
 dst : ∀ s, d.dst = some s → e.dst ≠ some s
 tag : ∀ s, d.dst = some s → inTags s e.tg = false
 kill : ∀ q, effKill d.eff = some q → effKill e.eff ≠ some q
 dep : tbL d.bits e.ix = true ∨ IndP d e
def indB (d e : DR) : Bool :=
 match memO e.dst d.reads, memO d.dst e.reads, inTagsO e.dst d.tg, noneIn e d.vis, memO (effKill d.eff) e.vis with
 | false, false, false, true, false => (match AV.all (outB e) (effR d.eff) with
  | true => AOsAll (outB e) (effNew d.eff)
  | false => false)
 | _, _, _, _, _ => false
theorem indB_iff {d e : DR} (h : indB d e = true) : IndP d e := by
 unfold indB at h
 split at h
 ·rename_i h1 h2 h3 h4 h5
  split at h
  ·rename_i h6
   exact ⟨memO_false h1, memO_false h2, inTagsO_false h3, noneIn_iff h4, memO_false h5, h6, AOsAll_iff h⟩
  ·cases h
 ·cases h
def sepB (d e : DR) : Bool :=
 match sameO d.dst e.dst, inTagsO d.dst e.tg, sameO (effKill d.eff) (effKill e.eff) with
 | false, false, false => (match tbL d.bits e.ix with
  | true => true
  | false => indB d e)
 | _, _, _ => false
theorem sepB_iff {d e : DR} (h : sepB d e = true) : SepP d e := by
 unfold sepB at h
 split at h
 ·rename_i h1 h2 h3
  refine ⟨sameO_false h1, inTagsO_false h2, sameO_false h3, ?_⟩
  split at h
  ·rename_i hb; exact .inl hb
  ·exact .inr (indB_iff h)
 ·cases h
def sepAll (d : DR) : List DR → Bool
 | [] => true
 | e :: r => match sepB d e with
  | true => sepAll d r
  | false => false
theorem sepAll_iff {d : DR} : ∀ {l : List DR}, sepAll d l = true → ∀ e ∈ l, SepP d e
 | [], _, q, hq => by simp at hq
 | t :: r, h, q, hq => by
  unfold sepAll at h
  split at h
  ·rename_i hb
   rcases List.mem_cons.1 hq with rfl | hq
   ·exact sepB_iff hb
   ·exact sepAll_iff h q hq
  ·cases h
def kD (D : Nat → Bool) : List DR → KF → KF
 | [], K => K
 | d :: r, K => fun s => if D d.ix = true ∧ d.dst = some s then some (d.tg, effR d.eff) else kD D r K s
def oD (D : Nat → Bool) : List DR → OF → OF
 | [], O => O
 | d :: r, O => if D d.ix = true then effO d.tg d.nid (oD D r O) d.eff else oD D r O
def endN (n0 : Nat) : List DR → Nat
 | [] => n0
 | d :: _ => effN d.nid d.eff
structure Fact (P : Program) (T : List (Nat × TI)) (N : Nat) (ops : List Oper) (K0 : KF) (O0 : OF) (n0 : Nat) (r : List DR) (d : DR) (o : Oper) (Kr : List KE) (Or : List OE) : Prop where
 op : ops[d.ix]? = some o
 ix : d.ix = r.length
 dst : d.dst = o.dst
 nid : d.nid = endN n0 r
 tg : tagsOf ops Kr o.guard = some d.tg
 kr : ∀ s g av, find s Kr = some (g, av) → s ∈ d.reads ∧ av.lt d.nid = true ∧ kD (fun _ => true) r K0 s = some (g, av)
 or : ∀ id g x, getO id Or = some (g, x) → id ∈ d.vis ∧ id < d.nid ∧ x.all (fun j => Nat.blt j d.nid) = true ∧ x ≠ .dead ∧ oD (fun _ => true) r O0 id = some (g, x)
 step : stepA P T (gcOf Kr d.tg) (evalO Kr d.tg) (fun t b x => evalO Kr ((t, b) :: d.tg) x) (lkOf Or d.tg) d.nid o.op (fun e => e = d.eff)
 fit : effFit d.tg (oD (fun _ => true) r O0) d.eff
 put : ∀ n, d.dst = some n → n < N ∧ inTags n d.tg = false ∧ (∀ s g av, K0 s = some (g, av) → inTags n g = false) ∧ (∀ id g x, O0 id = some (g, x) → inTags n g = false)
 bits : ∀ D : Nat → Bool, (∀ e ∈ o.after.toList, Region.binds .any e = true → D e.on = true) → (∀ e ∈ r, D e.ix = true → ∀ i, tbL e.bits i = true → D i = true) → ∀ i, tbL d.bits i = true → D i = true
 back : ∀ e ∈ o.after.toList, Region.binds .any e = true → e.on < d.ix
 noset : notSet d.eff = true
 killv : ∀ q, effKill d.eff = some q → ∃ g x, getO q Or = some (g, x)
 rlt : (effR d.eff).lt (effN d.nid d.eff) = true
 olt : ∀ x ∈ effNew d.eff, x.all (fun j => Nat.blt j (effN d.nid d.eff)) = true
 sep : ∀ e ∈ r, SepP d e
def Facts (P : Program) (T : List (Nat × TI)) (N : Nat) (ops : List Oper) (K0 : KF) (O0 : OF) (n0 : Nat) : List DR → Prop
 | [] => True
 | d :: r => (∃ o Kr Or, Fact P T N ops K0 O0 n0 r d o Kr Or) ∧ Facts P T N ops K0 O0 n0 r
section
variable {P : Program} {T : List (Nat × TI)} {N : Nat} {ops : List Oper} {K0 : KF} {O0 : OF} {n0 : Nat}
theorem Facts.split : ∀ {A : List DR} {d : DR} {r : List DR}, Facts P T N ops K0 O0 n0 (A ++ d :: r) → (∃ o Kr Or, Fact P T N ops K0 O0 n0 r d o Kr Or) ∧ Facts P T N ops K0 O0 n0 r ∧ ∀ e ∈ A, SepP e d
 | [], d, r, h => ⟨h.1, h.2, fun e he => by simp at he⟩
 | e :: A, d, r, h => by
  obtain ⟨h1, h2, h3⟩ := Facts.split h.2
  refine ⟨h1, h2, fun e' he' => ?_⟩
  rcases List.mem_cons.1 he' with rfl | he'
  ·obtain ⟨o, Kr, Or, hf⟩ := h.1
   exact hf.sep d (by simp)
  ·exact h3 e' he'
theorem Facts.mono : ∀ {A r : List DR}, Facts P T N ops K0 O0 n0 (A ++ r) → Facts P T N ops K0 O0 n0 r
 | [], _, h => h
 | _ :: A, _, h => Facts.mono (A := A) h.2
theorem Facts.ix_lt : ∀ {L : List DR}, Facts P T N ops K0 O0 n0 L → ∀ e ∈ L, e.ix < L.length
 | [], _, e, he => by simp at he
 | d :: r, h, e, he => by
  rcases List.mem_cons.1 he with rfl | he
  ·obtain ⟨o, Kr, Or, hf⟩ := h.1
   rw [hf.ix]; simp
  ·have := Facts.ix_lt h.2 e he
   simp only [List.length_cons]; omega
theorem Facts.ix_ne {A : List DR} {d : DR} {r : List DR} (h : Facts P T N ops K0 O0 n0 (A ++ d :: r)) : ∀ e ∈ A, e.ix ≠ d.ix := by
 induction A with
 | nil => intro e he; simp at he
 | cons a A ih =>
  intro e he
  rcases List.mem_cons.1 he with rfl | he
  ·obtain ⟨o, Kr, Or, hf⟩ := h.1
   have h2 := Facts.ix_lt (Facts.mono (A := A) h.2) d (by simp)
   have h3 : e.ix = (A ++ d :: r).length := hf.ix
   rw [List.length_append] at h3
   omega
  ·exact ih h.2 e he
theorem endN_mono : ∀ {A r : List DR}, Facts P T N ops K0 O0 n0 (A ++ r) → endN n0 r ≤ endN n0 (A ++ r) ∧ ∀ e ∈ A, endN n0 r ≤ e.nid
 | [], r, _ => ⟨Nat.le_refl _, fun e he => by simp at he⟩
 | a :: A, r, h => by
  obtain ⟨h1, h2⟩ := endN_mono (A := A) h.2
  obtain ⟨o, Kr, Or, hf⟩ := h.1
  have h3 : a.nid = endN n0 (A ++ r) := hf.nid
  refine ⟨?_, fun e he => ?_⟩
  ·show endN n0 r ≤ effN a.nid a.eff
   rw [effN_eq]; omega
  ·rcases List.mem_cons.1 he with rfl | he
   ·omega
   ·exact h2 e he
theorem n0_le : ∀ {L : List DR}, Facts P T N ops K0 O0 n0 L → n0 ≤ endN n0 L
 | [], _ => Nat.le_refl _
 | d :: r, h => by
  have := n0_le h.2
  obtain ⟨o, Kr, Or, hf⟩ := h.1
  have h3 := hf.nid
  show n0 ≤ effN d.nid d.eff
  rw [effN_eq]; omega
theorem nid_le {L : List DR} (h : Facts P T N ops K0 O0 n0 L) : ∀ e ∈ L, effN e.nid e.eff ≤ endN n0 L := by
 intro e he
 obtain ⟨A, r, rfl⟩ := List.append_of_mem he
 exact (endN_mono (A := A) (r := e :: r) h).1
theorem kD_ind {D : Nat → Bool} {R : Tags → AV → Prop} : ∀ {L : List DR}, (∀ s g av, K0 s = some (g, av) → R g av) → (∀ e ∈ L, D e.ix = true → R e.tg (effR e.eff)) → ∀ s g av, kD D L K0 s = some (g, av) → R g av
 | [], hb, _, s, g, av, h => hb s g av h
 | e :: r, hb, hn, s, g, av, h => by
  unfold kD at h
  split at h
  ·rename_i hc
   simp only [Option.some.injEq, Prod.mk.injEq] at h
   obtain ⟨rfl, rfl⟩ := h
   exact hn e (by simp) hc.1
  ·exact kD_ind hb (fun e he => hn e (List.mem_cons_of_mem _ he)) s g av h
theorem oD_ind {D : Nat → Bool} {R : Tags → AO → Prop} (hdead : ∀ g x, R g x → R g .dead) : ∀ {L : List DR}, (∀ e ∈ L, notSet e.eff = true) → (∀ s g av, O0 s = some (g, av) → R g av) → (∀ e ∈ L, D e.ix = true → ∀ x ∈ effNew e.eff, R e.tg x) →
  ∀ s g av, oD D L O0 s = some (g, av) → R g av
 | [], _, hb, _, s, g, av, h => hb s g av h
 | e :: r, hset, hb, hn, s, g, av, h => by
  have ih := oD_ind hdead (L := r) (fun e he => hset e (List.mem_cons_of_mem _ he)) hb (fun e he => hn e (List.mem_cons_of_mem _ he))
  unfold oD at h
  split at h
  ·rename_i hc
   have hn := hn e (by simp) hc
   have hs := hset e (by simp)
   cases he : e.eff with
   | ext os rr =>
    rw [he] at h hn
    simp only [effO] at h
    split at h
    ·obtain ⟨rfl, h2⟩ := getElem?_map_some h
     exact hn av (List.mem_of_getElem? h2)
    ·exact ih s g av h
   | set i o rr => rw [he] at hs; cases hs
   | app i o rr =>
    rw [he] at h hn
    simp only [effO] at h
    split at h
    ·simp only [Option.some.injEq, Prod.mk.injEq] at h
     obtain ⟨rfl, rfl⟩ := h
     exact hn o (by simp [effNew])
    ·split at h
     ·rename_i hsi
      subst hsi
      cases ho : oD D r O0 s with
      | none => rw [ho] at h; cases h
      | some p =>
       rw [ho] at h
       simp only [Option.map_some, Option.some.injEq, Prod.mk.injEq] at h
       obtain ⟨rfl, rfl⟩ := h
       exact hdead _ _ (ih s p.1 p.2 ho)
     ·exact ih s g av h
  ·exact ih s g av h
theorem oD_dom {D : Nat → Bool} : ∀ {L : List DR}, (∀ e ∈ L, notSet e.eff = true) → ∀ s g av, oD D L O0 s = some (g, av) → (∃ p, O0 s = some p) ∨ ∃ e ∈ L, D e.ix = true ∧ crB e s = true
 | [], _, s, g, av, h => .inl ⟨_, h⟩
 | e :: r, hset, s, g, av, h => by
  have ih := oD_dom (D := D) (L := r) (fun e he => hset e (List.mem_cons_of_mem _ he))
  have up : ∀ g av, oD D r O0 s = some (g, av) → (∃ p, O0 s = some p) ∨ ∃ e' ∈ e :: r, D e'.ix = true ∧ crB e' s = true := fun g av h => by
   rcases ih s g av h with h | ⟨e', h1, h2⟩
   ·exact .inl h
   ·exact .inr ⟨e', List.mem_cons_of_mem _ h1, h2⟩
  unfold oD at h
  split at h
  ·rename_i hc
   have hs := hset e (by simp)
   cases he : e.eff with
   | ext os rr =>
    rw [he] at h
    simp only [effO] at h
    split at h
    ·rename_i hle
     obtain ⟨rfl, h2⟩ := getElem?_map_some h
     have := (List.getElem?_eq_some_iff.1 h2).1
     exact .inr ⟨e, by simp, hc, crB_iff.2 ⟨hle, by rw [he]; simp only [effN]; omega⟩⟩
    ·exact up g av h
   | set i o rr => rw [he] at hs; cases hs
   | app i o rr =>
    rw [he] at h
    simp only [effO] at h
    split at h
    ·rename_i heq
     exact .inr ⟨e, by simp, hc, crB_iff.2 ⟨by omega, by rw [he]; simp only [effN]; omega⟩⟩
    ·split at h
     ·rename_i hsi
      subst hsi
      cases ho : oD D r O0 s with
      | none => rw [ho] at h; cases h
      | some p => exact up p.1 p.2 ho
     ·exact up g av h
  ·exact up g av h
theorem Facts.sets {L : List DR} (h : Facts P T N ops K0 O0 n0 L) : ∀ e ∈ L, notSet e.eff = true := by
 intro e he
 obtain ⟨A, r, rfl⟩ := List.append_of_mem he
 obtain ⟨⟨o, Kr, Or, hf⟩, _⟩ := Facts.split h
 exact hf.noset
theorem oD_lt {D : Nat → Bool} {L : List DR} (h : Facts P T N ops K0 O0 n0 L) (hO : ∀ id g x, O0 id = some (g, x) → id < n0) : ∀ s g av, oD D L O0 s = some (g, av) → s < endN n0 L := by
 intro s g av hs
 rcases oD_dom h.sets s g av hs with ⟨p, hp⟩ | ⟨e, he, _, hc⟩
 ·exact Nat.lt_of_lt_of_le (hO s p.1 p.2 hp) (n0_le h)
 ·exact Nat.lt_of_lt_of_le (crB_iff.1 hc).2 (nid_le h e he)
theorem kD_congr {D D' : Nat → Bool} : ∀ {L : List DR}, (∀ e ∈ L, D e.ix = D' e.ix) → kD D L K0 = kD D' L K0
 | [], _ => rfl
 | e :: r, h => by
  funext s
  simp only [kD]
  rw [h e (by simp), kD_congr (L := r) fun e he => h e (List.mem_cons_of_mem _ he)]
theorem oD_congr {D D' : Nat → Bool} : ∀ {L : List DR}, (∀ e ∈ L, D e.ix = D' e.ix) → oD D L O0 = oD D' L O0
 | [], _ => rfl
 | e :: r, h => by
  simp only [oD]
  rw [h e (by simp), oD_congr (L := r) fun e he => h e (List.mem_cons_of_mem _ he)]
theorem kD_skip {D : Nat → Bool} {s : Nat} {r : List DR} : ∀ {A : List DR}, (∀ e ∈ A, D e.ix = true → e.dst ≠ some s) → kD D (A ++ r) K0 s = kD D r K0 s
 | [], _ => rfl
 | e :: A, h => by
  simp only [List.cons_append, kD]
  rw [if_neg (fun hc => h e (by simp) hc.1 hc.2)]
  exact kD_skip (A := A) fun e he => h e (List.mem_cons_of_mem _ he)
theorem kD_eq {D D' : Nat → Bool} {s : Nat} : ∀ {r : List DR}, (∀ e ∈ r, e.dst = some s → D e.ix = D' e.ix) → kD D r K0 s = kD D' r K0 s
 | [], _ => rfl
 | e :: r, h => by
  simp only [kD]
  rw [kD_eq (r := r) fun e he => h e (List.mem_cons_of_mem _ he)]
  by_cases hd : e.dst = some s
  ·rw [h e (by simp) hd]
  ·simp [hd]
theorem kD_add {D : Nat → Bool} {d : DR} {r : List DR} : ∀ {A : List DR}, (∀ e ∈ A, e.ix ≠ d.ix) → (∀ e ∈ r, e.ix ≠ d.ix) → D d.ix = false → (∀ e ∈ A, SepP e d) →
  kD (fun i => if i = d.ix then true else D i) (A ++ d :: r) K0 = fun s => if d.dst = some s then some (d.tg, effR d.eff) else kD D (A ++ d :: r) K0 s
 | [], _, hr, hD, _ => by
  funext s
  simp only [List.nil_append, kD, if_true, true_and, hD, Bool.false_eq_true, false_and, if_false]
  rw [kD_congr (L := r) (D' := D) fun e he => by simp [hr e he]]
 | e :: A, hA, hr, hD, hs => by
  funext s
  have ih := kD_add (A := A) (fun e he => hA e (List.mem_cons_of_mem _ he)) hr hD (fun e he => hs e (List.mem_cons_of_mem _ he))
  simp only [List.cons_append, kD, ih, if_neg (hA e (by simp))]
  by_cases h1 : D e.ix = true ∧ e.dst = some s
  ·rw [if_pos h1, if_pos h1, if_neg]
   exact fun h2 => (hs e (by simp)).dst s h1.2 h2
  ·rw [if_neg h1, if_neg h1]
theorem oD_add {D : Nat → Bool} {d : DR} {r : List DR} (hO : ∀ id g x, O0 id = some (g, x) → id < n0) (hq : ∀ q, effKill d.eff = some q → q < d.nid) : ∀ {A : List DR}, Facts P T N ops K0 O0 n0 (A ++ d :: r) → (∀ e ∈ A, e.ix ≠ d.ix) → (∀ e ∈ r, e.ix ≠ d.ix) → D d.ix = false →
  (∀ e ∈ A, D e.ix = true → ∀ q, effKill e.eff = some q → crB d q = false ∧ q < e.nid) → (∀ e ∈ A, SepP e d) →
  oD (fun i => if i = d.ix then true else D i) (A ++ d :: r) O0 = upO d.tg d.nid (oD D (A ++ d :: r) O0) d.eff
 | [], hF, _, hr, hD, _, _ => by
  have hset := hF.sets d (by simp)
  simp only [List.nil_append, oD, if_true, hD, Bool.false_eq_true, if_false]
  rw [oD_congr (L := r) (D' := D) fun e he => by simp [hr e he]]
  obtain ⟨o, Kr, Or, hf⟩ := hF.1
  funext id
  cases he : d.eff with
  | ext os rr =>
   simp only [effO, upO]
   by_cases h1 : d.nid ≤ id
   ·by_cases h2 : id < d.nid + os.length
    ·rw [if_pos h1, if_pos ⟨h1, h2⟩]
    ·rw [if_pos h1, if_neg (fun h => h2 h.2)]
     have : os[id - d.nid]? = none := List.getElem?_eq_none (by omega)
     rw [this]
     cases ho : oD D r O0 id with
     | none => rfl
     | some p =>
      have := oD_lt hF.2 hO id p.1 p.2 ho
      rw [← hf.nid] at this
      omega
   ·rw [if_neg h1, if_neg (fun h => h1 h.1)]
  | set i o rr => rw [he] at hset; cases hset
  | app i o rr => rfl
 | e :: A, hF, hA, hr, hD, hk, hs => by
  have ih := oD_add hO hq (A := A) hF.2 (fun e he => hA e (List.mem_cons_of_mem _ he)) hr hD (fun e he => hk e (List.mem_cons_of_mem _ he)) (fun e he => hs e (List.mem_cons_of_mem _ he))
  have hsete := hF.sets e (by simp)
  have hsetd := hF.sets d (by simp)
  have hle : effN d.nid d.eff ≤ e.nid := (endN_mono (A := e :: A) (r := d :: r) hF).2 e (by simp)
  have hke := hk e (by simp)
  have hse := hs e (by simp)
  simp only [List.cons_append, oD, ih, if_neg (hA e (by simp))]
  generalize oD D (A ++ d :: r) O0 = X
  by_cases h1 : D e.ix = true
  ·rw [if_pos h1, if_pos h1]
   have hke := hke h1
   have hkk := hse.kill
   funext id
   cases he : e.eff with
   | set i o rr => rw [he] at hsete; cases hsete
   | ext os rr =>
    cases hd : d.eff with
    | set i o rr => rw [hd] at hsetd; cases hsetd
    | ext os' rr' =>
     rw [hd] at hle
     simp only [effN] at hle
     simp only [effO, upO]
     split <;> split <;> first | rfl | omega
    | app i' o' rr' =>
     rw [hd] at hle hq
     have hq := hq i' rfl
     simp only [effN] at hle
     simp only [effO, upO]
     repeat' split
     all_goals first | rfl | omega
   | app i o rr =>
    rw [he] at hke hkk
    obtain ⟨hk1, hk2⟩ := hke i rfl
    have hkk := hkk i rfl
    have hk3 : ¬ (d.nid ≤ i ∧ i < effN d.nid d.eff) := fun h => by rw [crB_iff.2 h] at hk1; cases hk1
    cases hd : d.eff with
    | set i o rr => rw [hd] at hsetd; cases hsetd
    | ext os' rr' =>
     rw [hd] at hle hk3
     simp only [effN] at hle hk3
     simp only [effO, upO]
     by_cases h2 : id = e.nid
     ·rw [if_pos h2, if_neg (by omega), if_pos h2]
     ·rw [if_neg h2, if_neg h2]
      by_cases h3 : id = i
      ·subst h3
       rw [if_pos rfl, if_neg hk3, if_neg hk3, if_pos rfl]
      ·rw [if_neg h3, if_neg h3]
    | app i' o' rr' =>
     rw [hd] at hle hq hk3 hkk
     have hq := hq i' rfl
     have hne : i' ≠ i := fun h => hkk (by simp [effKill, h])
     simp only [effN] at hle hk3
     simp only [effO, upO]
     by_cases h2 : id = e.nid
     ·rw [if_pos h2, if_neg (by omega), if_neg (by omega), if_pos h2]
     ·rw [if_neg h2, if_neg h2]
      by_cases h3 : id = i
      ·subst h3
       rw [if_pos rfl, if_neg (by omega), if_neg (Ne.symm hne), if_neg (by omega), if_neg (Ne.symm hne), if_pos rfl]
      ·rw [if_neg h3, if_neg h3]
       by_cases h4 : id = i'
       ·subst h4
        have h5 : id ≠ d.nid := by omega
        simp [h5, h2, h3]
       ·rw [if_neg h4, if_neg h4]
  ·rw [if_neg h1, if_neg h1]
theorem visK {D : Nat → Bool} {A r : List DR} {d : DR} (hF : Facts P T N ops K0 O0 n0 (A ++ d :: r)) (hcl : ∀ e ∈ A ++ d :: r, D e.ix = true → ∀ i, tbL e.bits i = true → D i = true) (hD : D d.ix = false) (hb : ∀ i, tbL d.bits i = true → D i = true)
  {s : Nat} (hs : s ∈ d.reads) : kD D (A ++ d :: r) K0 s = kD (fun _ => true) r K0 s := by
 obtain ⟨⟨o, Kr, Or, hf⟩, _, hA⟩ := hF.split
 rw [kD_skip (A := A) fun e he hDe hds => ?_]
 ·simp only [kD]
  rw [if_neg (by simp [hD])]
  refine kD_eq fun e he hds => ?_
  rcases (hf.sep e he).dep with h | h
  ·exact hb _ h
  ·exact (h.r1 s hds hs).elim
 ·rcases (hA e he).dep with h | h
  ·have := hcl e (List.mem_append_left _ he) hDe _ h
   rw [hD] at this
   cases this
  ·exact h.r2 s hds hs
theorem visO_in {D : Nat → Bool} {d : DR} {q : Nat} {g : Tags} {x : AO} (hx : x ≠ .dead) (hb : ∀ i, tbL d.bits i = true → D i = true) (hv : q ∈ d.vis) : ∀ {r : List DR}, Facts P T N ops K0 O0 n0 r → (∀ e ∈ r, SepP d e) → q < endN n0 r →
  oD (fun _ => true) r O0 q = some (g, x) → oD D r O0 q = some (g, x)
 | [], _, _, _, h => h
 | e :: r, hF, hsep, hq, h => by
  obtain ⟨o, Kr, Or, hf⟩ := hF.1
  have hset := hf.noset
  have hse := hsep e (by simp)
  simp only [oD, if_true] at h
  simp only [endN] at hq
  have ih := visO_in (g := g) hx hb hv (r := r) hF.2 (fun e he => hsep e (List.mem_cons_of_mem _ he))
  have hn := hf.nid
  by_cases hc : crB e q = true
  ·have hDe : D e.ix = true := by
    rcases hse.dep with h | h
    ·exact hb _ h
    ·have := h.v q hv
     rw [hc] at this
     cases this
   have hc' := crB_iff.1 hc
   simp only [oD, hDe, if_true]
   cases he : e.eff with
   | set i o rr => rw [he] at hset; cases hset
   | ext os rr =>
    rw [he] at h
    simp only [effO, if_pos hc'.1] at h ⊢
    exact h
   | app i o rr =>
    rw [he] at h hc'
    simp only [effN] at hc'
    have heq : q = e.nid := by omega
    simp only [effO, if_pos heq] at h ⊢
    exact h
  ·have hlt : q < e.nid := Nat.lt_of_not_le fun h => hc (crB_iff.2 ⟨h, hq⟩)
   have hstay : ∀ X : OF, (X q = some (g, x) → effO e.tg e.nid X e.eff q = some (g, x)) ∧ (effO e.tg e.nid X e.eff q = some (g, x) → X q = some (g, x)) ∨ effKill e.eff = some q := by
    intro X
    cases he : e.eff with
    | set i o rr => rw [he] at hset; cases hset
    | ext os rr => simp only [effO]; rw [if_neg (by omega)]; exact .inl ⟨id, id⟩
    | app i o rr =>
     by_cases hi : q = i
     ·exact .inr (by simp [effKill, hi])
     ·simp only [effO]; rw [if_neg (by omega), if_neg hi]; exact .inl ⟨id, id⟩
   rcases hstay (oD (fun _ => true) r O0) with h1 | h1
   ·have h2 := ih (by rw [← hn]; exact hlt) (h1.2 h)
    simp only [oD]
    split
    ·rcases hstay (oD D r O0) with h3 | h3
     ·exact h3.1 h2
     ·cases he : e.eff with
      | set i o rr => rw [he] at hset; cases hset
      | ext os rr => rw [he] at h3; simp [effKill] at h3
      | app i o rr =>
       rw [he] at h3 h
       simp only [effKill, Option.some.injEq] at h3
       subst h3
       simp only [effO] at h
       rw [if_neg (by omega), if_pos trivial] at h
       cases ho : oD (fun _ => true) r O0 i with
       | none => rw [ho] at h; cases h
       | some p => rw [ho] at h; simp at h; exact (hx h.2.symm).elim
    ·exact h2
   ·cases he : e.eff with
    | set i o rr => rw [he] at hset; cases hset
    | ext os rr => rw [he] at h1; simp [effKill] at h1
    | app i o rr =>
     rw [he] at h1 h
     simp only [effKill, Option.some.injEq] at h1
     subst h1
     simp only [effO] at h
     rw [if_neg (by omega), if_pos trivial] at h
     cases ho : oD (fun _ => true) r O0 i with
     | none => rw [ho] at h; cases h
     | some p => rw [ho] at h; simp at h; exact (hx h.2.symm).elim
theorem visO {D : Nat → Bool} {A r : List DR} {d : DR} (hF : Facts P T N ops K0 O0 n0 (A ++ d :: r)) (hcl : ∀ e ∈ A ++ d :: r, D e.ix = true → ∀ i, tbL e.bits i = true → D i = true) (hD : D d.ix = false) (hb : ∀ i, tbL d.bits i = true → D i = true)
  {q : Nat} {g : Tags} {x : AO} (hx : x ≠ .dead) (hv : q ∈ d.vis) (hq : q < d.nid) (h : oD (fun _ => true) r O0 q = some (g, x)) : oD D (A ++ d :: r) O0 q = some (g, x) := by
 obtain ⟨⟨o, Kr, Or, hf⟩, hFr, hAA⟩ := hF.split
 clear hAA
 have h1 := visO_in hx hb hv hFr hf.sep (by rw [← hf.nid]; exact hq) h
 induction A with
 | nil => simp only [List.nil_append, oD, hD, Bool.false_eq_true, if_false]; exact h1
 | cons e A ih =>
  have ih := ih hF.2 (fun e he => hcl e (List.mem_cons_of_mem _ he))
  simp only [List.cons_append, oD]
  split
  ·rename_i hDe
   have hset := hF.sets e (by simp)
   have hle : effN d.nid d.eff ≤ e.nid := (endN_mono (A := e :: A) (r := d :: r) hF).2 e (by simp)
   rw [effN_eq] at hle
   obtain ⟨_, _, hA⟩ := Facts.split (A := e :: A) hF
   cases he : e.eff with
   | set i o rr => rw [he] at hset; cases hset
   | ext os rr => simp only [effO]; rw [if_neg (by omega)]; exact ih
   | app i o rr =>
    simp only [effO]
    rw [if_neg (by omega), if_neg]
    ·exact ih
    ·rintro rfl
     rcases (hA e (by simp)).dep with h | h
     ·have := hcl e (by simp) hDe _ h
      rw [hD] at this
      cases this
     ·exact h.k q (by simp [he, effKill]) hv
  ·exact ih
end
end Go.Eng
end

section
namespace Go.Eng
open Go.RowKit
def rd1 : Operand → List Nat → List Nat
 | .tmp t, l => t :: l
 | _, l => l
def rdL : List Operand → List Nat → List Nat
 | [], l => l
 | x :: r, l => rd1 x (rdL r l)
def rdP : List (Nat × Operand) → List Nat → List Nat
 | [], l => l
 | (_, x) :: r, l => rd1 x (rdP r l)
def rdO : Option Operand → List Nat → List Nat
 | none, l => l
 | some x, l => rd1 x l
def opReads : Op → List Nat
 | .move x => rd1 x []
 | .assign x => rd1 x []
 | .pick t x y => rd1 t (rd1 x (rd1 y []))
 | .box _ x => rd1 x []
 | .load _ x => rd1 x []
 | .store _ x y => rd1 x (rd1 y [])
 | .nilCheck x => rd1 x []
 | .binOp _ _ x y _ => rd1 x (rd1 y [])
 | .unOp _ _ x => rd1 x []
 | .convert _ _ x => rd1 x []
 | .fieldAddr _ x _ => rd1 x []
 | .field _ x _ => rd1 x []
 | .indexAddr _ x i => rd1 x (rd1 i [])
 | .extract x _ => rd1 x []
 | .lookup _ x i _ => rd1 x (rd1 i [])
 | .mapUpdate _ m x y => rd1 m (rd1 x (rd1 y []))
 | .insert _ m x y => rd1 m (rd1 x (rd1 y []))
 | .range _ x => rd1 x []
 | .entry x => rd1 x []
 | .makeFunc _ _ ⟨caps⟩ => rdL caps []
 | .makeSlice _ l c => rd1 l (rd1 c [])
 | .slice _ x lo hi _ => rd1 x (rdO lo (rdO hi []))
 | .build _ ⟨parts⟩ => rdP parts []
 | .buildSlice _ _ ⟨parts⟩ => rdP parts []
 | .call ⟨.value f, ⟨args⟩, _⟩ => rd1 f (rdL args [])
 | .call ⟨.builtin _, ⟨args⟩, _⟩ => rdL args []
 | _ => []
def tagSlots : Tags → List Nat → List Nat
 | [], l => l
 | (s, _) :: r, l => s :: tagSlots r l
def guardReads (ops : List Oper) (K : List KE) : Option (Nat × Bool) → List Nat → List Nat
 | none, l => l
 | some (j, _), l => (match dstOf ops j with
  | some d => (match find d K with
   | some (g, _) => d :: tagSlots g l
   | none => d :: l)
  | none => l)
def pickK (K : List KE) : List Nat → (List KE → List Nat → Prop) → Prop
 | [], k => k [] []
 | s :: r, k => (match find s K with
  | some (g, av) => pickK K r fun l m => k (⟨s, g, av⟩ :: l) (s :: m)
  | none => pickK K r k)
theorem beq_false_ne {a b : Nat} (h : Nat.beq a b = false) : a ≠ b := by
 rintro rfl
 simp at h
theorem pickK_iff {K : List KE} : ∀ {l : List Nat} {k : List KE → List Nat → Prop}, pickK K l k → ∃ Kr rs, k Kr rs ∧ ∀ s g av, find s Kr = some (g, av) → s ∈ rs ∧ find s K = some (g, av)
 | [], k, h => ⟨[], [], h, fun s g av h => by simp [find] at h⟩
 | t :: r, k, h => by
  unfold pickK at h
  split at h
  ·rename_i g av hf
   obtain ⟨Kr, rs, hk, hr⟩ := pickK_iff h
   refine ⟨_, _, hk, fun s g' av' hs => ?_⟩
   unfold find at hs
   split at hs
   ·rename_i hb
    have hb : t = s := by simpa using hb
    subst hb
    simp only [Option.some.injEq, Prod.mk.injEq] at hs
    obtain ⟨rfl, rfl⟩ := hs
    exact ⟨by simp, hf⟩
   ·exact ⟨List.mem_cons_of_mem _ (hr s g' av' hs).1, (hr s g' av' hs).2⟩
  ·exact pickK_iff h
mutual
def AV.idl : AV → List Nat → List Nat
 | .p id _, l => id :: l
 | .so id, l => id :: l
 | .pe id _ _ _, l => id :: l
 | .mo id, l => id :: l
 | .sv id _ _ _, l => id :: l
 | .sc id _ _ _, l => id :: l
 | .fn _ cs, l => AV.idls cs l
 | .ag cs, l => AV.idls cs l
 | .tup cs, l => AV.idls cs l
 | _, l => l
def AV.idls : List AV → List Nat → List Nat
 | [], l => l
 | c :: r, l => AV.idl c (AV.idls r l)
end
def idsK : List KE → List Nat
 | [] => []
 | ⟨_, _, a⟩ :: r => AV.idl a (idsK r)
def rootsD : Op → List Nat → List Nat
 | .move _, _ => []
 | _, l => l
def fuelD : Op → Nat
 | .load _ _ => 1
 | .nilCheck _ => 1
 | .fieldAddr _ _ _ => 1
 | _ => 200
def reachK (O : List OE) : Nat → List Nat → List OE → List Nat → (List OE → List Nat → Prop) → Prop
 | 0, _, Or, vs, k => k Or vs
 | _ + 1, [], Or, vs, k => k Or vs
 | f + 1, q :: r, Or, vs, k => (match memN q vs with
  | true => reachK O f r Or vs k
  | false => (match getO q O with
   | some (g, .cells e cs) => reachK O f (AV.idls cs r) (⟨q, g, .cells e cs⟩ :: Or) (q :: vs) k
   | some (g, .row e sz n get) => reachK O f r (⟨q, g, .row e sz n get⟩ :: Or) (q :: vs) k
   | some (g, .mp n key val born clock) => reachK O f r (⟨q, g, .mp n key val born clock⟩ :: Or) (q :: vs) k
   | some (g, .mr n key kid born clock aux none) => reachK O f r (⟨q, g, .mr n key kid born clock aux none⟩ :: Or) (q :: vs) k
   | some (g, .mr n key kid born clock aux (some (i, h))) => reachK O f (h :: r) (⟨q, g, .mr n key kid born clock aux (some (i, h))⟩ :: Or) (q :: vs) k
   | _ => reachK O f r Or vs k))
theorem reachK_iff {O : List OE} : ∀ {f : Nat} {l : List Nat} {Or : List OE} {vs : List Nat} {k : List OE → List Nat → Prop}, reachK O f l Or vs k →
  (∀ q g x, getO q Or = some (g, x) → q ∈ vs ∧ x ≠ .dead ∧ getO q O = some (g, x)) →
  ∃ Or' vs', k Or' vs' ∧ ∀ q g x, getO q Or' = some (g, x) → q ∈ vs' ∧ x ≠ .dead ∧ getO q O = some (g, x)
 | 0, _, Or, vs, k, h, hi => ⟨Or, vs, h, hi⟩
 | _ + 1, [], Or, vs, k, h, hi => ⟨Or, vs, h, hi⟩
 | f + 1, q :: r, Or, vs, k, h, hi => by
  have add : ∀ g x, x ≠ .dead → getO q O = some (g, x) → ∀ q' g' x', getO q' (⟨q, g, x⟩ :: Or) = some (g', x') → q' ∈ q :: vs ∧ x' ≠ .dead ∧ getO q' O = some (g', x') := by
   intro g x hx hg q' g' x' h'
   rw [getO_cons] at h'
   split at h'
   ·rename_i he
    subst he
    simp only [Option.some.injEq, Prod.mk.injEq] at h'
    obtain ⟨rfl, rfl⟩ := h'
    exact ⟨by simp, hx, hg⟩
   ·obtain ⟨h1, h2⟩ := hi q' g' x' h'
    exact ⟨List.mem_cons_of_mem _ h1, h2⟩
  unfold reachK at h
  split at h
  ·exact reachK_iff h hi
  ·split at h
   ·rename_i g e cs hg
    exact reachK_iff h (add g _ (by simp) hg)
   ·rename_i g e sz n get hg
    exact reachK_iff h (add g _ (by simp) hg)
   ·rename_i g n key val born clock hg
    exact reachK_iff h (add g _ (by simp) hg)
   ·rename_i g n key kid born clock aux hg
    exact reachK_iff h (add g _ (by simp) hg)
   ·rename_i g n key kid born clock aux i x hg
    exact reachK_iff h (add g _ (by simp) hg)
   ·exact reachK_iff h hi
def allO (f : Nat → Bool) : List OE → Bool
 | [] => true
 | ⟨_, _, x⟩ :: r => match AO.all f x with
  | true => allO f r
  | false => false
theorem allO_get {f : Nat → Bool} : ∀ {O : List OE}, allO f O = true → ∀ q g x, getO q O = some (g, x) → x.all f = true
 | [], _, q, g, x, h => by simp [getO] at h
 | ⟨i, t, y⟩ :: r, hO, q, g, x, h => by
  unfold allO at hO
  split at hO
  ·rename_i hy
   rw [getO_cons] at h
   split at h
   ·simp only [Option.some.injEq, Prod.mk.injEq] at h
    obtain ⟨rfl, rfl⟩ := h
    exact hy
   ·exact allO_get hO q g x h
  ·cases hO
def ltIds (m : Nat) : List OE → Bool
 | [] => true
 | ⟨i, _, _⟩ :: r => match Nat.blt i m with
  | true => ltIds m r
  | false => false
theorem ltIds_get {m : Nat} : ∀ {O : List OE}, ltIds m O = true → ∀ q g x, getO q O = some (g, x) → q < m
 | [], _, q, g, x, h => by simp [getO] at h
 | ⟨i, t, y⟩ :: r, hO, q, g, x, h => by
  unfold ltIds at hO
  split at hO
  ·rename_i hy
   rw [getO_cons] at h
   split at h
   ·rename_i he
    rw [he]
    exact blt_lt hy
   ·exact ltIds_get hO q g x h
  ·cases hO
theorem ltK_get {m : Nat} : ∀ {K : List KE}, ltK m K = true → ∀ s g av, find s K = some (g, av) → av.lt m = true
 | [], _, s, g, av, h => by simp [find] at h
 | ⟨i, t, y⟩ :: r, hK, s, g, av, h => by
  unfold ltK at hK
  split at hK
  ·rename_i hy
   unfold find at h
   split at h
   ·simp only [Option.some.injEq, Prod.mk.injEq] at h
    obtain ⟨rfl, rfl⟩ := h
    exact hy
   ·exact ltK_get hK s g av h
  ·cases hK
def killed (Or : List OE) : Eff → Bool
 | .app i _ _ => (match getO i Or with
  | some _ => true
  | none => false)
 | .ext _ _ => true
 | .set _ _ _ => false
def newLt (m : Nat) (eff : Eff) : Bool :=
 match AV.lt m (effR eff) with
 | true => AOsAll (fun j => Nat.blt j m) (effNew eff)
 | false => false
def okD (K0 : List KE) (O0 : List OE) (Or : List OE) (d : DR) (L : List DR) : Bool :=
 match killed Or d.eff, newLt (effN d.nid d.eff) d.eff, (match d.dst with
  | none => false
  | some n => inAnyTagsK n K0 || inAnyTagsOs n O0) with
 | true, true, false => sepAll d L
 | _, _, _ => false
def stepD (P : Program) (T : List (Nat × TI)) (N : Nat) (ops : List Oper) (K0 : List KE) (O0 : List OE) (o : Oper) (ix : Nat) (st : St) (L : List DR) (k : St → List DR → Prop) : Prop :=
 match st with
 | ⟨K, O, nid⟩ => (match o.after with
  | ⟨es⟩ => edgesK L es [] fun bits => pickK K (guardReads ops K o.guard (opReads o.op)) fun Kr reads => reachK O (fuelD o.op) (rootsD o.op (idsK Kr)) [] [] fun Or vis =>
   (match tagsOf ops Kr o.guard, ltK nid Kr, ltIds nid Or, allO (fun j => Nat.blt j nid) Or, backB ix es with
   | some tg, true, true, true, true => stepA P T (gcOf Kr tg) (evalO Kr tg) (fun t b x => evalO Kr ((t, b) :: tg) x) (lkOf Or tg) nid o.op fun eff =>
    applyS N o.dst tg K O nid eff fun st' => (match okD K0 O0 Or ⟨o.dst, tg, eff, nid, ix, bits, reads, vis⟩ L with
     | true => k st' (⟨o.dst, tg, eff, nid, ix, bits, reads, vis⟩ :: L)
     | false => False)
   | _, _, _, _, _ => False))
def execDs (P : Program) (T : List (Nat × TI)) (N : Nat) (ops : List Oper) (K0 : List KE) (O0 : List OE) : List Oper → Nat → St → List DR → (St → List DR → Prop) → Prop
 | [], _, st, L, k => k st L
 | o :: r, ix, st, L, k => stepD P T N ops K0 O0 o ix st L fun st' L' => execDs P T N ops K0 O0 r (ix + 1) st' L' k
def execD (P : Program) (T : List (Nat × TI)) (N : Nat) (ops : List Oper) (st : St) (k : St → Prop) : Prop :=
 match st with
 | ⟨K, O, nid⟩ => (match ltK nid K, ltIds nid O, allO (fun j => Nat.blt j nid) O with
  | true, true, true => execDs P T N ops K O ops 0 ⟨K, O, nid⟩ [] fun st' _ => k st'
  | _, _, _ => False)
theorem avOf1_lt (m : Nat) (v : Value) : (avOf1 v).lt m = true := by
 unfold avOf1
 split <;> simp [AV.lt]
theorem avOf1s_lt (m : Nat) : ∀ l : List Value, AV.lts m (avOf1s l) = true
 | [] => by simp [avOf1s, AV.lts]
 | v :: r => by simp [avOf1s, AV.lts, avOf1_lt m v, avOf1s_lt m r]
theorem avOf_lt (m : Nat) (v : Value) : (avOf v).lt m = true := by
 unfold avOf
 split
 ·simp [AV.lt, avOf1s_lt]
 ·exact avOf1_lt m _
section
variable {C : Cx} {G : Nat → Prop} {P : Program} {T : List (Nat × TI)} {w0 w : World} {N : Nat} {a : Act}
theorem orFalse {x y : Bool} (h : (x || y) = false) : x = false ∧ y = false := by simpa using h
theorem stepD_fact {ops : List Oper} {K0 : List KE} {O0 : List OE} {n0 : Nat} {o : Oper} {ix : Nat} {st : St} {L : List DR} {k : St → List DR → Prop}
  (hids : ∀ id g x, getO id st.O = some (g, x) → id < st.nid)
  (hop : ops[ix]? = some o) (hix : ix = L.length) (hK : (fun s => find s st.K) = kD (fun _ => true) L (fun s => find s K0)) (hO : (fun id => getO id st.O) = oD (fun _ => true) L (fun id => getO id O0)) (hn : st.nid = endN n0 L)
  (h : stepD P T N ops K0 O0 o ix st L k) :
  ∃ st' d, k st' (d :: L) ∧ (∃ o Kr Or, Fact P T N ops (fun s => find s K0) (fun id => getO id O0) n0 L d o Kr Or) ∧ (∀ id g x, getO id st'.O = some (g, x) → id < st'.nid) ∧
   (fun s => find s st'.K) = kD (fun _ => true) (d :: L) (fun s => find s K0) ∧ (fun id => getO id st'.O) = oD (fun _ => true) (d :: L) (fun id => getO id O0) ∧ st'.nid = endN n0 (d :: L) := by
 obtain ⟨K, O, nid⟩ := st
 dsimp only at hids hK hO hn
 unfold stepD at h
 dsimp only at h
 obtain ⟨bits, h, hbits⟩ := edgesK_iff h
 obtain ⟨Kr, reads, h, hKr⟩ := pickK_iff h
 obtain ⟨Or, vis, h, hOr⟩ := reachK_iff h (fun q g x hq => by simp [getO] at hq)
 split at h
 ·rename_i tg htg hltK hltI hall hback
  obtain ⟨eff, h, hshot⟩ := (stepA_shot _ _ _).shot _ h
  obtain ⟨st', h, hfit, hO', hnid', hK', hd⟩ := applyS_iff hids h
  split at h
  ·rename_i hok
   unfold okD at hok
   dsimp only at hok
   split at hok
   ·rename_i hkill hnew hdst
    have hnset : notSet eff = true := by
     cases eff <;> simp [killed, notSet] at hkill ⊢
    refine ⟨st', _, h, ⟨o, Kr, Or, ⟨hop, hix, rfl, hn, htg, ?_, ?_, hshot, ?_, ?_, ?_, ?_, hnset, ?_, ?_, ?_, sepAll_iff hok⟩⟩, ?_, ?_, ?_, ?_⟩
    ·intro s g av hs
     obtain ⟨h1, h2⟩ := hKr s g av hs
     refine ⟨h1, ltK_get hltK s g av hs, ?_⟩
     rw [← hK]
     exact h2
    ·intro id g x hs
     obtain ⟨h1, h2, h3⟩ := hOr id g x hs
     refine ⟨h1, ltIds_get hltI id g x hs, allO_get hall id g x hs, h2, ?_⟩
     rw [← hO]
     exact h3
    ·rw [← hO]; exact hfit
    ·intro n hnd
     have hnd : o.dst = some n := hnd
     rw [hnd] at hdst
     dsimp only at hdst
     obtain ⟨h1, h2⟩ := orFalse hdst
     exact ⟨(hd n hnd).1, (hd n hnd).2.1, inAnyTagsK_false h1, inAnyTagsOs_false h2⟩
    ·intro D h1 h2
     exact hbits D (fun e he => h1 e he) h2 (fun i hi => by simp [tbL] at hi)
    ·intro e he hb
     exact backB_iff hback e he hb
    ·intro q hq
     cases eff with
     | app i x r =>
      simp only [effKill, Option.some.injEq] at hq
      subst hq
      simp only [killed] at hkill
      split at hkill
      ·rename_i p hp
       exact ⟨p.1, p.2, hp⟩
      ·cases hkill
     | ext os r => simp [effKill] at hq
     | set i x r => simp [effKill] at hq
    ·unfold newLt at hnew
     split at hnew
     ·rename_i hr; exact hr
     ·cases hnew
    ·unfold newLt at hnew
     split at hnew
     ·exact AOsAll_iff hnew
     ·cases hnew
    ·intro id g x hs
     have hs' : effO tg nid (fun id => getO id O) eff id = some (g, x) := by rw [← hO']; exact hs
     rw [hnid']
     cases eff with
     | set i y r => cases hnset
     | ext os r =>
      simp only [effO] at hs'
      simp only [effN]
      split at hs'
      ·obtain ⟨_, h2⟩ := getElem?_map_some hs'
       have := (List.getElem?_eq_some_iff.1 h2).1
       omega
      ·have := hids id g x hs'
       omega
     | app i y r =>
      simp only [effO] at hs'
      simp only [effN]
      split at hs'
      ·omega
      ·split at hs'
       ·rename_i he
        subst he
        cases ho : getO id O with
        | none => rw [ho] at hs'; cases hs'
        | some p => have := hids id p.1 p.2 ho; omega
       ·have := hids id g x hs'
        omega
    ·rw [hK']
     funext s
     simp only [kD, true_and]
     rw [← congrFun hK s]
    ·rw [hO']
     simp only [oD, if_true]
     rw [← hO]
    ·exact hnid'
   ·cases hok
  ·exact h.elim
 ·exact h.elim
theorem execDs_fact {ops : List Oper} {K0 : List KE} {O0 : List OE} {n0 : Nat} : ∀ {l done : List Oper} {ix : Nat} {st : St} {L : List DR} {k : St → List DR → Prop}, ops = done ++ l → ix = done.length →
  (∀ id g x, getO id st.O = some (g, x) → id < st.nid) → ix = L.length → (fun s => find s st.K) = kD (fun _ => true) L (fun s => find s K0) → (fun id => getO id st.O) = oD (fun _ => true) L (fun id => getO id O0) → st.nid = endN n0 L →
  Facts P T N ops (fun s => find s K0) (fun id => getO id O0) n0 L → execDs P T N ops K0 O0 l ix st L k →
  ∃ st' L', k st' L' ∧ L'.length = ops.length ∧ Facts P T N ops (fun s => find s K0) (fun id => getO id O0) n0 L' ∧
   (fun s => find s st'.K) = kD (fun _ => true) L' (fun s => find s K0) ∧ (fun id => getO id st'.O) = oD (fun _ => true) L' (fun id => getO id O0) ∧ st'.nid = endN n0 L'
 | [], done, ix, st, L, k, hops, hd, hids, hix, hK, hO, hn, hF, h => ⟨st, L, h, by rw [hops, List.append_nil, ← hd, hix], hF, hK, hO, hn⟩
 | o :: r, done, ix, st, L, k, hops, hd, hids, hix, hK, hO, hn, hF, h => by
  obtain ⟨st', d, h, hf, hids', hK', hO', hn'⟩ := stepD_fact hids (by rw [hops, hd]; simp) hix hK hO hn h
  exact execDs_fact (done := done ++ [o]) (by rw [hops]; simp) (by simp [hd]) hids' (by simp [hix]) hK' hO' hn' ⟨hf, hF⟩ h
def SimD (C : Cx) (G : Nat → Prop) (w0 : World) (N : Nat) (K0 : KF) (O0 : OF) (n0 : Nat) (L : List DR) (D : Nat → Bool) (a : Act) (w : World) : Prop :=
 ∃ β, SimF C.al G w0 N (kD D L K0) (oD D L O0) (endN n0 L) β a w ∧ Agr C β n0
theorem stepD_sound (hT : TabOk P T) {ops : List Oper} {K0 : KF} {O0 : OF} {n0 : Nat} {L : List DR} {D : Nat → Bool} (hF : Facts P T N ops K0 O0 n0 L)
  (hK0 : ∀ s g av, K0 s = some (g, av) → av.lt n0 = true) (hO0 : ∀ id g x, O0 id = some (g, x) → id < n0 ∧ x.all (fun j => Nat.blt j n0) = true)
  {i : Nat} (hi : i < L.length) (hD : D i = false) (hcl : ∀ e ∈ L, D e.ix = true → ∀ i, tbL e.bits i = true → D i = true)
  {o : Oper} (hop : ops[i]? = some o) (hb : ∀ e ∈ o.after.toList, Region.binds .any e = true → D e.on = true) {Q : Exit → Act → World → Prop} {next : Act → World → Prop}
  (hn : ∀ a' w', SimD C G w0 N K0 O0 n0 L (fun j => if j = i then true else D j) a' w' → next a' w') (S : SimD C G w0 N K0 O0 n0 L D a w) :
  (if Region.wanted o (yielded ops.toArray a.tmps) then o.wp P a w next Q else next (a.put o.dst undef) w) ∧
  ∀ e ∈ L, (if e.ix = i then true else D e.ix) = true → ∀ j, tbL e.bits j = true → (if j = i then true else D j) = true := by
 have hget : ∃ A d r, L = A ++ d :: r ∧ d.ix = i := by
  have : ∀ {L : List DR}, Facts P T N ops K0 O0 n0 L → i < L.length → ∃ A d r, L = A ++ d :: r ∧ d.ix = i := by
   intro L
   induction L with
   | nil => intro _ h; simp at h
   | cons e r ih =>
    intro hF h
    obtain ⟨o, Kr, Or, hf⟩ := hF.1
    by_cases he : e.ix = i
    ·exact ⟨[], e, r, rfl, he⟩
    ·obtain ⟨A, d, r', h1, h2⟩ := ih hF.2 (by have := hf.ix; simp only [List.length_cons] at h; omega)
     exact ⟨e :: A, d, r', by rw [h1]; rfl, h2⟩
  exact this hF hi
 obtain ⟨A, d, r, rfl, rfl⟩ := hget
 obtain ⟨⟨o', Kr, Or, hf⟩, hFr, hA⟩ := hF.split
 obtain rfl : o' = o := by
  have := hf.op
  rw [hop] at this
  exact (Option.some.inj this).symm
 have hAx := hF.ix_ne
 have hrx : ∀ e ∈ r, e.ix ≠ d.ix := fun e he => by
  have := hFr.ix_lt e he
  have := hf.ix
  omega
 have hbits : ∀ i, tbL d.bits i = true → D i = true := hf.bits D hb fun e he => hcl e (by simp [he])
 have hclA : ∀ e ∈ A, D e.ix = true → tbL e.bits d.ix = false := fun e he hDe => by
  cases hh : tbL e.bits d.ix with
  | false => rfl
  | true =>
   have := hcl e (by simp [he]) hDe _ hh
   rw [hD] at this
   cases this
 have hind : ∀ e ∈ A, D e.ix = true → IndP e d := fun e he hDe => by
  rcases (hA e he).dep with h | h
  ·rw [hclA e he hDe] at h; cases h
  ·exact h
 refine ⟨?_, fun e he hDe j hj => ?_⟩
 case refine_2 =>
  by_cases hji : j = d.ix
  ·simp [hji]
  ·simp only [if_neg hji]
   by_cases hei : e.ix = d.ix
   ·have hed : e = d := by
     rcases List.mem_append.1 he with h | h
     ·exact (hAx e h hei).elim
     ·rcases List.mem_cons.1 h with h | h
      ·exact h
      ·exact (hrx e h hei).elim
    subst hed
    exact hbits j hj
   ·rw [if_neg hei] at hDe
    exact hcl e he hDe j hj
 obtain ⟨β, S, hag⟩ := S
 have hNID : effN d.nid d.eff ≤ endN n0 (A ++ d :: r) := nid_le hF d (by simp)
 have hdn : d.nid ≤ effN d.nid d.eff := by rw [effN_eq]; omega
 have hn0 : n0 ≤ d.nid := by rw [hf.nid]; exact n0_le hFr
 have hvK : ∀ s g av, find s Kr = some (g, av) → kD D (A ++ d :: r) K0 s = some (g, av) := fun s g av hs => by
  obtain ⟨h1, _, h3⟩ := hf.kr s g av hs
  rw [visK hF hcl hD hbits h1]
  exact h3
 have hvO : ∀ q g x, getO q Or = some (g, x) → oD D (A ++ d :: r) O0 q = some (g, x) := fun q g x hs => by
  obtain ⟨h1, h2, _, h4, h5⟩ := hf.or q g x hs
  exact visO hF hcl hD hbits h4 h1 h2 h5
 have Sr : SimF C.al G w0 N (fun s => find s Kr) (oD D (A ++ d :: r) O0) (endN n0 (A ++ d :: r)) β a w :=
  ⟨S.gold, S.below, S.tsz, S.dfs, fun s g av hs => S.kf s g av (hvK s g av hs), S.of, S.allow, S.dist⟩
 have hkill : ∀ q, effKill d.eff = some q → q < d.nid := fun q hq => by
  obtain ⟨g, x, hx⟩ := hf.killv q hq
  exact (hf.or q g x hx).2.1
 have hO0' : ∀ id g x, O0 id = some (g, x) → id < n0 := fun id g x h => (hO0 id g x h).1
 have hsets := hF.sets
 have hnames : ∀ e ∈ A ++ d :: r, D e.ix = true → (effR e.eff).all (outB d) = true ∧ ∀ x ∈ effNew e.eff, x.all (outB d) = true := fun e he hDe => by
  rcases List.mem_append.1 he with h | h
  ·have := hind e h hDe
   exact ⟨this.n1, this.n2⟩
  ·rcases List.mem_cons.1 h with h | h
   ·subst h
    rw [hD] at hDe
    cases hDe
   ·obtain ⟨B, s, rfl⟩ := List.append_of_mem h
    obtain ⟨⟨oe, Kre, Ore, hfe⟩, _, _⟩ := hFr.split
    have hle : effN e.nid e.eff ≤ d.nid := by rw [hf.nid]; exact nid_le hFr e (by simp)
    have hout : ∀ id, id < effN e.nid e.eff → outB d id = true := fun id hid => outB_iff.2 (by
     cases hc : crB d id with
     | false => rfl
     | true => have := (crB_iff.1 hc).1; omega)
    refine ⟨AV.all_of_lt hout _ hfe.rlt, fun x hx => ?_⟩
    have := hfe.olt x hx
    cases x with
    | cells e' cs =>
     simp only [AO.all] at this ⊢
     have key : ∀ {l : List AV}, AV.alls (fun j => Nat.blt j (effN e.nid e.eff)) l = true → AV.alls (outB d) l = true := by
      intro l h
      exact AV.alls_of_alls (fun id h => hout id (blt_lt h)) l h
     exact key this
    | row _ _ _ _ => rfl
    | mp _ _ _ _ _ => rfl
    | ir _ _ _ _ _ => rfl
    | it mid _ _ =>
     simp only [AO.all] at this ⊢
     exact hout mid (blt_lt this)
    | mr _ _ _ _ _ _ _ => exact AO.all_mr_imp (fun id h => hout id (blt_lt h)) this
    | dead => rfl
 have hbase : ∀ id, id < n0 → outB d id = true := fun id hid => outB_iff.2 (by
  cases hc : crB d id with
  | false => rfl
  | true => have := (crB_iff.1 hc).1; omega)
 have hKn : ∀ s g av, kD D (A ++ d :: r) K0 s = some (g, av) → av.all (outB d) = true :=
  kD_ind (R := fun _ av => av.all (outB d) = true) (fun s g av h => AV.all_of_lt hbase _ (hK0 s g av h)) (fun e he hDe => (hnames e he hDe).1)
 have hOn : ∀ s g x, oD D (A ++ d :: r) O0 s = some (g, x) → x.all (outB d) = true :=
  oD_ind (R := fun _ x => x.all (outB d) = true) (fun _ _ _ => rfl) hsets (fun s g x h => by
   have := (hO0 s g x h).2
   cases x with
   | cells e' cs =>
    simp only [AO.all] at this ⊢
    exact AV.alls_of_alls (fun id h => hbase id (blt_lt h)) cs this
   | row _ _ _ _ => rfl
   | mp _ _ _ _ _ => rfl
   | ir _ _ _ _ _ => rfl
   | it mid _ _ =>
    simp only [AO.all] at this ⊢
    exact hbase mid (blt_lt this)
   | mr _ _ _ _ _ _ _ => exact AO.all_mr_imp (fun id h => hbase id (blt_lt h)) this
   | dead => rfl) (fun e he hDe x hx => (hnames e he hDe).2 x hx)
 have hout : ∀ id g x, oD D (A ++ d :: r) O0 id = some (g, x) → ¬ (d.nid ≤ id ∧ id < effN d.nid d.eff) := fun id g x h hc => by
  have hc' : crB d id = true := crB_iff.2 hc
  rcases oD_dom hsets id g x h with ⟨p, hp⟩ | ⟨e, he, hDe, hce⟩
  ·have := hO0' id p.1 p.2 hp
   omega
  ·have hce := crB_iff.1 hce
   rcases List.mem_append.1 he with h | h
   ·have := (endN_mono (A := A) (r := d :: r) hF).2 e h
    simp only [endN] at this
    omega
   ·rcases List.mem_cons.1 h with h | h
    ·subst h
     rw [hD] at hDe
     cases hDe
    ·have := nid_le hFr e h
     rw [← hf.nid] at this
     omega
 have hdtags : ∀ n, d.dst = some n → ∀ e ∈ A ++ d :: r, D e.ix = true → inTags n e.tg = false := fun n hn e he hDe => by
  rcases List.mem_append.1 he with h | h
  ·exact (hind e h hDe).t n hn
  ·rcases List.mem_cons.1 h with h | h
   ·subst h
    rw [hD] at hDe
    cases hDe
   ·exact (hf.sep e h).tag n hn
 have hput : ∀ n, d.dst = some n → n < N ∧ inTags n d.tg = false ∧ (∀ s g av, kD D (A ++ d :: r) K0 s = some (g, av) → inTags n g = false) ∧
   (∀ id g x, upO d.tg d.nid (oD D (A ++ d :: r) O0) d.eff id = some (g, x) → inTags n g = false) := fun n hn => by
  obtain ⟨h1, h2, h3, h4⟩ := hf.put n hn
  have hOt : ∀ id g x, oD D (A ++ d :: r) O0 id = some (g, x) → inTags n g = false :=
   oD_ind (R := fun g _ => inTags n g = false) (fun _ _ h => h) hsets h4 (fun e he hDe _ _ => hdtags n hn e he hDe)
  refine ⟨h1, h2, kD_ind (R := fun g _ => inTags n g = false) h3 (fun e he hDe => hdtags n hn e he hDe), fun id g x h => ?_⟩
  have hset := hf.noset
  cases he : d.eff with
  | set i y rr => rw [he] at hset; cases hset
  | ext os rr =>
   rw [he] at h
   simp only [upO] at h
   split at h
   ·obtain ⟨rfl, _⟩ := getElem?_map_some h
    exact h2
   ·exact hOt id g x h
  | app i y rr =>
   rw [he] at h
   simp only [upO] at h
   split at h
   ·simp only [Option.some.injEq, Prod.mk.injEq] at h
    rw [← h.1]
    exact h2
   ·split at h
    ·cases ho : oD D (A ++ d :: r) O0 i with
     | none => rw [ho] at h; cases h
     | some p =>
      rw [ho] at h
      simp only [Option.map_some, Option.some.injEq, Prod.mk.injEq] at h
      rw [← h.1]
      exact hOt i p.1 p.2 ho
    ·exact hOt id g x h
 have hkadd := kD_add (K0 := K0) hAx hrx hD hA
 have hoadd := oD_add hO0' hkill hF hAx hrx hD (fun e he hDe q hq => by
  obtain ⟨B, s, hBs⟩ := List.append_of_mem (List.mem_append_left (d :: r) he)
  have hF' := hF
  rw [hBs] at hF'
  obtain ⟨⟨oe, Kre, Ore, hfe⟩, _, _⟩ := hF'.split
  obtain ⟨g, x, hx⟩ := hfe.killv q hq
  obtain ⟨h1, h2, _⟩ := hfe.or q g x hx
  exact ⟨(hind e he hDe).v q h1, h2⟩) hA
 have hw := wanted_iff Sr hf.tg
 by_cases hs : sat d.tg a
 ·rw [if_pos (hw.2 hs)]
  have hlk : ∀ id x, lkOf Or d.tg id = some x → ∃ g, oD D (A ++ d :: r) O0 id = some (g, x) ∧ sat g a := fun id x h => by
   obtain ⟨g, h1, h2⟩ := lkOf_sound (O := Or) hs id x h
   exact ⟨g, hvO id g x h1, h2⟩
  have E : Env β d.nid (FO G (oD D (A ++ d :: r) O0) β a) w (lkOf Or d.tg) := by
   refine ⟨fun id x h => ?_, (S.env hlk).own, (S.env hlk).old⟩
   obtain ⟨g, h1, _⟩ := lkOf_sound (O := Or) hs id x h
   obtain ⟨_, h3, h4, _⟩ := hf.or id g x h1
   exact ⟨h3, ((S.env hlk).obj id x h).2.onf h4 ⟨rfl, rfl⟩ fun j _ hj => ⟨blt_lt hj, rfl, rfl⟩⟩
  have hev : ∀ tags : Tags, sat tags a → ∀ x rr, evalO Kr tags x = some rr → Rep β d.nid (FO G (oD D (A ++ d :: r) O0) β a) w rr (a.eval x) := fun tags ht x rr h => by
   refine (evalO_sound Sr ht x rr h).less ?_
   unfold evalO at h
   split at h
   ·rename_i t
    split at h
    ·rename_i g av hfd
     split at h
     ·obtain rfl := Option.some.inj h
      exact (hf.kr t g _ hfd).2.1
     ·cases h
    ·cases h
   ·obtain rfl := Option.some.inj h
    exact avOf_lt _ _
   ·obtain rfl := Option.some.inj h
    simp [AV.lt, AV.lts]
   ·cases h
  have hout' := stepA_sound hT (gcOf_sound Sr hs) E (fun x rr hx => hev d.tg hs x rr hx)
   (fun t b x rr hx hv => hev ((t, b) :: d.tg) (fun p hp => by
    rcases List.mem_cons.1 hp with rfl | hp
    ·exact hv
    ·exact hs p hp) x rr hx) hf.step
  refine hout'.upon ?_
  rintro v w' ⟨eff, β', rfl, hpost⟩
  obtain ⟨S', hr⟩ := S.effD (n := d.nid) (f := outB d) hlk hs hf.noset hpost hNID hkill (fun id h hc => by
   have := crB_iff.2 hc
   rw [outB_iff.1 h] at this
   cases this) hout hKn hOn
  refine hn _ w' ⟨β.patch β' d.nid (effN d.nid d.eff), ?_, hag.of (fun id hid => patch_out (by omega)) (Nat.le_refl _)⟩
  rw [hkadd, hoadd, hf.dst]
  exact S'.put o'.dst d.tg _ v (by rw [← hf.dst]; exact hput) (fun _ => hr) (fun hns => (hns hs).elim)
 ·rw [if_neg (fun hwt => hs (hw.1 hwt))]
  have hfit : effFit d.tg (oD D (A ++ d :: r) O0) d.eff := by
   have hfit := hf.fit
   cases he : d.eff with
   | ext os rr => trivial
   | set i y rr => have := hf.noset; rw [he] at this; cases this
   | app i y rr =>
    rw [he] at hfit
    intro g x hx
    obtain ⟨g', x', hx'⟩ := hf.killv i (by rw [he]; rfl)
    have h1 := hvO i g' x' hx'
    rw [h1] at hx
    simp only [Option.some.injEq, Prod.mk.injEq] at hx
    obtain ⟨rfl, rfl⟩ := hx
    exact hfit g' x' (hf.or i g' x' hx').2.2.2.2
  have S' := S.passedD (n := d.nid) hs hf.noset hfit hNID hkill
  refine hn _ w ⟨β, ?_, hag⟩
  rw [hkadd, hoadd, hf.dst]
  exact S'.put o'.dst d.tg _ undef (by rw [← hf.dst]; exact hput) (fun hs' => (hs hs').elim) (fun _ => rfl)
def unl (listed : Array Bool) : Nat → Nat
 | 0 => 0
 | n + 1 => unl listed n + if listed.getD n true then 0 else 1
theorem getD_set {listed : Array Bool} {i j : Nat} (hi : i < listed.size) (d : Bool) : (listed.setIfInBounds i true).getD j d = if j = i then true else listed.getD j d := by
 by_cases h : j = i
 ·subst h
  simp [hi]
 ·rw [getD_set_ne d (Ne.symm h), if_neg h]
theorem unl_set_ge {listed : Array Bool} {i : Nat} (hi : i < listed.size) : ∀ {n : Nat}, n ≤ i → unl (listed.setIfInBounds i true) n = unl listed n
 | 0, _ => rfl
 | n + 1, h => by
  simp only [unl]
  have hne : n ≠ i := by omega
  rw [unl_set_ge hi (by omega), getD_set hi, if_neg hne]
theorem unl_set {listed : Array Bool} {i : Nat} (hi : i < listed.size) (hu : listed.getD i true = false) : ∀ {n : Nat}, i < n → unl (listed.setIfInBounds i true) n + 1 = unl listed n := by
 intro n
 induction n with
 | zero => intro h; omega
 | succ n ih =>
  intro h
  show unl (listed.setIfInBounds i true) n + (if (listed.setIfInBounds i true).getD n true then 0 else 1) + 1 = unl listed n + if listed.getD n true then 0 else 1
  by_cases hin : i = n
  ·subst hin
   rw [unl_set_ge hi (Nat.le_refl _), getD_set hi, if_pos rfl, hu]
   simp
  ·have hne : n ≠ i := fun h => hin h.symm
   have hlt : i < n := Nat.lt_of_le_of_ne (Nat.le_of_lt_succ h) hin
   have h2 := ih hlt
   rw [getD_set hi, if_neg hne]
   omega
theorem unl_zero {listed : Array Bool} : ∀ {n : Nat}, unl listed n = 0 → ∀ i, i < n → listed.getD i true = true
 | 0, _, i, hi => by omega
 | n + 1, h, i, hi => by
  simp only [unl] at h
  by_cases hin : i = n
  ·subst hin
   cases hh : listed.getD i true with
   | true => rfl
   | false => rw [hh] at h; simp at h
  ·exact unl_zero (n := n) (by omega) i (by omega)
theorem getD_tf {listed : Array Bool} {i : Nat} (hi : i < listed.size) : listed.getD i true = listed.getD i false := by
 simp [hi]
theorem execD_loop (hT : TabOk P T) {ops : List Oper} {K0 : KF} {O0 : OF} {n0 : Nat} {L : List DR} (hF : Facts P T N ops K0 O0 n0 L) (hlen : L.length = ops.length)
  (hK0 : ∀ s g av, K0 s = some (g, av) → av.lt n0 = true) (hO0 : ∀ id g x, O0 id = some (g, x) → id < n0 ∧ x.all (fun j => Nat.blt j n0) = true)
  {Q : Exit → Act → World → Prop} (hq : ∀ a w, SimD C G w0 N K0 O0 n0 L (fun _ => true) a w → Q .normal a w) :
  ∀ (fuel : Nat) (listed : Array Bool) (a : Act) (w : World), listed.size = ops.length → unl listed ops.length ≤ fuel →
   (∀ e ∈ L, listed.getD e.ix false = true → ∀ i, tbL e.bits i = true → listed.getD i false = true) → SimD C G w0 N K0 O0 n0 L (fun j => listed.getD j false) a w →
   wpAny P .any ops.toArray Q fuel listed a w := by
 have done : ∀ (listed : Array Bool) (a : Act) (w : World), (∀ i, i < ops.length → listed.getD i false = true) → SimD C G w0 N K0 O0 n0 L (fun j => listed.getD j false) a w → Q .normal a w := by
  intro listed a w hall S
  refine hq a w ?_
  obtain ⟨β, S, hag⟩ := S
  refine ⟨β, ?_, hag⟩
  have hix : ∀ e ∈ L, listed.getD e.ix false = (fun _ => true) e.ix := fun e he => hall _ (by rw [← hlen]; exact hF.ix_lt e he)
  rw [kD_congr (D := fun j => listed.getD j false) (D' := fun _ => true) hix, oD_congr (D := fun j => listed.getD j false) (D' := fun _ => true) hix] at S
  exact S
 have isready : ∀ (listed : Array Bool), listed.size = ops.length → Region.ready .any ops.toArray listed = [] → ∀ n i, i < n → i < ops.length → listed.getD i false = true := by
  intro listed hsz hr n
  induction n with
  | zero => intro i hi; omega
  | succ n ih =>
   intro i hi hlt
   cases hh : listed.getD i false with
   | true => rfl
   | false =>
    exfalso
    have : i ∈ Region.ready .any ops.toArray listed := by
     rw [mem_ready]
     refine ⟨by rw [getD_tf (by omega)]; exact hh, ops[i], by simp [hlt], fun e he hb => ?_⟩
     have hback : e.on < i := by
      have : ∀ {M : List DR}, Facts P T N ops K0 O0 n0 M → i < M.length → e.on < i := by
       intro M
       induction M with
       | nil => intro _ h; simp at h
       | cons m r ihm =>
        intro hFM hM
        obtain ⟨o, Kr, Or, hf⟩ := hFM.1
        have hmx := hf.ix
        by_cases hm : m.ix = i
        ·have hop := hf.op
         rw [hm] at hop
         have : o = ops[i] := by
          rw [List.getElem?_eq_getElem hlt] at hop
          exact (Option.some.inj hop).symm
         subst this
         have := hf.back e (by simpa using he) hb
         omega
        ·exact ihm hFM.2 (by simp only [List.length_cons] at hM; omega)
      exact this hF (by omega)
     exact ih e.on (by omega) (by omega)
    rw [hr] at this
    cases this
 intro fuel
 induction fuel with
 | zero =>
  intro listed a w hsz hu hcl S
  have hall : ∀ i, i < ops.length → listed.getD i false = true := fun i hi => by
   rw [← getD_tf (by omega)]
   exact unl_zero (by omega) i hi
  refine ⟨?_, done listed a w hall S⟩
  cases hr : Region.ready .any ops.toArray listed with
  | nil => rfl
  | cons i r =>
   exfalso
   have hmem : i ∈ Region.ready .any ops.toArray listed := by rw [hr]; simp
   obtain ⟨h1, o, ho, _⟩ := mem_ready.1 hmem
   have hlt : i < ops.length := by simpa using (Array.getElem?_eq_some_iff.1 ho).1
   rw [getD_tf (by omega), hall i hlt] at h1
   cases h1
 | succ fuel ih =>
  intro listed a w hsz hu hcl S
  refine ⟨fun hr => done listed a w (fun i hi => isready listed hsz hr (i + 1) i (by omega) hi) S, fun i hi => ?_⟩
  obtain ⟨h1, o, ho, hafter⟩ := mem_ready.1 hi
  have hlt : i < ops.length := by simpa using (Array.getElem?_eq_some_iff.1 ho).1
  have hop : ops[i]? = some o := by simpa using ho
  have hDi : listed.getD i false = false := by rw [← getD_tf (by omega)]; exact h1
  have hfun : (fun j => if j = i then true else listed.getD j false) = fun j => (listed.setIfInBounds i true).getD j false := by
   funext j
   rw [getD_set (by omega)]
  have hstep := stepD_sound (C := C) (G := G) (w0 := w0) (a := a) (w := w) (Q := Q) (next := wpAny P .any ops.toArray Q fuel (listed.setIfInBounds i true)) hT hF hK0 hO0 (i := i) (D := fun j => listed.getD j false) (by omega) hDi hcl hop (fun e he hb => hafter e (by simpa using he) hb)
  have hcl' : ∀ e ∈ L, (listed.setIfInBounds i true).getD e.ix false = true → ∀ j, tbL e.bits j = true → (listed.setIfInBounds i true).getD j false = true := by
   intro e he hDe j hj
   rw [getD_set (by omega)] at hDe ⊢
   exact (stepD_sound (Q := Q) (next := fun _ _ => True) hT hF hK0 hO0 (i := i) (D := fun j => listed.getD j false) (by omega) hDi hcl hop (fun e he hb => hafter e (by simpa using he) hb) (fun _ _ _ => trivial) S).2 e he hDe j hj
  have hnext := (hstep (fun a' w' S' => ih (listed.setIfInBounds i true) a' w' (by simp [hsz]) (by have := unl_set (by omega) h1 (n := ops.length) hlt; omega) hcl' (by rw [← hfun]; exact S')) S).1
  unfold wpOp
  simp only [ho]
  split
  ·rename_i hw
   rw [if_pos hw] at hnext
   exact .inl hnext
  ·rename_i hw
   rw [if_neg hw] at hnext
   exact hnext
theorem execD_sound (hT : TabOk P T) {ops : List Oper} {Q : Exit → Act → World → Prop} {id : Nat} {st : St} {k : St → Prop} (S : Sim C G w0 N st a w) (h : execD P T N ops st k)
  (hq : ∀ st' a' w', k st' → Sim C G w0 N st' a' w' → Q .normal a' w') : (Code.region id ops.toArray true).wp P Q a w := by
 obtain ⟨K, O, nid⟩ := st
 unfold execD at h
 dsimp only at h
 split at h
 ·rename_i h1 h2 h3
  obtain ⟨st', L, hk, hlen, hF, hK, hO, hn⟩ := execDs_fact (P := P) (T := T) (N := N) (ops := ops) (K0 := K) (O0 := O) (l := ops) (ix := 0) (st := ⟨K, O, nid⟩) (k := fun st' _ => k st') (done := []) (L := []) (n0 := nid) rfl rfl (fun id g x hx => ltIds_get h2 id g x hx) rfl rfl rfl rfl trivial h
  refine wp_region_any hT.mixed ?_
  have hS : SimD C G w0 N (fun s => find s K) (fun id => getO id O) nid L (fun j => (Array.replicate ops.toArray.size false).getD j false) a { w with drawn := w.drawn + 1 } := by
   obtain ⟨β, S, hag⟩ := S
   have hfalse : ∀ e ∈ L, (fun j => (Array.replicate ops.toArray.size false).getD j false) e.ix = (fun _ => false) e.ix := fun e he => by
    simp [Array.getElem?_replicate]
    split <;> rfl
   refine ⟨β, ?_, hag⟩
   rw [kD_congr (D' := fun _ => false) hfalse, oD_congr (D' := fun _ => false) hfalse]
   have e1 : ∀ M : List DR, kD (fun _ => false) M (fun s => find s K) = fun s => find s K := by
    intro M
    induction M with
    | nil => rfl
    | cons d r ih => funext s; simp only [kD, ih]; simp
   have e2 : ∀ M : List DR, oD (fun _ => false) M (fun id => getO id O) = fun id => getO id O := by
    intro M
    induction M with
    | nil => rfl
    | cons d r ih => simp only [oD, ih]; simp
   rw [e1, e2]
   have hstab : ∀ {F : Nat → Prop} {av : AV} {v : Value}, Rep β nid F w av v → Rep β (endN nid L) F { w with drawn := w.drawn + 1 } av v := fun h =>
    (h.stable (w' := { w with drawn := w.drawn + 1 }) (fun _ _ h => h) (fun _ _ _ => rfl) (Nat.le_refl _)).more (n0_le hF)
   refine ⟨S.gold, ⟨S.below.os, S.below.tape, S.below.output, S.below.size, S.below.block, S.below.drawn⟩, S.tsz, S.dfs, fun s g av hs => ⟨fun h => hstab ((S.kf s g av hs).1 h), (S.kf s g av hs).2⟩, fun id g x hx => ⟨Nat.lt_of_lt_of_le (S.of id g x hx).1 (n0_le hF), fun h => ?_⟩, S.allow, S.dist⟩
   exact ((S.of id g x hx).2 h).stable (w' := { w with drawn := w.drawn + 1 }) (S.of id g x hx).1 (n0_le hF) (fun _ _ => ⟨rfl, rfl⟩) (fun _ _ h => h) (fun _ _ _ => rfl) (Nat.le_refl _) (fun _ _ => rfl)
  refine execD_loop hT hF hlen (fun s g av hs => ltK_get h1 s g av hs) (fun id g x hx => ⟨ltIds_get h2 id g x hx, allO_get h3 id g x hx⟩) ?_ ops.toArray.size _ a _ (by simp) ?_ ?_ hS
  ·intro a' w' S'
   obtain ⟨β, S', hag⟩ := S'
   refine hq st' a' w' hk ⟨β, ?_, by rw [hn]; exact hag.more (n0_le hF)⟩
   rw [hK, hO, hn]
   exact S'
  ·have : ∀ (l : Array Bool) n, unl l n ≤ n := by
    intro l n
    induction n with
    | zero => exact Nat.le_refl _
    | succ n ih => simp only [unl]; split <;> omega
   simpa using this _ ops.length
  ·intro e he hDe
   exfalso
   simp [Array.getElem?_replicate] at hDe
   split at hDe <;> cases hDe
 ·exact h.elim
end
end Go.Eng
end
