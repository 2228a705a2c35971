/-
  Several texts in one: Eng12, Eng13, EngL.
-/
import Derived.Deep.LoopGhost
import Derived.Test.YtnookbebiacaeaaMg10

section
namespace Go.Eng
open Go.RowKit
theorem TIOk.of {P : Program} {t : TypeId} {d : TypeDesc} {a : Bool} {s b : Nat} {z : Value} {cm : Bool} (h1 : P.underlying t = some d) (h2 : isAggD d = a)
  (h3 : (P.info? t).map (fun i => (i.zero, i.size, i.bytes)) = some (some z, s, b)) : TIOk P t ⟨d, a, s, b, z, cm⟩ := by
 refine ⟨h1, h2, ?_⟩
 cases hi : P.info? t with
 | none => rw [hi] at h3; cases h3
 | some i =>
  rw [hi] at h3
  simp at h3
  exact ⟨i, rfl, h3.2.1, h3.2.2, h3.1⟩
def condK (v : Option AV) (p q : Prop) : Prop :=
 match v with
 | some (.b c) => (c = true → p) ∧ (c = false → q)
 | _ => False
def exitIs (i j : Nat) (p q : Prop) : Prop :=
 match Nat.beq i j with
 | true => p
 | false => q
def writesO : List Oper → List Nat
 | [] => []
 | o :: r => (match o.dst with
  | some d => d :: writesO r
  | none => writesO r)
def writes : Code → List Nat
 | .region _ ⟨ops⟩ _ => writesO ops
 | .seq a b => catN (writes a) (writes b)
 | .cond _ a b => catN (writes a) (writes b)
 | .block _ c => writes c
 | .loop c => writes c
 | _ => []
def meets : Code → Bool
 | .seq _ b => meets b
 | .cond _ _ _ => true
 | .block _ _ => true
 | _ => false
inductive Gh where
 | own (s : Nat)
 | frz (s : Nat) (ids : List Nat)
 | eq (id : Nat) (o : AO)
 | sl (s : Nat) (b : AV)
 | nl (s : Nat) (e : TypeId) (sz : Nat)
 | nlc (id off : Nat) (e : TypeId) (sz : Nat)
 | mvc (id off : Nat)
 | frc (id off : Nat) (ids : List Nat)
 | mk (id : Nat) (kid : Nat → KD)
 | take (id : Nat)
 | put (id : Nat)
 | nx (id : Nat)
 | nw
def kdO : KD → AO
 | .row e sz n get => .row e sz n get
 | .cells e cs => .cells e cs
def oKD : AO → Option KD
 | .row e sz n get => some (.row e sz n get)
 | .cells e cs => (match AV.lts 0 cs with
  | true => some (.cells e cs)
  | false => none)
 | _ => none
def nthA : Nat → List AV → Option AV
 | _, [] => none
 | 0, a :: _ => some a
 | n + 1, _ :: r => nthA n r
def setA : Nat → AV → List AV → List AV
 | _, _, [] => []
 | 0, b, _ :: r => b :: r
 | n + 1, b, a :: r => a :: setA n b r
theorem nthA_eq : ∀ (n : Nat) (l : List AV), nthA n l = l[n]?
 | n, [] => by cases n <;> rfl
 | 0, a :: r => rfl
 | n + 1, a :: r => by simpa [nthA] using nthA_eq n r
theorem setA_len : ∀ (n : Nat) (b : AV) (l : List AV), (setA n b l).length = l.length
 | n, b, [] => by cases n <;> rfl
 | 0, b, a :: r => rfl
 | n + 1, b, a :: r => by simp [setA, setA_len n b r]
theorem setA_get : ∀ (n : Nat) (b : AV) (l : List AV) (j : Nat) (h1 : j < (setA n b l).length) (h2 : j < l.length), (setA n b l)[j] = if j = n then b else l[j]
 | n, b, [], j, _, h2 => by simp at h2
 | 0, b, a :: r, 0, _, _ => rfl
 | 0, b, a :: r, j + 1, _, _ => rfl
 | n + 1, b, a :: r, 0, _, _ => rfl
 | n + 1, b, a :: r, j + 1, h1, h2 => by
  have := setA_get n b r j (by simpa [setA] using h1) (by simpa using h2)
  simpa [setA] using this
def ghTab (i : Nat) : List (Nat × List Gh) → List Gh
 | [] => []
 | (j, l) :: r => match Nat.beq i j with
  | true => l
  | false => ghTab i r
def lkIn (O : List OE) (ids : List Nat) (id : Nat) : Option AO :=
 match memN id ids with
 | true => lkOf O [] id
 | false => none
def killO : List Nat → List OE → (List OE → Prop) → Prop
 | [], O, k => k O
 | i :: r, O, k => (match getO i O with
  | some ([], _) => killO r (⟨i, [], .dead⟩ :: O) k
  | _ => False)
def ghK (N : Nat) (fr : Bool) : List Gh → St → (St → Prop) → Prop
 | [], st, k => k st
 | .own s :: r, ⟨K, O, nid⟩, k => (match find s K with
  | some ([], .sv id sz lo n) => (match getO id O with
   | some ([], .row e sz' _ get) => (match Nat.beq sz' sz with
    | true => applyS N (some s) [] K O nid (.app id (.row e sz n fun k => get (k + lo)) (.so nid)) fun st => ghK N fr r st k
    | false => False)
   | _ => False)
  | _ => False)
 | .frz s ids :: r, ⟨K, O, nid⟩, k => (match fr, find s K with
  | true, some ([], a) => viewK (lkIn O ids) 60 a fun b => killO ids O fun O' => putS N (some s) [] b K O' nid fun st => ghK N fr r st k
  | _, _ => False)
 | .eq id o :: r, ⟨K, O, nid⟩, k => (match getO id O with
  | some ([], o0) => AOEq o o0 ∧ ghK N fr r ⟨K, ⟨id, [], o⟩ :: O, nid⟩ k
  | _ => False)
 | .sl s b :: r, ⟨K, O, nid⟩, k => (match find s K with
  | some ([], av) => AVEq b av ∧ putS N (some s) [] b K O nid fun st => ghK N fr r st k
  | _ => False)
 | .nl s e sz :: r, ⟨K, O, nid⟩, k => (match find s K with
  | some ([], .val _) => nilK [(s, e, sz)] ⟨K, O, nid⟩ fun st => ghK N fr r st k
  | _ => ghK N fr r ⟨K, O, nid⟩ k)
 | .nlc id off e sz :: r, ⟨K, O, nid⟩, k => (match getO id O with
  | some ([], .cells t cs) => (match nthA off cs with
   | some (.val v) => (match nilSlice v with
    | true => ghK N fr r ⟨K, ⟨id, [], .cells t (setA off (.so nid) cs)⟩ :: ⟨nid, [], .row e sz 0 fun _ => []⟩ :: O, nid + 1⟩ k
    | false => ghK N fr r ⟨K, O, nid⟩ k)
   | _ => ghK N fr r ⟨K, O, nid⟩ k)
  | _ => ghK N fr r ⟨K, O, nid⟩ k)
 | .frc id off ids :: r, ⟨K, O, nid⟩, k => (match fr, getO id O with
  | true, some ([], .cells _ cs) => (match nthA off cs with
   | some x => viewK (lkIn O ids) 60 x fun b => killO ids O fun O' => (match getO id O' with
    | some ([], .cells t' cs') => ghK N fr r ⟨K, ⟨id, [], .cells t' (setA off b cs')⟩ :: O', nid⟩ k
    | _ => False)
   | none => False)
  | _, _ => False)
 | .mvc id off :: r, ⟨K, O, nid⟩, k => (match getO id O with
  | some ([], .cells t cs) => (match nthA off cs with
   | some (.so i) => (match getO i O with
    | some ([], .row e sz n get) => ghK N fr r ⟨K, ⟨id, [], .cells t (setA off (.so nid) cs)⟩ :: ⟨nid, [], .row e sz n get⟩ :: ⟨i, [], .dead⟩ :: O, nid + 1⟩ k
    | _ => ghK N fr r ⟨K, O, nid⟩ k)
   | _ => ghK N fr r ⟨K, O, nid⟩ k)
  | _ => ghK N fr r ⟨K, O, nid⟩ k)
 | .mk id kid :: r, ⟨K, O, nid⟩, k => (match getO id O with
  | some ([], .mp n key _ born clock) => n = 0 ∧ ghK N fr r ⟨K, ⟨id, [], .mr 0 key kid born clock nid none⟩ :: ⟨nid, [], .dead⟩ :: O, nid + 1⟩ k
  | _ => ghK N fr r ⟨K, O, nid⟩ k)
 | .take id :: r, ⟨K, O, nid⟩, k => (match getO id O with
  | some ([], .mr n key kid born clock aux none) => (∃ i, i < n ∧ ghK N fr r ⟨K, ⟨id, [], .mr n key kid born clock aux (some (i, nid))⟩ :: ⟨nid, [], kdO (kid i)⟩ :: O, nid + 1⟩ k) ∨ ghK N fr r ⟨K, O, nid⟩ k
  | _ => ghK N fr r ⟨K, O, nid⟩ k)
 | .put id :: r, ⟨K, O, nid⟩, k => (match getO id O with
  | some ([], .mr n key kid born clock _ (some (i, h))) => (match getO h O with
   | some ([], o) => (match oKD o with
    | some kd => ∃ kid', ((∀ j, j < n → j ≠ i → kid' j = kid j) ∧ KDEq kd (kid' i) ∧ kidA (kid i) h = kidA kd h) ∧ ghK N fr r ⟨K, ⟨id, [], .mr n key kid' born clock nid none⟩ :: ⟨nid, [], .dead⟩ :: ⟨h, [], .dead⟩ :: O, nid + 1⟩ k
    | none => False)
   | _ => False)
  | _ => ghK N fr r ⟨K, O, nid⟩ k)
 | .nx id :: r, ⟨K, O, nid⟩, k => (match getO id O with
  | some ([], .mr n key kid born clock _ none) => ghK N fr r ⟨K, ⟨id, [], .mr n key kid born clock nid none⟩ :: ⟨nid, [], .dead⟩ :: O, nid + 1⟩ k
  | _ => ghK N fr r ⟨K, O, nid⟩ k)
 | .nw :: r, ⟨K, O, nid⟩, k => ghK N fr r ⟨K, ⟨nid, [], .dead⟩ :: O, nid + 1⟩ k
section
variable {C : Cx} {G : Nat → Prop} {P : Program} {T : List (Nat × TI)} {w0 w : World} {N : Nat} {a : Act}
theorem SimF.kill {K : KF} {O O' : OF} {nid : Nat} {β : Bd} {A : Nat → Prop} (S : SimF A G w0 N K O nid β a w) (hO : ∀ id g o, O' id = some (g, o) → (o = .dead ∧ id < nid) ∨ O id = some (g, o)) :
  SimF A G w0 N K O' nid β a w ∧ ∀ b, FO G O' β a b → FO G O β a b := by
 have hsub : ∀ b, FO G O' β a b → FO G O β a b := by
  rintro b (hg | ⟨id, g, o, ho, hs, hb⟩)
  ·exact .inl hg
  rcases hO id g o ho with ⟨rfl, _⟩ | h
  ·cases hb
  ·exact .inr ⟨id, g, o, h, hs, hb⟩
 refine ⟨⟨S.gold, S.below, S.tsz, S.dfs, fun s g av hk => ⟨fun hs => ?_, (S.kf s g av hk).2⟩, fun id g o ho => ?_, fun id g o b ho hs hb => ?_, fun id id' g g' o o' b ho ho' hs hs' hb hb' => ?_⟩, hsub⟩
 ·exact ((S.kf s g av hk).1 hs).stable (fun b _ hn hf => hn (hsub b hf)) (fun _ _ _ => rfl) (Nat.le_refl _)
 ·rcases hO id g o ho with ⟨rfl, h⟩ | h
  ·exact ⟨h, fun _ => trivial⟩
  ·refine ⟨(S.of id g o h).1, fun hs => ?_⟩
   exact ((S.of id g o h).2 hs).stable (S.of id g o h).1 (Nat.le_refl _) (fun _ _ => ⟨rfl, rfl⟩) (fun b _ hn hf => hn (hsub b hf)) (fun _ _ _ => rfl) (Nat.le_refl _) (fun _ _ => rfl)
 ·rcases hO id g o ho with ⟨rfl, _⟩ | h
  ·cases hb
  ·exact S.allow id g o b h hs hb
 ·rcases hO id g o ho with ⟨rfl, _⟩ | h
  ·cases hb
  ·rcases hO id' g' o' ho' with ⟨rfl, _⟩ | h'
   ·cases hb'
   ·exact S.dist id id' g g' o o' b h h' hs hs' hb hb'
theorem SimF.other {K : KF} {O O' : OF} {nid : Nat} {β : Bd} {A : Nat → Prop} (S : SimF A G w0 N K O nid β a w) (hO : ∀ id g o, O' id = some (g, o) → ∃ o0, O id = some (g, o0) ∧ (∀ b, ownB β id o b → ownB β id o0 b) ∧ ∀ F, ObjOk β nid F w id o0 → ObjOk β nid F w id o) :
  SimF A G w0 N K O' nid β a w := by
 have hsub : ∀ b, FO G O' β a b → FO G O β a b := by
  rintro b (hg | ⟨id, g, o, ho, hs, hb⟩)
  ·exact .inl hg
  obtain ⟨o0, h1, h2, _⟩ := hO id g o ho
  exact .inr ⟨id, g, o0, h1, hs, h2 b hb⟩
 refine ⟨S.gold, S.below, S.tsz, S.dfs, fun s g av hk => ⟨fun hs => ?_, (S.kf s g av hk).2⟩, fun id g o ho => ?_, fun id g o b ho hs hb => ?_, fun id id' g g' o o' b ho ho' hs hs' hb hb' => ?_⟩
 ·exact ((S.kf s g av hk).1 hs).stable (fun b _ hn hf => hn (hsub b hf)) (fun _ _ _ => rfl) (Nat.le_refl _)
 ·obtain ⟨o0, h1, h2, h3⟩ := hO id g o ho
  refine ⟨(S.of id g o0 h1).1, fun hs => ?_⟩
  exact (h3 _ ((S.of id g o0 h1).2 hs)).stable (S.of id g o0 h1).1 (Nat.le_refl _) (fun _ _ => ⟨rfl, rfl⟩) (fun b _ hn hf => hn (hsub b hf)) (fun _ _ _ => rfl) (Nat.le_refl _) (fun _ _ => rfl)
 ·obtain ⟨o0, h1, h2, _⟩ := hO id g o ho
  exact S.allow id g o0 b h1 hs (h2 b hb)
 ·obtain ⟨o0, h1, h2, _⟩ := hO id g o ho
  obtain ⟨o1, h3, h4, _⟩ := hO id' g' o' ho'
  exact S.dist id id' g g' o0 o1 b h1 h3 hs hs' (h2 b hb) (h4 b hb')
theorem SimF.other1 {K : KF} {O O' : OF} {nid : Nat} {β : Bd} {A : Nat → Prop} (S : SimF A G w0 N K O nid β a w) (hO : ∀ id g o, O' id = some (g, o) → ∃ o0, O id = some (g, o0) ∧ (∀ b, ownB β id o b → ownB β id o0 b) ∧ (ObjOk β nid (FO G O β a) w id o0 → ObjOk β nid (FO G O β a) w id o)) :
  SimF A G w0 N K O' nid β a w := by
 have hsub : ∀ b, FO G O' β a b → FO G O β a b := by
  rintro b (hg | ⟨id, g, o, ho, hs, hb⟩)
  ·exact .inl hg
  obtain ⟨o0, h1, h2, _⟩ := hO id g o ho
  exact .inr ⟨id, g, o0, h1, hs, h2 b hb⟩
 refine ⟨S.gold, S.below, S.tsz, S.dfs, fun s g av hk => ⟨fun hs => ?_, (S.kf s g av hk).2⟩, fun id g o ho => ?_, fun id g o b ho hs hb => ?_, fun id id' g g' o o' b ho ho' hs hs' hb hb' => ?_⟩
 ·exact ((S.kf s g av hk).1 hs).stable (fun b _ hn hf => hn (hsub b hf)) (fun _ _ _ => rfl) (Nat.le_refl _)
 ·obtain ⟨o0, h1, h2, h3⟩ := hO id g o ho
  refine ⟨(S.of id g o0 h1).1, fun hs => ?_⟩
  exact (h3 ((S.of id g o0 h1).2 hs)).stable (S.of id g o0 h1).1 (Nat.le_refl _) (fun _ _ => ⟨rfl, rfl⟩) (fun b _ hn hf => hn (hsub b hf)) (fun _ _ _ => rfl) (Nat.le_refl _) (fun _ _ => rfl)
 ·obtain ⟨o0, h1, h2, _⟩ := hO id g o ho
  exact S.allow id g o0 b h1 hs (h2 b hb)
 ·obtain ⟨o0, h1, h2, _⟩ := hO id g o ho
  obtain ⟨o1, h3, h4, _⟩ := hO id' g' o' ho'
  exact S.dist id id' g g' o0 o1 b h1 h3 hs hs' (h2 b hb) (h4 b hb')
theorem SimF.regroup {K : KF} {O O' : OF} {nid nid' : Nat} {β β' : Bd} {A : Nat → Prop} (S : SimF A G w0 N K O nid β a w) (hag : agree nid β β') (hn : nid ≤ nid') (D : Nat → Option AO)
  (hO : ∀ id, O' id = match D id with | some o => some ([], o) | none => O id)
  (hD : ∀ id o, D id = some o → id < nid' ∧ ObjOk β' nid' (FO G O β a) w id o)
  (hown : ∀ id o b, D id = some o → ownB β' id o b → ∃ id0 o0, D id0 ≠ none ∧ O id0 = some ([], o0) ∧ ownB β id0 o0 b)
  (hdist : ∀ id id' o o' b, D id = some o → D id' = some o' → ownB β' id o b → ownB β' id' o' b → id = id') : SimF A G w0 N K O' nid' β' a w := by
 have hcase : ∀ id g o, O' id = some (g, o) → (D id = some o ∧ g = []) ∨ (D id = none ∧ O id = some (g, o)) := fun id g o h => by
  rw [hO] at h
  cases hd : D id with
  | some o' =>
   rw [hd] at h
   simp only [Option.some.injEq, Prod.mk.injEq] at h
   exact .inl ⟨by rw [h.2], h.1.symm⟩
  | none =>
   rw [hd] at h
   exact .inr ⟨rfl, h⟩
 have hold : ∀ id g o, O id = some (g, o) → sat g a → ownB β' id o = ownB β id o := fun id g o h hs =>
  ownB_eq (hag id (S.of id g o h).1) fun x hx => (hag x (((S.of id g o h).2 hs).aux_lt hx)).2
 have hsub : ∀ b, FO G O' β' a b → FO G O β a b := by
  rintro b (hg | ⟨id, g, o, ho, hs, hb⟩)
  ·exact .inl hg
  ·rcases hcase id g o ho with ⟨hd, rfl⟩ | ⟨_, h⟩
   ·obtain ⟨id0, o0, _, h1, h2⟩ := hown id o b hd hb
    exact .inr ⟨id0, [], o0, h1, sat_nil a, h2⟩
   ·exact .inr ⟨id, g, o, h, hs, by rw [← hold id g o h hs]; exact hb⟩
 refine ⟨S.gold, S.below, S.tsz, S.dfs, fun s g av hk => ⟨fun hs => ?_, (S.kf s g av hk).2⟩, fun id g o ho => ?_, fun id g o b ho hs hb => ?_, fun id id' g g' o o' b ho ho' hs hs' hb hb' => ?_⟩
 ·exact ((((S.kf s g av hk).1 hs).stable (fun b _ hn hf => hn (hsub b hf)) (fun _ _ _ => rfl) (Nat.le_refl _)).same hag).more hn
 ·rcases hcase id g o ho with ⟨hd, rfl⟩ | ⟨_, h⟩
  ·obtain ⟨h1, h2⟩ := hD id o hd
   exact ⟨h1, fun _ => h2.stable h1 (Nat.le_refl _) (fun _ _ => ⟨rfl, rfl⟩) (fun b _ hn hf => hn (hsub b hf)) (fun _ _ _ => rfl) (Nat.le_refl _) (fun _ _ => rfl)⟩
  ·have hlt := (S.of id g o h).1
   exact ⟨Nat.lt_of_lt_of_le hlt hn, fun hs => ((S.of id g o h).2 hs).stable hlt hn hag (fun b _ hn hf => hn (hsub b hf)) (fun _ _ _ => rfl) (Nat.le_refl _) (fun _ _ => rfl)⟩
 ·rcases hcase id g o ho with ⟨hd, rfl⟩ | ⟨_, h⟩
  ·obtain ⟨id0, o0, _, h1, h2⟩ := hown id o b hd hb
   exact S.allow id0 [] o0 b h1 (sat_nil a) h2
  ·rw [hold id g o h hs] at hb
   exact S.allow id g o b h hs hb
 ·rcases hcase id g o ho with ⟨hd, rfl⟩ | ⟨hd, h⟩ <;> rcases hcase id' g' o' ho' with ⟨hd', rfl⟩ | ⟨hd', h'⟩
  ·exact hdist id id' o o' b hd hd' hb hb'
  ·obtain ⟨id0, o0, hne, h1, h2⟩ := hown id o b hd hb
   rw [hold id' g' o' h' hs'] at hb'
   have := S.dist id0 id' [] g' o0 o' b h1 h' (sat_nil a) hs' h2 hb'
   subst this
   exact absurd hd' hne
  ·obtain ⟨id0, o0, hne, h1, h2⟩ := hown id' o' b hd' hb'
   rw [hold id g o h hs] at hb
   have := S.dist id0 id [] g o0 o b h1 h (sat_nil a) hs h2 hb
   subst this
   exact absurd hd hne
  ·rw [hold id g o h hs] at hb
   rw [hold id' g' o' h' hs'] at hb'
   exact S.dist id id' g g' o o' b h h' hs hs' hb hb'
theorem mk_iff {id : Nat} {K : List KE} {O : List OE} {nid : Nat} {key val : Nat → AV} {kid : Nat → KD} {born : Nat → Nat} {clock : Nat} (hg : getO id O = some ([], .mp 0 key val born clock))
  (S : Sim C G w0 N ⟨K, O, nid⟩ a w) : Sim C G w0 N ⟨K, ⟨id, [], .mr 0 key kid born clock nid none⟩ :: ⟨nid, [], .dead⟩ :: O, nid + 1⟩ a w := by
 obtain ⟨β, S, hag⟩ := S
 dsimp only at S hag
 obtain ⟨hid, hok⟩ := S.of id [] _ hg
 obtain ⟨es, hh, hm, ho, _⟩ := hok (sat_nil a)
 refine ⟨β, ?_, hag.more (Nat.le_succ _)⟩
 refine S.regroup (nid' := nid + 1) (fun _ _ => ⟨rfl, rfl⟩) (Nat.le_succ _) (fun q => if q = id then some (.mr 0 key kid born clock nid none) else if q = nid then some .dead else none) (fun q => ?_) (fun q o hq => ?_) (fun q o b hq hb => ?_) (fun q q' o o' b hq hq' hb hb' => ?_)
 ·show getO q _ = _
  rw [getO_cons, getO_cons]
  by_cases h1 : q = id
  ·simp [h1]
  ·by_cases h2 : q = nid
   ·simp [h2, show nid ≠ id by omega]
   ·simp [h1, h2]
 ·split at hq
  ·rename_i e
   subst e
   cases hq
   exact ⟨by omega, Nat.lt_succ_self _, fun _ _ e => (by cases e), es, hh, hm, ho, fun i hi => absurd hi (Nat.not_lt_zero i), fun i hi => absurd hi (Nat.not_lt_zero i), fun i j g hi => absurd hi (Nat.not_lt_zero i), fun i j hi => absurd hi (Nat.not_lt_zero i), fun _ _ e => (by cases e)⟩
  ·split at hq
   ·rename_i e
    subst e
    cases hq
    exact ⟨Nat.lt_succ_self _, trivial⟩
   ·cases hq
 ·split at hq
  ·rename_i e
   subst e
   cases hq
   rcases hb with hb | ⟨i, hi, _⟩
   ·exact ⟨q, _, by simp, hg, hb⟩
   ·exact absurd hi (Nat.not_lt_zero i)
  ·split at hq
   ·cases hq
    exact hb.elim
   ·cases hq
 ·split at hq
  ·rename_i e
   split at hq'
   ·rename_i e'
    rw [e, e']
   ·split at hq'
    ·cases hq'
     exact hb'.elim
    ·cases hq'
  ·split at hq
   ·cases hq
    exact hb.elim
   ·cases hq
theorem KidOk.obj {F : Nat → Prop} {w : World} {v : Value} {kd : KD} (h : KidOk F w v kd) {β : Bd} {n q : Nat} (hv : β.val q = v) (hb : ∀ g, kidB v = some g → β.blk q = g) : ObjOk β n F w q (kdO kd) := by
 cases kd with
 | row e sz m get => rw [← hv] at h; exact h
 | cells e cs =>
  obtain ⟨b, vs, rfl, hh, hl, hc⟩ := h
  exact ⟨vs, by rw [hb b rfl]; exact hh, hl, fun j h1 h2 => ⟨.pure _ _ (hc j h1 h2).1, (hc j h1 h2).2⟩⟩
theorem KidOk.own {F : Nat → Prop} {w : World} {v : Value} {kd : KD} (h : KidOk F w v kd) {β : Bd} {q g : Nat} (hv : β.val q = v) (hb : ∀ g, kidB v = some g → β.blk q = g) : ownB β q (kdO kd) g ↔ kidB v = some g := by
 cases kd with
 | row e sz m get =>
  obtain ⟨xs, hx, _⟩ := h
  rw [kidB_row hx]
  show blkOf (β.val q) = some g ↔ _
  rw [hv]
 | cells e cs =>
  obtain ⟨b, vs, rfl, _⟩ := h
  show β.blk q = g ↔ _
  rw [hb b rfl]
  simp [kidB]
theorem KidOk.ref {F : Nat → Prop} {w : World} {v : Value} {kd : KD} (h : KidOk F w v kd) {β : Bd} {q : Nat} (hv : β.val q = v) (hb : ∀ g, kidB v = some g → β.blk q = g) : v = kidRef β kd q ∧ v.oneCell' = true := by
 cases kd with
 | row e sz m get =>
  obtain ⟨xs, hx, _⟩ := h
  exact ⟨hv.symm, hx.one⟩
 | cells e cs =>
  obtain ⟨b, vs, rfl, _⟩ := h
  exact ⟨by simp only [kidRef]; rw [hb b rfl], rfl⟩
theorem take_iff {id i : Nat} {K : List KE} {O : List OE} {nid n : Nat} {key : Nat → AV} {kid : Nat → KD} {born : Nat → Nat} {clock aux : Nat} (hg : getO id O = some ([], .mr n key kid born clock aux none)) (hi : i < n)
  (S : Sim C G w0 N ⟨K, O, nid⟩ a w) : Sim C G w0 N ⟨K, ⟨id, [], .mr n key kid born clock aux (some (i, nid))⟩ :: ⟨nid, [], kdO (kid i)⟩ :: O, nid + 1⟩ a w := by
 obtain ⟨β, S, hag⟩ := S
 dsimp only at S hag
 obtain ⟨hid, hok⟩ := S.of id [] _ hg
 obtain ⟨ha, _, es, hh, hm, ho, hkey, hk, hd, hne, _⟩ := hok (sat_nil a)
 have nn : ∀ j : Nat, noHole none j := fun j h e => by cases e
 have nh : ∀ j, noHole (some (i, nid)) j → j ≠ i := fun j h e => h nid (by rw [e])
 have hi2 : i < es.size := by omega
 obtain ⟨hv, hki⟩ := hk i hi hi2 (nn i)
 let v := kidV (β.val aux) i
 let β' : Bd := (β.valAt nid v).blkAt nid ((kidB v).getD 0)
 have hβv : β'.val nid = v := by simp [β', Bd.blkAt, Bd.valAt]
 have hβb : ∀ g, kidB v = some g → β'.blk nid = g := fun g e => by simp [β', Bd.blkAt, e]
 have hagr : agree nid β β' := fun q hq => by simp [β', Bd.blkAt, Bd.valAt, Nat.ne_of_lt hq]
 have hki : KidOk (FO G (fun id => getO id O) β a) w v (kid i) := by rw [hv] at hki; exact hki
 refine ⟨β', ?_, hag.of hagr (Nat.le_succ _)⟩
 have hown1 : ∀ b, ownB β' id (.mr n key kid born clock aux (some (i, nid))) b → ownB β id (.mr n key kid born clock aux none) b := by
  rintro b (h | ⟨j, h1, _, h3⟩)
  ·exact .inl (by rw [← (hagr id hid).1]; exact h)
  ·exact .inr ⟨j, h1, nn j, by rw [← (hagr aux ha).2]; exact h3⟩
 have hown2 : ∀ b, ownB β' nid (kdO (kid i)) b → ownB β id (.mr n key kid born clock aux none) b := fun b h => .inr ⟨i, hi, nn i, (hki.own hβv hβb).1 h⟩
 have hcross : ∀ b, ownB β' id (.mr n key kid born clock aux (some (i, nid))) b → ownB β' nid (kdO (kid i)) b → False := by
  intro b h1 h2
  have h2 := (hki.own hβv hβb).1 h2
  rcases h1 with h | ⟨j, hj, hno, h3⟩
  ·rw [(hagr id hid).1] at h
   exact hne i i hi hi (nn i) (by rw [h]; exact h2)
  ·rw [(hagr aux ha).2] at h3
   exact nh j hno (hd j i b hj hi (nn j) (nn i) h3 h2)
 refine S.regroup (nid' := nid + 1) hagr (Nat.le_succ _) (fun q => if q = id then some (.mr n key kid born clock aux (some (i, nid))) else if q = nid then some (kdO (kid i)) else none) (fun q => ?_) (fun q o hq => ?_) (fun q o b hq hb => ?_) (fun q q' o o' b hq hq' hb hb' => ?_)
 ·show getO q _ = _
  rw [getO_cons, getO_cons]
  by_cases h1 : q = id
  ·simp [h1]
  ·by_cases h2 : q = nid
   ·simp [h2, show nid ≠ id by omega]
   ·simp [h1, h2]
 ·split at hq
  ·rename_i e
   subst e
   cases hq
   refine ⟨by omega, by omega, fun i' h e => ?_, es, by rw [(hagr q hid).1]; exact hh, hm, ho, hkey, fun j hj h2 hno => ?_, ?_, ?_, fun i' h e h2 => ?_⟩
   ·simp only [Option.some.injEq, Prod.mk.injEq] at e
    exact ⟨by omega, by omega⟩
   ·rw [(hagr aux ha).2]
    exact hk j hj h2 (nn j)
   ·rw [(hagr aux ha).2]
    exact fun p r g h1 h2 _ _ => hd p r g h1 h2 (nn p) (nn r)
   ·rw [(hagr aux ha).2, (hagr q hid).1]
    exact fun p r h1 h2 _ => hne p r h1 h2 (nn p)
   ·simp only [Option.some.injEq, Prod.mk.injEq] at e
    obtain ⟨rfl, rfl⟩ := e
    rw [hv]
    exact hki.ref hβv hβb
  ·split at hq
   ·rename_i e
    subst e
    cases hq
    exact ⟨Nat.lt_succ_self _, hki.obj hβv hβb⟩
   ·cases hq
 ·split at hq
  ·rename_i e
   subst e
   cases hq
   exact ⟨q, _, by simp, hg, hown1 b hb⟩
  ·split at hq
   ·rename_i e
    subst e
    cases hq
    exact ⟨id, _, by simp, hg, hown2 b hb⟩
   ·cases hq
 ·split at hq
  ·rename_i e
   subst e
   cases hq
   split at hq'
   ·rename_i e'
    rw [e']
   ·split at hq'
    ·rename_i e'
     subst e'
     cases hq'
     exact (hcross b hb hb').elim
    ·cases hq'
  ·split at hq
   ·rename_i e
    subst e
    cases hq
    split at hq'
    ·rename_i e'
     subst e'
     cases hq'
     exact (hcross b hb' hb).elim
    ·split at hq'
     ·rename_i e'
      rw [e']
     ·cases hq'
   ·cases hq
theorem put_iff {id i h : Nat} {K : List KE} {O : List OE} {nid n : Nat} {key : Nat → AV} {kid kid' : Nat → KD} {born : Nat → Nat} {clock aux : Nat} {o : AO} {kd : KD} (hg : getO id O = some ([], .mr n key kid born clock aux (some (i, h)))) (hgh : getO h O = some ([], o)) (hkd : oKD o = some kd)
  (hsame : ∀ j, j < n → j ≠ i → kid' j = kid j) (heq : KDEq kd (kid' i)) (href : kidA (kid i) h = kidA kd h)
  (S : Sim C G w0 N ⟨K, O, nid⟩ a w) : Sim C G w0 N ⟨K, ⟨id, [], .mr n key kid' born clock nid none⟩ :: ⟨nid, [], .dead⟩ :: ⟨h, [], .dead⟩ :: O, nid + 1⟩ a w := by
 obtain ⟨β, S, hag⟩ := S
 dsimp only at S hag
 obtain ⟨hid, hok⟩ := S.of id [] _ hg
 obtain ⟨ha, hho, es, hh, hm, ho, hkey, hk, hd, hne, hhole⟩ := hok (sat_nil a)
 obtain ⟨hhlt, hokh⟩ := S.of h [] _ hgh
 obtain ⟨_, hi⟩ := hho i h rfl
 have hi2 : i < es.size := by omega
 obtain ⟨hv, hone⟩ := hhole i h rfl hi2
 have hhid : h ≠ id := by
  intro e
  subst e
  rw [hg] at hgh
  simp only [Option.some.injEq, Prod.mk.injEq, true_and] at hgh
  subst hgh
  simp [oKD] at hkd
 let v := es[i].val
 have hrefv : v = kidRef β kd h := by
  show es[i].val = _
  rw [hv]
  have : ∀ x y : KD, kidA x h = kidA y h → kidRef β x h = kidRef β y h := by
   intro x y e
   cases x <;> cases y <;> simp [kidA] at e <;> rfl
  exact this _ _ href
 have hkidh : KidOk (FO G (fun id => getO id O) β a) w v kd ∧ ∀ g, ownB β h o g ↔ kidB v = some g := by
  have hob := hokh (sat_nil a)
  cases o with
  | row e sz m get =>
   cases hkd
   have e1 : v = β.val h := hrefv
   refine ⟨by rw [e1]; exact hob, fun g => ?_⟩
   obtain ⟨xs, hx, _⟩ := hob
   rw [e1, kidB_row hx]
   exact Iff.rfl
  | cells e cs =>
   have hkd : (match AV.lts 0 cs with | true => some (KD.cells e cs) | false => none) = some kd := hkd
   split at hkd
   ·rename_i hl0
    cases hkd
    have e1 : v = .pointer (some ⟨β.blk h, 0, none⟩) := hrefv
    obtain ⟨vs, hh2, hl2, hc2⟩ := hob
    refine ⟨⟨β.blk h, vs, e1, hh2, hl2, fun j h1 h2 => ⟨(hc2 j h1 h2).1.toPure (AV.lts_get hl0 j h1), (hc2 j h1 h2).2⟩⟩, fun g => ?_⟩
    rw [e1]
    show β.blk h = g ↔ _
    simp [kidB]
   ·cases hkd
  | _ => simp [oKD] at hkd
 obtain ⟨hkidh, hownh⟩ := hkidh
 let vs : List Value := (List.range n).map fun j => if j = i then v else kidV (β.val aux) j
 let β' : Bd := β.valAt nid (.agg vs.toArray)
 have hβ' : ∀ j, j < n → kidV (β'.val nid) j = if j = i then v else kidV (β.val aux) j := fun j hj => by
  have e : β'.val nid = .agg vs.toArray := by simp [β', Bd.valAt]
  rw [e]
  simp [kidV, vs, List.getD, hj]
 have hagr : agree nid β β' := agree_valAt _ _ _
 have nn : ∀ j : Nat, noHole none j := fun j h e => by cases e
 have nh : ∀ j, j ≠ i → noHole (some (i, h)) j := fun j hne q e => by
  simp only [Option.some.injEq, Prod.mk.injEq] at e
  exact hne e.1.symm
 have hmrh : ∀ b, ownB β id (.mr n key kid born clock aux (some (i, h))) b → ownB β h o b → False := fun b h1 h2 => hhid (S.dist h id [] [] _ _ b hgh hg (sat_nil a) (sat_nil a) h2 h1)
 have hown1 : ∀ b, ownB β' id (.mr n key kid' born clock nid none) b → ownB β id (.mr n key kid born clock aux (some (i, h))) b ∨ ownB β h o b := by
  rintro b (hb | ⟨j, h1, _, h3⟩)
  ·exact .inl (.inl (by rw [← (hagr id hid).1]; exact hb))
  ·rw [hβ' j h1] at h3
   by_cases hji : j = i
   ·rw [if_pos hji] at h3
    exact .inr ((hownh b).2 h3)
   ·rw [if_neg hji] at h3
    exact .inl (.inr ⟨j, h1, nh j hji, h3⟩)
 refine ⟨β', ?_, hag.of hagr (Nat.le_succ _)⟩
 refine S.regroup (nid' := nid + 1) hagr (Nat.le_succ _) (fun q => if q = id then some (.mr n key kid' born clock nid none) else if q = nid then some .dead else if q = h then some .dead else none) (fun q => ?_) (fun q o' hq => ?_) (fun q o' b hq hb => ?_) (fun q q' o1 o2 b hq hq' hb hb' => ?_)
 ·dsimp only
  rw [getO_cons, getO_cons, getO_cons]
  by_cases h1 : q = id
  ·simp [h1]
  ·by_cases h2 : q = nid
   ·simp [h2, show nid ≠ id by omega]
   ·by_cases h3 : q = h
    ·simp [h3, hhid, show h ≠ nid by omega]
    ·simp [h1, h2, h3]
 ·split at hq
  ·rename_i e
   subst e
   cases hq
   refine ⟨by omega, Nat.lt_succ_self _, fun _ _ e => (by cases e), es, by rw [(hagr q hid).1]; exact hh, hm, ho, hkey, fun j hj h2 _ => ?_, fun p r g h1 h2 _ _ h3 h4 => ?_, fun p r h1 h2 _ h3 => ?_, fun _ _ e => (by cases e)⟩
   ·rw [hβ' j hj]
    by_cases hji : j = i
    ·subst hji
     rw [if_pos rfl]
     exact ⟨rfl, heq.ok hkidh⟩
    ·rw [if_neg hji, hsame j hj hji]
     exact hk j hj h2 (nh j hji)
   ·rw [hβ' p h1] at h3
    rw [hβ' r h2] at h4
    by_cases hpi : p = i <;> by_cases hri : r = i
    ·omega
    ·rw [if_pos hpi] at h3
     rw [if_neg hri] at h4
     exact (hmrh g (.inr ⟨r, h2, nh r hri, h4⟩) ((hownh g).2 h3)).elim
    ·rw [if_neg hpi] at h3
     rw [if_pos hri] at h4
     exact (hmrh g (.inr ⟨p, h1, nh p hpi, h3⟩) ((hownh g).2 h4)).elim
    ·rw [if_neg hpi] at h3
     rw [if_neg hri] at h4
     exact hd p r g h1 h2 (nh p hpi) (nh r hri) h3 h4
   ·rw [hβ' p h1, (hagr q hid).1] at h3
    by_cases hpi : p = i
    ·rw [if_pos hpi] at h3
     exact hmrh _ (.inl rfl) ((hownh _).2 h3)
    ·rw [if_neg hpi] at h3
     exact hne p r h1 h2 (nh p hpi) h3
  ·split at hq
   ·rename_i e
    subst e
    cases hq
    exact ⟨Nat.lt_succ_self _, trivial⟩
   ·split at hq
    ·rename_i e
     subst e
     cases hq
     exact ⟨by omega, trivial⟩
    ·cases hq
 ·split at hq
  ·rename_i e
   subst e
   cases hq
   rcases hown1 b hb with h1 | h1
   ·exact ⟨q, _, by simp, hg, h1⟩
   ·exact ⟨h, _, by simp [hhid], hgh, h1⟩
  ·split at hq
   ·cases hq
    exact hb.elim
   ·split at hq
    ·cases hq
     exact hb.elim
    ·cases hq
 ·split at hq
  ·rename_i e
   split at hq'
   ·rename_i e'
    rw [e, e']
   ·split at hq'
    ·cases hq'
     exact hb'.elim
    ·split at hq'
     ·cases hq'
      exact hb'.elim
     ·cases hq'
  ·split at hq
   ·cases hq
    exact hb.elim
   ·split at hq
    ·cases hq
     exact hb.elim
    ·cases hq
theorem nx_iff {id : Nat} {K : List KE} {O : List OE} {nid n : Nat} {key : Nat → AV} {kid : Nat → KD} {born : Nat → Nat} {clock aux : Nat} (hg : getO id O = some ([], .mr n key kid born clock aux none))
  (S : Sim C G w0 N ⟨K, O, nid⟩ a w) : Sim C G w0 N ⟨K, ⟨id, [], .mr n key kid born clock nid none⟩ :: ⟨nid, [], .dead⟩ :: O, nid + 1⟩ a w := by
 obtain ⟨β, S, hag⟩ := S
 dsimp only at S hag
 obtain ⟨hid, hok⟩ := S.of id [] _ hg
 obtain ⟨ha, _, es, hh, hm, ho, hkey, hk, hd, hne, _⟩ := hok (sat_nil a)
 let β' : Bd := β.valAt nid (β.val aux)
 have hagr : agree nid β β' := agree_valAt _ _ _
 have hv : β'.val nid = β.val aux := by simp [β', Bd.valAt]
 refine ⟨β', ?_, hag.of hagr (Nat.le_succ _)⟩
 refine S.regroup (nid' := nid + 1) hagr (Nat.le_succ _) (fun q => if q = id then some (.mr n key kid born clock nid none) else if q = nid then some .dead else none) (fun q => ?_) (fun q o hq => ?_) (fun q o b hq hb => ?_) (fun q q' o o' b hq hq' hb hb' => ?_)
 ·show getO q _ = _
  rw [getO_cons, getO_cons]
  by_cases h1 : q = id
  ·simp [h1]
  ·by_cases h2 : q = nid
   ·simp [h2, show nid ≠ id by omega]
   ·simp [h1, h2]
 ·split at hq
  ·rename_i e
   subst e
   cases hq
   exact ⟨by omega, Nat.lt_succ_self _, fun _ _ e => (by cases e), es, by rw [(hagr q hid).1]; exact hh, hm, ho, hkey, by rw [hv]; exact hk, by rw [hv]; exact hd, by rw [hv, (hagr q hid).1]; exact hne, fun _ _ e => (by cases e)⟩
  ·split at hq
   ·rename_i e
    subst e
    cases hq
    exact ⟨Nat.lt_succ_self _, trivial⟩
   ·cases hq
 ·split at hq
  ·rename_i e
   subst e
   cases hq
   refine ⟨q, _, by simp, hg, ?_⟩
   rcases hb with hb | ⟨i, h1, h2, h3⟩
   ·exact .inl (by rw [← (hagr q hid).1]; exact hb)
   ·exact .inr ⟨i, h1, h2, by rw [← hv]; exact h3⟩
  ·split at hq
   ·cases hq
    exact hb.elim
   ·cases hq
 ·split at hq
  ·rename_i e
   split at hq'
   ·rename_i e'
    rw [e, e']
   ·split at hq'
    ·cases hq'
     exact hb'.elim
    ·cases hq'
  ·split at hq
   ·cases hq
    exact hb.elim
   ·cases hq
theorem nw_iff {K : List KE} {O : List OE} {nid : Nat} (S : Sim C G w0 N ⟨K, O, nid⟩ a w) : Sim C G w0 N ⟨K, ⟨nid, [], .dead⟩ :: O, nid + 1⟩ a w := by
 obtain ⟨β, S, hag⟩ := S
 dsimp only at S hag
 refine ⟨β, ?_, hag.more (Nat.le_succ _)⟩
 refine S.regroup (nid' := nid + 1) (fun _ _ => ⟨rfl, rfl⟩) (Nat.le_succ _) (fun q => if q = nid then some .dead else none) (fun q => ?_) (fun q o hq => ?_) (fun q o b hq hb => ?_) (fun q q' o o' b hq hq' hb hb' => ?_)
 ·show getO q _ = _
  rw [getO_cons]
  by_cases h2 : q = nid
  ·simp [h2]
  ·simp [h2]
 ·split at hq
  ·rename_i e
   subst e
   cases hq
   exact ⟨Nat.lt_succ_self _, trivial⟩
  ·cases hq
 ·split at hq
  ·cases hq
   exact hb.elim
  ·cases hq
 ·split at hq
  ·cases hq
   exact hb.elim
  ·cases hq
theorem nlc_iff {id off : Nat} {e : TypeId} {sz : Nat} {K : List KE} {O : List OE} {nid : Nat} {t : TypeId} {cs : List AV} {v : Value} (hg : getO id O = some ([], .cells t cs)) (hc : nthA off cs = some (.val v)) (hn : nilSlice v = true)
  (S : Sim C G w0 N ⟨K, O, nid⟩ a w) : Sim C G w0 N ⟨K, ⟨id, [], .cells t (setA off (.so nid) cs)⟩ :: ⟨nid, [], .row e sz 0 fun _ => []⟩ :: O, nid + 1⟩ a w := by
 obtain ⟨β, S, hag⟩ := S
 dsimp only at S hag
 have hids : ∀ id g o, getO id O = some (g, o) → id < nid := fun id g o h => (S.of id g o h).1
 have hpost : EffPost β (β.valAt nid (.slice none 0 0)) nid (FO G (fun id => getO id O) β a) (fun _ => none) w w (.slice none 0 0) (.ext [.row e sz 0 fun _ => []] (.so nid)) :=
  .row e sz 0 _ _ [] (Below.refl _ _) (RowAt.of_owns (World.ownsRow_nil w w.heap.size e sz)).1 (fun g hg => by cases hg) (fun k hk => by omega) (fun k j hk => by omega)
 obtain ⟨S', _⟩ := S.eff (lk := fun _ => none) (tg := []) (eff := .ext [.row e sz 0 fun _ => []] (.so nid)) (fun id o h => by cases h) (sat_nil a) trivial hpost
 have hidlt : id < nid := hids _ _ _ hg
 have hO : (fun id => getO id (⟨nid, [], .row e sz 0 fun _ => []⟩ :: O)) = effO [] nid (fun id => getO id O) (.ext [.row e sz 0 fun _ => []] (.so nid)) := funext fun id => by
  rw [getO_cons]
  by_cases hid : id = nid
  ·subst hid; simp [effO]
  ·by_cases hle : nid ≤ id
   ·have : (getO id O) = none := by
     cases hq : getO id O with
     | none => rfl
     | some p => have := hids id p.1 p.2 hq; omega
    have e : id - nid = (id - nid - 1) + 1 := by omega
    rw [if_neg hid, this]
    simp only [effO, if_pos hle]
    rw [e]
    simp
   ·simp [effO, hid, hle]
 rw [← hO] at S'
 refine ⟨β.valAt nid (.slice none 0 0), ?_, hag.of (agree_valAt _ _ _) (Nat.le_succ _)⟩
 refine SimF.other S' fun id' g' o' ho' => ?_
 dsimp only at ho'
 rw [getO_cons] at ho'
 split at ho'
 ·rename_i he
  subst he
  simp only [Option.some.injEq, Prod.mk.injEq] at ho'
  obtain ⟨rfl, rfl⟩ := ho'
  refine ⟨.cells t cs, ?_, fun b hb => hb, fun F hok => ?_⟩
  ·rw [getO_cons, if_neg (by omega)]
   exact hg
  ·obtain ⟨vs, h1, h2, h3⟩ := hok
   refine ⟨vs, h1, by rw [setA_len]; exact h2, fun j hj1 hj2 => ?_⟩
   have hj : j < cs.length := by rw [setA_len] at hj1; exact hj1
   rw [setA_get off _ cs j hj1 hj]
   by_cases hjo : j = off
   ·rw [if_pos hjo]
    subst hjo
    rw [nthA_eq, List.getElem?_eq_getElem hj] at hc
    have hcv : cs[j] = .val v := Option.some.inj hc
    have hrep := (h3 j hj hj2).1
    rw [hcv] at hrep
    have e1 := hrep.val_inv
    have e2 := nilSlice_iff hn
    have := Rep.so (β := β.valAt nid (.slice none 0 0)) (n := nid + 1) (F := F) (w := w) nid (by omega) (by simp [Bd.valAt]; rfl)
    rw [e1, e2]
    refine ⟨by simpa [Bd.valAt] using this, rfl⟩
   ·rw [if_neg hjo]
    exact h3 j hj hj2
 ·exact ⟨o', ho', fun b hb => hb, fun F h => h⟩
theorem SimF.weak {K : KF} {O O' : OF} {nid : Nat} {β : Bd} {A : Nat → Prop} (S : SimF A G w0 N K O nid β a w) (hO : ∀ id g o, O' id = some (g, o) → ∃ o0, O id = some (g, o0) ∧ AOEq o o0) :
  SimF A G w0 N K O' nid β a w := by
 have hsub : ∀ b, FO G O' β a b → FO G O β a b := by
  rintro b (hg | ⟨id, g, o, ho, hs, hb⟩)
  ·exact .inl hg
  obtain ⟨o0, h1, h2⟩ := hO id g o ho
  exact .inr ⟨id, g, o0, h1, hs, h2.own hb⟩
 refine ⟨S.gold, S.below, S.tsz, S.dfs, fun s g av hk => ⟨fun hs => ?_, (S.kf s g av hk).2⟩, fun id g o ho => ?_, fun id g o b ho hs hb => ?_, fun id id' g g' o o' b ho ho' hs hs' hb hb' => ?_⟩
 ·exact ((S.kf s g av hk).1 hs).stable (fun b _ hn hf => hn (hsub b hf)) (fun _ _ _ => rfl) (Nat.le_refl _)
 ·obtain ⟨o0, h1, h2⟩ := hO id g o ho
  refine ⟨(S.of id g o0 h1).1, fun hs => ?_⟩
  exact (h2.ok ((S.of id g o0 h1).2 hs)).stable (S.of id g o0 h1).1 (Nat.le_refl _) (fun _ _ => ⟨rfl, rfl⟩) (fun b _ hn hf => hn (hsub b hf)) (fun _ _ _ => rfl) (Nat.le_refl _) (fun _ _ => rfl)
 ·obtain ⟨o0, h1, h2⟩ := hO id g o ho
  exact S.allow id g o0 b h1 hs (h2.own hb)
 ·obtain ⟨o0, h1, h2⟩ := hO id g o ho
  obtain ⟨o0', h1', h2'⟩ := hO id' g' o' ho'
  exact S.dist id id' g g' o0 o0' b h1 h1' hs hs' (h2.own hb) (h2'.own hb')
theorem killO_iff : ∀ {ids : List Nat} {O : List OE} {k : List OE → Prop}, killO ids O k → ∃ O', k O' ∧ (∀ id g o, getO id O' = some (g, o) → (o = .dead ∧ ∃ p, getO id O = some p) ∨ getO id O = some (g, o)) ∧
  (∀ id, id ∈ ids → ∃ g, getO id O' = some (g, .dead)) ∧ ∀ id, (∃ g, getO id O = some (g, .dead)) → ∃ g, getO id O' = some (g, .dead)
 | [], O, k, h => ⟨O, h, fun _ _ _ h => .inr h, fun _ h => by simp at h, fun _ h => h⟩
 | i :: r, O, k, h => by
  unfold killO at h
  split at h
  ·rename_i o0 hg
   obtain ⟨O', h, h1, h2, h3⟩ := killO_iff h
   refine ⟨O', h, fun id g o ho => ?_, fun id hid => ?_, fun id hid => ?_⟩
   ·rcases h1 id g o ho with ⟨rfl, p, hp⟩ | hp
    ·rw [getO_cons] at hp
     split at hp
     ·rename_i he; subst he; exact .inl ⟨rfl, _, hg⟩
     ·exact .inl ⟨rfl, p, hp⟩
    ·rw [getO_cons] at hp
     split at hp
     ·rename_i he; subst he
      simp only [Option.some.injEq, Prod.mk.injEq] at hp
      exact .inl ⟨hp.2.symm, _, hg⟩
     ·exact .inr hp
   ·rcases List.mem_cons.1 hid with rfl | hid
    ·exact h3 id ⟨[], by rw [getO_cons, if_pos rfl]⟩
    ·exact h2 id hid
   ·apply h3
    obtain ⟨g, hg'⟩ := hid
    by_cases he : id = i
    ·exact ⟨[], by rw [getO_cons, if_pos he]⟩
    ·exact ⟨g, by rw [getO_cons, if_neg he]; exact hg'⟩
  ·exact h.elim
theorem put_same {s : Nat} (h : s < a.tmps.size) : a.put (some s) (a.tmps.getD s undef) = a := by
 have hget : a.tmps.getD s undef = a.tmps[s] := by rw [Array.getD_eq_getD_getElem?, Array.getElem?_eq_getElem h]; rfl
 rw [hget]
 obtain ⟨tmps, dfs⟩ := a
 simp only [Act.put, Act.mk.injEq, and_true]
 rw [Array.setIfInBounds_def, dif_pos h]
 simp
theorem memN_true {s : Nat} : ∀ {l : List Nat}, memN s l = true → s ∈ l
 | [], h => by simp [memN] at h
 | t :: r, h => by
  unfold memN at h
  split at h
  ·rename_i hb
   have hb := Nat.eq_of_beq_eq_true hb
   subst hb
   simp
  ·exact List.mem_cons_of_mem _ (memN_true h)
theorem mvc_iff {id off i : Nat} {e : TypeId} {sz n : Nat} {get : Nat → List AV} {K : List KE} {O : List OE} {nid : Nat} {t : TypeId} {cs : List AV} (hg : getO id O = some ([], .cells t cs)) (hc : nthA off cs = some (.so i)) (hi : getO i O = some ([], .row e sz n get))
  (S : Sim C G w0 N ⟨K, O, nid⟩ a w) : Sim C G w0 N ⟨K, ⟨id, [], .cells t (setA off (.so nid) cs)⟩ :: ⟨nid, [], .row e sz n get⟩ :: ⟨i, [], .dead⟩ :: O, nid + 1⟩ a w := by
 obtain ⟨β, S, hag⟩ := S
 dsimp only at S hag
 have hids : ∀ id g o, getO id O = some (g, o) → id < nid := fun id g o h => (S.of id g o h).1
 have hilt : i < nid := hids _ _ _ hi
 have hidlt : id < nid := hids _ _ _ hg
 have hne : id ≠ i := fun h => by rw [h, hi] at hg; cases hg
 have hlk : lkOf O [] i = some (.row e sz n get) := by
  unfold lkOf
  rw [hi]
  rfl
 obtain ⟨xs, hx, hlen, hcx⟩ := (S.of i [] _ hi).2 (sat_nil a)
 have hval : (β.valAt nid (β.val i)).val nid = β.val i := by simp [Bd.valAt]
 have hvali : (β.valAt nid (β.val i)).val i = β.val i := by simp [Bd.valAt, Nat.ne_of_lt hilt]
 have hown : ownB (β.valAt nid (β.val i)) nid (.row e sz n get) = ownB β i (.row e sz n get) := by
  simp only [ownB, hval]
 have hFX : ∀ g, g < w.heap.size → ¬ FO G (fun id => getO id O) β a g → ¬ FX (FO G (fun id => getO id O) β a) (β.valAt nid (β.val i)) nid [.row e sz n get] g := by
  rintro g hgl hn (hf' | ⟨j, o, hj, ho⟩)
  ·exact hn hf'
  ·cases j with
   | succ j => simp at hj
   | zero =>
    simp at hj
    subst hj
    rw [Nat.add_zero, hown] at ho
    exact hn (.inr ⟨i, [], _, hi, sat_nil a, ho⟩)
 have hpost : EffPost β (β.valAt nid (β.val i)) nid (FO G (fun id => getO id O) β a) (lkOf O []) w w (β.val i) (.app i (.row e sz n get) (.so nid)) := by
  refine ⟨agree_valAt _ _ _, _, hlk, ⟨⟨rfl, rfl, rfl, Nat.le_refl _, fun _ _ _ => rfl⟩, Nat.le_refl _⟩, .inl hown, ⟨xs, by rw [hval]; exact hx, hlen, fun k j hk h1 h2 => ?_⟩, ?_⟩
  ·exact ⟨(hcx k j hk h1 h2).1.stable hFX (fun _ _ _ => rfl) (Nat.le_refl _), (hcx k j hk h1 h2).2⟩
  ·have := Rep.so (β := β.valAt nid (β.val i)) (n := nid + 1) (F := FX (FO G (fun id => getO id O) β a) (β.valAt nid (β.val i)) nid [.row e sz n get]) (w := w) nid (by omega) (by rw [hval]; exact hx.one)
   rwa [hval] at this
 obtain ⟨S', _⟩ := S.eff (lk := lkOf O []) (lkOf_sound (O := O) (sat_nil a)) (tg := []) (eff := .app i (.row e sz n get) (.so nid)) (sat_nil a) (fun g o _ => rfl) hpost
 have hO : (fun id => getO id (⟨nid, [], .row e sz n get⟩ :: ⟨i, [], .dead⟩ :: O)) = effO [] nid (fun id => getO id O) (.app i (.row e sz n get) (.so nid)) := funext fun id => by
  rw [getO_cons, getO_cons]
  simp only [effO]
  by_cases h1 : id = nid
  ·rw [if_pos h1, if_pos h1]
  ·rw [if_neg h1, if_neg h1]
   by_cases h2 : id = i
   ·rw [if_pos h2, if_pos h2, hi]
    rfl
   ·rw [if_neg h2, if_neg h2]
 rw [← hO] at S'
 refine ⟨β.valAt nid (β.val i), ?_, hag.of (agree_valAt _ _ _) (Nat.le_succ _)⟩
 refine SimF.other S' fun id' g' o' ho' => ?_
 dsimp only at ho'
 rw [getO_cons] at ho'
 split at ho'
 ·rename_i he
  subst he
  simp only [Option.some.injEq, Prod.mk.injEq] at ho'
  obtain ⟨rfl, rfl⟩ := ho'
  refine ⟨.cells t cs, ?_, fun b hb => hb, fun F hok => ?_⟩
  ·rw [getO_cons, if_neg (by omega), getO_cons, if_neg hne]
   exact hg
  ·obtain ⟨vs, h1, h2, h3⟩ := hok
   refine ⟨vs, h1, by rw [setA_len]; exact h2, fun j hj1 hj2 => ?_⟩
   have hj : j < cs.length := by rw [setA_len] at hj1; exact hj1
   rw [setA_get off _ cs j hj1 hj]
   by_cases hjo : j = off
   ·rw [if_pos hjo]
    subst hjo
    rw [nthA_eq, List.getElem?_eq_getElem hj] at hc
    have hcv : cs[j] = .so i := Option.some.inj hc
    have hrep := h3 j hj hj2
    rw [hcv] at hrep
    have e1 := hrep.1.so_inv.2
    rw [hvali] at e1
    have := Rep.so (β := β.valAt nid (β.val i)) (n := nid + 1) (F := F) (w := w) nid (by omega) (by rw [hval]; exact hx.one)
    rw [hval] at this
    rw [e1]
    exact ⟨this, hx.one⟩
   ·rw [if_neg hjo]
    exact h3 j hj hj2
 ·exact ⟨o', ho', fun b hb => hb, fun F h => h⟩
theorem ghK_iff {fr : Bool} (hfr : fr = true → ∀ g, ¬ C.al g) : ∀ {l : List Gh} {st : St} {k : St → Prop}, ghK N fr l st k → Sim C G w0 N st a w → ∃ st', k st' ∧ Sim C G w0 N st' a w
 | [], st, k, h, S => ⟨st, h, S⟩
 | .own s :: r, ⟨K, O, nid⟩, k, h, S => by
  unfold ghK at h
  split at h
  ·rename_i id sz lo n hf
   split at h
   ·rename_i e sz' n0 get hg
    split at h
    ·rename_i hsz
     have hsz := Nat.eq_of_beq_eq_true hsz
     subst hsz
     obtain ⟨β, S, hag⟩ := S
     dsimp only at S hag
     have hv := (S.kf s [] _ hf).1 (sat_nil a)
     obtain ⟨hid, hsv⟩ := hv.sv_inv
     generalize hu : a.tmps.getD s undef = v at hv hsv
     have E := S.env (lkOf_sound (O := O) (sat_nil a))
     have hlk : lkOf O [] id = some (.row e sz' n0 get) := by
      unfold lkOf
      rw [hg]
      rfl
     obtain ⟨_, xs, hx, hlen, hc⟩ := E.obj id _ hlk
     have hval : (β.valAt nid v).val nid = v := by simp [Bd.valAt]
     have hrow : ∃ ys, RowAt w e sz' v n ys ∧ (∀ j, j < ys.length → ys[j]? = xs[lo * sz' + j]?) ∧ (0 < n → lo + n ≤ n0) := by
      rcases hsv with ⟨rfl, hn0, hb⟩ | ⟨ad, rfl, hn0, _⟩ | ⟨g, o, m, c, hb, hlo, hloc, rfl⟩
      ·exact ⟨[], ⟨by simp [hn0], .inl ⟨rfl, hn0⟩⟩, fun j h => by simp at h, fun h => by omega⟩
      ·exact ⟨[], ⟨by simp [hn0], .inr (.inl ⟨ad, rfl, hn0⟩)⟩, fun j h => by simp at h, fun h => by omega⟩
      ·rcases hx.2 with ⟨hv2, _⟩ | ⟨ad, hv2, _⟩ | ⟨g', off, cap, cur, hv2, hh, hnc, hcm, hcs, htake⟩
       ·rw [hb] at hv2; cases hv2
       ·rw [hb] at hv2; cases hv2; omega
       ·rw [hb] at hv2
        simp only [Value.slice.injEq, Option.some.injEq, Addr.mk.injEq] at hv2
        obtain ⟨⟨rfl, rfl, _⟩, rfl, rfl⟩ := hv2
        have e1 : (lo + (cap + 1 - lo)) * sz' = lo * sz' + (cap + 1 - lo) * sz' := Nat.add_mul _ _ _
        have e2 : (lo + n) * sz' = lo * sz' + n * sz' := Nat.add_mul _ _ _
        have e3 : lo + (cap + 1 - lo) = cap + 1 := by omega
        rw [e3] at e1
        have e4 : (lo + n) * sz' ≤ m * sz' := Nat.mul_le_mul_right _ hloc
        have e5 : m * sz' ≤ (cap + 1) * sz' := Nat.mul_le_mul_right _ hnc
        refine ⟨(cur.toList.drop (o + lo * sz')).take (n * sz'), ⟨?_, .inr (.inr ⟨g, o + lo * sz', cap - lo, cur, ?_, hh, by omega, by omega, ?_, rfl⟩)⟩, fun j hj => ?_, fun _ => hloc⟩
        ·simp
         omega
        ·congr 1
         omega
        ·have e6 : cap - lo + 1 = cap + 1 - lo := by omega
         rw [e6]
         omega
        ·simp only [List.length_take, List.length_drop] at hj
         rw [← htake, List.getElem?_take, List.getElem?_take, if_pos (by omega), if_pos (by omega), List.getElem?_drop, List.getElem?_drop]
         congr 1
         omega
     obtain ⟨ys, hy, hyx, hln⟩ := hrow
     have hownEq : ownB (β.valAt nid v) nid (.row e sz' n fun k => get (k + lo)) = ownB β id (.row e sz' n0 get) ∨ ∀ g, ¬ ownB (β.valAt nid v) nid (.row e sz' n fun k => get (k + lo)) g := by
      simp only [ownB, hval]
      rcases hsv with ⟨rfl, hn0, hb⟩ | ⟨ad, rfl, hn0, _⟩ | ⟨g, o, m, c, hb, hlo, hloc, rfl⟩
      ·exact .inr fun g h => by cases h
      ·exact .inr fun g h => by cases h
      ·left
       rw [hb]
       have e1 : c - lo = (c - lo - 1) + 1 := by omega
       have e2 : c = (c - 1) + 1 := by omega
       rw [e1, e2]
       rfl
     have hFX : ∀ g, g < w.heap.size → ¬ FO G (fun id => getO id O) β a g → ¬ FX (FO G (fun id => getO id O) β a) (β.valAt nid v) nid [.row e sz' n fun k => get (k + lo)] g := by
      rintro g hgl hn (hf' | ⟨j, o, hj, ho⟩)
      ·exact hn hf'
      ·cases j with
       | succ j => simp at hj
       | zero =>
        simp at hj
        subst hj
        rw [Nat.add_zero] at ho
        rcases hownEq with h | h
        ·rw [h] at ho
         exact hn (.inr ⟨id, [], _, hg, sat_nil a, ho⟩)
        ·exact h g ho
     have hpost : EffPost β (β.valAt nid v) nid (FO G (fun id => getO id O) β a) (lkOf O []) w w v (.app id (.row e sz' n fun k => get (k + lo)) (.so nid)) := by
      refine ⟨agree_valAt _ _ _, _, hlk, ?_, ?_, ⟨ys, by rw [hval]; exact hy, fun k hk => hlen _ (by have := hln (by omega); omega), fun k j hk h1 h2 => ?_⟩, ?_⟩
      ·exact ⟨⟨rfl, rfl, rfl, Nat.le_refl _, fun _ _ _ => rfl⟩, Nat.le_refl _⟩
      ·rcases hownEq with h | h
       ·exact .inl h
       ·exact .inr fun g hg => (h g hg).elim
      ·have hkn := hln (by omega)
       have h3 := hyx _ h2
       have hl := hlen (k + lo) (by omega)
       have h1' : j < (get (k + lo)).length := h1
       have h4 : (k + lo) * sz' + j < xs.length := by
        rw [hx.1]
        calc (k + lo) * sz' + j < (k + lo) * sz' + sz' := by omega
         _ = (k + lo + 1) * sz' := by rw [Nat.add_mul (k + lo) 1]; omega
         _ ≤ n0 * sz' := Nat.mul_le_mul_right _ (by omega)
       have e1 : lo * sz' + (k * sz' + j) = (k + lo) * sz' + j := by rw [Nat.add_mul]; omega
       rw [e1, List.getElem?_eq_getElem h2, List.getElem?_eq_getElem h4] at h3
       have h3 := Option.some.inj h3
       have := hc (k + lo) j (by omega) h1' h4
       rw [h3]
       exact ⟨this.1.stable hFX (fun _ _ _ => rfl) (Nat.le_refl _), this.2⟩
      ·have hp := Rep.so (β := β.valAt nid v) (n := nid + 1) (F := FX (FO G (fun id => getO id O) β a) (β.valAt nid v) nid [.row e sz' n fun k => get (k + lo)]) (w := w) nid (by omega) (by rw [hval]; exact hy.one)
       rw [hval] at hp
       exact hp
     obtain ⟨st', hk, S'⟩ := eff_sim S hag hpost h
     have hlt : s < a.tmps.size := by
      obtain ⟨st2, hk2, hfit, hO2, hnid2, hK2, hd⟩ := applyS_iff (fun id g o h => (S.of id g o h).1) h
      rw [S.tsz]
      exact (hd s rfl).1
     rw [← hu, put_same hlt] at S'
     exact ghK_iff hfr hk S'
    ·exact h.elim
   ·exact h.elim
  ·exact h.elim
 | .frz s ids :: r, ⟨K, O, nid⟩, k, h, S => by
  unfold ghK at h
  split at h
  ·rename_i av hf
   obtain ⟨β, S, hag⟩ := S
   dsimp only at S hag
   have hv := (S.kf s [] _ hf).1 (sat_nil a)
   have E := S.env (lkOf_sound (O := O) (sat_nil a))
   let Fa : Nat → Prop := fun b => FO G (fun id => getO id O) β a b ∧ ∀ id o, id ∈ ids → getO id O = some ([], o) → ¬ ownB β id o b
   obtain ⟨b, h, hb⟩ := (views_sound E (Fa := Fa) (fun g h => h.1) (lkv := lkIn O ids) (fun id o h => by
     unfold lkIn at h
     split at h
     ·exact h
     ·cases h) (fun id o g hlk ho hF => by
     unfold lkIn at hlk
     split at hlk
     ·rename_i hm
      exact hF.2 id o (memN_true hm) (lk_get hlk) ho
     ·cases hlk) 60).1 av _ _ hv h
   obtain ⟨O', h, hO1, hO2, _⟩ := killO_iff h
   obtain ⟨S1, hsub⟩ := S.kill (O' := fun id => getO id O') fun id g o ho => by
    rcases hO1 id g o ho with ⟨h1, p, h2⟩ | h1
    ·exact .inl ⟨h1, (S.of id p.1 p.2 h2).1⟩
    ·exact .inr h1
   obtain ⟨K', h, hK, hd⟩ := putS_iff h
   have hlt : s < a.tmps.size := by rw [S.tsz]; exact (hd s rfl).1
   have S2 := S1.put (some s) [] b (a.tmps.getD s undef) hd (fun _ => .pure _ _ (hb.stable (fun g _ hn hf => hn ⟨hsub g hf, fun id o hid ho hog => ?_⟩) (fun _ _ _ => rfl) (Nat.le_refl _))) (fun hn => (hn (sat_nil a)).elim)
   ·rw [put_same hlt, ← hK] at S2
    exact ghK_iff hfr h ⟨β, S2, hag⟩
   ·rcases hf with hg | ⟨id', g', o', ho', hs', hb'⟩
    ·rcases S.allow id [] o g ho (sat_nil a) hog with h3 | h3
     ·exact hfr rfl g h3
     ·have := S.gold g hg; omega
    ·obtain ⟨g2, h4⟩ := hO2 id hid
     rcases hO1 id' g' o' ho' with ⟨rfl, _⟩ | h5
     ·cases hb'
     ·have := S.dist id' id g' [] o' o g h5 ho hs' (sat_nil a) hb' hog
      subst this
      dsimp only at ho'
      rw [h4] at ho'
      simp only [Option.some.injEq, Prod.mk.injEq] at ho'
      rw [← ho'.2] at hb'
      cases hb'
  ·exact h.elim
 | .eq id o :: r, ⟨K, O, nid⟩, k, h, S => by
  unfold ghK at h
  split at h
  ·rename_i o0 hg
   obtain ⟨he, h⟩ := h
   obtain ⟨β, S, hag⟩ := S
   dsimp only at S hag
   refine ghK_iff hfr h ⟨β, S.weak fun id' g' o' ho' => ?_, hag⟩
   dsimp only at ho'
   rw [getO_cons] at ho'
   split at ho'
   ·rename_i hid
    subst hid
    simp only [Option.some.injEq, Prod.mk.injEq] at ho'
    obtain ⟨rfl, rfl⟩ := ho'
    exact ⟨o0, hg, he⟩
   ·exact ⟨o', ho', AOEq.refl _⟩
  ·exact h.elim
 | .sl s b :: r, ⟨K, O, nid⟩, k, h, S => by
  unfold ghK at h
  split at h
  ·rename_i av hf
   obtain ⟨he, h⟩ := h
   obtain ⟨β, S, hag⟩ := S
   dsimp only at S hag
   obtain ⟨K', h, hK, hd⟩ := putS_iff h
   have hlt : s < a.tmps.size := by rw [S.tsz]; exact (hd s rfl).1
   have S2 := S.put (some s) [] b (a.tmps.getD s undef) hd (fun _ => AVEq.rep he ((S.kf s [] av hf).1 (sat_nil a))) (fun hn => (hn (sat_nil a)).elim)
   rw [put_same hlt, ← hK] at S2
   exact ghK_iff hfr h ⟨β, S2, hag⟩
  ·exact h.elim
 | .nl s e sz :: r, ⟨K, O, nid⟩, k, h, S => by
  unfold ghK at h
  split at h
  ·obtain ⟨st', h, S'⟩ := nilK_iff h S
   exact ghK_iff hfr h S'
  ·exact ghK_iff hfr h S
 | .nlc id off e sz :: r, ⟨K, O, nid⟩, k, h, S => by
  unfold ghK at h
  split at h
  ·rename_i t cs hg
   split at h
   ·rename_i v hc
    split at h
    ·rename_i hn
     exact ghK_iff hfr h (nlc_iff hg hc hn S)
    ·exact ghK_iff hfr h S
   ·exact ghK_iff hfr h S
  ·exact ghK_iff hfr h S
 | .frc id off ids :: r, ⟨K, O, nid⟩, k, h, S => by
  unfold ghK at h
  split at h
  ·rename_i t cs hg
   split at h
   ·rename_i x hx
    obtain ⟨β, S, hag⟩ := S
    dsimp only at S hag
    have E := S.env (lkOf_sound (O := O) (sat_nil a))
    let Fa : Nat → Prop := fun b => FO G (fun id => getO id O) β a b ∧ ∀ id o, id ∈ ids → getO id O = some ([], o) → ¬ ownB β id o b
    obtain ⟨vs, hh, hl, hc⟩ := (S.of id [] _ hg).2 (sat_nil a)
    rw [nthA_eq] at hx
    obtain ⟨hoff, hxe⟩ := List.getElem?_eq_some_iff.1 hx
    have hv := (hc off hoff (hl ▸ hoff)).1
    rw [hxe] at hv
    obtain ⟨b, h, hb⟩ := (views_sound E (Fa := Fa) (fun g h => h.1) (lkv := lkIn O ids) (fun id o h => by
      unfold lkIn at h
      split at h
      ·exact h
      ·cases h) (fun id o g hlk ho hF => by
      unfold lkIn at hlk
      split at hlk
      ·rename_i hm
       exact hF.2 id o (memN_true hm) (lk_get hlk) ho
      ·cases hlk) 60).1 x _ _ hv h
    obtain ⟨O', h, hO1, hO2, _⟩ := killO_iff h
    obtain ⟨S1, hsub⟩ := S.kill (O' := fun id => getO id O') fun id g o ho => by
     rcases hO1 id g o ho with ⟨h1, p, h2⟩ | h1
     ·exact .inl ⟨h1, (S.of id p.1 p.2 h2).1⟩
     ·exact .inr h1
    split at h
    ·rename_i t' cs' hg'
     rcases hO1 id _ _ hg' with ⟨h1, _⟩ | h1
     ·cases h1
     rw [hg] at h1
     simp only [Option.some.injEq, Prod.mk.injEq, AO.cells.injEq] at h1
     obtain ⟨_, rfl, rfl⟩ := h1
     have hb1 : Rep0 (FO G (fun id => getO id O') β a) w b (vs[off]'(hl ▸ hoff)) := hb.stable (fun g _ hn hf => hn ⟨hsub g hf, fun id o hid ho hog => ?_⟩) (fun _ _ _ => rfl) (Nat.le_refl _)
     ·refine ghK_iff hfr h ⟨β, SimF.other1 S1 fun id' g' o' ho' => ?_, hag⟩
      dsimp only at ho'
      rw [getO_cons] at ho'
      split at ho'
      ·rename_i he
       subst he
       simp only [Option.some.injEq, Prod.mk.injEq] at ho'
       obtain ⟨rfl, rfl⟩ := ho'
       refine ⟨.cells t cs, hg', fun b hb => hb, fun hok => ?_⟩
       obtain ⟨us, h1, h2, h3⟩ := hok
       have hus : us = vs := by
        rw [hh] at h1
        simp at h1
        first | exact h1.symm | exact h1.1.symm
       subst hus
       refine ⟨us, h1, by rw [setA_len]; exact h2, fun j hj1 hj2 => ?_⟩
       have hj : j < cs.length := by rw [setA_len] at hj1; exact hj1
       rw [setA_get off _ cs j hj1 hj]
       by_cases hjo : j = off
       ·rw [if_pos hjo]
        subst hjo
        exact ⟨.pure _ _ hb1, (h3 j hj hj2).2⟩
       ·rw [if_neg hjo]
        exact h3 j hj hj2
      ·exact ⟨o', ho', fun b hb => hb, fun h => h⟩
     ·rcases hf with hg1 | ⟨id', g', o', ho', hs', hb'⟩
      ·rcases S.allow id [] o g ho (sat_nil a) hog with h3 | h3
       ·exact hfr rfl g h3
       ·have := S.gold g hg1; omega
      ·obtain ⟨g2, h4⟩ := hO2 id hid
       rcases hO1 id' g' o' ho' with ⟨rfl, _⟩ | h5
       ·cases hb'
       ·have := S.dist id' id g' [] o' o g h5 ho hs' (sat_nil a) hb' hog
        subst this
        dsimp only at ho'
        rw [h4] at ho'
        simp only [Option.some.injEq, Prod.mk.injEq] at ho'
        rw [← ho'.2] at hb'
        cases hb'
    ·exact h.elim
   ·exact h.elim
  ·exact h.elim
 | .mvc id off :: r, ⟨K, O, nid⟩, k, h, S => by
  unfold ghK at h
  split at h
  ·rename_i t cs hg
   split at h
   ·rename_i i hc
    split at h
    ·rename_i e sz n get hi
     exact ghK_iff hfr h (mvc_iff hg hc hi S)
    ·exact ghK_iff hfr h S
   ·exact ghK_iff hfr h S
  ·exact ghK_iff hfr h S
 | .mk id kid :: r, ⟨K, O, nid⟩, k, h, S => by
  unfold ghK at h
  split at h
  ·rename_i n key val born clock hg
   obtain ⟨rfl, h⟩ := h
   exact ghK_iff hfr h (mk_iff hg S)
  ·exact ghK_iff hfr h S
 | .take id :: r, ⟨K, O, nid⟩, k, h, S => by
  unfold ghK at h
  split at h
  ·rename_i n key kid born clock aux hg
   rcases h with ⟨i, hi, h⟩ | h
   ·exact ghK_iff hfr h (take_iff hg hi S)
   ·exact ghK_iff hfr h S
  ·exact ghK_iff hfr h S
 | .put id :: r, ⟨K, O, nid⟩, k, h, S => by
  unfold ghK at h
  split at h
  ·rename_i n key kid born clock aux i x hg
   split at h
   ·rename_i o hgh
    split at h
    ·rename_i kd hkd
     obtain ⟨kid', ⟨h1, h2, h3⟩, h⟩ := h
     exact ghK_iff hfr h (put_iff hg hgh hkd h1 h2 h3 S)
    ·exact h.elim
   ·exact h.elim
  ·exact ghK_iff hfr h S
 | .nx id :: r, ⟨K, O, nid⟩, k, h, S => by
  unfold ghK at h
  split at h
  ·rename_i hg
   exact ghK_iff hfr h (nx_iff hg S)
  ·exact ghK_iff hfr h S
 | .nw :: r, ⟨K, O, nid⟩, k, h, S => by
  unfold ghK at h
  exact ghK_iff hfr h (nw_iff S)
end
def execC (P : Program) (T : List (Nat × TI)) (N m : Nat) (fr : Bool) (gt : List (Nat × List Gh)) : Code → St → (Exit → St → Prop) → Prop
 | .skip, st, Q => Q .normal st
 | .region i ⟨ops⟩ false, st, Q => ghK N fr (ghTab i gt) st fun st => execX P T N ops ops st fun st' => cleanS st' fun st2 => ghK N fr (ghTab (Nat.add 1000000 i) gt) st2 (Q .normal)
 | .region i ⟨ops⟩ true, st, Q => ghK N fr (ghTab i gt) st fun st => (match ghTab (Nat.add 2000000 i) gt with
  | .frz _ ids :: _ => execK P T N ops ids st fun st' => cleanS st' fun st2 => ghK N fr (ghTab (Nat.add 1000000 i) gt) st2 (Q .normal)
  | _ :: _ => execB P T N ops st fun st' => cleanS st' fun st2 => ghK N fr (ghTab (Nat.add 1000000 i) gt) st2 (Q .normal)
  | [] => (match endsSet ops with
  | false => execD P T N ops st fun st' => cleanS st' fun st2 => ghK N fr (ghTab (Nat.add 1000000 i) gt) st2 (Q .normal)
  | true => (match entP (tailE ops) with
   | some e => execDE P T N ops e st fun st' => cleanS st' fun st2 => ghK N fr (ghTab (Nat.add 1000000 i) gt) st2 (Q .normal)
   | none => execDT P T N ops st fun st' => cleanS st' fun st2 => ghK N fr (ghTab (Nat.add 1000000 i) gt) st2 (Q .normal))))
 | .seq x y, st, Q => (match meets x with
  | false => execC P T N m fr gt x st fun e st' => match e with
   | .normal => execC P T N m fr gt y st' Q
   | e => Q e st'
  | true => (execC P T N m fr gt x st fun e st' => match e with
    | .normal => execC P T N m fr gt y st' Q
    | e => Q e st') ∨
   ∃ (l : List (Nat × TypeId × Nat)), nilK l st fun st => ∃ (X : Type) (I : X → Prop) (u : X → List KE) (ou : X → List OE), (execC P T N m fr gt x st fun e st' => match e with
    | .normal => ∃ z ρ, I z ∧ toS m (writes x) ρ (u z) (ou z) st st'
    | e => Q e st') ∧
    ∀ z, I z → mkSK (writes x) (u z) (ou z) st fun s => execC P T N m fr gt y s Q)
 | .cond c x y, st, Q => (match st with
  | ⟨K, O, nid⟩ => condK (evalO K [] c) (execC P T N m fr gt x ⟨K, O, nid⟩ Q) (execC P T N m fr gt y ⟨K, O, nid⟩ Q))
 | .block i c, st, Q => execC P T N m fr gt c st fun e st' => match e with
  | .exit j => exitIs j i (Q .normal st') (Q (.exit j) st')
  | e => Q e st'
 | .loop c, st, Q => ∃ (l : List (Nat × TypeId × Nat)), nilK l st fun st => ∃ (X : Type) (I : X → Prop) (u : X → List KE) (ou : X → List OE) (μ : X → Nat),
   (∃ x ρ, I x ∧ toS m (writes c) ρ (u x) (ou x) st st) ∧
   ∀ x, I x → mkSK (writes c) (u x) (ou x) st fun s => execC P T N m fr gt c s fun e st' => match e with
    | .normal => ∃ y ρ, I y ∧ μ y < μ x ∧ toS m (writes c) ρ (u y) (ou y) st st'
    | e => Q e st'
 | .exit i, st, Q => Q (.exit i) st
 | .ret, st, Q => Q .ret st
 | _, _, _ => False
section
variable {C : Cx} {G : Nat → Prop} {P : Program} {T : List (Nat × TI)} {w0 w : World} {N m : Nat} {a : Act} {fr : Bool} {gt : List (Nat × List Gh)}
theorem Sim.nid {st : St} (S : Sim C G w0 N st a w) : C.m ≤ st.nid := by
 obtain ⟨β, _, h⟩ := S
 exact h.le
theorem execC_sound (hT : TabOk P T) (hm : C.m = m) (hfr : fr = true → ∀ g, ¬ C.al g) : ∀ (c : Code) {st : St} {Q : Exit → St → Prop} {a : Act} {w : World}, Sim C G w0 N st a w → execC P T N m fr gt c st Q →
  c.wp P (fun e a' w' => ∃ st', Sim C G w0 N st' a' w' ∧ Q e st') a w := by
 intro c
 induction c with
 | skip => intro st Q a w S h; exact wp_skip ⟨st, S, h⟩
 | region i ops draw =>
  intro st Q a w S h
  obtain ⟨ops⟩ := ops
  cases draw with
  | false =>
   obtain ⟨st, h, S⟩ := ghK_iff hfr h S
   refine wp_region_lit (execX_sound hT S h ?_)
   intro st' a' w' h' S'
   obtain ⟨st2, h2, S2⟩ := cleanS_iff h' S'
   obtain ⟨st3, h3, S3⟩ := ghK_iff hfr h2 S2
   exact ⟨st3, S3, h3⟩
  | true =>
   obtain ⟨st, h, S⟩ := ghK_iff hfr h S
   split at h
   ·refine execK_sound hT S h ?_
    intro st' a' w' h' S'
    obtain ⟨st2, h2, S2⟩ := cleanS_iff h' S'
    obtain ⟨st3, h3, S3⟩ := ghK_iff hfr h2 S2
    exact ⟨st3, S3, h3⟩
   ·refine execB_sound hT S h ?_
    intro st' a' w' h' S'
    obtain ⟨st2, h2, S2⟩ := cleanS_iff h' S'
    obtain ⟨st3, h3, S3⟩ := ghK_iff hfr h2 S2
    exact ⟨st3, S3, h3⟩
   ·split at h
    ·refine execD_sound hT S h ?_
     intro st' a' w' h' S'
     obtain ⟨st2, h2, S2⟩ := cleanS_iff h' S'
     obtain ⟨st3, h3, S3⟩ := ghK_iff hfr h2 S2
     exact ⟨st3, S3, h3⟩
    ·split at h
     ·rename_i he
      refine execDE_sound hT S he h ?_
      intro st' a' w' h' S'
      obtain ⟨st2, h2, S2⟩ := cleanS_iff h' S'
      obtain ⟨st3, h3, S3⟩ := ghK_iff hfr h2 S2
      exact ⟨st3, S3, h3⟩
     ·refine execDT_sound hT S h ?_
      intro st' a' w' h' S'
      obtain ⟨st2, h2, S2⟩ := cleanS_iff h' S'
      obtain ⟨st3, h3, S3⟩ := ghK_iff hfr h2 S2
      exact ⟨st3, S3, h3⟩
 | seq x y ihx ihy =>
  intro st Q a w S h
  have direct : ∀ {st : St} {a : Act} {w : World}, Sim C G w0 N st a w → (execC P T N m fr gt x st fun e st' => match e with
    | .normal => execC P T N m fr gt y st' Q
    | e => Q e st') → (Code.seq x y).wp P (fun e a' w' => ∃ st', Sim C G w0 N st' a' w' ∧ Q e st') a w := by
   intro st a w S h
   refine wp_seq (Code.wp_mono ?_ (ihx S h))
   rintro e a' w' ⟨st', S', h'⟩
   cases e with
   | normal => exact ihy S' h'
   | exit => exact ⟨st', S', h'⟩
   | goto => exact ⟨st', S', h'⟩
   | ret => exact ⟨st', S', h'⟩
   | panic => exact ⟨st', S', h'⟩
   | outgrown => exact ⟨st', S', h'⟩
  simp only [execC] at h
  split at h
  ·exact direct S h
  ·rcases h with h | ⟨l, h⟩
   ·exact direct S h
   ·obtain ⟨st, ⟨X, I, u, ou, h, hy⟩, S⟩ := nilK_iff h S
    have hnid := S.nid
    refine wp_seq (Code.wp_mono ?_ (ihx S h))
    rintro e a' w' ⟨st', S', h'⟩
    cases e with
    | normal =>
     obtain ⟨z, ρ, hz, hto⟩ := h'
     exact ihy (S'.le (by rw [hm]; exact toS_le hto) (by rw [mkS_nid]; exact hnid)) (mkSK_iff (hy z hz))
    | exit => exact ⟨st', S', h'⟩
    | goto => exact ⟨st', S', h'⟩
    | ret => exact ⟨st', S', h'⟩
    | panic => exact ⟨st', S', h'⟩
    | outgrown => exact ⟨st', S', h'⟩
 | cond c x y ihx ihy =>
  intro st Q a w S h
  obtain ⟨K, O, nid⟩ := st
  simp only [execC] at h
  unfold condK at h
  split at h
  ·rename_i b hb
   obtain ⟨β, S', hag⟩ := S
   have hv := (evalO_sound S' (sat_nil a) c _ hb).b_inv
   exact wp_cond_split hv (fun hb => ihx ⟨β, S', hag⟩ (h.1 hb)) (fun hb => ihy ⟨β, S', hag⟩ (h.2 hb))
  ·exact h.elim
 | block i c ih =>
  intro st Q a w S h
  refine wp_block (Code.wp_mono ?_ (ih S h))
  rintro e a' w' ⟨st', S', h'⟩
  cases e with
  | exit j =>
   simp only [exitIs] at h'
   simp only [Exit.inBlock]
   split at h'
   ·rename_i hb
    have hb : j = i := by simpa using hb
    rw [if_pos hb]
    exact ⟨st', S', h'⟩
   ·rename_i hb
    have hb : j ≠ i := by
     intro e
     subst e
     simp at hb
    rw [if_neg hb]
    exact ⟨st', S', h'⟩
  | normal => exact ⟨st', S', h'⟩
  | goto => exact ⟨st', S', h'⟩
  | ret => exact ⟨st', S', h'⟩
  | panic => exact ⟨st', S', h'⟩
  | outgrown => exact ⟨st', S', h'⟩
 | loop c ih =>
  intro st Q a w S h
  obtain ⟨l, h⟩ := h
  obtain ⟨st, ⟨X, I, u, ou, μ, ⟨x, ρ, hx, hle⟩, hround⟩, S⟩ := nilK_iff h S
  have hnid := S.nid
  refine wp_loop_ghost (fun n a w => ∃ x, I x ∧ μ x = n ∧ Sim C G w0 N (mkS (writes c) (u x) (ou x) st) a w) (μ x) ⟨x, hx, rfl, S.le (by rw [hm]; exact toS_le hle) (by rw [mkS_nid]; exact hnid)⟩ ?_
  rintro n a w ⟨x, hx, rfl, S⟩
  refine Code.wp_mono ?_ (ih S (mkSK_iff (hround x hx)))
  rintro e a' w' ⟨st', S', h'⟩
  cases e with
  | normal =>
   obtain ⟨y, ρ, hy, hlt, hle⟩ := h'
   exact ⟨μ y, hlt, y, hy, rfl, S'.le (by rw [hm]; exact toS_le hle) (by rw [mkS_nid]; exact hnid)⟩
  | exit => exact ⟨st', S', h'⟩
  | goto => exact ⟨st', S', h'⟩
  | ret => exact ⟨st', S', h'⟩
  | panic => exact ⟨st', S', h'⟩
  | outgrown => exact ⟨st', S', h'⟩
 | exit i => intro st Q a w S h; exact wp_exit ⟨st, S, h⟩
 | ret => intro st Q a w S h; exact wp_ret ⟨st, S, h⟩
 | rangeFunc => intro st Q a w S h; exact h.elim
 | scope => intro st Q a w S h; exact h.elim
 | label => intro st Q a w S h; exact h.elim
 | goto => intro st Q a w S h; exact h.elim
 | refuse => intro st Q a w S h; exact h.elim
def resK (T : List (Nat × TI)) (K : List KE) (O : List OE) : List ResultVar → (List AV → Prop) → Prop
 | [], k => k []
 | .tmp t :: r, k => (match find t K with
  | some ([], av) => resK T K O r fun l => k (av :: l)
  | _ => False)
 | .cell t ty :: r, k => (match find t K, tget ty T with
  | some ([], .p id off), some ti => (match getO id O with
   | some ([], .cells _ cs) => dropTakeK off ti.size cs fun l => packK ti.agg l fun av => resK T K O r fun l => k (av :: l)
   | _ => False)
  | _, _ => False)
def oneOr : List AV → AV
 | [a] => a
 | l => .tup l
mutual
def AV.fresh : AV → Bool
 | .rs _ _ _ => false
 | .rp _ => false
 | .rm _ _ _ => false
 | .fn _ cs => AV.freshs cs
 | .ag cs => AV.freshs cs
 | .tup cs => AV.freshs cs
 | _ => true
def AV.freshs : List AV → Bool
 | [] => true
 | c :: r => match AV.fresh c with
  | true => AV.freshs r
  | false => false
end
theorem AV.freshs_get : ∀ {l : List AV}, AV.freshs l = true → ∀ (j : Nat) (h : j < l.length), AV.fresh l[j] = true
 | [], _, j, h => by simp at h
 | c :: r, hl, j, h => by
  unfold AV.freshs at hl
  split at hl
  ·rename_i hc
   cases j with
   | zero => exact hc
   | succ j => exact AV.freshs_get hl j (by simpa using h)
  ·cases hl
theorem Rep0.any {F F' : Nat → Prop} {w : World} {x : AV} {v : Value} (h : Rep0 F w x v) (hf : x.fresh = true) : Rep0 F' w x v := by
 induction h with
 | b c => exact .b c
 | i k n => exact .i k n
 | s x => exact .s x
 | val v => exact .val v
 | u v => exact .u v
 | fn f caps vs hl h ih => exact .fn f caps vs hl fun j h1 h2 => ih j h1 h2 (AV.freshs_get (by simpa [AV.fresh] using hf) j h1)
 | ag cs vs hl h ih => exact .ag cs vs hl fun j h1 h2 => ih j h1 h2 (AV.freshs_get (by simpa [AV.fresh] using hf) j h1)
 | tup cs vs hl h ih => exact .tup cs vs hl fun j h1 h2 => ih j h1 h2 (AV.freshs_get (by simpa [AV.fresh] using hf) j h1)
 | rsnil sz get => simp [AV.fresh] at hf
 | rsz => simp [AV.fresh] at hf
 | rs => simp [AV.fresh] at hf
 | rp => simp [AV.fresh] at hf
 | rmnil => simp [AV.fresh] at hf
 | rm => simp [AV.fresh] at hf
theorem Rep.any {β : Bd} {n : Nat} {F F' : Nat → Prop} {w : World} {x : AV} {v : Value} (h : Rep β n F w x v) (hf : x.fresh = true) : Rep β n F' w x v := by
 induction h with
 | pure a v h => exact .pure a v (h.any hf)
 | p id off hi => exact .p id off hi
 | so id hi h1 => exact .so id hi h1
 | pe id sz idx off g o m c hi h => exact .pe id sz idx off g o m c hi h
 | mo id hi => exact .mo id hi
 | sv id sz lo m v hi h => exact .sv id sz lo m v hi h
 | sc id off m cap hi hm hc => exact .sc id off m cap hi hm hc
 | fn f caps vs hl h ih => exact .fn f caps vs hl fun j h1 h2 => ih j h1 h2 (AV.freshs_get (by simpa [AV.fresh] using hf) j h1)
 | ag cs vs hl h ih => exact .ag cs vs hl fun j h1 h2 => ih j h1 h2 (AV.freshs_get (by simpa [AV.fresh] using hf) j h1)
 | tup cs vs hl h ih => exact .tup cs vs hl fun j h1 h2 => ih j h1 h2 (AV.freshs_get (by simpa [AV.fresh] using hf) j h1)
def numO (n : Nat) : List AO → List OE
 | [] => []
 | o :: r => ⟨n, [], o⟩ :: numO (n + 1) r
def freshK : KD → Prop
 | .row _ _ n get => ∀ k, k < n → AV.freshs (get k) = true
 | .cells _ cs => AV.freshs cs = true
theorem KidOk.any {F F' : Nat → Prop} {w : World} {v : Value} {k : KD} (h : KidOk F w v k) (hf : freshK k) : KidOk F' w v k := by
 cases k with
 | row e sz m get =>
  obtain ⟨xs, hx, hlen, hc⟩ := h
  exact ⟨xs, hx, hlen, fun k j hk h1 h2 => ⟨(hc k j hk h1 h2).1.any (AV.freshs_get (hf k hk) j h1), (hc k j hk h1 h2).2⟩⟩
 | cells e cs =>
  obtain ⟨b, vs, hv, hh, hl, hc⟩ := h
  exact ⟨b, vs, hv, hh, hl, fun j h1 h2 => ⟨(hc j h1 h2).1.any (AV.freshs_get hf j h1), (hc j h1 h2).2⟩⟩
def freshO : AO → Prop
 | .cells _ cs => AV.freshs cs = true
 | .row _ _ n get => ∀ k, k < n → AV.freshs (get k) = true
 | .mp n key val _ _ => ∀ k, k < n → AV.fresh (key k) = true ∧ AV.fresh (val k) = true
 | .it _ _ _ => True
 | .ir _ _ _ _ _ => False
 | .mr n key kid _ _ _ _ => ∀ k, k < n → AV.fresh (key k) = true ∧ freshK (kid k)
 | .dead => True
def freshOs : List AO → Prop
 | [] => True
 | [o] => freshO o
 | o :: r => freshO o ∧ freshOs r
theorem ObjOk.any {β : Bd} {n : Nat} {F F' : Nat → Prop} {w : World} {id : Nat} {o : AO} (h : ObjOk β n F w id o) (hf : freshO o) : ObjOk β n F' w id o := by
 cases o with
 | cells e cs =>
  obtain ⟨vs, hh, hl, hc⟩ := h
  exact ⟨vs, hh, hl, fun j h1 h2 => ⟨(hc j h1 h2).1.any (AV.freshs_get hf j h1), (hc j h1 h2).2⟩⟩
 | row e sz m get =>
  obtain ⟨xs, hx, hlen, hc⟩ := h
  exact ⟨xs, hx, hlen, fun k j hk h1 h2 => ⟨(hc k j hk h1 h2).1.any (AV.freshs_get (hf k hk) j h1), (hc k j hk h1 h2).2⟩⟩
 | mp m key val born clock =>
  obtain ⟨es, hh, hm, ho, hc⟩ := h
  exact ⟨es, hh, hm, ho, fun i hi h2 => ⟨(hc i hi h2).1.any (hf i hi).1, (hc i hi h2).2.1.any (hf i hi).2, (hc i hi h2).2.2⟩⟩
 | it mid since seen => exact h
 | ir => exact hf.elim
 | mr m key kid born clock aux hole =>
  obtain ⟨ha, hho, es, hh, hm, ho, hkey, hk, hrest⟩ := h
  exact ⟨ha, hho, es, hh, hm, ho, fun i hi h2 => ⟨(hkey i hi h2).1.any (hf i hi).1, (hkey i hi h2).2⟩, fun i hi h2 hno => ⟨(hk i hi h2 hno).1, (hk i hi h2 hno).2.any (hf i hi).2⟩, hrest⟩
 | dead => trivial
structure RetIs (os : List AO) (r : AV) (av : AV) (O : List OE) (nid : Nat) : Prop where
 is : ∃ ρ, StLe 0 ρ ⟨[⟨0, [], r⟩], numO 0 os, os.length⟩ ⟨[⟨0, [], av⟩], O, nid⟩ ∧ r.fresh = true ∧ freshOs os
theorem RetIs.b {c d : Bool} {O : List OE} {nid : Nat} (h : d = c) : RetIs [] (.b c) (.b d) O nid := ⟨[], ⟨⟨⟨rfl, rfl, by subst h; exact AVEq.refl (.b d)⟩, trivial⟩, trivial, rfl⟩, rfl, trivial⟩
theorem RetIs.i {k : IntKind} {c d : Int} {O : List OE} {nid : Nat} (h : d = c) : RetIs [] (.i k c) (.i k d) O nid := ⟨[], ⟨⟨⟨rfl, rfl, by subst h; exact AVEq.refl (.i k d)⟩, trivial⟩, trivial, rfl⟩, rfl, trivial⟩
def catA : List AO → List AO → List AO
 | [], m => m
 | a :: r, m => a :: catA r m
theorem catA_eq : ∀ l m : List AO, catA l m = l ++ m
 | [], m => rfl
 | a :: r, m => by simp [catA, catA_eq r m]
structure RetM (al : Bool) (m : Nat) {Y : Type} (spec : Y → Prop) (outs os : Y → List AO) (r : Y → AV) (av : AV) (O : List OE) (nid : Nat) : Prop where
 is : ∃ y ρ, spec y ∧ StLe m ρ ⟨[⟨0, [], r y⟩], numO 0 (catA (outs y) (os y)), (catA (outs y) (os y)).length⟩ ⟨[⟨0, [], av⟩], O, nid⟩ ∧ (outs y).length = m ∧ (al = false → (r y).fresh = true ∧ freshOs (catA (outs y) (os y)))
structure RetA (r : AV) (av : AV) (O : List OE) (nid : Nat) : Prop where
 is : r.lt 0 = true ∧ AVEq (r.ren (rn [])) av
def retW (N : Nat) (fr : Bool) (gt : List (Nat × List Gh)) (T : List (Nat × TI)) (res : List ResultVar) (R : AV → List OE → Nat → Prop) (e : Exit) (st : St) : Prop :=
 match e with
 | .normal => ghK N fr (ghTab 999999 gt) st fun ⟨K, O, nid⟩ => resK T K O res fun l => R (oneOr l) O nid
 | .ret => ghK N fr (ghTab 999999 gt) st fun ⟨K, O, nid⟩ => resK T K O res fun l => R (oneOr l) O nid
 | _ => False
theorem run_listMapM' {α γ : Type} (f : α → Sem γ) : ∀ (l : List α) (vs : List γ), l.length = vs.length → (∀ (j : Nat) (h1 : j < l.length) (h2 : j < vs.length), (f l[j]).run P w = .ok vs[j] w) → (l.mapM f).run P w = .ok vs w
 | [], [], _, _ => rfl
 | [], _ :: _, h, _ => by simp at h
 | _ :: _, [], h, _ => by simp at h
 | a :: r, v :: vs, hl, h => by
  rw [List.mapM_cons]
  have h0 := h 0 (by simp) (by simp)
  simp only [List.getElem_cons_zero] at h0
  simp [h0, run_listMapM' f r vs (by simpa using hl) (fun j h1 h2 => h (j + 1) (Nat.succ_lt_succ h1) (Nat.succ_lt_succ h2))]
theorem resK_sound {A0 : Nat → Prop} (hT : TabOk P T) {K : List KE} {O : List OE} {nid : Nat} {β : Bd} (S : SimF A0 G w0 N (fun s => find s K) (fun id => getO id O) nid β a w) : ∀ {res : List ResultVar} {k : List AV → Prop}, resK T K O res k →
  ∃ l, k l ∧ ∃ vs : List Value, res.length = vs.length ∧ l.length = vs.length ∧
   (∀ (j : Nat) (h1 : j < res.length) (h2 : j < vs.length), (match res[j] with | .tmp t => (pure (a.tmps.getD t undef) : Sem Value) | .cell t ty => do loadVar ty (← asAddr (a.tmps.getD t undef))).run P w = .ok vs[j] w) ∧
   ∀ (j : Nat) (h1 : j < l.length) (h2 : j < vs.length), Rep β nid (FO G (fun id => getO id O) β a) w l[j] vs[j]
 | [], k, h => ⟨[], h, [], rfl, rfl, fun j h1 => by simp at h1, fun j h1 => by simp at h1⟩
 | .tmp t :: r, k, h => by
  unfold resK at h
  split at h
  ·rename_i av hf
   obtain ⟨l, hk, vs, h1, h2, h3, h4⟩ := resK_sound hT S h
   refine ⟨_, hk, a.tmps.getD t undef :: vs, by simp [h1], by simp [h2], fun j hj1 hj2 => ?_, fun j hj1 hj2 => ?_⟩
   ·cases j with
    | zero => rfl
    | succ j => exact h3 j (Nat.lt_of_succ_lt_succ hj1) (Nat.lt_of_succ_lt_succ hj2)
   ·cases j with
    | zero => exact (S.kf t [] av hf).1 (sat_nil a)
    | succ j => exact h4 j (Nat.lt_of_succ_lt_succ hj1) (Nat.lt_of_succ_lt_succ hj2)
  ·exact h.elim
 | .cell t ty :: r, k, h => by
  unfold resK at h
  split at h
  ·rename_i id off ti hf ht
   split at h
   ·rename_i e cs ho
    obtain ⟨hsz, h⟩ := dropTakeK_iff h
    have hv := ((S.kf t [] _ hf).1 (sat_nil a)).p_inv
    obtain ⟨vs', hh, hl, hc⟩ := (S.of id [] _ ho).2 (sat_nil a)
    have hload := load_run (w := w) (hT.get ht) (β.blk id) off ((vs'.drop off).take ti.size) (by simp; omega) (fun j hj => by
     simp at hj
     rw [cell_of_row w _ _ _ _ _ hh]
     simp)
    have hrep : ∀ (j : Nat) (h1 : j < ((cs.drop off).take ti.size).length) (h2 : j < ((vs'.drop off).take ti.size).length), Rep β nid (FO G (fun id => getO id O) β a) w ((cs.drop off).take ti.size)[j] ((vs'.drop off).take ti.size)[j] := fun j h1 h2 => by
     simp at h1 h2
     simpa using (hc (off + j) (by omega) (by omega)).1
    have key : ∃ (v : Value) (av : AV), (loadVar ty ⟨β.blk id, off, none⟩).run P w = .ok v w ∧ Rep β nid (FO G (fun id => getO id O) β a) w av v ∧ resK T K O r fun l => k (av :: l) := by
     unfold packK at h
     split at h
     ·rename_i hagg
      exact ⟨_, _, hload.1 hagg, .ag _ _ (by simp; omega) hrep, h⟩
     ·rename_i x hagg hx
      have h0 : 0 < ((vs'.drop off).take ti.size).length := by
       have : ((cs.drop off).take ti.size).length = 1 := by rw [hx]; rfl
       simp at this ⊢
       omega
      refine ⟨_, x, hload.2 hagg h0, ?_, h⟩
      have := hrep 0 (by rw [hx]; simp) h0
      simpa only [hx, List.getElem_cons_zero] using this
     ·exact h.elim
    obtain ⟨v, av, hrun, hav, h⟩ := key
    obtain ⟨l, hk, vs, h1, h2, h3, h4⟩ := resK_sound hT S h
    refine ⟨_, hk, v :: vs, by simp [h1], by simp [h2], fun j hj1 hj2 => ?_, fun j hj1 hj2 => ?_⟩
    ·cases j with
     | zero => simp [hv.2, asAddr, hrun]
     | succ j => exact h3 j (Nat.lt_of_succ_lt_succ hj1) (Nat.lt_of_succ_lt_succ hj2)
    ·cases j with
     | zero => exact hav
     | succ j => exact h4 j (Nat.lt_of_succ_lt_succ hj1) (Nat.lt_of_succ_lt_succ hj2)
   ·exact h.elim
  ·exact h.elim
theorem numO_get : ∀ (os : List AO) (n i : Nat), getO i (numO n os) = if n ≤ i then (os[i - n]?).map fun o => ([], o) else none
 | [], n, i => by simp [numO, getO]
 | o :: r, n, i => by
  simp only [numO]
  rw [getO_cons, numO_get r (n + 1) i]
  by_cases h : i = n
  ·subst h
   simp
  ·rw [if_neg h]
   by_cases h1 : n + 1 ≤ i
   ·rw [if_pos h1, if_pos (by omega)]
    have e : i - n = (i - (n + 1)) + 1 := by omega
    rw [e, List.getElem?_cons_succ]
   ·rw [if_neg h1, if_neg (by omega)]
theorem freshOs_get : ∀ {os : List AO}, freshOs os → ∀ (j : Nat) (o : AO), os[j]? = some o → freshO o
 | [], _, j, o, h => by simp at h
 | [o'], hf, j, o, h => by
  cases j with
  | zero => simp at h; subst h; exact hf
  | succ j => simp at h
 | o' :: o2 :: r, hf, j, o, h => by
  cases j with
  | zero => simp at h; subst h; exact hf.1
  | succ j => exact freshOs_get hf.2 j o (by simpa using h)
def argK (n : Nat) : List AV → List KE
 | [] => []
 | a :: r => ⟨n, [], a⟩ :: argK (n + 1) r
theorem argK_get : ∀ (l : List AV) (n s : Nat), find s (argK n l) = if n ≤ s then (l[s - n]?).map fun a => ([], a) else none
 | [], n, s => by simp [argK, find]
 | a :: r, n, s => by
  simp only [argK, find]
  rw [argK_get r (n + 1) s]
  by_cases h : n = s
  ·subst h
   simp
  ·have : Nat.beq n s = false := by
    cases hb' : Nat.beq n s
    ·rfl
    ·exact absurd (by simpa using hb') h
   rw [this]
   by_cases h1 : n + 1 ≤ s
   ·rw [if_pos h1, if_pos (by omega)]
    have e : s - n = (s - (n + 1)) + 1 := by omega
    rw [e, List.getElem?_cons_succ]
   ·rw [if_neg h1, if_neg (by omega)]
theorem SimF.leO {A : Nat → Prop} {ρ : List (Nat × Nat)} {K : KF} {xO yO : List OE} {xn yn : Nat} {β : Bd} (hO : OLe ρ xn xO yO) (hi : inj ρ xO = true) (S : SimF A G w0 N K (fun id => getO id yO) yn β a w) :
  SimF A G w0 N (fun _ => none) (fun id => getO id xO) xn ⟨fun id => β.blk (rn ρ id), fun id => β.val (rn ρ id)⟩ a w ∧
   ∀ b, FO G (fun id => getO id xO) ⟨fun id => β.blk (rn ρ id), fun id => β.val (rn ρ id)⟩ a b → FO G (fun id => getO id yO) β a b := by
 let β' : Bd := ⟨fun id => β.blk (rn ρ id), fun id => β.val (rn ρ id)⟩
 have hown : ∀ (i : Nat) (o : AO), ownB β' i o = ownB β (rn ρ i) (o.ren (rn ρ)) := fun i o => (ownB_ren (β := β') (β' := β) (j := i) (j' := rn ρ i) (o := o) (rn ρ) ⟨rfl, rfl⟩ fun _ _ => rfl).symm
 have hsub : ∀ b, FO G (fun id => getO id xO) β' a b → FO G (fun id => getO id yO) β a b := by
  rintro b (hg | ⟨id, g, o, ho, hs, hb⟩)
  ·exact .inl hg
  obtain ⟨_, _, _, h | ⟨o', h1, h2⟩⟩ := hO.get id g o ho
  ·subst h; cases hb
  ·exact .inr ⟨rn ρ id, [], o', h1, sat_nil a, h2.own (by rw [← hown]; exact hb)⟩
 have hstab : ∀ {av : AV} {v : Value}, Rep β' xn (FO G (fun id => getO id yO) β a) w av v → Rep β' xn (FO G (fun id => getO id xO) β' a) w av v := fun h =>
  h.stable (fun b _ hn hf => hn (hsub b hf)) (fun _ _ _ => rfl) (Nat.le_refl _)
 have less : ∀ {av : AV} {v : Value}, Rep0 (FO G (fun id => getO id yO) β a) w av v → Rep0 (FO G (fun id => getO id xO) β' a) w av v := fun h =>
  h.stable (fun b _ hn hf => hn (hsub b hf)) (fun _ _ _ => rfl) (Nat.le_refl _)
 refine ⟨⟨S.gold, S.below, S.tsz, S.dfs, fun s g av hk => (by cases hk), ?_, ?_, ?_⟩, hsub⟩
 ·intro id g o ho
  obtain ⟨rfl, hid, hcs, h⟩ := hO.get id g o ho
  refine ⟨hid, fun _ => ?_⟩
  rcases h with rfl | ⟨o', h1, h2⟩
  ·trivial
  ·have hobj := h2.ok ((S.of _ [] o' h1).2 (sat_nil a))
   cases o with
   | cells e cs =>
    obtain ⟨vs, hh, hl, hc⟩ := hobj
    have hl' : cs.length = vs.length := by rw [← hl, AV.length_rens]
    refine ⟨vs, hh, hl', fun j h1 h2 => ⟨?_, (hc j (by rw [AV.length_rens]; exact h1) h2).2⟩⟩
    exact hstab ((hc j (by rw [AV.length_rens]; exact h1) h2).1.ren' _ (AV.rens_get _ cs j _ h1).symm (AV.lts_get (hcs.1 e cs rfl) j h1))
   | row e sz m g =>
    obtain ⟨xs, hx, hlen, hc⟩ := hobj
    exact ⟨xs, hx, hlen, fun k j hk h1 h2 => ⟨less (hc k j hk h1 h2).1, (hc k j hk h1 h2).2⟩⟩
   | mp m key val born clock =>
    obtain ⟨es, hh, hm, ho2, hc⟩ := hobj
    exact ⟨es, hh, hm, ho2, fun i h1 h2 => ⟨less (hc i h1 h2).1, less (hc i h1 h2).2.1, (hc i h1 h2).2.2⟩⟩
   | it mid since seen =>
    obtain ⟨hm, hh⟩ := hobj
    exact ⟨hcs.2.1 _ _ _ rfl, hh⟩
   | ir m key val seen last =>
    obtain ⟨g, es, clock, sn, hh, hm, ho2, hg0, hgg, hc, hlast⟩ := hobj
    exact ⟨g, es, clock, sn, hh, hm, ho2, hg0, fun b hb => ⟨fun hf => (hgg b hb).1 (hsub b hf), (hgg b hb).2⟩,
     fun i h1 h2 => ⟨less (hc i h1 h2).1, less (hc i h1 h2).2.1, (hc i h1 h2).2.2⟩, hlast⟩
   | mr m key kid born clock aux hole =>
    obtain ⟨hax, hhm⟩ := hcs.2.2 _ _ _ _ _ _ _ rfl
    obtain ⟨hole', e1, e2, e3, e4⟩ := AO.ren_mr' (rn ρ) m key kid born clock aux hole
    rw [e1] at hobj
    obtain ⟨_, hho, es, hh, hm, ho2, hkey, hk, hd, hne, hr⟩ := hobj
    exact ⟨hax, fun i h e => ⟨hhm i h e, (hho i _ (e4 i h e)).2⟩, es, hh, hm, ho2, fun i hi h2 => ⟨less (hkey i hi h2).1, (hkey i hi h2).2⟩,
     fun i hi h2 hno => ⟨(hk i hi h2 ((e2 i).2 hno)).1, (hk i hi h2 ((e2 i).2 hno)).2.stable (fun b _ hn hf => hn (hsub b hf)) (fun _ _ _ => rfl) (Nat.le_refl _) fun _ _ => rfl⟩,
     fun i j g h1 h2 h3 h4 => hd i j g h1 h2 ((e2 i).2 h3) ((e2 j).2 h4), fun i j h1 h2 h3 => hne i j h1 h2 ((e2 i).2 h3), fun i h e h2 => by
      have := hr i _ (e4 i h e) h2
      refine ⟨?_, this.2⟩
      rw [this.1]
      cases kid i <;> rfl⟩
   | dead => trivial
 ·intro id g o b ho _ hb
  obtain ⟨_, _, _, h | ⟨o', h1, h2⟩⟩ := hO.get id g o ho
  ·subst h; cases hb
  ·exact S.allow _ [] o' b h1 (sat_nil a) (h2.own (by rw [← hown]; exact hb))
 ·intro id id' g g' o o' b ho ho' _ _ hb hb'
  obtain ⟨_, _, _, h⟩ := hO.get id g o ho
  obtain ⟨_, _, _, h'⟩ := hO.get id' g' o' ho'
  rcases h with rfl | ⟨p, h1, h2⟩
  ·cases hb
  ·rcases h' with rfl | ⟨p', h1', h2'⟩
   ·cases hb'
   ·have := S.dist _ _ [] [] p p' b h1 h1' (sat_nil a) (sat_nil a) (h2.own (by rw [← hown]; exact hb)) (h2'.own (by rw [← hown]; exact hb'))
    exact inj_get hi id id' g g' o o' ho ho' this
theorem fn_of_execW (hT : TabOk P T) {f : FuncId} {fn : Func} {c : Code} (hf : P.funcs[f]? = some fn) (hname : (fn.name == "runtime.NumGoroutine") = false) (hb : fn.body = some c)
  {N : Nat} (hN : fn.ntmps = N) {res : List ResultVar} (hres : fn.results = res.toArray) {al fr : Bool} {gt : List (Nat × List Gh)} {ins : List AO} {args : List AV} {Y : Type} {spec : Y → Prop} {outs os : Y → List AO} {r : Y → AV}
  {R : AV → List OE → Nat → Prop} (hR : ∀ av O nid, R av O nid → RetM al ins.length spec outs os r av O nid) (hle : Nat.ble args.length N = true) (hfr : fr = true → ins = [])
  (h : execC P T N ins.length fr gt c ⟨argK 0 args, numO 0 ins, ins.length⟩ (retW N fr gt T res R)) : CtrM P f al ins args spec outs os r := by
 refine ⟨⟨fn, hf, hname, by rw [hb]; rfl⟩, fun F w β vs hOF hFl hFal hobj hdist hl hr => ?_⟩
 subst hN
 have hle : args.length ≤ fn.ntmps := Nat.le_of_ble_eq_true hle
 refine calls_of_wp hf hb ?_
 have hget : ∀ id g o, getO id (numO 0 ins) = some (g, o) → g = [] ∧ ins[id]? = some o := fun id g o h => by
  rw [numO_get, if_pos (Nat.zero_le _), Nat.sub_zero] at h
  cases hi : ins[id]? with
  | none => rw [hi] at h; cases h
  | some x => rw [hi] at h; simp at h; exact ⟨h.1, by rw [h.2]⟩
 have hFO : ∀ a', FO F (fun id => getO id (numO 0 ins)) β a' = F := fun a' => funext fun b => propext ⟨fun h => by
   rcases h with h | ⟨id, g, o, ho, _, hb⟩
   ·exact h
   ·exact hOF b ⟨id, o, (hget id g o ho).2, hb⟩, .inl⟩
 have hS : Sim ⟨OwnOf β ins, ins.length, β⟩ F w fn.ntmps ⟨argK 0 args, numO 0 ins, ins.length⟩ { tmps := vs.toArray ++ Array.replicate (fn.ntmps - vs.toArray.size) undef, defers := [] } w := by
  refine ⟨β, ⟨hFl, Frame.refl _ _, by simp; omega, rfl, ?_, fun id g o h => ?_, fun id g o b h _ hb => .inl ⟨id, o, (hget id g o h).2, hb⟩,
   fun id id' g g' o o' b h h' _ _ hb hb' => hdist id id' o o' b (hget id g o h).2 (hget id' g' o' h').2 hb hb'⟩, ⟨fun _ _ => ⟨rfl, rfl⟩, Nat.le_refl _⟩⟩
  ·intro s g av hk
   rw [hFO]
   dsimp only at hk
   rw [argK_get, if_pos (Nat.zero_le _), Nat.sub_zero] at hk
   cases hs : args[s]? with
   | none => rw [hs] at hk; cases hk
   | some x =>
    rw [hs] at hk
    simp at hk
    obtain ⟨rfl, rfl⟩ := hk
    obtain ⟨h1, rfl⟩ := List.getElem?_eq_some_iff.1 hs
    refine ⟨fun _ => ?_, fun hn => (hn (sat_nil _)).elim⟩
    have e : (vs.toArray ++ Array.replicate (fn.ntmps - vs.toArray.size) undef).getD s undef = vs[s]'(by omega) := by
     rw [Array.getD_eq_getD_getElem?, Array.getElem?_append_left (by simp; omega)]
     simp [List.getElem?_eq_getElem (show s < vs.length by omega)]
    simp only [e]
    exact hr s h1 (by omega)
  ·rw [hFO]
   have := (hget id g o h).2
   exact ⟨(List.getElem?_eq_some_iff.1 this).1, fun _ => hobj id o this⟩
 have hnone : fr = true → ∀ g, ¬ OwnOf β ins g := by
  rintro hfr' g ⟨j, o, hj, _⟩
  rw [hfr hfr'] at hj
  simp at hj
 refine Code.wp_mono ?_ (execC_sound hT rfl hnone c hS h)
 rintro e a' w' ⟨st, S, hq⟩
 have key : ∀ (_ : ghK fn.ntmps fr (ghTab 999999 gt) st fun ⟨K, O, nid⟩ => resK T K O res fun l => R (oneOr l) O nid), a'.defers = [] ∧ ∃ v, (results fn a'.tmps).run P w' = .ok v w' ∧ ∃ (v' : Value) (β' : Bd) (y : Y), Ending.returned v = .returned v' ∧ spec y ∧
   Gives al F w ins β (outs y) (os y) (r y) v' w' β' := by
  intro hq
  obtain ⟨⟨K, O, nid⟩, hq, β2, S, hag⟩ := ghK_iff hnone hq S
  dsimp only at S hag
  obtain ⟨l, hrl, vs', h1, h2, h3, h4⟩ := resK_sound hT S hq
  obtain ⟨⟨y, ρ, hy, hle', hol, hfresh⟩⟩ := hR _ _ _ hrl
  have hav : Rep β2 nid (FO F (fun id => getO id O) β2 a') w' (oneOr l) (if h : vs'.length = 1 then vs'[0] else .tuple vs'.toArray) := by
   unfold oneOr
   split
   ·rename_i x
    have hl1 : vs'.length = 1 := by simpa using h2.symm
    rw [dif_pos hl1]
    exact h4 0 (by simp) (by omega)
   ·rename_i hne
    by_cases hl1 : vs'.length = 1
    ·match l, h2.trans hl1 with
     | [x], _ => exact absurd rfl (hne x)
    ·rw [dif_neg hl1]
     exact .tup l vs' h2 h4
  rw [catA_eq] at hle' hfresh
  obtain ⟨hK, hO, hi⟩ := hle'
  obtain ⟨hidm, hi⟩ := injm_iff hi
  obtain ⟨S1, hsub⟩ := S.leO hO hi
  have hget1 : ∀ (j : Nat) (o : AO), (outs y ++ os y)[j]? = some o → getO j (numO 0 (outs y ++ os y)) = some ([], o) := fun j o ho => by
   rw [numO_get, if_pos (Nat.zero_le _), Nat.sub_zero, ho]
   rfl
  have hFres : ∀ b, ¬ FO F (fun id => getO id (numO 0 (outs y ++ os y))) ⟨fun id => β2.blk (rn ρ id), fun id => β2.val (rn ρ id)⟩ a' b → al = true →
    ¬ Fres al F w ⟨fun id => β2.blk (rn ρ id), fun id => β2.val (rn ρ id)⟩ (outs y ++ os y) b := by
   rintro b hn hal ((⟨h, _⟩ | h) | ⟨j, o, hj, ho⟩)
   ·rw [hal] at h; cases h
   ·exact hn (.inl h)
   ·exact hn (.inr ⟨j, [], o, hget1 j o hj, sat_nil a', ho⟩)
  refine ⟨S.dfs, (if h : vs'.length = 1 then vs'[0] else .tuple vs'.toArray), ?_, (if h : vs'.length = 1 then vs'[0] else .tuple vs'.toArray), ⟨fun id => β2.blk (rn ρ id), fun id => β2.val (rn ρ id)⟩, y, rfl, hy, ⟨?_, S.below, hol, ?_, ?_, ?_, ?_⟩⟩
  ·have hm := run_listMapM' (P := P) (w := w') (fun x : ResultVar => match x with | .tmp t => (pure (a'.tmps.getD t undef) : Sem Value) | .cell t ty => do loadVar ty (← asAddr (a'.tmps.getD t undef))) res vs' h1 h3
   have hm2 : (res.toArray.mapM (fun x : ResultVar => match x with | .tmp t => (pure (a'.tmps.getD t undef) : Sem Value) | .cell t ty => do loadVar ty (← asAddr (a'.tmps.getD t undef)))).run P w' = .ok vs'.toArray w' := by
    rw [Array.mapM_eq_mapM_toList]
    simp only [Sem.run_map]
    rw [hm]
    rfl
   unfold results
   rw [hres]
   simp only [Sem.run_bind]
   refine (congrArg (fun z => Result.andThen z _) hm2).trans ?_
   simp
  ·intro id hid
   have := hag.ag id hid
   dsimp only
   rw [idm_rn hidm id hid]
   exact this
  ·intro j o hj
   have hob := (S1.of j [] o (hget1 j o hj)).2 (sat_nil a')
   cases hal : al with
   | false =>
    exact hob.any (freshOs_get (hfresh hal).2 j o hj)
   | true =>
    exact hob.stable (List.getElem?_eq_some_iff.1 hj).1 (Nat.le_refl _) (fun _ _ => ⟨rfl, rfl⟩) (fun b _ hn => by rw [← hal]; exact hFres b hn hal) (fun _ _ _ => rfl) (Nat.le_refl _) (fun _ _ => rfl)
  ·rintro g ⟨j, o, hj, ho⟩
   exact S1.allow j [] o g (hget1 j o hj) (sat_nil a') ho
  ·intro j j' o o' g hj hj' ho ho'
   exact S1.dist j j' [] [] o o' g (hget1 j o hj) (hget1 j' o' hj') (sat_nil a') (sat_nil a') ho ho'
  ·obtain ⟨_, hl0, av', hf0, he⟩ := hK.get 0 [] (r y) (by simp [find])
   simp [find] at hf0
   subst hf0
   have hrr := (AVEq.rep he hav).ren' (r y) rfl hl0
   cases hal : al with
   | false => exact hrr.any (hfresh hal).1
   | true =>
    refine hrr.stable (fun b _ hn => ?_) (fun _ _ _ => rfl) (Nat.le_refl _)
    rw [← hal]
    exact hFres b (fun hf => hn (hsub b hf)) hal
 cases e with
 | normal => exact key hq
 | ret => exact key hq
 | exit => exact hq.elim
 | goto => exact hq.elim
 | panic => exact hq.elim
 | outgrown => exact hq.elim
theorem Rep.zero {β : Bd} {F : Nat → Prop} {w : World} {x : AV} {v : Value} (h : Rep β 0 F w x v) : Rep0 F w x v := by
 induction h with
 | pure a v h => exact h
 | p id off hi => omega
 | so id hi h1 => omega
 | pe id sz idx off g o m c hi h => omega
 | mo id hi => omega
 | sv id sz lo m v hi h => omega
 | sc id off m cap hi hm hc => omega
 | fn f caps vs hl h ih => exact .fn f caps vs hl ih
 | ag cs vs hl h ih => exact .ag cs vs hl ih
 | tup cs vs hl h ih => exact .tup cs vs hl ih
theorem CtrM.ctr {f : FuncId} {args : List AV} {os : List AO} {r : AV} (h : CtrM P f false [] args (fun _ : Unit => True) (fun _ => []) (fun _ => os) (fun _ => r)) : Ctr P f args os r := by
 refine ⟨h.1, fun w vs hl hr => ?_⟩
 refine (h.2 (fun _ => False) w ⟨fun _ => 0, fun _ => undef⟩ vs (fun g ⟨j, o, hj, _⟩ => by simp at hj) (fun _ h => h.elim) (fun _ _ h => h.elim) (fun j o hj => by simp at hj) (fun j j' o o' g hj => by simp at hj) hl
  (fun j h1 h2 => .pure _ _ (hr j h1 h2))).mono ?_
 rintro e w' ⟨v, β, _, rfl, _, g⟩
 have hF : Fres false (fun _ => False) w β os = FX (fun g => g < w.heap.size) β 0 os := funext fun b => propext ⟨fun h => by
   rcases h with (⟨_, h⟩ | h) | ⟨j, o, hj, ho⟩
   ·exact .inl h
   ·exact h.elim
   ·exact .inr ⟨j, o, hj, by rw [Nat.zero_add]; exact ho⟩, fun h => by
   rcases h with h | ⟨j, o, hj, ho⟩
   ·exact .inl (.inl ⟨rfl, h⟩)
   ·exact .inr ⟨j, o, hj, by rw [Nat.zero_add] at ho; exact ho⟩⟩
 have hobj := g.obj
 have hres := g.res
 have hown := g.own
 have hdist := g.dist
 simp only [List.nil_append, hF] at hobj hres hown hdist
 refine ⟨v, β, rfl, g.fr.below (fun k ⟨j, o, hj, _⟩ => by simp at hj), ⟨fun j o hj => by rw [Nat.zero_add]; exact hobj j o hj, fun j o b hj hb => ?_, fun j j' o o' b hj hj' hb hb' => ?_⟩, hres⟩
 ·rw [Nat.zero_add] at hb
  rcases hown b ⟨j, o, hj, hb⟩ with ⟨j', o', hj', _⟩ | h
  ·simp at hj'
  ·exact h
 ·rw [Nat.zero_add] at hb hb'
  exact hdist j j' o o' b hj hj' hb hb'
theorem RetIs.toM {os : List AO} {r av : AV} {O : List OE} {nid : Nat} (h : RetIs os r av O nid) : RetM false 0 (fun _ : Unit => True) (fun _ => []) (fun _ => os) (fun _ => r) av O nid := by
 obtain ⟨ρ, h1, h2, h3⟩ := h.is
 exact ⟨(), ρ, trivial, h1, rfl, fun _ => ⟨h2, h3⟩⟩
theorem RetA.toM {r av : AV} {O : List OE} {nid : Nat} (h : RetA r av O nid) : RetM true 0 (fun _ : Unit => True) (fun _ => []) (fun _ => []) (fun _ => r) av O nid := by
 obtain ⟨h1, h2⟩ := h.is
 refine ⟨(), [], trivial, ⟨⟨⟨rfl, h1, ?_⟩, trivial⟩, trivial, rfl⟩, rfl, fun h => by cases h⟩
 exact h2
theorem fn_of_exec (hT : TabOk P T) {f : FuncId} {fn : Func} {c : Code} {args : List AV} {os : List AO} {r : AV} (hf : P.funcs[f]? = some fn) (hname : (fn.name == "runtime.NumGoroutine") = false) (hb : fn.body = some c)
  {N : Nat} (hN : fn.ntmps = N) {res : List ResultVar} (hres : fn.results = res.toArray) (hle : Nat.ble args.length N = true) (gt : List (Nat × List Gh))
  (h : execC P T N 0 true gt c ⟨argK 0 args, [], 0⟩ (retW N true gt T res (RetIs os r))) : Ctr P f args os r :=
 (fn_of_execW hT hf hname hb hN hres (al := false) (ins := []) (fun _ _ _ h => h.toM) hle (fun _ => rfl) h).ctr
theorem fn_of_execM (hT : TabOk P T) {f : FuncId} {fn : Func} {c : Code} (hf : P.funcs[f]? = some fn) (hname : (fn.name == "runtime.NumGoroutine") = false) (hb : fn.body = some c)
  {N : Nat} (hN : fn.ntmps = N) {res : List ResultVar} (hres : fn.results = res.toArray) (al fr : Bool) (ins : List AO) {args : List AV} {Y : Type} (spec : Y → Prop) (outs os : Y → List AO) (r : Y → AV)
  (hle : Nat.ble args.length N = true) (hfr : fr = true → ins = []) (gt : List (Nat × List Gh))
  (h : execC P T N ins.length fr gt c ⟨argK 0 args, numO 0 ins, ins.length⟩ (retW N fr gt T res (RetM al ins.length spec outs os r))) : CtrM P f al ins args spec outs os r :=
 fn_of_execW hT hf hname hb hN hres (fun _ _ _ h => h) hle hfr h
end
end Go.Eng
end

section
namespace Go.Eng
open Go.RowKit
theorem wr {n : Int} (h1 : -9223372036854775808 ≤ n) (h2 : n ≤ 9223372036854775807) : IntKind.i64.wrap n = n := by
 have e : IntKind.i64.wrap n = if (decide (n % 2 ^ 64 ≥ 2 ^ 63)) = true then n % 2 ^ 64 - 2 ^ 64 else n % 2 ^ 64 := rfl
 rw [e]
 by_cases h : n % 2 ^ 64 ≥ 2 ^ 63
 ·rw [if_pos (by simpa using h)]
  omega
 ·rw [if_neg (by simpa using h)]
  omega
theorem dlt {a b : Int} (h : decide (a < b) = true) : a < b := of_decide_eq_true h
theorem dnlt {a b : Int} (h : decide (a < b) = false) : b ≤ a := by simpa using h
theorem Ctr.of_eq {P : Program} {f : FuncId} {args args' : List AV} {os : List AO} {r : AV} (h : AVsEq args args') (c : Ctr P f args os r) : Ctr P f args' os r :=
 ⟨c.1, fun w vs hl hr => c.2 w vs (h.get.1.trans hl) fun j h1 h2 => (h.get.2 j h1 (by rw [← h.get.1]; exact h1)).rep0 (hr j (by rw [← h.get.1]; exact h1) h2)⟩
theorem RetIs.so {e sz n n' : Nat} {get get' : Nat → List AV} {id nid : Nat} {O : List OE} (hg : getO id O = some ([], .row e sz n' get')) (hn : n' = n) (hget : ∀ k, k < n → get' k = get k) (hf : ∀ k, k < n → AV.freshs (get k) = true) :
  RetIs [.row e sz n get] (.so 0) (.so id) O nid := by
 subst hn
 refine ⟨[(0, id)], ⟨⟨⟨rfl, rfl, ?_⟩, trivial⟩, ⟨⟨rfl, rfl, trivial, ?_⟩, trivial⟩, rfl⟩, rfl, hf⟩
 ·exact rfl
 ·show (match AO.row e sz n' get, getO id O with
   | .dead, _ => True
   | o, some ([], o') => AOEq (o.ren (rn [(0, id)])) o'
   | _, _ => False)
  rw [hg]
  exact ⟨rfl, rfl, rfl, hget⟩
theorem RetA.rs {sz n n' : Nat} {get get' : Nat → List AV} {O : List OE} {nid : Nat} (hn : n' = n) (hget : ∀ k, k < n → get' k = get k) : RetA (.rs sz n get) (.rs sz n' get') O nid := ⟨rfl, ⟨rfl, hn, hget⟩⟩
theorem RetIs.mo {n n' clock : Nat} {key key' val val' : Nat → AV} {born born' : Nat → Nat} {id nid : Nat} {O : List OE} (hg : getO id O = some ([], .mp n' key' val' born' clock)) (hn : n' = n)
  (hk : ∀ k, k < n → key' k = key k ∧ val' k = val k ∧ born' k = born k) (hf : ∀ k, k < n → AV.fresh (key k) = true ∧ AV.fresh (val k) = true) : RetIs [.mp n key val born clock] (.mo 0) (.mo id) O nid := by
 subst hn
 refine ⟨[(0, id)], ⟨⟨⟨rfl, rfl, ?_⟩, trivial⟩, ⟨⟨rfl, rfl, trivial, ?_⟩, trivial⟩, rfl⟩, rfl, hf⟩
 ·exact rfl
 ·show (match AO.mp n' key val born clock, getO id O with
   | .dead, _ => True
   | o, some ([], o') => AOEq (o.ren (rn [(0, id)])) o'
   | _, _ => False)
  rw [hg]
  exact ⟨rfl, rfl, hk⟩
end Go.Eng
end

section
namespace Go.Eng
open Go.RowKit
section
variable {α γ : Type} [DecidableEq α]
def mset : List (α × γ) → α → γ → List (α × γ)
 | [], k, v => [(k, v)]
 | p :: r, k, v => if p.1 = k then (k, v) :: r else p :: mset r k v
def mget : List (α × γ) → α → Option γ
 | [], _ => none
 | p :: r, k => if p.1 = k then some p.2 else mget r k
theorem mget_none {L : List (α × γ)} {k : α} (h : mget L k = none) (d : α × γ) : ∀ i, i < L.length → (L.getD i d).1 ≠ k := by
 induction L with
 | nil => intro i hi; simp at hi
 | cons p r ih =>
  unfold mget at h
  split at h
  ·cases h
  ·rename_i hne
   intro i hi
   cases i with
   | zero => simpa using hne
   | succ i => simpa using ih h i (by simpa using hi)
theorem mget_some {L : List (α × γ)} {k : α} {v : γ} (h : mget L k = some v) (d : α × γ) : ∃ i, i < L.length ∧ (L.getD i d).1 = k ∧ (L.getD i d).2 = v := by
 induction L with
 | nil => cases h
 | cons p r ih =>
  unfold mget at h
  split at h
  ·rename_i he
   exact ⟨0, by simp, by simpa using he, by simpa using h⟩
  ·obtain ⟨i, h1, h2, h3⟩ := ih h
   exact ⟨i + 1, by simpa using h1, by simpa using h2, by simpa using h3⟩
theorem mset_upd {L : List (α × γ)} {k : α} {v : γ} (d : α × γ) : (∃ i, i < L.length ∧ (L.getD i d).1 = k ∧ (mset L k v).length = L.length ∧ ∀ j, j < L.length → ((mset L k v).getD j d).1 = (L.getD j d).1 ∧ ((mset L k v).getD j d).2 = if j = i then v else (L.getD j d).2) ∨
  ((∀ i, i < L.length → (L.getD i d).1 ≠ k) ∧ mset L k v = L ++ [(k, v)]) := by
 induction L with
 | nil => exact .inr ⟨fun i hi => by simp at hi, rfl⟩
 | cons p r ih =>
  unfold mset
  split
  ·rename_i he
   refine .inl ⟨0, by simp, by simpa using he, by simp, fun j hj => ?_⟩
   cases j with
   | zero => simp [he]
   | succ j => simp
  ·rename_i hne
   rcases ih with ⟨i, h1, h2, h3, h4⟩ | ⟨h1, h2⟩
   ·refine .inl ⟨i + 1, by simpa using h1, by simpa using h2, by simp [h3], fun j hj => ?_⟩
    cases j with
    | zero => simp
    | succ j =>
     obtain ⟨e1, e2⟩ := h4 j (by simpa using hj)
     simp only [List.getD_cons_succ, Nat.add_right_cancel_iff]
     exact ⟨e1, e2⟩
   ·refine .inr ⟨fun i hi => ?_, by rw [h2]; rfl⟩
    cases i with
    | zero => simpa using hne
    | succ i => simpa using h1 i (by simpa using hi)
theorem getD_snoc {α : Type} (L : List α) (x d : α) (j : Nat) : (L ++ [x]).getD j d = if j < L.length then L.getD j d else if j = L.length then x else d := by
 simp only [List.getD]
 by_cases h : j < L.length
 ·rw [if_pos h, List.getElem?_append_left h]
 ·rw [if_neg h, List.getElem?_append_right (by omega)]
  by_cases h2 : j = L.length
  ·rw [if_pos h2, h2]; simp
  ·rw [if_neg h2, List.getElem?_eq_none (by simp; omega)]; rfl
theorem mget_mset {L : List (α × γ)} {k j : α} {v : γ} : mget (mset L k v) j = if j = k then some v else mget L j := by
 induction L with
 | nil =>
  simp only [mset, mget]
  by_cases h : j = k
  ·simp [h]
  ·rw [if_neg (Ne.symm h), if_neg h]
 | cons p r ih =>
  simp only [mset]
  split
  ·rename_i he
   simp only [mget]
   by_cases h : j = k
   ·simp [h]
   ·rw [if_neg (Ne.symm h), if_neg h, he, if_neg (Ne.symm h)]
  ·rename_i hne
   simp only [mget, ih]
   by_cases h1 : p.1 = j
   ·rw [if_pos h1, if_pos h1]
    by_cases h : j = k
    ·exact absurd (h1.trans h) hne
    ·rw [if_neg h]
   ·rw [if_neg h1, if_neg h1]
def mkeys (L : List (α × γ)) : List α := L.map (·.1)
theorem mem_mkeys {L : List (α × γ)} {k : α} : k ∈ mkeys L ↔ (mget L k).isSome = true := by
 induction L with
 | nil => simp [mkeys, mget]
 | cons p r ih =>
  simp only [mkeys, List.map_cons, List.mem_cons, mget]
  by_cases h : p.1 = k
  ·simp [h]
  ·rw [if_neg h, ← ih]
   simp [mkeys, Ne.symm h]
theorem nodup_mset {L : List (α × γ)} (h : (mkeys L).Nodup) (k : α) (v : γ) : (mkeys (mset L k v)).Nodup := by
 induction L with
 | nil => simp [mset, mkeys]
 | cons p r ih =>
  simp only [mkeys, List.map_cons, List.nodup_cons] at h
  simp only [mset]
  split
  ·rename_i he
   simp only [mkeys, List.map_cons, List.nodup_cons]
   rw [← he]
   exact h
  ·rename_i hne
   simp only [mkeys, List.map_cons, List.nodup_cons]
   refine ⟨fun hm => h.1 ?_, ih h.2⟩
   have h1 : p.1 ∈ mkeys (mset r k v) := hm
   rw [mem_mkeys, mget_mset, if_neg hne] at h1
   exact mem_mkeys.2 h1
end
end Go.Eng
end
