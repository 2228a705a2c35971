/-
  Several texts in one: Eng2, Eng3, Eng4, EngK, Eng5.
-/
import Derived.MapKept
import Derived.WideKeyRuns
import Derived.Laws.StructEq
import Derived.Test.YtilhaifmfiobhaaMg1

section
/-
  The engine, second part: states, and what each operation does to them.
-/
namespace Go.Eng
open Go.RowKit

/-! ### Types -/
structure TI where
  desc : TypeDesc
  agg : Bool
  size : Nat
  bytes : Nat
  zero : Value
  cmp : Bool
def tget (t : Nat) : List (Nat × TI) → Option TI
  | [] => none
  | (s, x) :: r => match Nat.beq s t with
    | true => some x
    | false => tget t r
def isAggD : TypeDesc → Bool
  | .struct _ | .array _ _ => true
  | _ => false
def TIOk (P : Program) (t : TypeId) (ti : TI) : Prop :=
  P.underlying t = some ti.desc ∧ isAggD ti.desc = ti.agg ∧ ∃ i, P.info? t = some i ∧ i.size = ti.size ∧ i.bytes = ti.bytes ∧ i.zero = some ti.zero
/-- A struct of numbers, strings and Booleans that '==' tells apart field by field. -/
def structCmpB (P : Program) (t : TypeId) : Bool :=
  match P.underlying t with
  | some (.struct fs) => (fs.toList.all fun f => f.name != "_" && P.plainKey f.type) && (!P.stoodInHeld t && !P.eqGuardType P.depth t)
  | _ => false
def TabOk (P : Program) : List (Nat × TI) → Prop
  | [] => P.follows .mixedOrders = true
  | (t, ti) :: r => (TIOk P t ti ∧ (ti.cmp = true → structCmpB P t = true)) ∧ TabOk P r
theorem TabOk.mixed {P : Program} : ∀ {T : List (Nat × TI)}, TabOk P T → P.follows .mixedOrders = true
  | [], h => h
  | _ :: _, h => TabOk.mixed h.2
theorem TabOk.get {P : Program} : ∀ {T : List (Nat × TI)}, TabOk P T → ∀ {t : Nat} {ti : TI}, tget t T = some ti → TIOk P t ti
  | [], _, t, ti, h => by cases h
  | (s, x) :: r, hT, t, ti, h => by
    unfold tget at h
    split at h
    · rename_i hb
      have : s = t := by simpa using hb
      subst this
      cases h
      exact hT.1.1
    · exact TabOk.get hT.2 h
theorem TabOk.cmp {P : Program} : ∀ {T : List (Nat × TI)}, TabOk P T → ∀ {t : Nat} {ti : TI}, tget t T = some ti → ti.cmp = true → structCmpB P t = true
  | [], _, t, ti, h, _ => by cases h
  | (s, x) :: r, hT, t, ti, h, hc => by
    unfold tget at h
    split at h
    · rename_i hb
      have : s = t := by simpa using hb
      subst this
      cases h
      exact hT.1.2 hc
    · exact TabOk.cmp hT.2 h hc

/-! ### States -/
structure KE where
  slot : Nat
  tags : List (Nat × Bool)
  av : AV
structure OE where
  id : Nat
  tags : List (Nat × Bool)
  o : AO
structure St where
  K : List KE
  O : List OE
  nid : Nat

def find (s : Nat) : List KE → Option (List (Nat × Bool) × AV)
  | [] => none
  | ⟨t, g, a⟩ :: r => match Nat.beq t s with
    | true => some (g, a)
    | false => find s r
def getO (id : Nat) : List OE → Option (List (Nat × Bool) × AO)
  | [] => none
  | ⟨t, g, o⟩ :: r => match Nat.beq t id with
    | true => some (g, o)
    | false => getO id r
def hasTag (t : Nat) (w : Bool) : List (Nat × Bool) → Bool
  | [] => false
  | (s, x) :: r => match Nat.beq s t with
    | true => (match x, w with
      | true, true => true
      | false, false => true
      | _, _ => hasTag t w r)
    | false => hasTag t w r
def subTags : List (Nat × Bool) → List (Nat × Bool) → Bool
  | [], _ => true
  | (t, w) :: r, l => match hasTag t w l with
    | true => subTags r l
    | false => false
/-- The slot t is named in the tags. -/
def inTags (t : Nat) : List (Nat × Bool) → Bool
  | [] => false
  | (s, _) :: r => match Nat.beq s t with
    | true => true
    | false => inTags t r
def inAnyTags (t : Nat) : List KE → Bool
  | [] => false
  | e :: r => match inTags t e.tags with
    | true => true
    | false => inAnyTags t r
def inAnyTagsO (t : Nat) : List OE → Bool
  | [] => false
  | e :: r => match inTags t e.tags with
    | true => true
    | false => inAnyTagsO t r

def avOf1 : Value → AV
  | .bool c => .b c
  | .int k n => .i k n
  | .string x => .s x
  | v => .val v
def avOf1s : List Value → List AV
  | [] => []
  | v :: r => avOf1 v :: avOf1s r
def avOf : Value → AV
  | .agg ⟨l⟩ => .ag (avOf1s l)
  | v => avOf1 v

def evalO (K : List KE) (tags : List (Nat × Bool)) : Operand → Option AV
  | .tmp t => match find t K with
    | some (g, a) => (match subTags g tags with
      | true => some a
      | false => none)
    | none => none
  | .const v => some (avOf v)
  | .func f => some (.fn f [])
  | .global _ => none

/-! ### Small steps in continuation style: what comes out is written out -/
def takeK : Nat → List AV → (List AV → Prop) → Prop
  | 0, _, k => k []
  | n + 1, a :: r, k => takeK n r fun l => k (a :: l)
  | _ + 1, [], _ => False
def dropTakeK : Nat → Nat → List AV → (List AV → Prop) → Prop
  | 0, n, l, k => takeK n l k
  | off + 1, n, _ :: r, k => dropTakeK off n r k
  | _ + 1, _, [], _ => False
def dropK : Nat → List AV → (List AV → Prop) → Prop
  | 0, l, k => k l
  | off + 1, _ :: r, k => dropK off r k
  | _ + 1, [], _ => False
/-- l with the cells cs laid over it from off on. -/
def overK : Nat → List AV → List AV → (List AV → Prop) → Prop
  | _, [], l, k => k l
  | 0, c :: cs, _ :: r, k => overK 0 cs r fun l => k (c :: l)
  | off + 1, cs, a :: r, k => overK off cs r fun l => k (a :: l)
  | _, _ :: _, [], _ => False

theorem takeK_iff : ∀ {n : Nat} {l : List AV} {k : List AV → Prop}, takeK n l k → n ≤ l.length ∧ k (l.take n)
  | 0, _, _, h => ⟨Nat.zero_le _, by simpa [takeK] using h⟩
  | n + 1, a :: r, k, h => by
    have h' := takeK_iff (n := n) (l := r) h
    exact ⟨by simp; omega, by simpa using h'.2⟩
  | _ + 1, [], _, h => h.elim
theorem dropTakeK_iff : ∀ {off n : Nat} {l : List AV} {k : List AV → Prop}, dropTakeK off n l k → off + n ≤ l.length ∧ k ((l.drop off).take n)
  | 0, n, l, k, h => by simpa using takeK_iff (n := n) (l := l) h
  | off + 1, n, _ :: r, k, h => by
    have h' := dropTakeK_iff (off := off) (n := n) (l := r) h
    exact ⟨by simp; omega, by simpa using h'.2⟩
  | _ + 1, _, [], _, h => h.elim
theorem dropK_iff : ∀ {off : Nat} {l : List AV} {k : List AV → Prop}, dropK off l k → off ≤ l.length ∧ k (l.drop off)
  | 0, _, _, h => ⟨Nat.zero_le _, by simpa [dropK] using h⟩
  | off + 1, _ :: r, k, h => by
    have h' := dropK_iff (off := off) (l := r) h
    exact ⟨by simp; omega, by simpa using h'.2⟩
  | _ + 1, [], _, h => h.elim
def over (off : Nat) (cs l : List AV) : List AV := l.take off ++ cs ++ l.drop (off + cs.length)
theorem overK_iff : ∀ {off : Nat} {cs l : List AV} {k : List AV → Prop}, overK off cs l k → (cs = [] ∨ off + cs.length ≤ l.length) ∧ k (over off cs l)
  | off, [], l, k, h => by
    refine ⟨.inl rfl, ?_⟩
    have : overK off [] l k = k l := by unfold overK; rfl
    rw [this] at h
    simpa [over] using h
  | 0, c :: cs, a :: r, k, h => by
    have h' := overK_iff (off := 0) (cs := cs) (l := r) h
    refine ⟨.inr ?_, ?_⟩
    · rcases h'.1 with rfl | h1
      · simp
      · simp at h1 ⊢; omega
    · have := h'.2
      simpa [over, Nat.add_comm] using this
  | off + 1, c :: cs, a :: r, k, h => by
    have h' := overK_iff (off := off) (cs := c :: cs) (l := r) h
    refine ⟨.inr ?_, ?_⟩
    · rcases h'.1 with h1 | h1
      · cases h1
      · simp at h1 ⊢; omega
    · have := h'.2
      have e : off + 1 + (c :: cs).length = (off + (c :: cs).length) + 1 := by omega
      unfold over at this ⊢
      rw [e, List.drop_succ_cons]
      simpa using this
  | 0, _ :: _, [], _, h => h.elim
  | _ + 1, _ :: _, [], _, h => h.elim

/-! ### Integers, Booleans -/
def kn : IntKind → Nat
  | .i8 => 0 | .i16 => 1 | .i32 => 2 | .i64 => 3 | .u8 => 4 | .u16 => 5 | .u32 => 6 | .u64 => 7
theorem kn_inj {j k : IntKind} (h : Nat.beq (kn j) (kn k) = true) : j = k := by cases j <;> cases k <;> first | rfl | (simp [kn] at h)
def bitsI (op : BinOp) (k : IntKind) (x y : Int) : Int :=
  let a := BitVec.ofInt k.bits x
  let b := BitVec.ofInt k.bits y
  k.wrap (match op with
    | .and => a &&& b
    | .or => a ||| b
    | .xor => a ^^^ b
    | _ => a &&& ~~~b).toNat
def binI (op : BinOp) (k : IntKind) (x y : Int) : Option AV :=
  match op with
  | .add => some (.i k (k.wrap (x + y)))
  | .sub => some (.i k (k.wrap (x - y)))
  | .mul => some (.i k (k.wrap (x * y)))
  | .and => some (.i k (bitsI .and k x y))
  | .or => some (.i k (bitsI .or k x y))
  | .xor => some (.i k (bitsI .xor k x y))
  | .eql => some (.b (x == y))
  | .neq => some (.b (x != y))
  | .lss => some (.b (decide (x < y)))
  | .leq => some (.b (decide (x ≤ y)))
  | .gtr => some (.b (decide (x > y)))
  | .geq => some (.b (decide (x ≥ y)))
  | _ => none
theorem binI_sound {P : Program} {w : World} {op : BinOp} {k : IntKind} {x y : Int} {r : AV} (t : TypeId) (h : binI op k x y = some r) :
    ∃ v, (binOp op t (.int k x) (.int k y)).run P w = .ok v w ∧ Rep0 (fun _ => True) w r v := by
  cases op <;> simp only [binI, Option.some.injEq, reduceCtorEq] at h <;> subst h <;>
    simp [binOp, Op.intArith, Op.intBits, Op.intCmp, bitsI] <;> constructor


def isBoolD : TypeDesc → Bool
  | .bool => true
  | _ => false
def intD : TypeDesc → Option IntKind
  | .int k => some k
  | _ => none
def isStringD : TypeDesc → Bool
  | .string => true
  | _ => false
def isMapD : TypeDesc → Bool
  | .map _ _ => true
  | _ => false
def mapD : TypeDesc → Option (TypeId × TypeId)
  | .map k e => some (k, e)
  | _ => none
def sliceD : TypeDesc → Option TypeId
  | .slice e => some e
  | _ => none
def fieldD : TypeDesc → Nat → Option Field
  | .struct fs, f => fs[f]?
  | _, _ => none

/-! ### What an operation does -/
inductive Eff where
  | ext (os : List AO) (r : AV)
  | set (id : Nat) (o : AO) (r : AV)
  | app (id : Nat) (o : AO) (r : AV)

def ob (gc : Option Prop) (p rest : Prop) : Prop :=
  match gc with
  | none => p ∧ rest
  | some c => (c → p) ∧ rest
theorem ob_iff {gc : Option Prop} {p rest : Prop} (h : ob gc p rest) (hc : ∀ c, gc = some c → c) : p ∧ rest := by
  cases gc with
  | none => exact h
  | some c => exact ⟨h.1 (hc c rfl), h.2⟩

/-- A value of one cell. -/
def leaf : AV → Bool
  | .b _ => true
  | .i _ _ => true
  | .s _ => true
  | .fn _ _ => true
  | .p _ _ => true
  | .so _ => true
  | .pe _ _ _ _ => true
  | .rs _ _ _ => true
  | .rp _ => true
  | .mo _ => true
  | .sv _ _ _ _ => true
  | .rm _ _ _ => true
  | .val v => v.oneCell'
  | _ => false
def leaves : List AV → Bool
  | [] => true
  | a :: r => match leaf a with
    | true => leaves r
    | false => false
/-- The cells of a value, if each is of one cell. -/
def cellsK (a : AV) (k : List AV → Prop) : Prop :=
  match a with
  | .ag cs => (match leaves cs with
    | true => k cs
    | false => False)
  | a => (match leaf a with
    | true => k [a]
    | false => False)
def packK (agg : Bool) (l : List AV) (k : AV → Prop) : Prop :=
  match agg, l with
  | true, l => k (.ag l)
  | false, [a] => k a
  | _, _ => False

/-- What is known of a function: called with such arguments it returns such a result; what it returns is new. -/
def Callable (P : Program) (f : FuncId) : Prop := ∃ fn, P.funcs[f]? = some fn ∧ (fn.name == "runtime.NumGoroutine") = false ∧ fn.body.isNone = false


def News (β : Bd) (n : Nat) (F : Nat → Prop) (B : Nat) (w' : World) (d : Nat) (os : List AO) : Prop :=
  (∀ j o, os[j]? = some o → ObjOk β n F w' (d + j) o) ∧ (∀ j o g, os[j]? = some o → ownB β (d + j) o = some g → B ≤ g) ∧
  ∀ j j' o o' g, os[j]? = some o → os[j']? = some o' → ownB β (d + j) o = some g → ownB β (d + j') o' = some g → j = j'
/-- The blocks that what is known may not lie in: those of F, and those of the new objects. -/
def FX (F : Nat → Prop) (β : Bd) (d : Nat) (os : List AO) : Nat → Prop := fun g => F g ∨ ∃ j o, os[j]? = some o ∧ ownB β (d + j) o = some g

def Ctr (P : Program) (f : FuncId) (args : List AV) (os : List AO) (r : AV) : Prop :=
  Callable P f ∧ ∀ (w : World) (vs : List Value), args.length = vs.length → (∀ (j : Nat) (h1 : j < args.length) (h2 : j < vs.length), Rep0 (fun _ => False) w args[j] vs[j]) →
    Calls P f vs.toArray w fun e w' => ∃ (v : Value) (β : Bd), e = .returned v ∧ Below w.heap.size w w' ∧
      News β os.length (FX (fun g => g < w.heap.size) β 0 os) w.heap.size w' 0 os ∧ Rep β os.length (FX (fun g => g < w.heap.size) β 0 os) w' r v
/-- What is returned may lie in the arguments' memory. -/
def CtrA (P : Program) (f : FuncId) (args : List AV) (r : AV) : Prop :=
  Callable P f ∧ ∀ (F : Nat → Prop) (w : World) (vs : List Value), (∀ g, F g → g < w.heap.size) → args.length = vs.length → (∀ (j : Nat) (h1 : j < args.length) (h2 : j < vs.length), Rep0 F w args[j] vs[j]) →
    Calls P f vs.toArray w fun e w' => ∃ (v : Value), e = .returned v ∧ Below w.heap.size w w' ∧ Rep0 F w' r v

def agree (n : Nat) (β β' : Bd) : Prop := ∀ id, id < n → β'.blk id = β.blk id ∧ β'.val id = β.val id

def EffPost (β β' : Bd) (nid : Nat) (F : Nat → Prop) (lk : Nat → Option AO) (w w' : World) (v : Value) : Eff → Prop
  | .ext os r => Below w.heap.size w w' ∧ agree nid β β' ∧ News β' (nid + os.length) (FX F β' nid os) w.heap.size w' nid os ∧ Rep β' (nid + os.length) (FX F β' nid os) w' r v
  | .set id o' r => β' = β ∧ ∃ o, lk id = some o ∧ w.grownBy w' (ownB β id o) ∧ ownB β id o' = ownB β id o ∧ ObjOk β nid F w' id o' ∧ Rep β nid F w' r v
  | .app id o' r => agree nid β β' ∧ ∃ o, lk id = some o ∧ w.grownBy w' (ownB β id o) ∧ (ownB β' nid o' = ownB β id o ∨ ∀ g, ownB β' nid o' = some g → w.heap.size ≤ g) ∧
      ObjOk β' (nid + 1) (FX F β' nid [o']) w' nid o' ∧ Rep β' (nid + 1) (FX F β' nid [o']) w' r v

inductive Out (P : Program) (post : Value → World → Prop) : Result Next → Prop
  | value (v : Value) (w' : World) (hp : post v w') : Out P post (.ok (.value v) w')
  | skip (w' : World) (hp : post undef w') : Out P post (.ok .skip w')
  | enter (f : FuncId) (args : Array Value) (w : World) (hc : Calls P f args w fun e w' => ∃ v, e = .returned v ∧ post v w') : Out P post (.ok (.enter f args) w)

theorem Out.upon {P : Program} {post : Value → World → Prop} {r : Result Next} (h : Out P post r) {o : Oper} {a : Act} {next : Act → World → Prop} {Q : Exit → Act → World → Prop}
    (hn : ∀ v w', post v w' → next (a.put o.dst v) w') : o.upon P a next Q r := by
  cases h with
  | value v w' hp => exact hn v w' hp
  | skip w' hp => exact hn _ w' hp
  | enter f args w hc =>
    refine hc.mono ?_
    rintro e w' ⟨v, rfl, hp⟩
    exact hn v w' hp

theorem FX_nil {F : Nat → Prop} {β : Bd} {d g : Nat} (h : FX F β d [] g) : F g := by
  rcases h with h | ⟨j, o, hj, _⟩
  · exact h
  · simp at hj
theorem EffPost.id {β : Bd} {nid : Nat} {F : Nat → Prop} {lk : Nat → Option AO} {w w' : World} {r : AV} {v : Value} (h : Rep β nid F w' r v) (hb : Below w.heap.size w w') :
    EffPost β β nid F lk w w' v (.ext [] r) :=
  ⟨hb, fun _ _ => ⟨rfl, rfl⟩, ⟨fun j o h => by simp at h, fun j o g h => by simp at h, fun j j' o o' g h => by simp at h⟩, h.stable (fun _ _ hn hf => hn (FX_nil hf)) (fun _ _ _ => rfl) (Nat.le_refl _)⟩

def Bd.blkAt (β : Bd) (n g : Nat) : Bd := ⟨fun i => if i = n then g else β.blk i, β.val⟩
def Bd.valAt (β : Bd) (n : Nat) (v : Value) : Bd := ⟨β.blk, fun i => if i = n then v else β.val i⟩
theorem agree_blkAt (β : Bd) (n g : Nat) : agree n β (β.blkAt n g) := fun id h => ⟨by simp [Bd.blkAt, Nat.ne_of_lt h], rfl⟩
theorem agree_valAt (β : Bd) (n : Nat) (v : Value) : agree n β (β.valAt n v) := fun id h => ⟨rfl, by simp [Bd.valAt, Nat.ne_of_lt h]⟩

theorem below_alloc (w : World) (o : Obj) : Below w.heap.size w (w.alloc o) := (Below.refl _ _).alloc (Nat.le_refl _) _

/-- A new block of cells. -/
theorem EffPost.cells {β : Bd} {nid : Nat} {F : Nat → Prop} {lk : Nat → Option AO} {w : World} (e : TypeId) (cs : List AV) (vs : List Value) (hl : cs.length = vs.length)
    (h : ∀ (j : Nat) (h1 : j < cs.length) (h2 : j < vs.length), Rep β nid F w cs[j] vs[j] ∧ vs[j].oneCell' = true) :
    EffPost β (β.blkAt nid w.heap.size) nid F lk w (w.alloc (.cells vs.toArray e)) (.pointer (some ⟨w.heap.size, 0, none⟩)) (.ext [.cells e cs] (.p nid 0)) := by
  have hblk : (β.blkAt nid w.heap.size).blk nid = w.heap.size := by simp [Bd.blkAt]
  have hF : ∀ g, g < w.heap.size → ¬ F g → ¬ FX F (β.blkAt nid w.heap.size) nid [.cells e cs] g := by
    rintro g hg hn (hf | ⟨j, o, hj, ho⟩)
    · exact hn hf
    · cases j with
      | zero => simp at hj; subst hj; simp [ownB, hblk] at ho; omega
      | succ j => simp at hj
  refine ⟨below_alloc _ _, agree_blkAt _ _ _, ⟨?_, ?_, ?_⟩, ?_⟩
  · intro j o hj
    cases j with
    | succ j => simp at hj
    | zero =>
      simp at hj
      subst hj
      refine ⟨vs, by rw [Nat.add_zero, hblk]; exact heap_alloc_new w _, hl, fun j h1 h2 => ⟨?_, (h j h1 h2).2⟩⟩
      exact (((h j h1 h2).1.stable hF (fun g hg _ => Below.heap_alloc w _ g hg) (by simp)).same (agree_blkAt _ _ _)).more (by simp)
  · intro j o g hj hg
    cases j with
    | succ j => simp at hj
    | zero =>
      simp at hj
      subst hj
      simp [ownB, hblk] at hg
      omega
  · intro j j' o o' g h1 h2 _ _
    cases j <;> cases j' <;> simp at h1 h2 ⊢
  · have hp := Rep.p (β := β.blkAt nid w.heap.size) (n := nid + 1) (F := FX F (β.blkAt nid w.heap.size) nid [.cells e cs]) (w := w.alloc (.cells vs.toArray e)) nid 0 (by omega)
    rw [hblk] at hp
    exact hp

/-- A new row. -/
theorem EffPost.row {β : Bd} {nid : Nat} {F : Nat → Prop} {lk : Nat → Option AO} {w w' : World} (e : TypeId) (sz n : Nat) (get : Nat → List AV) (v : Value) (xs : List Value)
    (hb : Below w.heap.size w w') (hx : RowAt w' e sz v n xs) (hnew : ∀ g, blkOf v = some g → w.heap.size ≤ g) (hlen : ∀ k, k < n → (get k).length = sz)
    (h : ∀ (k j : Nat) (_ : k < n) (h1 : j < (get k).length) (h2 : k * sz + j < xs.length), Rep0 F w (get k)[j] xs[k * sz + j] ∧ xs[k * sz + j].oneCell' = true) :
    EffPost β (β.valAt nid v) nid F lk w w' v (.ext [.row e sz n get] (.so nid)) := by
  have hval : (β.valAt nid v).val nid = v := by simp [Bd.valAt]
  have hF : ∀ g, g < w.heap.size → ¬ F g → ¬ FX F (β.valAt nid v) nid [.row e sz n get] g := by
    rintro g hg hn (hf | ⟨j, o, hj, ho⟩)
    · exact hn hf
    · cases j with
      | zero => simp at hj; subst hj; simp [ownB, hval] at ho; have := hnew g ho; omega
      | succ j => simp at hj
  refine ⟨hb, agree_valAt _ _ _, ⟨?_, ?_, ?_⟩, ?_⟩
  · intro j o hj
    cases j with
    | succ j => simp at hj
    | zero =>
      simp at hj
      subst hj
      exact ⟨xs, by rw [Nat.add_zero, hval]; exact hx, hlen, fun k j hk h1 h2 => ⟨(h k j hk h1 h2).1.stable hF (fun g hg _ => hb.block g hg) hb.size, (h k j hk h1 h2).2⟩⟩
  · intro j o g hj hg
    cases j with
    | succ j => simp at hj
    | zero =>
      simp at hj
      subst hj
      simp only [ownB, Nat.add_zero, hval] at hg
      exact hnew g hg
  · intro j j' o o' g h1 h2 _ _
    cases j <;> cases j' <;> simp at h1 h2 ⊢
  · have hp := Rep.so (β := β.valAt nid v) (n := nid + 1) (F := FX F (β.valAt nid v) nid [.row e sz n get]) (w := w') nid (by omega) (by rw [hval]; exact hx.one)
    rw [hval] at hp
    exact hp

/-- A new object of one block, that is no cells. -/
theorem EffPost.blk {β : Bd} {nid : Nat} {F : Nat → Prop} {lk : Nat → Option AO} {w : World} (o : AO) (ob : Obj) (v : Value) (r : AV) (hown : ∀ β' : Bd, ownB β' nid o = some (β'.blk nid))
    (hok : (∀ g, g < w.heap.size → ¬ F g → ¬ FX F (β.blkAt nid w.heap.size) nid [o] g) → ObjOk (β.blkAt nid w.heap.size) (nid + 1) (FX F (β.blkAt nid w.heap.size) nid [o]) (w.alloc ob) nid o)
    (hr : (β.blkAt nid w.heap.size).blk nid = w.heap.size → Rep (β.blkAt nid w.heap.size) (nid + 1) (FX F (β.blkAt nid w.heap.size) nid [o]) (w.alloc ob) r v) :
    EffPost β (β.blkAt nid w.heap.size) nid F lk w (w.alloc ob) v (.ext [o] r) := by
  have hblk : (β.blkAt nid w.heap.size).blk nid = w.heap.size := by simp [Bd.blkAt]
  have hF : ∀ g, g < w.heap.size → ¬ F g → ¬ FX F (β.blkAt nid w.heap.size) nid [o] g := by
    rintro g hg hn (hf | ⟨j, o', hj, ho⟩)
    · exact hn hf
    · cases j with
      | zero => simp at hj; subst hj; rw [Nat.add_zero, hown, hblk] at ho; have := Option.some.inj ho; omega
      | succ j => simp at hj
  refine ⟨below_alloc _ _, agree_blkAt _ _ _, ⟨?_, ?_, ?_⟩, hr hblk⟩
  · intro j o' hj
    cases j with
    | succ j => simp at hj
    | zero =>
      simp at hj
      subst hj
      exact hok hF
  · intro j o' g hj hg
    cases j with
    | succ j => simp at hj
    | zero =>
      simp at hj
      subst hj
      rw [Nat.add_zero, hown, hblk] at hg
      have := Option.some.inj hg
      omega
  · intro j j' o o' g h1 h2 _ _
    cases j <;> cases j' <;> simp at h1 h2 ⊢

theorem leaf_one {β : Bd} {n : Nat} {F : Nat → Prop} {w : World} {a : AV} {v : Value} (h : Rep β n F w a v) (hl : leaf a = true) : v.oneCell' = true := by
  cases h with
  | pure _ _ h => cases h <;> first | rfl | (simp [leaf] at hl; done) | exact hl
  | p => rfl
  | so id hi h1 => exact h1
  | pe => rfl
  | mo => rfl
  | sv id sz lo m v hi h => exact h.one
  | fn => rfl
  | ag => simp [leaf] at hl
  | tup => simp [leaf] at hl

end Go.Eng
end

section
/-
  The engine, third part: the operations, each with its proof.
-/
namespace Go.Eng
open Go.RowKit

structure Env (β : Bd) (nid : Nat) (F : Nat → Prop) (w : World) (lk : Nat → Option AO) : Prop where
  obj : ∀ id o, lk id = some o → id < nid ∧ ObjOk β nid F w id o
  own : ∀ id o g, lk id = some o → ownB β id o = some g → F g
  old : ∀ g, F g → g < w.heap.size

def PostK (β : Bd) (nid : Nat) (F : Nat → Prop) (lk : Nat → Option AO) (w : World) (k : Eff → Prop) (v : Value) (w' : World) : Prop :=
  ∃ eff β', k eff ∧ EffPost β β' nid F lk w w' v eff

section
variable {P : Program} {β : Bd} {nid : Nat} {F : Nat → Prop} {w : World} {lk : Nat → Option AO} {k : Eff → Prop}

theorem Out.same {r : AV} {v : Value} {run : Result Next} (hk : k (.ext [] r)) (hr : Rep β nid F w r v) (hrun : run = .ok (.value v) w) : Out P (PostK β nid F lk w k) run := by
  subst hrun
  exact .value v w ⟨_, β, hk, .id hr (Below.refl _ _)⟩

/-! ### load -/
def loadA (gc : Option Prop) (lk : Nat → Option AO) (ti : TI) (a : AV) (k : Eff → Prop) : Prop :=
  match a with
  | .p id off => (match lk id with
    | some (.cells _ cs) => dropTakeK off ti.size cs fun l => packK ti.agg l fun r => k (.ext [] r)
    | _ => False)
  | .rp cs => dropTakeK 0 ti.size cs fun l => packK ti.agg l fun r => k (.ext [] r)
  | .pe id sz idx off => (match lk id with
    | some (.row _ sz' n get) => (match Nat.beq sz sz' with
      | true => ob gc (idx < n) (dropTakeK off ti.size (get idx) fun l => packK ti.agg l fun r => k (.ext [] r))
      | false => False)
    | _ => False)
  | _ => False

theorem load_run {t : TypeId} {ti : TI} (hti : TIOk P t ti) (g o : Nat) (vs : List Value) (hl : vs.length = ti.size) (hc : ∀ (j : Nat) (h : j < vs.length), w.cell? ⟨g, o + j, none⟩ = some vs[j]) :
    (ti.agg = true → (loadVar t ⟨g, o, none⟩).run P w = .ok (.agg vs.toArray) w) ∧ (ti.agg = false → ∀ h : 0 < vs.length, (loadVar t ⟨g, o, none⟩).run P w = .ok vs[0] w) := by
  obtain ⟨hu, hagg, i, hi, hs, _, _⟩ := hti
  have hisagg : (isAgg t).run P w = .ok ti.agg w := by
    unfold isAgg
    rw [Sem.run_bind, run_underlying hu w, ← hagg]
    cases ti.desc <;> simp [isAggD]
  constructor
  · intro ha
    have hload := run_loadCells_list (P := P) w ⟨g, o, none⟩ vs (fun j v hv => by
      obtain ⟨hj, rfl⟩ := List.getElem?_eq_some_iff.1 hv
      rw [Addr.add_lit]
      exact hc j hj)
    rw [hl] at hload
    simp [loadVar, hisagg, ha, sizeOf, typeInfo, hi, hs, hload]
  · intro ha h
    have h0 := hc 0 h
    simp only [Nat.add_zero] at h0
    simp [loadVar, hisagg, ha, load, Sem.run, h0]

theorem load_out {t : TypeId} {ti : TI} (hti : TIOk P t ti) (g o : Nat) (vs : List Value) (l : List AV) (hl : vs.length = ti.size) (hll : l.length = vs.length)
    (hc : ∀ (j : Nat) (h : j < vs.length), w.cell? ⟨g, o + j, none⟩ = some vs[j])
    (hr : ∀ (j : Nat) (h1 : j < l.length) (h2 : j < vs.length), Rep β nid F w l[j] vs[j])
    (h : packK ti.agg l fun r => k (.ext [] r)) :
    ∃ v, (loadVar t ⟨g, o, none⟩).run P w = .ok v w ∧ ∃ r, k (.ext [] r) ∧ Rep β nid F w r v := by
  have hrun := load_run hti g o vs hl hc
  unfold packK at h
  split at h
  · rename_i hagg
    exact ⟨_, hrun.1 hagg, _, h, .ag _ vs hll hr⟩
  · rename_i a hagg
    have h0 : 0 < vs.length := by rw [← hll]; simp
    exact ⟨_, hrun.2 hagg h0, _, h, by simpa using hr 0 (by simp) h0⟩
  · exact h.elim

theorem loadA_sound {gc : Option Prop} (hgc : ∀ c, gc = some c → c) (E : Env β nid F w lk) {t : TypeId} {ti : TI} (hti : TIOk P t ti) {a : AV} {v : Value} (hv : Rep β nid F w a v)
    (h : loadA gc lk ti a k) : ∃ x, (Instr.loadAt t v).run P w = .ok x w ∧ ∃ r, k (.ext [] r) ∧ Rep β nid F w r x := by
  unfold loadA at h
  split at h
  · rename_i id off
    split at h
    · rename_i e cs hlk
      obtain ⟨hsz, h⟩ := dropTakeK_iff h
      obtain ⟨_, rfl⟩ := hv.p_inv
      obtain ⟨hid, vs, hh, hl, hc⟩ := E.obj id _ hlk
      have := load_out (β := β) (nid := nid) (F := F) (w := w) (k := k) hti (β.blk id) off ((vs.drop off).take ti.size) ((cs.drop off).take ti.size) (by simp; omega) (by simp; omega)
        (fun j hj => by
          simp at hj
          rw [cell_of_row w _ _ _ _ _ hh]
          simp)
        (fun j h1 h2 => by
          simp at h1 h2
          simpa using (hc (off + j) (by omega) (by omega)).1) h
      simpa [Instr.loadAt, Instr.sureAddr] using this
    · exact h.elim
  · rename_i cs
    obtain ⟨hsz, h⟩ := dropTakeK_iff h
    have hv0 := hv.rp_inv
    cases hv0 with
    | rp _ g off vs hF hg hc h1 hr =>
      have := load_out (β := β) (nid := nid) (F := F) (w := w) (k := k) hti g off ((List.range ti.size).map vs) ((cs.drop 0).take ti.size) (by simp) (by simp; omega)
        (fun j hj => by
          simp at hj
          simpa using hc j (by omega))
        (fun j h1 h2 => by
          simp at h1 h2
          simpa using Rep.pure _ _ (hr j (by omega))) h
      simpa [Instr.loadAt, Instr.sureAddr] using this
  · rename_i id sz idx off
    split at h
    · rename_i e sz' n get hlk
      split at h
      · rename_i hsz'
        have hsz' : sz = sz' := by simpa using hsz'
        subst hsz'
        obtain ⟨hidx, h⟩ := ob_iff h hgc
        obtain ⟨hsz, h⟩ := dropTakeK_iff h
        obtain ⟨_, g, o, m, c, hval, rfl⟩ := hv.pe_inv
        obtain ⟨hid, xs, hx, hlen, hc⟩ := E.obj id _ hlk
        have hxl := hx.1
        have hgl := hlen idx hidx
        have hmul : idx * sz + sz ≤ n * sz := by rw [← Nat.succ_mul]; exact Nat.mul_le_mul_right _ hidx
        by_cases hx0 : 0 < xs.length
        · obtain ⟨g', o', cap, cur, hv', _, _, _, _, _, hcells⟩ := hx.cells hx0
          rw [hval] at hv'
          simp only [Value.slice.injEq, Option.some.injEq, Addr.mk.injEq] at hv'
          obtain ⟨⟨rfl, rfl, _⟩, _, _⟩ := hv'
          have := load_out (β := β) (nid := nid) (F := F) (w := w) (k := k) hti g (o + (idx * sz + off)) ((xs.drop (idx * sz + off)).take ti.size) (((get idx).drop off).take ti.size) (by simp; omega) (by simp; omega)
            (fun j hj => by
              simp at hj
              have := hcells (idx * sz + off + j) xs[idx * sz + off + j] (List.getElem?_eq_getElem (by omega))
              rw [Nat.add_assoc o]
              simpa using this)
            (fun j h1 h2 => by
              simp at h1 h2
              have := (hc idx (off + j) hidx (by omega) (by omega)).1
              simpa [Nat.add_assoc] using Rep.pure (β := β) (n := nid) _ _ this) h
          simpa [Instr.loadAt, Instr.sureAddr] using this
        · have h0 : sz = 0 := by omega
          have hz : ti.size = 0 := by omega
          have := load_out (β := β) (nid := nid) (F := F) (w := w) (k := k) hti g (o + (idx * sz + off)) [] (((get idx).drop off).take ti.size) (by simp [hz]) (by simp [hz]) (fun j hj => by simp at hj) (fun j h1 h2 => by simp at h2) h
          simpa [Instr.loadAt, Instr.sureAddr] using this
      · exact h.elim
    · exact h.elim
  · exact h.elim

/-! ### store -/
def storeA (gc : Option Prop) (lk : Nat → Option AO) (ti : TI) (a y : AV) (k : Eff → Prop) : Prop :=
  cellsK y fun cs => match Nat.beq cs.length ti.size with
    | false => False
    | true => match a with
      | .p id off => (match lk id with
        | some (.cells e old) => overK off cs old fun new => k (.set id (.cells e new) .u)
        | _ => False)
      | .pe id sz idx off => (match lk id with
        | some (.row e sz' n get) => (match Nat.beq sz sz', AV.lts 0 cs, Nat.ble (off + cs.length) sz with
          | true, true, true => ob gc (idx < n) (k (.set id (.row e sz n fun q => if q = idx then over off cs (get q) else get q) .u))
          | _, _, _ => False)
        | _ => False)
      | _ => False

theorem leaves_get : ∀ {l : List AV}, leaves l = true → ∀ (j : Nat) (h : j < l.length), leaf l[j] = true
  | [], _, j, h => by simp at h
  | c :: r, hl, j, h => by
    unfold leaves at hl
    split at hl
    · rename_i hc
      cases j with
      | zero => exact hc
      | succ j => exact leaves_get hl j (by simpa using h)
    · cases hl
theorem cellsK_iff {a : AV} {q : List AV → Prop} (h : cellsK a q) : ∃ cs, q cs ∧ (a = .ag cs ∧ leaves cs = true ∨ cs = [a] ∧ leaf a = true) := by
  unfold cellsK at h
  split at h
  · split at h
    · rename_i hl
      exact ⟨_, h, .inl ⟨rfl, hl⟩⟩
    · exact h.elim
  · split at h
    · rename_i hl
      exact ⟨_, h, .inr ⟨rfl, hl⟩⟩
    · exact h.elim
/-- The cells of a value that is known. -/
theorem cells_rep {a : AV} {cs : List AV} {v : Value} (hv : Rep β nid F w a v) (h : a = .ag cs ∧ leaves cs = true ∨ cs = [a] ∧ leaf a = true) :
    ∃ vs : List Value, v.cells = vs.toArray ∧ cs.length = vs.length ∧ ∀ (j : Nat) (h1 : j < cs.length) (h2 : j < vs.length), Rep β nid F w cs[j] vs[j] ∧ vs[j].oneCell' = true := by
  rcases h with ⟨rfl, hl⟩ | ⟨rfl, hl⟩
  · obtain ⟨vs, rfl, hlen, hr⟩ := hv.ag_inv
    exact ⟨vs, rfl, hlen, fun j h1 h2 => ⟨hr j h1 h2, leaf_one (hr j h1 h2) (leaves_get hl j h1)⟩⟩
  · have h1 := leaf_one hv hl
    refine ⟨[v], ?_, rfl, fun j h1' h2 => ?_⟩
    · cases v <;> first | rfl | simp [Value.oneCell'] at h1
    · have : j = 0 := by simpa using h2
      subst this
      exact ⟨hv, h1⟩

theorem store_run {t : TypeId} {ti : TI} (hti : TIOk P t ti) (g o : Nat) (e : TypeId) (cur : Array Value) (v : Value) (vs : List Value) (hv : v.cells = vs.toArray) (hl : vs.length = ti.size)
    (hg : w.heap[g]? = some (.cells cur e (0, 0))) (hfit : o + vs.length ≤ cur.size) (h1 : ∀ u ∈ vs, u.oneCell' = true) :
    (storeVar t ⟨g, o, none⟩ v).run P w = .ok () (w.setRow g (cur.toList.take o ++ vs ++ cur.toList.drop (o + vs.length)).toArray) := by
  obtain ⟨hu, hagg, i, hi, hs, _, _⟩ := hti
  have hst := run_storeCells_at P g o e vs 0 cur w hg (by simpa using hfit) h1
  simp only [Nat.add_zero] at hst
  have hsz : v.cells.size = i.size := by rw [hv, hs]; simpa using hl
  have hcl : v.cells.toList = vs := by rw [hv]
  simp [storeVar, sizeOf, typeInfo, hi, hsz, hcl, hst]

theorem overV_get? {off : Nat} {cs l : List Value} (h : off + cs.length ≤ l.length) (q : Nat) :
    (l.take off ++ cs ++ l.drop (off + cs.length))[q]? = if q < off then l[q]? else if q < off + cs.length then cs[q - off]? else l[q]? := by
  by_cases h1 : q < off
  · rw [if_pos h1, List.getElem?_append_left (by simp; omega), List.getElem?_append_left (by simp; omega), List.getElem?_take, if_pos h1]
  · rw [if_neg h1]
    by_cases h2 : q < off + cs.length
    · rw [if_pos h2, List.getElem?_append_left (by simp; omega), List.getElem?_append_right (by simp; omega)]
      congr 1
      simp
      omega
    · rw [if_neg h2, List.getElem?_append_right (by simp; omega), List.getElem?_drop]
      congr 1
      simp
      omega
theorem grownBy_setRow (w : World) (g : Nat) (cs : Array Value) : w.grownBy (w.setRow g cs) (some g) :=
  ⟨rfl, rfl, rfl, by simp, fun k _ hne => setRow_other w g k cs (fun e => hne (by rw [e]))⟩

theorem over_get {off : Nat} {cs l : List AV} (h : off + cs.length ≤ l.length) (j : Nat) (hj : j < (over off cs l).length) :
    (over off cs l).length = l.length ∧ (over off cs l)[j] = if h' : off ≤ j ∧ j < off + cs.length then cs[j - off]'(by omega) else l[j]'(by simp [over] at hj; omega) := by
  refine ⟨by simp [over]; omega, ?_⟩
  simp only [over] at hj ⊢
  by_cases h1 : j < off
  · rw [List.getElem_append_left (by simp; omega), List.getElem_append_left (by simp; omega), dif_neg (by omega)]
    simp
  · by_cases h2 : j < off + cs.length
    · rw [List.getElem_append_left (by simp; omega), List.getElem_append_right (by simp; omega), dif_pos (by omega)]
      congr 1
      simp
      omega
    · rw [List.getElem_append_right (by simp; omega), dif_neg (by omega)]
      simp
      congr 1
      omega
theorem over_len {off : Nat} {cs l : List AV} (h : off + cs.length ≤ l.length) : (over off cs l).length = l.length := by simp [over]; omega
theorem AV.lts_pure {β : Bd} {nid : Nat} {F : Nat → Prop} {w : World} {cs : List AV} (h : AV.lts 0 cs = true) (j : Nat) (hj : j < cs.length) {v : Value} (hr : Rep β nid F w cs[j] v) : Rep0 F w cs[j] v :=
  hr.toPure (AV.lts_get h j hj)
theorem overV_get {off : Nat} {cs l : List Value} (h : off + cs.length ≤ l.length) (j : Nat) (hj : j < (l.take off ++ cs ++ l.drop (off + cs.length)).length) :
    (l.take off ++ cs ++ l.drop (off + cs.length))[j] = if h' : off ≤ j ∧ j < off + cs.length then cs[j - off]'(by omega) else l[j]'(by simp at hj; omega) := by
  by_cases h1 : j < off
  · rw [List.getElem_append_left (by simp; omega), List.getElem_append_left (by simp; omega), dif_neg (by omega)]
    simp
  · by_cases h2 : j < off + cs.length
    · rw [List.getElem_append_left (by simp; omega), List.getElem_append_right (by simp; omega), dif_pos (by omega)]
      congr 1
      simp
      omega
    · rw [List.getElem_append_right (by simp; omega), dif_neg (by omega)]
      simp
      congr 1
      omega


/-- The cells us, laid over a row's from the A-th on. -/
theorem RowAt.over {e : TypeId} {sz g o n cap : Nat} {cur : Array Value} {xs : List Value} (hh : w.heap[g]? = some (.cells cur e (0, 0))) (hnc : n ≤ cap + 1) (hcm : cap + 1 ≤ maxLen) (hcs : o + (cap + 1) * sz ≤ cur.size)
    (htake : (cur.toList.drop o).take (n * sz) = xs) (hxl : xs.length = n * sz) (A : Nat) (us : List Value) (hA : A + us.length ≤ n * sz) :
    RowAt (w.setRow g (cur.toList.take (o + A) ++ us ++ cur.toList.drop (o + A + us.length)).toArray) e sz (.slice (some ⟨g, o, none⟩) n (cap + 1)) n (xs.take A ++ us ++ xs.drop (A + us.length)) := by
  have hcapsz : n * sz ≤ (cap + 1) * sz := Nat.mul_le_mul_right _ hnc
  refine ⟨?_, .inr (.inr ⟨g, o, cap, _, rfl, setRow_heap w _ _ _ _ _ hh, hnc, hcm, ?_, ?_⟩)⟩
  · simp; omega
  · simp; omega
  · rw [← htake]
    apply List.ext_getElem?
    intro q
    simp only
    rw [List.getElem?_take, List.getElem?_drop, overV_get? (by simp; omega), overV_get? (by simp; omega)]
    simp only [List.getElem?_take, List.getElem?_drop]
    by_cases hq : q < n * sz
    · rw [if_pos hq]
      by_cases h1 : q < A
      · rw [if_pos (by omega), if_pos h1, if_pos hq]
      · rw [if_neg (by omega), if_neg h1]
        by_cases h2 : q < A + us.length
        · rw [if_pos (by omega), if_pos h2]; congr 1; omega
        · rw [if_neg (by omega), if_neg h2, if_pos hq]
    · rw [if_neg hq, if_neg (by omega), if_neg (by omega), if_neg hq]

theorem storeA_sound {gc : Option Prop} (hgc : ∀ c, gc = some c → c) (E : Env β nid F w lk) {t : TypeId} {ti : TI} (hti : TIOk P t ti) {a y : AV} {v u : Value} (hv : Rep β nid F w a v) (hu : Rep β nid F w y u)
    (h : storeA gc lk ti a y k) : ∃ w', (Instr.storeAt t v u).run P w = .ok () w' ∧ PostK β nid F lk w k undef w' := by
  unfold storeA at h
  have hq := cellsK_iff h
  clear h
  obtain ⟨cs, h, hcs⟩ := hq
  obtain ⟨us, hucells, hlen, hus⟩ := cells_rep hu hcs
  split at h
  · exact h.elim
  · rename_i hsz
    have hsz : cs.length = ti.size := by simpa using hsz
    have hone : ∀ x ∈ us, x.oneCell' = true := fun x hx => by
      obtain ⟨j, hj, rfl⟩ := List.getElem_of_mem hx
      exact (hus j (by omega) hj).2
    split at h
    · rename_i id off
      split at h
      · rename_i e old hlk
        obtain ⟨hfit, h⟩ := overK_iff h
        obtain ⟨_, rfl⟩ := hv.p_inv
        obtain ⟨hid, vs, hh, hl, hc⟩ := E.obj id _ hlk
        have hF := E.own id _ _ hlk rfl
        by_cases hnil : cs = []
        · subst hnil
          simp at hlen hsz
          have hus0 : us = [] := by simpa using hlen.symm
          subst hus0
          have hrun : (Instr.storeAt t (.pointer (some ⟨β.blk id, off, none⟩)) u).run P w = .ok () w := by
            obtain ⟨_, _, i, hi, hs, _, _⟩ := hti
            simp [Instr.storeAt, Instr.sureAddr, storeVar, sizeOf, typeInfo, hi, hucells, hs, ← hsz, storeCells]
          refine ⟨w, hrun, _, β, h, rfl, _, hlk, ⟨rfl, rfl, rfl, Nat.le_refl _, fun _ _ _ => rfl⟩, rfl, ⟨vs, hh, by simpa [over] using hl, fun j h1 h2 => ?_⟩, .pure _ _ (.u _)⟩
          have hj : j < old.length := by simpa [over] using h1
          simpa [over] using hc j hj h2
        · have hfit : off + cs.length ≤ old.length := hfit.resolve_left hnil
          have hrun := store_run (P := P) (w := w) hti (β.blk id) off e vs.toArray u us hucells (by omega) hh (by simp; omega) hone
          have hold : ∀ g, g < w.heap.size → ¬ F g → (w.setRow (β.blk id) (vs.toArray.toList.take off ++ us ++ vs.toArray.toList.drop (off + us.length)).toArray).heap[g]? = w.heap[g]? :=
            fun g _ hn => setRow_other w _ g _ (fun e => hn (by rw [e]; exact hF))
          refine ⟨_, hrun, _, β, h, rfl, _, hlk, grownBy_setRow _ _ _, rfl, ⟨_, setRow_heap w _ _ _ _ _ hh, ?_, fun j h1 h2 => ?_⟩, .pure _ _ (.u _)⟩
          · exact (over_len hfit).trans (by simp only [List.length_append, List.length_take, List.length_drop]; omega)
          · obtain ⟨hol, hog⟩ := over_get hfit j h1
            rw [hog]
            have hvg := overV_get (off := off) (cs := us) (l := vs) (by omega) j (by simpa using h2)
            simp only at h2 ⊢
            rw [hvg]
            by_cases hin : off ≤ j ∧ j < off + cs.length
            · rw [dif_pos hin, dif_pos (by omega)]
              have := hus (j - off) (by omega) (by omega)
              exact ⟨this.1.stable (fun _ _ hn => hn) hold (by simp), this.2⟩
            · rw [dif_neg hin, dif_neg (by omega)]
              have := hc j (by omega) (by omega)
              exact ⟨this.1.stable (fun _ _ hn => hn) hold (by simp), this.2⟩
      · exact h.elim
    · rename_i id sz idx off
      split at h
      · rename_i e sz' n get hlk
        split at h
        · rename_i hsz' hpure hfit
          have hsz' : sz = sz' := by simpa using hsz'
          subst hsz'
          have hfit : off + cs.length ≤ sz := by simpa using hfit
          obtain ⟨hidx, h⟩ := ob_iff h hgc
          obtain ⟨_, g, o, m, c, hval, rfl⟩ := hv.pe_inv
          obtain ⟨hid, xs, hx, hgl, hc⟩ := E.obj id _ hlk
          have hmul : idx * sz + sz ≤ n * sz := by rw [← Nat.succ_mul]; exact Nat.mul_le_mul_right _ hidx
          have hxl := hx.1
          rcases hx.2 with ⟨hnil, _⟩ | ⟨a0, h0, hn0⟩ | ⟨g', o', cap, cur, hv', hg, hnc, hcm, hcsz, htake⟩
          · rw [hval] at hnil; cases hnil
          · omega
          · have hgg : g = g' ∧ o = o' := by
              have hv2 := hv'
              rw [hval] at hv2
              simp at hv2
              exact hv2.1
            obtain ⟨rfl, rfl⟩ := hgg
            have hF := E.own id _ g hlk (by simp [ownB, hv', blkOf])
            have hcapsz : n * sz ≤ (cap + 1) * sz := Nat.mul_le_mul_right _ hnc
            have hrun := store_run (P := P) (w := w) hti g (o + (idx * sz + off)) e cur u us hucells (by omega) hg (by omega) hone
            have hold : ∀ g2, g2 < w.heap.size → ¬ F g2 → (w.setRow g (cur.toList.take (o + (idx * sz + off)) ++ us ++ cur.toList.drop (o + (idx * sz + off) + us.length)).toArray).heap[g2]? = w.heap[g2]? :=
              fun g2 _ hn => setRow_other w _ g2 _ (fun e => hn (by rw [e]; exact hF))
            have hov := RowAt.over (w := w) hg hnc hcm hcsz htake hxl (idx * sz + off) us (by omega)
            have hbk : ownB β id (.row e sz n get) = some g := by simp [ownB, hv', blkOf]
            refine ⟨_, hrun, _, β, h, rfl, _, hlk, by rw [hbk]; exact grownBy_setRow _ _ _, rfl, ⟨_, by rw [hv']; exact hov, ?_, ?_⟩, .pure _ _ (.u _)⟩
            · intro q hq
              by_cases he : q = idx
              · subst he
                simp only [if_true]
                rw [over_len (by rw [hgl q hq]; exact hfit), hgl q hq]
              · simp only [he, if_false]
                exact hgl q hq
            · intro q j hq h1 h2
              have hjsz : j < sz := by
                by_cases he : q = idx
                · subst he
                  simp only [if_true] at h1
                  rw [over_len (by rw [hgl q hq]; exact hfit), hgl q hq] at h1
                  exact h1
                · simp only [he, if_false] at h1
                  rw [hgl q hq] at h1
                  exact h1
              have hqsz : q * sz + sz ≤ n * sz := by rw [← Nat.succ_mul]; exact Nat.mul_le_mul_right _ hq
              rw [overV_get (by omega) _ h2]
              by_cases he : q = idx
              · subst he
                have hol := over_get (off := off) (cs := cs) (l := get q) (by rw [hgl q hq]; exact hfit) j (by simpa using h1)
                simp only [if_true]
                rw [hol.2]
                by_cases hin : off ≤ j ∧ j < off + cs.length
                · rw [dif_pos hin, dif_pos (by omega)]
                  have := hus (j - off) (by omega) (by omega)
                  have e : q * sz + j - (q * sz + off) = j - off := by omega
                  simp only [e]
                  exact ⟨(AV.lts_pure hpure _ _ this.1).stable (fun _ _ hn => hn) hold (by simp), this.2⟩
                · rw [dif_neg hin, dif_neg (by omega)]
                  have := hc q j hq (by rw [hgl q hq]; exact hjsz) (by omega)
                  exact ⟨this.1.stable (fun _ _ hn => hn) hold (by simp), this.2⟩
              · have hne : ¬ (idx * sz + off ≤ q * sz + j ∧ q * sz + j < idx * sz + off + us.length) := by
                  rcases Nat.lt_or_gt_of_ne he with hlt | hgt
                  · have : q * sz + sz ≤ idx * sz := by rw [← Nat.succ_mul]; exact Nat.mul_le_mul_right _ hlt
                    omega
                  · have : idx * sz + sz ≤ q * sz := by rw [← Nat.succ_mul]; exact Nat.mul_le_mul_right _ hgt
                    omega
                rw [dif_neg hne]
                simp only [he, if_false] at h1 ⊢
                have := hc q j hq h1 (by omega)
                exact ⟨this.1.stable (fun _ _ hn => hn) hold (by simp), this.2⟩
        · exact h.elim
      · exact h.elim
    · exact h.elim
end
end Go.Eng
end

section
/-
  The engine, fourth part: more operations.
-/
namespace Go.Eng
open Go.RowKit
section
variable {P : Program} {β : Bd} {nid : Nat} {F : Nat → Prop} {w : World} {lk : Nat → Option AO} {k : Eff → Prop}

/-! ### alloc, box -/
theorem rep_avOf1 (v : Value) : Rep0 F w (avOf1 v) v := by
  cases v <;> first | exact .b _ | exact .i _ _ | exact .s _ | exact .val _
theorem avOf1s_spec : ∀ (l : List Value), (avOf1s l).length = l.length ∧ ∀ (j : Nat) (h1 : j < (avOf1s l).length) (h2 : j < l.length), Rep0 F w (avOf1s l)[j] l[j]
  | [] => ⟨rfl, fun j h1 _ => by simp [avOf1s] at h1⟩
  | v :: r => by
    have ih := avOf1s_spec r
    refine ⟨by simp [avOf1s, ih.1], fun j h1 h2 => ?_⟩
    cases j with
    | zero => exact rep_avOf1 v
    | succ j => exact ih.2 j (by simpa [avOf1s] using h1) (by simpa using h2)
theorem rep_avOf (v : Value) : Rep0 F w (avOf v) v := by
  unfold avOf
  split
  · rename_i l
    have h := avOf1s_spec (F := F) (w := w) l
    exact .ag _ l h.1 h.2
  · exact rep_avOf1 v

def allocA (nid : Nat) (e : TypeId) (a : AV) (k : Eff → Prop) : Prop := cellsK a fun cs => k (.ext [.cells e cs] (.p nid 0))

theorem boxA_sound {e : TypeId} {a : AV} {v : Value} (hv : Rep β nid F w a v) (h : allocA nid e a k) :
    ∃ x w', (Instr.box e v).run P w = .ok x w' ∧ PostK β nid F lk w k x w' := by
  unfold allocA at h
  have hq := cellsK_iff h
  clear h
  obtain ⟨cs, h, hcs⟩ := hq
  obtain ⟨vs, hvc, hl, hr⟩ := cells_rep hv hcs
  refine ⟨_, _, ?_, _, _, h, .cells e cs vs hl hr⟩
  simp [Instr.box, newVar, newRow, hvc]

theorem allocA_sound {e : TypeId} {ti : TI} (hti : TIOk P e ti) (h : allocA nid e (avOf ti.zero) k) :
    ∃ x w', (Instr.alloc e true (.tuple #[])).run P w = .ok x w' ∧ PostK β nid F lk w k x w' := by
  unfold allocA at h
  have hq := cellsK_iff h
  clear h
  obtain ⟨cs, h, hcs⟩ := hq
  obtain ⟨vs, hvc, hl, hr⟩ := cells_rep (.pure (β := β) (n := nid) _ _ (rep_avOf (F := F) (w := w) ti.zero)) hcs
  refine ⟨_, _, ?_, _, _, h, .cells e cs vs hl hr⟩
  obtain ⟨_, _, i, hi, _, _, hz⟩ := hti
  simp [Instr.alloc, zeroValue, typeInfo, hi, hz, newVar, newRow, hvc]

/-! ### fields -/
def fieldAddrA (T : List (Nat × TI)) (s f : Nat) (a : AV) (k : Eff → Prop) : Prop :=
  match tget s T with
  | some ti => (match fieldD ti.desc f with
    | some fld => (match tget fld.type T with
      | some ft => (match ft.size with
        | 0 => False
        | _ + 1 => (match a with
          | .p id off => k (.ext [] (.p id (off + fld.offset)))
          | .pe id sz idx off => k (.ext [] (.pe id sz idx (off + fld.offset)))
          | .rp cs => dropK fld.offset cs fun l => k (.ext [] (.rp l))
          | _ => False))
      | none => False)
    | none => False)
  | none => False

theorem fieldAddr_run {T : List (Nat × TI)} (hT : TabOk P T) {s f : Nat} {ti ft : TI} {fld : Field} {m : Nat} (h1 : tget s T = some ti) (h2 : fieldD ti.desc f = some fld) (h3 : tget fld.type T = some ft) (h4 : ft.size = m + 1) (g o : Nat) :
    (Instr.fieldAt s (.pointer (some ⟨g, o, none⟩)) f).run P w = .ok (.pointer (some ⟨g, o + fld.offset, none⟩)) w := by
  obtain ⟨hu, _⟩ := hT.get h1
  obtain ⟨_, _, i, hi, hs, _⟩ := hT.get h3
  cases hd : ti.desc <;> simp [fieldD, hd] at h2
  rename_i fs
  have hsz : i.size ≠ 0 := by omega
  rw [hd] at hu
  simp [Instr.fieldAt, run_underlying hu, h2, Instr.sureAddr, fieldPlace, sizeOf, typeInfo, hi, hsz, Addr.add_lit]

theorem fieldAddrA_sound {T : List (Nat × TI)} (hT : TabOk P T) {s f : Nat} {a : AV} {v : Value} (hv : Rep β nid F w a v) (h : fieldAddrA T s f a k) :
    ∃ x, (Instr.fieldAt s v f).run P w = .ok x w ∧ ∃ r, k (.ext [] r) ∧ Rep β nid F w r x := by
  unfold fieldAddrA at h
  split at h
  · rename_i ti h1
    split at h
    · rename_i fld h2
      split at h
      · rename_i ft h3
        split at h
        · exact h.elim
        · rename_i m h4
          split at h
          · obtain ⟨hid, rfl⟩ := hv.p_inv
            exact ⟨_, fieldAddr_run hT h1 h2 h3 h4 _ _, _, h, .p _ _ hid⟩
          · obtain ⟨hid, g, o, m', c, hval, rfl⟩ := hv.pe_inv
            exact ⟨_, fieldAddr_run hT h1 h2 h3 h4 _ _, _, h, by rw [Nat.add_assoc, Nat.add_assoc]; exact .pe _ _ _ _ g o m' c hid hval⟩
          · obtain ⟨hle, h⟩ := dropK_iff h
            have hv0 := hv.rp_inv
            cases hv0 with
            | rp _ g off vs hF hg hc h1' hr =>
              refine ⟨_, fieldAddr_run hT h1 h2 h3 h4 _ _, _, h, .pure _ _ (.rp _ g _ (fun j => vs (fld.offset + j)) hF hg ?_ ?_ ?_)⟩
              · intro j hj
                simp at hj
                have := hc (fld.offset + j) (by omega)
                rwa [← Nat.add_assoc] at this
              · intro j hj
                simp at hj
                exact h1' _ (by omega)
              · intro j hj
                simp at hj
                simpa using hr (fld.offset + j) (by omega)
          · exact h.elim
      · exact h.elim
    · exact h.elim
  · exact h.elim

def fieldA (T : List (Nat × TI)) (s f : Nat) (a : AV) (k : Eff → Prop) : Prop :=
  match tget s T, a with
  | some ti, .ag cs => (match fieldD ti.desc f with
    | some fld => (match tget fld.type T with
      | some ft => dropTakeK fld.offset ft.size cs fun l => packK ft.agg l fun r => k (.ext [] r)
      | none => False)
    | none => False)
  | _, _ => False

theorem part_out {t : TypeId} {ti : TI} (hti : TIOk P t ti) (off : Nat) (vs : List Value) (cs : List AV) (hl : cs.length = vs.length) (hsz : off + ti.size ≤ cs.length)
    (hr : ∀ (j : Nat) (h1 : j < cs.length) (h2 : j < vs.length), Rep β nid F w cs[j] vs[j])
    (h : packK ti.agg ((cs.drop off).take ti.size) fun r => k (.ext [] r)) :
    ∃ x, (part t vs.toArray off).run P w = .ok x w ∧ ∃ r, k (.ext [] r) ∧ Rep β nid F w r x := by
  obtain ⟨hu, hagg, i, hi, hs, _, _⟩ := hti
  have hisagg : (isAgg t).run P w = .ok ti.agg w := by
    unfold isAgg
    rw [Sem.run_bind, run_underlying hu w, ← hagg]
    cases ti.desc <;> simp [isAggD]
  unfold packK at h
  split at h
  · rename_i ha
    refine ⟨.agg ((vs.drop off).take ti.size).toArray, ?_, _, h, .ag _ _ (by simp; omega) fun j h1 h2 => ?_⟩
    · simp [part, hisagg, ha, sizeOf, typeInfo, hi, hs]
    · simp at h1 h2
      simpa using hr (off + j) (by omega) (by omega)
  · rename_i x ha hx
    have h0 : 0 < ((cs.drop off).take ti.size).length := by rw [hx]; simp
    simp at h0
    have hlt : off < vs.length := by omega
    refine ⟨vs[off], ?_, _, h, ?_⟩
    · simp [part, hisagg, ha, hlt]
    · have := hr off (by omega) hlt
      have e : x = cs[off]'(by omega) := by
        have := congrArg (fun l => l[0]?) hx
        simp at this
        rw [List.getElem?_take, if_pos (by omega), List.getElem?_drop] at this
        simpa [List.getElem?_eq_getElem (show off < cs.length by omega)] using this.symm
      rw [e]
      exact this
  · exact h.elim

theorem fieldA_sound {T : List (Nat × TI)} (hT : TabOk P T) {s f : Nat} {a : AV} {v : Value} (hv : Rep β nid F w a v) (h : fieldA T s f a k) :
    ∃ x, (Instr.field s v f).run P w = .ok x w ∧ ∃ r, k (.ext [] r) ∧ Rep β nid F w r x := by
  unfold fieldA at h
  split at h
  · rename_i ti cs h1
    split at h
    · rename_i fld h2
      split at h
      · rename_i ft h3
        obtain ⟨hsz, h⟩ := dropTakeK_iff h
        obtain ⟨vs, rfl, hl, hr⟩ := hv.ag_inv
        obtain ⟨x, hx, hk⟩ := part_out (w := w) (hT.get h3) fld.offset vs cs hl hsz hr h
        refine ⟨x, ?_, hk⟩
        obtain ⟨hu, _⟩ := hT.get h1
        cases hd : ti.desc <;> simp [fieldD, hd] at h2
        rename_i fs
        rw [hd] at hu
        simp [Instr.field, run_underlying hu, h2, asAgg, hx]
      · exact h.elim
    · exact h.elim
  · exact h.elim

/-! ### indexing -/
def indexAddrA (gc : Option Prop) (T : List (Nat × TI)) (lk : Nat → Option AO) (t : Nat) (a ix : AV) (k : Eff → Prop) : Prop :=
  match tget t T, ix with
  | some ti, .i _ i => (match sliceD ti.desc with
    | some e => (match tget e T with
      | some te => (match a with
        | .rs sz n get => (match Nat.beq sz te.size with
          | true => ob gc (0 ≤ i ∧ i < (n : Int)) (k (.ext [] (.rp (get i.toNat))))
          | false => False)
        | .so id => (match lk id with
          | some (.row _ sz n _) => (match Nat.beq sz te.size with
            | true => ob gc (0 ≤ i ∧ i < (n : Int)) (k (.ext [] (.pe id sz i.toNat 0)))
            | false => False)
          | _ => False)
        | .sv id sz lo m => (match Nat.beq sz te.size with
          | true => ob gc (0 ≤ i ∧ i < (m : Int)) (k (.ext [] (.pe id sz (lo + i.toNat) 0)))
          | false => False)
        | _ => False)
      | none => False)
    | none => False)
  | _, _ => False

theorem indexAt_run {T : List (Nat × TI)} (hT : TabOk P T) {t e : Nat} {ti te : TI} (h1 : tget t T = some ti) (h2 : sliceD ti.desc = some e) (h3 : tget e T = some te) (g o n c : Nat) (kk : IntKind) (i : Int) (hi : 0 ≤ i ∧ i < (n : Int)) :
    (Instr.indexAt t (.slice (some ⟨g, o, none⟩) n c) (.int kk i)).run P w = .ok (.pointer (some ⟨g, o + i.toNat * te.size, none⟩)) w := by
  obtain ⟨hu, _⟩ := hT.get h1
  obtain ⟨_, _, j, hj, hs, _⟩ := hT.get h3
  cases hd : ti.desc <;> simp [sliceD, hd] at h2
  subst h2
  rw [hd] at hu
  simp [Instr.indexAt, asIntOf, run_underlying hu, hi.1, hi.2, sizeOf, typeInfo, hj, hs, Addr.add_lit]

theorem indexAddrA_sound {gc : Option Prop} (hgc : ∀ c, gc = some c → c) (E : Env β nid F w lk) {T : List (Nat × TI)} (hT : TabOk P T) {t : Nat} {a ix : AV} {v u : Value}
    (hv : Rep β nid F w a v) (hu : Rep β nid F w ix u) (h : indexAddrA gc T lk t a ix k) :
    ∃ x, (Instr.indexAt t v u).run P w = .ok x w ∧ ∃ r, k (.ext [] r) ∧ Rep β nid F w r x := by
  unfold indexAddrA at h
  split at h
  · rename_i ti kk i h1
    obtain rfl := hu.i_inv
    split at h
    · rename_i e h2
      split at h
      · rename_i te h3
        split at h
        · rename_i sz n get
          split at h
          · rename_i hsz
            have hsz : sz = te.size := by simpa using hsz
            obtain ⟨hi, h⟩ := ob_iff h hgc
            have hv0 := hv.rs_inv
            cases hv0 with
            | rsnil => simp at hi; omega
            | rsz => simp at hi; omega
            | rs _ _ _ g off cap vs hn hm hF hg hlen hc h1' hr =>
              have hlt : i.toNat < n := by omega
              refine ⟨_, indexAt_run hT h1 h2 h3 g off n cap kk i hi, _, h, .pure _ _ (.rp _ g _ (fun j => vs i.toNat j) hF hg ?_ ?_ ?_)⟩
              · intro j hj
                rw [hlen _ hlt] at hj
                rw [← hsz]
                exact hc _ _ hlt hj
              · intro j hj
                rw [hlen _ hlt] at hj
                exact h1' _ _ hlt hj
              · intro j hj
                exact hr _ _ hlt hj
          · exact h.elim
        · rename_i id
          split at h
          · rename_i e' sz n get hlk
            split at h
            · rename_i hsz
              have hsz : sz = te.size := by simpa using hsz
              obtain ⟨hi, h⟩ := ob_iff h hgc
              obtain ⟨hid, rfl⟩ := hv.so_inv
              obtain ⟨_, xs, hx, _⟩ := E.obj id _ hlk
              rcases hx.2 with ⟨_, hn0⟩ | ⟨_, _, hn0⟩ | ⟨g, o, cap, cur, hv', _⟩
              · omega
              · omega
              · refine ⟨_, by rw [hv']; exact indexAt_run hT h1 h2 h3 g o n (cap + 1) kk i hi, _, h, ?_⟩
                have := Rep.pe (β := β) (n := nid) (F := F) (w := w) id sz i.toNat 0 g o n (cap + 1) hid hv'
                rw [Nat.add_zero] at this
                rw [← hsz]
                exact this
            · exact h.elim
          · exact h.elim
        · rename_i id sz lo m
          split at h
          · rename_i hsz
            have hsz : sz = te.size := by simpa using hsz
            obtain ⟨hi, h⟩ := ob_iff h hgc
            obtain ⟨hid, hsv⟩ := hv.sv_inv
            rcases hsv with ⟨_, hn0, _⟩ | ⟨_, _, hn0, _⟩ | ⟨g, o, m', c, hval, hlo, hloc, rfl⟩
            · omega
            · omega
            · refine ⟨_, indexAt_run hT h1 h2 h3 g (o + lo * sz) m (c - lo) kk i hi, _, h, ?_⟩
              have := Rep.pe (β := β) (n := nid) (F := F) (w := w) id sz (lo + i.toNat) 0 g o m' c hid hval
              have e : o + lo * sz + i.toNat * te.size = o + ((lo + i.toNat) * sz + 0) := by rw [Nat.add_mul, ← hsz]; omega
              rw [e]
              exact this
          · exact h.elim
        · exact h.elim
      · exact h.elim
    · exact h.elim
  · exact h.elim

/-! ### parts of several results -/
def nthK : Nat → List AV → (AV → Prop) → Prop
  | _, [], _ => False
  | 0, a :: _, k => k a
  | n + 1, _ :: r, k => nthK n r k
theorem nthK_iff : ∀ {n : Nat} {l : List AV} {q : AV → Prop}, nthK n l q → ∃ h : n < l.length, q l[n]
  | _, [], _, h => by simp [nthK] at h
  | 0, a :: r, q, h => ⟨by simp, h⟩
  | n + 1, a :: r, q, h => by
    obtain ⟨h1, h2⟩ := nthK_iff (n := n) (l := r) h
    exact ⟨by simp; omega, by simpa using h2⟩
def extractA (j : Nat) (a : AV) (k : Eff → Prop) : Prop :=
  match a with
  | .tup l => nthK j l fun r => k (.ext [] r)
  | _ => False
theorem extractA_sound {j : Nat} {a : AV} {v : Value} (hv : Rep β nid F w a v) (h : extractA j a k) : ∃ x, (Instr.extract v j).run P w = .ok x w ∧ ∃ r, k (.ext [] r) ∧ Rep β nid F w r x := by
  unfold extractA at h
  split at h
  · obtain ⟨hj, h⟩ := nthK_iff h
    obtain ⟨vs, rfl, hl, hr⟩ := hv.tup_inv
    refine ⟨vs[j]'(by omega), ?_, _, h, hr j hj (by omega)⟩
    simp [Instr.extract, List.getElem?_eq_getElem (show j < vs.length by omega)]
  · exact h.elim

end
end Go.Eng
end

section
/-
  The engine: what can be compared, and is a map's key.
-/
namespace Go.Eng
open Go.RowKit Go.MapKept

def bytesEq (x y : ByteArray) : Bool := x.toList == y.toList
def eqAV : AV → AV → Bool
  | .i _ x, .i _ y => x == y
  | .b x, .b y => x == y
  | .s x, .s y => bytesEq x y
  | _, _ => false
def eqAVs : List AV → List AV → Bool
  | [], [] => true
  | [x], [y] => eqAV x y
  | x :: r, y :: t => eqAV x y && eqAVs r t
  | _, _ => false
def plainFit : TypeDesc → AV → Bool
  | .int q, .i k _ => Nat.beq (kn q) (kn k)
  | .bool, .b _ => true
  | .string, .s _ => true
  | _, _ => false
def fitFs (T : List (Nat × TI)) : List Field → Nat → List AV → Bool
  | [], _, [] => true
  | f :: r, off, a :: cs => (match tget f.type T with
    | some ft => (match Nat.beq f.offset off, plainFit ft.desc a with
      | true, true => fitFs T r (off + 1) cs
      | _, _ => false)
    | none => false)
  | _, _, _ => false
def structFs : TypeDesc → Option (List Field)
  | .struct ⟨fs⟩ => some fs
  | _ => none
/-- It is a value of the type t, which is of numbers, strings and Booleans. -/
def keyFit (T : List (Nat × TI)) (t : Nat) (a : AV) : Bool :=
  match tget t T with
  | some ti => (match structFs ti.desc, a with
    | some fs, .ag cs => (match ti.cmp with
      | true => fitFs T fs 0 cs
      | false => false)
    | some _, _ => false
    | none, a => plainFit ti.desc a)
  | none => false

def FitV (P : Program) : List Field → Nat → List Value → Prop
  | [], _, [] => True
  | f :: r, off, v :: vs => f.offset = off ∧ (∃ d, P.underlying f.type = some d ∧ IsKey d v) ∧ FitV P r (off + 1) vs
  | _, _, _ => False
def KV (P : Program) (t : TypeId) (v : Value) : Prop :=
  (∃ d, P.underlying t = some d ∧ IsKey d v) ∨ ∃ fs vs, P.underlying t = some (.struct fs) ∧ structCmpB P t = true ∧ v = .agg vs.toArray ∧ FitV P fs.toList 0 vs

section
variable {P : Program} {w : World} {F : Nat → Prop}

theorem plainFit_key {d : TypeDesc} {a : AV} {v : Value} (h : plainFit d a = true) (hr : Rep0 F w a v) : IsKey d v := by
  cases d <;> cases a <;> simp only [plainFit, Bool.false_eq_true] at h
  · cases hr; trivial
  · rename_i q k n
    cases hr
    exact (kn_inj h).symm ▸ rfl
  · cases hr; trivial
theorem bytes_eq {x y : ByteArray} : bytesEq x y = true ↔ x = y := by
  unfold bytesEq
  rw [beq_iff_eq]
  constructor
  · intro h
    rw [ByteArray.toList_eq, ByteArray.toList_eq] at h
    obtain ⟨⟨x⟩⟩ := x
    obtain ⟨⟨y⟩⟩ := y
    simp at h
    rw [h]
  · rintro rfl; rfl
theorem plain_eq {d d' : TypeDesc} {a b : AV} {u v : Value} (ha : plainFit d a = true) (hb : plainFit d' b = true) (hd : d = d') (hu : Rep0 F w a u) (hv : Rep0 F w b v) : (eqAV a b = true ↔ u = v) ∧ (a = b ↔ u = v) := by
  subst hd
  cases d <;> cases a <;> simp only [plainFit, Bool.false_eq_true] at ha <;> cases b <;> simp only [plainFit, Bool.false_eq_true] at hb <;> cases hu <;> cases hv
  · simp [eqAV]
  · obtain rfl := kn_inj ha
    obtain rfl := kn_inj hb
    simp [eqAV]
  · simp [eqAV, bytes_eq]
theorem fitFs_get {T : List (Nat × TI)} (hT : TabOk P T) : ∀ {fs : List Field} {off : Nat} {cs : List AV} {vs : List Value}, fitFs T fs off cs = true → cs.length = vs.length →
    (∀ (j : Nat) (h1 : j < cs.length) (h2 : j < vs.length), Rep0 F w cs[j] vs[j]) → FitV P fs off vs
  | [], off, [], vs, _, hl, _ => by
    cases vs with
    | nil => trivial
    | cons => simp at hl
  | [], off, _ :: _, vs, h, _, _ => by simp [fitFs] at h
  | f :: r, off, [], vs, h, _, _ => by simp [fitFs] at h
  | f :: r, off, a :: cs, vs, h, hl, hr => by
    cases vs with
    | nil => simp at hl
    | cons v vs =>
      unfold fitFs at h
      split at h
      · rename_i ft hft
        split at h
        · rename_i h1 h2
          refine ⟨by simpa using h1, ⟨ft.desc, (hT.get hft).1, plainFit_key h2 (hr 0 (by simp) (by simp))⟩, fitFs_get hT h (by simpa using hl) fun j h1 h2 => ?_⟩
          exact hr (j + 1) (Nat.succ_lt_succ h1) (Nat.succ_lt_succ h2)
        · cases h
      · cases h
theorem fitFs_eq {T : List (Nat × TI)} : ∀ {fs : List Field} {off : Nat} {cs ds : List AV} {us vs : List Value}, fitFs T fs off cs = true → fitFs T fs off ds = true → cs.length = us.length → ds.length = vs.length →
    (∀ (j : Nat) (h1 : j < cs.length) (h2 : j < us.length), Rep0 F w cs[j] us[j]) → (∀ (j : Nat) (h1 : j < ds.length) (h2 : j < vs.length), Rep0 F w ds[j] vs[j]) → (eqAVs cs ds = true ↔ us = vs) ∧ (cs = ds ↔ us = vs)
  | [], off, [], [], us, vs, _, _, hl1, hl2, _, _ => by
    cases us <;> cases vs <;> simp at hl1 hl2 ⊢
    simp [eqAVs]
  | [], off, _ :: _, _, us, vs, h, _, _, _, _, _ => by simp [fitFs] at h
  | [], off, [], _ :: _, us, vs, _, h, _, _, _, _ => by simp [fitFs] at h
  | f :: r, off, [], _, us, vs, h, _, _, _, _, _ => by simp [fitFs] at h
  | f :: r, off, _ :: _, [], us, vs, _, h, _, _, _, _ => by simp [fitFs] at h
  | f :: r, off, a :: cs, b :: ds, us, vs, h, h', hl1, hl2, hr1, hr2 => by
    cases us with
    | nil => simp at hl1
    | cons u us =>
      cases vs with
      | nil => simp at hl2
      | cons v vs =>
        unfold fitFs at h h'
        cases hft : tget f.type T with
        | none => rw [hft] at h; cases h
        | some ft =>
          rw [hft] at h h'
          dsimp only at h h'
          split at h
          · rename_i h1 h2
            split at h'
            · rename_i h1' h2'
              have hp := plain_eq h2 h2' rfl (hr1 0 (by simp) (by simp)) (hr2 0 (by simp) (by simp))
              have ih := fitFs_eq h h' (by simpa using hl1) (by simpa using hl2) (fun j h1 h2 => hr1 (j + 1) (Nat.succ_lt_succ h1) (Nat.succ_lt_succ h2)) (fun j h1 h2 => hr2 (j + 1) (Nat.succ_lt_succ h1) (Nat.succ_lt_succ h2))
              have e : eqAVs (a :: cs) (b :: ds) = (eqAV a b && eqAVs cs ds) := by
                cases cs with
                | nil =>
                  cases ds with
                  | nil => simp [eqAVs]
                  | cons => cases r <;> simp [fitFs] at h h'
                | cons =>
                  cases ds with
                  | nil => cases r <;> simp [fitFs] at h h'
                  | cons => rfl
              simp only [List.getElem_cons_zero] at hp
              refine ⟨?_, ?_⟩
              · rw [e, Bool.and_eq_true, hp.1, ih.1, List.cons.injEq]
              · rw [List.cons.injEq, hp.2, ih.2, List.cons.injEq]
            · cases h'
          · cases h

theorem keyFit_KV {T : List (Nat × TI)} (hT : TabOk P T) {t : Nat} {a : AV} {v : Value} (h : keyFit T t a = true) (hr : Rep0 F w a v) : KV P t v := by
  unfold keyFit at h
  split at h
  · rename_i ti ht
    obtain ⟨hu, _⟩ := hT.get ht
    split at h
    · rename_i fs cs hfs
      split at h
      · rename_i hc
        cases hd : ti.desc <;> simp [structFs, hd] at hfs
        rename_i fa
        obtain ⟨fl⟩ := fa
        simp at hfs
        subst hfs
        cases hr with
        | ag _ vs hl hrr =>
          exact .inr ⟨⟨fl⟩, vs, by rw [hu, hd], hT.cmp ht hc, rfl, fitFs_get hT h hl hrr⟩
      · cases h
    · cases h
    · exact .inl ⟨_, hu, plainFit_key h hr⟩
  · cases h
theorem keyFit_eq {T : List (Nat × TI)} {t : Nat} {a b : AV} {u v : Value} (h : keyFit T t a = true) (h' : keyFit T t b = true) (hu : Rep0 F w a u) (hv : Rep0 F w b v) : a = b ↔ u = v := by
  unfold keyFit at h h'
  cases ht : tget t T with
  | none => rw [ht] at h; cases h
  | some ti =>
    rw [ht] at h h'
    dsimp only at h h'
    cases hfs : structFs ti.desc with
    | none =>
      rw [hfs] at h h'
      exact (plain_eq (by cases a <;> exact h) (by cases b <;> exact h') rfl hu hv).2
    | some fs =>
      rw [hfs] at h h'
      cases a <;> try (cases h)
      cases b <;> try (cases h')
      rename_i cs ds
      dsimp only at h h'
      split at h
      · split at h'
        · cases hu with
          | ag _ us hl hr =>
            cases hv with
            | ag _ vs hl' hr' =>
              have := (fitFs_eq h h' hl hl' hr hr').2
              simp [this]
        · cases h'
      · cases h

/-! ### '==' and a map's keys -/
theorem isKey_plain {t : TypeId} {d : TypeDesc} {v : Value} (hu : P.underlying t = some d) (hk : IsKey d v) : P.plainKey t = true := by
  unfold Program.plainKey
  rw [hu]
  cases d <;> cases v <;> simp_all [IsKey]
theorem run_equalIn_key {t : TypeId} {d : TypeDesc} {a b : Value} (hu : P.underlying t = some d) (ha : IsKey d a) (hb : IsKey d b) (n : Nat) : ∃ r : Bool, (Op.equalIn (n + 1) t a b).run P w = .ok r w ∧ (r = true ↔ a = b) := by
  cases d <;> cases a <;> simp only [IsKey] at ha <;> cases b <;> simp only [IsKey] at hb
  · rename_i x y
    exact ⟨x == y, run_equalIn_bool w n t x y hu, by simp⟩
  · rename_i q k x k' y
    subst ha
    subst hb
    exact ⟨x == y, run_equalIn_int w n t _ _ x y hu, by simp⟩
  · rename_i x y
    exact ⟨x.toList == y.toList, run_equalIn_string w n t x y hu, by simp; exact ⟨fun h => bytes_eq.1 (by simpa [bytesEq] using h), fun h => by rw [h]⟩⟩
theorem run_eqFields_fit (n : Nat) : ∀ (fs : List Field) (off : Nat) (us vs : List Value) (xs ys : Array Value), (∀ f ∈ fs, f.name ≠ "_" ∧ P.plainKey f.type = true) → FitV P fs off us → FitV P fs off vs → us.length = vs.length →
    xs.toList.drop off = us → ys.toList.drop off = vs → ∃ r : Bool, (Op.eqFields (n + 1) xs ys fs).run P w = .ok r w ∧ (r = true ↔ us = vs)
  | [], off, us, vs, xs, ys, _, h1, h2, _, _, _ => by
    cases us <;> simp only [FitV] at h1
    cases vs <;> simp only [FitV] at h2
    exact ⟨true, by simp [Op.eqFields], by simp⟩
  | f :: fs, off, us, vs, xs, ys, hall, h1, h2, hl, e1, e2 => by
    cases us with
    | nil => simp only [FitV] at h1
    | cons u us =>
      cases vs with
      | nil => simp only [FitV] at h2
      | cons v vs =>
        obtain ⟨ho, ⟨d, hd, hk⟩, hr1⟩ := h1
        obtain ⟨_, ⟨d', hd', hk'⟩, hr2⟩ := h2
        rw [hd] at hd'
        obtain rfl := Option.some.inj hd'
        obtain ⟨hn, hp⟩ := hall f (by simp)
        have g1 : xs[f.offset]? = some u := by
          have := congrArg (·[0]?) e1
          simpa [ho] using this
        have g2 : ys[f.offset]? = some v := by
          have := congrArg (·[0]?) e2
          simpa [ho] using this
        have n1 : xs.toList.drop (off + 1) = us := by
          have := congrArg (List.drop 1) e1
          simpa using this
        have n2 : ys.toList.drop (off + 1) = vs := by
          have := congrArg (List.drop 1) e2
          simpa using this
        obtain ⟨r, hr, hiff⟩ := run_equalIn_key (w := w) hd hk hk' n
        obtain ⟨r', hr', hiff'⟩ := run_eqFields_fit n fs (off + 1) us vs xs ys (fun g hg => hall g (by simp [hg])) hr1 hr2 (by simpa using hl) n1 n2
        simp only [Op.eqFields, hn, ne_eq, not_false_eq_true, if_true, Sem.run_bind, run_part_plain w hp g1, run_part_plain w hp g2, hr, Result.andThen_ok]
        cases r
        · exact ⟨false, by simp, by simp; intro e; exact absurd (hiff.2 e) (by simp)⟩
        · refine ⟨r', by simpa using hr', ?_⟩
          rw [hiff', List.cons.injEq]
          simp [hiff.1 rfl]
theorem structCmp_iff {t : TypeId} {fs : Array Field} (hu : P.underlying t = some (.struct fs)) (h : structCmpB P t = true) :
    (∀ f ∈ fs.toList, f.name ≠ "_" ∧ P.plainKey f.type = true) ∧ P.stoodInHeld t = false ∧ P.eqGuardType P.depth t = false := by
  unfold structCmpB at h
  rw [hu] at h
  simp only [Bool.and_eq_true, List.all_eq_true, Bool.not_eq_true', bne_iff_ne] at h
  exact ⟨h.1, h.2.1, h.2.2⟩
theorem fieldsOf_eq {t : TypeId} {fs : Array Field} (hu : P.underlying t = some (.struct fs)) : P.fieldsOf t = fs := by
  unfold Program.fieldsOf
  rw [hu]
theorem run_equal_KV {t : TypeId} {a b : Value} (ha : KV P t a) (hb : KV P t b) : ∃ r : Bool, (Op.equal t a b).run P w = .ok r w ∧ (r = true ↔ a = b) := by
  rcases ha with ⟨d, hu, hk⟩ | ⟨fs, us, hu, hc, rfl, hf⟩ <;> rcases hb with ⟨d', hu', hk'⟩ | ⟨fs', vs, hu', hc', rfl, hf'⟩
  · rw [hu] at hu'
    obtain rfl := Option.some.inj hu'
    exact run_equalIn_key (n := 9999) hu hk hk'
  · rw [hu] at hu'
    obtain rfl := Option.some.inj hu'
    cases a <;> simp [IsKey] at hk
  · rw [hu] at hu'
    obtain rfl := Option.some.inj hu'
    cases b <;> simp [IsKey] at hk'
  · rw [hu] at hu'
    obtain rfl := TypeDesc.struct.inj (Option.some.inj hu')
    obtain ⟨h1, h2, _⟩ := structCmp_iff hu hc
    have hlen : ∀ {fs : List Field} {off : Nat} {l : List Value}, FitV P fs off l → l.length = fs.length := by
      intro fs
      induction fs with
      | nil => intro off l h; cases l <;> simp [FitV] at h ⊢
      | cons f r ih => intro off l h; cases l <;> simp only [FitV] at h; simp [ih h.2.2]
    obtain ⟨r, hr, hiff⟩ := run_eqFields_fit (P := P) (w := w) 9998 fs.toList 0 us vs us.toArray vs.toArray h1 hf hf' ((hlen hf).trans (hlen hf').symm) (by simp) (by simp)
    have hrun := run_equalIn_struct (P := P) w 9999 t us.toArray vs.toArray (by rw [fieldsOf_eq hu]; exact hu) h2
    rw [fieldsOf_eq hu] at hrun
    refine ⟨r, hrun.trans hr, ?_⟩
    rw [hiff]
    simp
theorem run_guard_KV {t : TypeId} {a b : Value} (op : BinOp) (x y : Operand) (ha : KV P t a) (hb : KV P t b) : (eqGuard op t x y a b).run P w = .ok () w := by
  rcases ha with ⟨d, hu, hk⟩ | ⟨fs, us, hu, hc, rfl, hf⟩
  · cases d <;> cases a <;> simp only [IsKey] at hk <;> cases op <;> cases b <;> rfl
  · rcases hb with ⟨d', hu', hk'⟩ | ⟨fs', vs, hu', hc', rfl, hf'⟩
    · cases d' <;> cases b <;> simp only [IsKey] at hk' <;> cases op <;> rfl
    · obtain ⟨_, _, h3⟩ := structCmp_iff hu hc
      cases op <;> simp [eqGuard, h3]
theorem run_check_KV {t : TypeId} {a : Value} (em : Bool) (ha : KV P t a) : (Instr.checkKey em 10000 t a).run P w = .ok () w := by
  rcases ha with ⟨d, hu, hk⟩ | ⟨fs, us, hu, hc, rfl, hf⟩
  · exact run_checkKey hu hk em 9999
  · obtain ⟨h1, _, _⟩ := structCmp_iff hu hc
    show (Instr.checkKey em (9999 + 1) t (.agg us.toArray)).run P w = _
    unfold Instr.checkKey
    simp only [Sem.run_bind, run_underlying hu, Result.andThen_ok]
    rw [← Array.forIn_toList]
    obtain ⟨off, l, hoff, hfl⟩ : ∃ off l, us.toArray.toList.drop off = l ∧ FitV P fs.toList off l := ⟨0, us, by simp, hf⟩
    clear hf hc
    generalize fs.toList = L at h1 hfl ⊢
    induction L generalizing off l with
    | nil => simp
    | cons f L ih =>
      cases l with
      | nil => simp only [FitV] at hfl
      | cons u l =>
        obtain ⟨ho, ⟨d, hd, hk⟩, hr1⟩ := hfl
        obtain ⟨hn, hp⟩ := h1 f (by simp)
        have g1 : us.toArray[f.offset]? = some u := by
          have := congrArg (·[0]?) hoff
          simpa [ho] using this
        have n1 : us.toArray.toList.drop (off + 1) = l := by
          have := congrArg (List.drop 1) hoff
          simpa using this
        have p2 := run_checkKey (P := P) (w := w) hd hk em 9998
        simp only [List.forIn_cons, Sem.run_bind, hn, ne_eq, not_false_eq_true, if_true, Result.andThen_ok, run_part_plain w hp g1, p2, Sem.run_pure]
        exact ih (off + 1) l n1 (fun y hy => h1 y (by simp [hy])) hr1
theorem find_asking {t : TypeId} {k : Value} (hk : KV P t k) : ∀ (es : List MapEntry) (i : Nat), (∀ x ∈ es, KV P t x.key) →
    ((Instr.findAsking t k es i).run P w = .ok none w ∧ ∀ x ∈ es, x.key ≠ k) ∨ ∃ j e, (Instr.findAsking t k es i).run P w = .ok (some (i + j, e.val)) w ∧ es[j]? = some e ∧ e.key = k
  | [], i, _ => .inl ⟨by simp [Instr.findAsking], by simp⟩
  | e :: es, i, h => by
    obtain ⟨r, hr, hiff⟩ := run_equal_KV (w := w) hk (h e (by simp))
    cases r with
    | true => exact .inr ⟨0, e, by simp [Instr.findAsking, hr], rfl, (hiff.1 rfl).symm⟩
    | false =>
      have hne : e.key ≠ k := fun q => by have := hiff.2 q.symm; cases this
      rcases find_asking hk es (i + 1) (fun x hx => h x (by simp [hx])) with ⟨h1, h2⟩ | ⟨j, e', h1, h2, h3⟩
      · exact .inl ⟨by simp [Instr.findAsking, hr, h1], fun x hx => by
          rcases List.mem_cons.1 hx with rfl | hx
          · exact hne
          · exact h2 x hx⟩
      · refine .inr ⟨j + 1, e', ?_, by simpa using h2, h3⟩
        have e1 : i + 1 + j = i + (j + 1) := by omega
        rw [e1] at h1
        simp [Instr.findAsking, hr, h1]
theorem run_find_KV {t : TypeId} {k : Value} (hk : KV P t k) (es : List MapEntry) (h : ∀ x ∈ es, KV P t x.key) :
    ((Instr.findKey t k es).run P w = .ok none w ∧ ∀ x ∈ es, x.key ≠ k) ∨ ∃ j e, (Instr.findKey t k es).run P w = .ok (some (j, e.val)) w ∧ es[j]? = some e ∧ e.key = k := by
  rcases hk with ⟨d, hu, hkk⟩ | ⟨fs, us, hu, hc, rfl, hf⟩
  · have hall : ∀ x ∈ es, IsKey d x.key := by
      intro x hx
      rcases h x hx with ⟨d', hu', hk'⟩ | ⟨fs', vs, hu', hc', he, hf'⟩
      · rw [hu] at hu'
        obtain rfl := Option.some.inj hu'
        exact hk'
      · rw [hu] at hu'
        obtain rfl := Option.some.inj hu'
        cases k <;> simp [IsKey] at hkk
    rcases findNow_spec hkk es 0 hall with ⟨h1, h2⟩ | ⟨j, e, h1, h2, h3⟩
    · exact .inl ⟨run_findKey hu h1, h2⟩
    · exact .inr ⟨j, e, by rw [run_findKey hu h1, Nat.zero_add], h2, h3⟩
  · rw [run_findKey_eq w (by rw [hu]) (.agg us.toArray) es]
    rcases find_asking (w := w) (.inr ⟨fs, us, hu, hc, rfl, hf⟩ : KV P t (.agg us.toArray)) es 0 h with ⟨h1, h2⟩ | ⟨j, e, h1, h2, h3⟩
    · exact .inl ⟨h1, h2⟩
    · exact .inr ⟨j, e, by rw [h1, Nat.zero_add], h2, h3⟩
theorem sameBits_key {d : TypeDesc} {v : Value} (h : IsKey d v) (n : Nat) : Instr.sameBits n v v = true := by
  cases d <;> cases v <;> simp only [IsKey] at h <;> cases n <;> simp [Instr.sameBits]
  all_goals exact (bytes_beq _ _).2 rfl
theorem sameBits_KV {t : TypeId} {v : Value} (h : KV P t v) : Instr.sameBits 10000 v v = true := by
  rcases h with ⟨d, hu, hk⟩ | ⟨fs, us, hu, hc, rfl, hf⟩
  · exact sameBits_key hk _
  · have key : ∀ {fs : List Field} {off : Nat} {l : List Value}, FitV P fs off l → (l.zip l).all (fun (x, y) => Instr.sameBits 9999 x y) = true := by
      intro fs
      induction fs with
      | nil => intro off l h; cases l <;> simp [FitV] at h ⊢
      | cons f r ih =>
        intro off l h
        cases l with
        | nil => simp [FitV] at h
        | cons v vs =>
          obtain ⟨_, ⟨d, _, hk⟩, hr⟩ := h
          simp only [List.zip_cons_cons, List.all_cons, Bool.and_eq_true]
          exact ⟨sameBits_key hk _, ih hr⟩
    show Instr.sameBits (9999 + 1) _ _ = true
    unfold Instr.sameBits
    simp only [beq_self_eq_true, Bool.true_and]
    exact key hf
end
end Go.Eng
end

section
/-
  The engine, fifth part: operators and built-in functions.
-/
namespace Go.Eng
open Go.RowKit Go.MapKept
section
variable {P : Program} {β : Bd} {nid : Nat} {F : Nat → Prop} {w : World} {lk : Nat → Option AO} {k : Eff → Prop}

/-! ### operators -/
def boolAt (T : List (Nat × TI)) (t : Nat) : Bool :=
  match tget t T with
  | some ti => isBoolD ti.desc
  | none => false
def sliceAt (T : List (Nat × TI)) (t : Nat) : Bool :=
  match tget t T with
  | some ti => (sliceD ti.desc).isSome
  | none => false
def nilSlice : Value → Bool
  | .slice none 0 0 => true
  | _ => false

def binA (gc : Option Prop) (T : List (Nat × TI)) (lk : Nat → Option AO) (op : BinOp) (t : Nat) (a b : AV) (k : Eff → Prop) : Prop :=
  match a, b with
  | .i j x, .i j' y => (match Nat.beq (kn j) (kn j') with
    | true => (match op with
      | .quo => ob gc (y ≠ 0) (k (.ext [] (.i j (j.wrap (x.tdiv y)))))
      | .rem => ob gc (y ≠ 0) (k (.ext [] (.i j (x.tmod y))))
      | .shl => ob gc (0 ≤ y) (k (.ext [] (.i j (j.wrap (x * 2 ^ (min y.toNat j.bits))))))
      | .shr => ob gc (0 ≤ y) (k (.ext [] (.i j (x.fdiv (2 ^ (min y.toNat j.bits))))))
      | op => (match binI op j x y with
        | some r => k (.ext [] r)
        | none => False))
    | false => False)
  | .b x, .b y => (match boolAt T t, op with
    | true, .eql => k (.ext [] (.b (x == y)))
    | true, .neq => k (.ext [] (.b (x != y)))
    | _, _ => False)
  | .s x, .s y => (match op with
    | .eql => k (.ext [] (.b (bytesEq x y)))
    | .neq => k (.ext [] (.b (!bytesEq x y)))
    | _ => False)
  | .rs _ n _, .val v => (match nilSlice v, sliceAt T t, op with
    | true, true, .eql => ob gc (0 < n) (k (.ext [] (.b false)))
    | true, true, .neq => ob gc (0 < n) (k (.ext [] (.b true)))
    | _, _, _ => False)
  | .so id, .val v => (match nilSlice v, sliceAt T t, op, lk id with
    | true, true, .eql, some (.row _ _ n _) => ob gc (0 < n) (k (.ext [] (.b false)))
    | true, true, .neq, some (.row _ _ n _) => ob gc (0 < n) (k (.ext [] (.b true)))
    | _, _, _, _ => False)
  | .sv _ _ _ n, .val v => (match nilSlice v, sliceAt T t, op with
    | true, true, .eql => ob gc (0 < n) (k (.ext [] (.b false)))
    | true, true, .neq => ob gc (0 < n) (k (.ext [] (.b true)))
    | _, _, _ => False)
  | .ag xs, .ag ys => (match keyFit T t (.ag xs), keyFit T t (.ag ys), op with
    | true, true, .eql => k (.ext [] (.b (eqAVs xs ys)))
    | true, true, .neq => k (.ext [] (.b (!eqAVs xs ys)))
    | _, _, _ => False)
  | .val u, .val v => (match nilSlice u, nilSlice v, sliceAt T t, op with
    | true, true, true, .eql => k (.ext [] (.b true))
    | true, true, true, .neq => k (.ext [] (.b false))
    | _, _, _, _ => False)
  | _, _ => False

theorem run_quo (t : TypeId) (j : IntKind) (x y : Int) (hy : y ≠ 0) : (binOp .quo t (.int j x) (.int j y)).run P w = .ok (.int j (j.wrap (x.tdiv y))) w := by
  simp [binOp, Op.intDiv, hy]
theorem run_rem (t : TypeId) (j : IntKind) (x y : Int) (hy : y ≠ 0) : (binOp .rem t (.int j x) (.int j y)).run P w = .ok (.int j (x.tmod y)) w := by
  simp [binOp, Op.intDiv, hy]
theorem run_shl (t : TypeId) (j : IntKind) (x y : Int) (hy : 0 ≤ y) : (binOp .shl t (.int j x) (.int j y)).run P w = .ok (.int j (j.wrap (x * 2 ^ (min y.toNat j.bits)))) w := by
  have : ¬ y < 0 := by omega
  simp [binOp, Op.shift, this]
theorem run_shr (t : TypeId) (j : IntKind) (x y : Int) (hy : 0 ≤ y) : (binOp .shr t (.int j x) (.int j y)).run P w = .ok (.int j (x.fdiv (2 ^ (min y.toNat j.bits)))) w := by
  have : ¬ y < 0 := by omega
  simp [binOp, Op.shift, this]
theorem boolAt_run {T : List (Nat × TI)} (hT : TabOk P T) {t : Nat} (h : boolAt T t = true) (x y : Bool) : (Op.equal t (.bool x) (.bool y)).run P w = .ok (x == y) w := by
  unfold boolAt at h
  split at h
  · rename_i ti ht
    obtain ⟨hu, _⟩ := hT.get ht
    cases hd : ti.desc <;> simp [isBoolD, hd] at h
    rw [hd] at hu
    have he : ∀ d, (Op.equalIn (d + 1) t (.bool x) (.bool y)).run P w = .ok (x == y) w := fun d => by simp [Op.equalIn, run_underlying hu]
    exact he 9999
  · cases h
theorem sliceAt_run {T : List (Nat × TI)} (hT : TabOk P T) {t : Nat} (h : sliceAt T t = true) (a : Option Addr) (n c : Nat) : (Op.equal t (.slice a n c) (.slice none 0 0)).run P w = .ok a.isNone w := by
  unfold sliceAt at h
  split at h
  · rename_i ti ht
    obtain ⟨hu, _⟩ := hT.get ht
    cases hd : ti.desc <;> simp [sliceD, hd] at h
    rw [hd] at hu
    have he : ∀ d, (Op.equalIn (d + 1) t (.slice a n c) (.slice none 0 0)).run P w = .ok a.isNone w := fun d => by cases a <;> simp [Op.equalIn, run_underlying hu]
    exact he 9999
  · cases h
theorem nilSlice_iff {v : Value} (h : nilSlice v = true) : v = .slice none 0 0 := by
  unfold nilSlice at h
  split at h
  · rfl
  · cases h

def binRun (op : BinOp) (t : TypeId) (x y : Operand) (a b : Value) : Sem Value := do eqGuard op t x y a b; binOp op t a b

theorem guard_int (op : BinOp) (t : TypeId) (x y : Operand) (i j : IntKind) (a b : Int) : (eqGuard op t x y (.int i a) (.int j b)).run P w = .ok () w := by cases op <;> rfl
theorem guard_bool (op : BinOp) (t : TypeId) (x y : Operand) (a b : Bool) : (eqGuard op t x y (.bool a) (.bool b)).run P w = .ok () w := by cases op <;> rfl
theorem guard_string (op : BinOp) (t : TypeId) (x y : Operand) (a b : ByteArray) : (eqGuard op t x y (.string a) (.string b)).run P w = .ok () w := by cases op <;> rfl
theorem guard_slice (op : BinOp) (t : TypeId) (x y : Operand) (a b : Option Addr) (n c m d : Nat) : (eqGuard op t x y (.slice a n c) (.slice b m d)).run P w = .ok () w := by cases op <;> rfl
theorem plainFit_lt {d : TypeDesc} {a : AV} (h : plainFit d a = true) : a.lt 0 = true := by
  cases d <;> cases a <;> simp [plainFit] at h <;> rfl
theorem fitFs_lts {T : List (Nat × TI)} : ∀ {fs : List Field} {off : Nat} {cs : List AV}, fitFs T fs off cs = true → AV.lts 0 cs = true
  | [], _, [], _ => rfl
  | [], _, _ :: _, h => by simp [fitFs] at h
  | _ :: _, _, [], h => by simp [fitFs] at h
  | f :: r, off, a :: cs, h => by
    unfold fitFs at h
    split at h
    · split at h
      · rename_i h1 h2
        unfold AV.lts
        rw [plainFit_lt h2]
        exact fitFs_lts h
      · cases h
    · cases h
theorem keyFit_lt {T : List (Nat × TI)} {t : Nat} {a : AV} (h : keyFit T t a = true) : a.lt 0 = true := by
  unfold keyFit at h
  split at h
  · split at h
    · split at h
      · exact fitFs_lts h
      · cases h
    · cases h
    · exact plainFit_lt h
  · cases h
theorem equal_ag {T : List (Nat × TI)} (hT : TabOk P T) {t : Nat} {xs ys : List AV} {u v : Value} (h1 : keyFit T t (.ag xs) = true) (h2 : keyFit T t (.ag ys) = true) (hu : Rep β nid F w (.ag xs) u) (hv : Rep β nid F w (.ag ys) v) :
    ∃ r : Bool, (Op.equal t u v).run P w = .ok r w ∧ r = eqAVs xs ys ∧ KV P t u ∧ KV P t v := by
  have hu0 := hu.toPure (keyFit_lt h1)
  have hv0 := hv.toPure (keyFit_lt h2)
  have k1 := keyFit_KV hT h1 hu0
  have k2 := keyFit_KV hT h2 hv0
  obtain ⟨r, hr, hiff⟩ := run_equal_KV (w := w) k1 k2
  refine ⟨r, hr, ?_, k1, k2⟩
  have hrep : eqAVs xs ys = true ↔ u = v := by
    unfold keyFit at h1 h2
    split at h1
    · rename_i ti ht
      cases hfs : structFs ti.desc with
      | none =>
        rw [hfs] at h1
        cases hd : ti.desc <;> simp [plainFit, hd] at h1
      | some fs =>
        rw [ht] at h2
        dsimp only at h2
        rw [hfs] at h1 h2
        dsimp only at h1 h2
        split at h1
        · rename_i hc
          rw [hc] at h2
          cases hu0 with
          | ag _ us hl hrr =>
            cases hv0 with
            | ag _ vs hl' hrr' =>
              rw [(fitFs_eq h1 h2 hl hl' hrr hrr').1]
              simp
        · cases h1
    · cases h1
  rw [Bool.eq_iff_iff, hiff, hrep]
theorem binA_sound {gc : Option Prop} (hgc : ∀ c, gc = some c → c) (E : Env β nid F w lk) {T : List (Nat × TI)} (hT : TabOk P T) {op : BinOp} {t : Nat} {a b : AV} {u v : Value} (x y : Operand)
    (hu : Rep β nid F w a u) (hv : Rep β nid F w b v) (h : binA gc T lk op t a b k) : ∃ z, (binRun op t x y u v).run P w = .ok z w ∧ ∃ r, k (.ext [] r) ∧ Rep β nid F w r z := by
  unfold binA at h
  split at h
  · rename_i j x' j' y'
    obtain rfl := hu.i_inv
    obtain rfl := hv.i_inv
    have hg := guard_int (P := P) (w := w) op t x y j j' x' y'
    split at h
    · rename_i hk
      obtain rfl := kn_inj hk
      split at h
      · obtain ⟨ho, h⟩ := ob_iff h hgc
        exact ⟨_, by unfold binRun; rw [Sem.run_bind, hg]; exact run_quo t j x' y' ho, _, h, .pure _ _ (.i _ _)⟩
      · obtain ⟨ho, h⟩ := ob_iff h hgc
        exact ⟨_, by unfold binRun; rw [Sem.run_bind, hg]; exact run_rem t j x' y' ho, _, h, .pure _ _ (.i _ _)⟩
      · obtain ⟨ho, h⟩ := ob_iff h hgc
        exact ⟨_, by unfold binRun; rw [Sem.run_bind, hg]; exact run_shl t j x' y' ho, _, h, .pure _ _ (.i _ _)⟩
      · obtain ⟨ho, h⟩ := ob_iff h hgc
        exact ⟨_, by unfold binRun; rw [Sem.run_bind, hg]; exact run_shr t j x' y' ho, _, h, .pure _ _ (.i _ _)⟩
      · split at h
        · rename_i r hr
          obtain ⟨z, hz, hrep⟩ := binI_sound (P := P) (w := w) t hr
          exact ⟨z, by unfold binRun; rw [Sem.run_bind, hg]; exact hz, r, h, .pure _ _ (hrep.stable (fun _ _ h => absurd trivial h) (fun _ _ _ => rfl) (Nat.le_refl _))⟩
        · exact h.elim
    · exact h.elim
  · rename_i x' y'
    obtain rfl := hu.b_inv
    obtain rfl := hv.b_inv
    have hg := fun op => guard_bool (P := P) (w := w) op t x y x' y'
    split at h
    · rename_i hb
      refine ⟨.bool (x' == y'), ?_, _, h, .pure _ _ (.b _)⟩
      unfold binRun
      rw [Sem.run_bind, hg]
      simp [binOp, boolAt_run hT hb]
    · rename_i hb
      refine ⟨.bool (x' != y'), ?_, _, h, .pure _ _ (.b _)⟩
      unfold binRun
      rw [Sem.run_bind, hg]
      simp [binOp, boolAt_run hT hb, bne]
    · exact h.elim
  · rename_i x' y'
    obtain rfl := hu.s_inv
    obtain rfl := hv.s_inv
    have hg := fun op => guard_string (P := P) (w := w) op t x y x' y'
    split at h
    · refine ⟨.bool (bytesEq x' y'), ?_, _, h, .pure _ _ (.b _)⟩
      unfold binRun
      rw [Sem.run_bind, hg]
      simp [binOp, Op.stringOp, bytesEq]
    · refine ⟨.bool (!bytesEq x' y'), ?_, _, h, .pure _ _ (.b _)⟩
      unfold binRun
      rw [Sem.run_bind, hg]
      simp [binOp, Op.stringOp, bytesEq]
    · exact h.elim
  · rename_i sz n get v'
    obtain rfl := hv.val_inv
    split at h
    · rename_i hn ht
      obtain ⟨ho, h⟩ := ob_iff h hgc
      obtain rfl := nilSlice_iff hn
      have hu0 := hu.rs_inv
      cases hu0 with
      | rsnil => omega
      | rsz => omega
      | rs _ _ _ g off cap =>
        refine ⟨.bool false, ?_, _, h, .pure _ _ (.b _)⟩
        unfold binRun
        rw [Sem.run_bind, guard_slice]
        simp [binOp, sliceAt_run hT ht]
    · rename_i hn ht
      obtain ⟨ho, h⟩ := ob_iff h hgc
      obtain rfl := nilSlice_iff hn
      have hu0 := hu.rs_inv
      cases hu0 with
      | rsnil => omega
      | rsz => omega
      | rs _ _ _ g off cap =>
        refine ⟨.bool true, ?_, _, h, .pure _ _ (.b _)⟩
        unfold binRun
        rw [Sem.run_bind, guard_slice]
        simp [binOp, sliceAt_run hT ht]
    · exact h.elim
  · rename_i id v'
    obtain rfl := hv.val_inv
    obtain ⟨hid, rfl⟩ := hu.so_inv
    split at h
    · rename_i e sz n get hn ht hlk
      obtain ⟨ho, h⟩ := ob_iff h hgc
      obtain rfl := nilSlice_iff hn
      obtain ⟨_, xs, hx, _⟩ := E.obj id _ hlk
      rcases hx.2 with ⟨_, hn0⟩ | ⟨_, _, hn0⟩ | ⟨g, o, cap, cur, hv', _⟩
      · omega
      · omega
      · refine ⟨.bool false, ?_, _, h, .pure _ _ (.b _)⟩
        rw [hv']
        unfold binRun
        rw [Sem.run_bind, guard_slice]
        simp [binOp, sliceAt_run hT ht]
    · rename_i e sz n get hn ht hlk
      obtain ⟨ho, h⟩ := ob_iff h hgc
      obtain rfl := nilSlice_iff hn
      obtain ⟨_, xs, hx, _⟩ := E.obj id _ hlk
      rcases hx.2 with ⟨_, hn0⟩ | ⟨_, _, hn0⟩ | ⟨g, o, cap, cur, hv', _⟩
      · omega
      · omega
      · refine ⟨.bool true, ?_, _, h, .pure _ _ (.b _)⟩
        rw [hv']
        unfold binRun
        rw [Sem.run_bind, guard_slice]
        simp [binOp, sliceAt_run hT ht]
    · exact h.elim
  · rename_i id sz lo n v'
    obtain rfl := hv.val_inv
    obtain ⟨hid, hsv⟩ := hu.sv_inv
    split at h
    · rename_i hn ht
      obtain ⟨ho, h⟩ := ob_iff h hgc
      obtain rfl := nilSlice_iff hn
      rcases hsv with ⟨_, hn0, _⟩ | ⟨_, _, hn0, _⟩ | ⟨g, o, m, c, hval, hlo, hloc, rfl⟩
      · omega
      · omega
      · refine ⟨.bool false, ?_, _, h, .pure _ _ (.b _)⟩
        unfold binRun
        rw [Sem.run_bind, guard_slice]
        simp [binOp, sliceAt_run hT ht]
    · rename_i hn ht
      obtain ⟨ho, h⟩ := ob_iff h hgc
      obtain rfl := nilSlice_iff hn
      rcases hsv with ⟨_, hn0, _⟩ | ⟨_, _, hn0, _⟩ | ⟨g, o, m, c, hval, hlo, hloc, rfl⟩
      · omega
      · omega
      · refine ⟨.bool true, ?_, _, h, .pure _ _ (.b _)⟩
        unfold binRun
        rw [Sem.run_bind, guard_slice]
        simp [binOp, sliceAt_run hT ht]
    · exact h.elim
  · rename_i xs ys
    split at h
    · rename_i h1 h2
      obtain ⟨r, hrun, hiff, hk1, hk2⟩ := equal_ag hT h1 h2 hu hv
      refine ⟨.bool (eqAVs xs ys), ?_, _, h, .pure _ _ (.b _)⟩
      unfold binRun
      rw [Sem.run_bind, run_guard_KV .eql x y hk1 hk2, ← hiff]
      obtain ⟨us, rfl, _⟩ := hu.ag_inv
      obtain ⟨vs, rfl, _⟩ := hv.ag_inv
      simp [binOp, hrun]
    · rename_i h1 h2
      obtain ⟨r, hrun, hiff, hk1, hk2⟩ := equal_ag hT h1 h2 hu hv
      refine ⟨.bool (!eqAVs xs ys), ?_, _, h, .pure _ _ (.b _)⟩
      unfold binRun
      rw [Sem.run_bind, run_guard_KV .neq x y hk1 hk2, ← hiff]
      obtain ⟨us, rfl, _⟩ := hu.ag_inv
      obtain ⟨vs, rfl, _⟩ := hv.ag_inv
      simp [binOp, hrun]
    · exact h.elim
  · rename_i u' v'
    obtain rfl := hv.val_inv
    obtain rfl := hu.val_inv
    split at h
    · rename_i hn1 hn2 ht
      obtain rfl := nilSlice_iff hn1
      obtain rfl := nilSlice_iff hn2
      refine ⟨.bool true, ?_, _, h, .pure _ _ (.b _)⟩
      unfold binRun
      rw [Sem.run_bind, guard_slice]
      simp [binOp, sliceAt_run hT ht]
    · rename_i hn1 hn2 ht
      obtain rfl := nilSlice_iff hn1
      obtain rfl := nilSlice_iff hn2
      refine ⟨.bool false, ?_, _, h, .pure _ _ (.b _)⟩
      unfold binRun
      rw [Sem.run_bind, guard_slice]
      simp [binOp, sliceAt_run hT ht]
    · exact h.elim
  · exact h.elim

def unA (op : UnOp) (a : AV) (k : Eff → Prop) : Prop :=
  match op, a with
  | .not, .b x => k (.ext [] (.b (!x)))
  | .neg, .i j n => k (.ext [] (.i j (j.wrap (0 - n))))
  | _, _ => False
theorem unA_sound {op : UnOp} {a : AV} {v : Value} (hv : Rep β nid F w a v) (h : unA op a k) : ∃ z, (Op.unary op v).run P w = .ok z w ∧ ∃ r, k (.ext [] r) ∧ Rep β nid F w r z := by
  unfold unA at h
  split at h
  · obtain rfl := hv.b_inv
    exact ⟨_, rfl, _, h, .pure _ _ (.b _)⟩
  · obtain rfl := hv.i_inv
    exact ⟨_, rfl, _, h, .pure _ _ (.i _ _)⟩
  · exact h.elim

def convA (T : List (Nat × TI)) (src dst : Nat) (a : AV) (k : Eff → Prop) : Prop :=
  match tget src T, tget dst T, a with
  | some _, some td, .i _ n => (match intD td.desc with
    | some j => k (.ext [] (.i j (j.wrap n)))
    | none => False)
  | some ts, some td, .s x => (match isStringD ts.desc, isStringD td.desc with
    | true, true => k (.ext [] (.s x))
    | _, _ => False)
  | _, _, _ => False
theorem convA_sound {T : List (Nat × TI)} (hT : TabOk P T) {src dst : Nat} {a : AV} {v : Value} (hv : Rep β nid F w a v) (h : convA T src dst a k) : ∃ z, (convert src dst v).run P w = .ok z w ∧ ∃ r, k (.ext [] r) ∧ Rep β nid F w r z := by
  unfold convA at h
  split at h
  · rename_i ts td j' n h1 h2
    obtain rfl := hv.i_inv
    split at h
    · rename_i j hj
      obtain ⟨hu1, _⟩ := hT.get h1
      obtain ⟨hu2, _⟩ := hT.get h2
      refine ⟨.int j (j.wrap n), ?_, _, h, .pure _ _ (.i _ _)⟩
      cases hd : td.desc <;> simp [intD, hd] at hj
      subst hj
      rw [hd] at hu2
      simp [convert, run_underlying hu1, run_underlying hu2, Conv.intToInt]
    · exact h.elim
  · rename_i ts td x h1 h2
    obtain rfl := hv.s_inv
    split at h
    · rename_i hs1 hs2
      obtain ⟨hu1, _⟩ := hT.get h1
      obtain ⟨hu2, _⟩ := hT.get h2
      refine ⟨.string x, ?_, _, h, .pure _ _ (.s _)⟩
      cases hd1 : ts.desc <;> simp [isStringD, hd1] at hs1
      cases hd2 : td.desc <;> simp [isStringD, hd2] at hs2
      rw [hd1] at hu1
      rw [hd2] at hu2
      simp [convert, run_underlying hu1, run_underlying hu2]
    · exact h.elim
  · exact h.elim

def nilCheckA (a : AV) (k : Eff → Prop) : Prop :=
  match a with
  | .p id off => k (.ext [] (.p id off))
  | .pe id sz idx off => k (.ext [] (.pe id sz idx off))
  | .rp cs => k (.ext [] (.rp cs))
  | _ => False

/-! ### len, min, max -/
def lenA (T : List (Nat × TI)) (lk : Nat → Option AO) (t : Nat) (a : AV) (k : Eff → Prop) : Prop :=
  match tget t T with
  | some ti => (match a with
    | .rs _ n _ => (match sliceD ti.desc with
      | some _ => k (.ext [] (.i .i64 n))
      | none => False)
    | .so id => (match sliceD ti.desc, lk id with
      | some _, some (.row _ _ n _) => k (.ext [] (.i .i64 n))
      | _, _ => False)
    | .val v => (match sliceD ti.desc, nilSlice v with
      | some _, true => k (.ext [] (.i .i64 0))
      | _, _ => False)
    | .sv _ _ _ n => (match sliceD ti.desc with
      | some _ => k (.ext [] (.i .i64 n))
      | none => False)
    | .mo id => (match isMapD ti.desc, lk id with
      | true, some (.mp n _ _ _ _) => k (.ext [] (.i .i64 n))
      | _, _ => False)
    | .rm n _ _ => (match isMapD ti.desc with
      | true => k (.ext [] (.i .i64 n))
      | false => False)
    | .s x => (match isStringD ti.desc with
      | true => k (.ext [] (.i .i64 x.size))
      | false => False)
    | _ => False)
  | none => False
theorem len_slice_run {T : List (Nat × TI)} (hT : TabOk P T) {t e : Nat} {ti : TI} (h1 : tget t T = some ti) (h2 : sliceD ti.desc = some e) (ty : TypeId) (a : Option Addr) (n c : Nat) (ts : Array TypeId) (hts : ts[0]? = some t) :
    (Builtin.len_ ts ty #[.slice a n c]).run P w = .ok (.int .i64 n) w := by
  obtain ⟨hu, _⟩ := hT.get h1
  cases hd : ti.desc <;> simp [sliceD, hd] at h2
  rw [hd] at hu
  simp [Builtin.len_, hts, run_underlying hu, goInt]
theorem lenA_sound (E : Env β nid F w lk) {T : List (Nat × TI)} (hT : TabOk P T) {t : Nat} {a : AV} {v : Value} (ty : TypeId) (ts : Array TypeId) (hts : ts[0]? = some t) (hv : Rep β nid F w a v)
    (h : lenA T lk t a k) : ∃ z, (Builtin.len_ ts ty #[v]).run P w = .ok z w ∧ ∃ r, k (.ext [] r) ∧ Rep β nid F w r z := by
  unfold lenA at h
  split at h
  · rename_i ti h1
    split at h
    · rename_i sz n get
      split at h
      · rename_i e h2
        have hv0 := hv.rs_inv
        cases hv0 with
        | rsnil => exact ⟨_, len_slice_run hT h1 h2 ty none 0 0 ts hts, _, h, .pure _ _ (.i _ _)⟩
        | rsz _ _ a => exact ⟨_, len_slice_run hT h1 h2 ty (some a) 0 0 ts hts, _, h, .pure _ _ (.i _ _)⟩
        | rs _ _ _ g off cap => exact ⟨_, len_slice_run hT h1 h2 ty _ n cap ts hts, _, h, .pure _ _ (.i _ _)⟩
      · exact h.elim
    · rename_i id
      obtain ⟨hid, rfl⟩ := hv.so_inv
      split at h
      · rename_i e _ sz n get h2 hlk
        obtain ⟨_, xs, hx, _⟩ := E.obj id _ hlk
        rcases hx.2 with ⟨hnil, hn0⟩ | ⟨a0, h0, hn0⟩ | ⟨g, o, cap, cur, hv', _⟩
        · rw [hnil]
          subst hn0
          exact ⟨_, len_slice_run hT h1 h2 ty none 0 0 ts hts, _, h, .pure _ _ (.i _ _)⟩
        · rw [h0]
          subst hn0
          exact ⟨_, len_slice_run hT h1 h2 ty _ 0 0 ts hts, _, h, .pure _ _ (.i _ _)⟩
        · rw [hv']
          exact ⟨_, len_slice_run hT h1 h2 ty _ n (cap + 1) ts hts, _, h, .pure _ _ (.i _ _)⟩
      · exact h.elim
    · rename_i v'
      obtain rfl := hv.val_inv
      split at h
      · rename_i e h2 hn
        obtain rfl := nilSlice_iff hn
        exact ⟨_, len_slice_run hT h1 h2 ty none 0 0 ts hts, _, h, .pure _ _ (.i _ _)⟩
      · exact h.elim
    · rename_i id sz lo n
      obtain ⟨hid, hsv⟩ := hv.sv_inv
      split at h
      · rename_i e h2
        rcases hsv with ⟨rfl, hn0, _⟩ | ⟨a0, rfl, hn0, _⟩ | ⟨g, o, m, c, hval, hlo, hloc, rfl⟩
        · subst hn0
          exact ⟨_, len_slice_run hT h1 h2 ty none 0 0 ts hts, _, h, .pure _ _ (.i _ _)⟩
        · subst hn0
          exact ⟨_, len_slice_run hT h1 h2 ty _ 0 0 ts hts, _, h, .pure _ _ (.i _ _)⟩
        · exact ⟨_, len_slice_run hT h1 h2 ty _ n (c - lo) ts hts, _, h, .pure _ _ (.i _ _)⟩
      · exact h.elim
    · rename_i id
      obtain ⟨hid, rfl⟩ := hv.mo_inv
      split at h
      · rename_i n key val born clock hm hlk
        obtain ⟨_, es, hh, hn, _⟩ := E.obj id _ hlk
        obtain ⟨hu, _⟩ := hT.get h1
        cases hd : ti.desc <;> simp [isMapD, hd] at hm
        rw [hd] at hu
        refine ⟨.int .i64 n, ?_, _, h, .pure _ _ (.i _ _)⟩
        simp [Builtin.len_, hts, run_underlying hu, Go.MapKept.run_getObj_map hh, goInt, hn]
      · exact h.elim
    · rename_i n key val
      have hv0 := hv.rm_inv
      split at h
      · rename_i hm
        obtain ⟨hu, _⟩ := hT.get h1
        cases hd : ti.desc <;> simp [isMapD, hd] at hm
        rw [hd] at hu
        cases hv0 with
        | rmnil => exact ⟨.int .i64 0, by simp [Builtin.len_, hts, run_underlying hu, goInt], _, h, .pure _ _ (.i _ _)⟩
        | rm _ _ _ g es clock hF hg hn ho hk hvv => exact ⟨.int .i64 n, by simp [Builtin.len_, hts, run_underlying hu, Go.MapKept.run_getObj_map hg, goInt, hn], _, h, .pure _ _ (.i _ _)⟩
      · exact h.elim
    · rename_i x
      obtain rfl := hv.s_inv
      split at h
      · rename_i hs
        obtain ⟨hu, _⟩ := hT.get h1
        cases hd : ti.desc <;> simp [isStringD, hd] at hs
        rw [hd] at hu
        exact ⟨.int .i64 x.size, by simp [Builtin.len_, hts, run_underlying hu, goInt], _, h, .pure _ _ (.i _ _)⟩
      · exact h.elim
    · exact h.elim
  · exact h.elim

def maxA (a b : AV) (k : Eff → Prop) : Prop :=
  match a, b with
  | .i j x, .i _ y => k (.ext [] (.i j (max x y)))
  | _, _ => False
def minA (a b : AV) (k : Eff → Prop) : Prop :=
  match a, b with
  | .i j x, .i _ y => k (.ext [] (.i j (min x y)))
  | _, _ => False
theorem maxA_sound {a b : AV} {u v : Value} (ts : Array TypeId) (ty : TypeId) (hu : Rep β nid F w a u) (hv : Rep β nid F w b v) (h : maxA a b k) : ∃ z, (Builtin.max_ ts ty #[u, v]).run P w = .ok z w ∧ ∃ r, k (.ext [] r) ∧ Rep β nid F w r z := by
  unfold maxA at h
  split at h
  · rename_i j x j' y
    obtain rfl := hu.i_inv
    obtain rfl := hv.i_inv
    refine ⟨.int j (max x y), ?_, _, h, .pure _ _ (.i _ _)⟩
    have e : (if x < y then y else x) = max x y := by split <;> omega
    simp [Builtin.max_, Builtin.max2, e]
  · exact h.elim
theorem minA_sound {a b : AV} {u v : Value} (ts : Array TypeId) (ty : TypeId) (hu : Rep β nid F w a u) (hv : Rep β nid F w b v) (h : minA a b k) : ∃ z, (Builtin.min_ ts ty #[u, v]).run P w = .ok z w ∧ ∃ r, k (.ext [] r) ∧ Rep β nid F w r z := by
  unfold minA at h
  split at h
  · rename_i j x j' y
    obtain rfl := hu.i_inv
    obtain rfl := hv.i_inv
    refine ⟨.int j (min x y), ?_, _, h, .pure _ _ (.i _ _)⟩
    have e : (if y < x then y else x) = min x y := by split <;> omega
    simp [Builtin.min_, Builtin.min2, e]
  · exact h.elim
end
end Go.Eng
end
