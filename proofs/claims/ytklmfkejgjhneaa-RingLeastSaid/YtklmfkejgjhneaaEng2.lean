/-
  The engine, second part: states, and what each operation does to them.
-/
import Derived.Test.YtklmfkejgjhneaaEng1
namespace Go.Eng
open Go.RowKit

/-! ### Types -/
structure TI where
  desc : TypeDesc
  agg : Bool
  size : Nat
  bytes : Nat
  zero : Value
  cmp : Bool
def tget (t : Nat) : List (Nat × TI) → Option TI
  | [] => none
  | (s, x) :: r => match Nat.beq s t with
    | true => some x
    | false => tget t r
def isAggD : TypeDesc → Bool
  | .struct _ | .array _ _ => true
  | _ => false
def TIOk (P : Program) (t : TypeId) (ti : TI) : Prop :=
  P.underlying t = some ti.desc ∧ isAggD ti.desc = ti.agg ∧ ∃ i, P.info? t = some i ∧ i.size = ti.size ∧ i.bytes = ti.bytes ∧ i.zero = some ti.zero
/-- A struct of numbers, strings and Booleans that '==' tells apart field by field. -/
def structCmpB (P : Program) (t : TypeId) : Bool :=
  match P.underlying t with
  | some (.struct fs) => (fs.toList.all fun f => f.name != "_" && P.plainKey f.type) && (!P.stoodInHeld t && !P.eqGuardType P.depth t)
  | _ => false
def TabOk (P : Program) : List (Nat × TI) → Prop
  | [] => P.follows .mixedOrders = true
  | (t, ti) :: r => (TIOk P t ti ∧ (ti.cmp = true → structCmpB P t = true)) ∧ TabOk P r
theorem TabOk.mixed {P : Program} : ∀ {T : List (Nat × TI)}, TabOk P T → P.follows .mixedOrders = true
  | [], h => h
  | _ :: _, h => TabOk.mixed h.2
theorem TabOk.get {P : Program} : ∀ {T : List (Nat × TI)}, TabOk P T → ∀ {t : Nat} {ti : TI}, tget t T = some ti → TIOk P t ti
  | [], _, t, ti, h => by cases h
  | (s, x) :: r, hT, t, ti, h => by
    unfold tget at h
    split at h
    · rename_i hb
      have : s = t := by simpa using hb
      subst this
      cases h
      exact hT.1.1
    · exact TabOk.get hT.2 h
theorem TabOk.cmp {P : Program} : ∀ {T : List (Nat × TI)}, TabOk P T → ∀ {t : Nat} {ti : TI}, tget t T = some ti → ti.cmp = true → structCmpB P t = true
  | [], _, t, ti, h, _ => by cases h
  | (s, x) :: r, hT, t, ti, h, hc => by
    unfold tget at h
    split at h
    · rename_i hb
      have : s = t := by simpa using hb
      subst this
      cases h
      exact hT.1.2 hc
    · exact TabOk.cmp hT.2 h hc

/-! ### States -/
structure KE where
  slot : Nat
  tags : List (Nat × Bool)
  av : AV
structure OE where
  id : Nat
  tags : List (Nat × Bool)
  o : AO
structure St where
  K : List KE
  O : List OE
  nid : Nat

def find (s : Nat) : List KE → Option (List (Nat × Bool) × AV)
  | [] => none
  | ⟨t, g, a⟩ :: r => match Nat.beq t s with
    | true => some (g, a)
    | false => find s r
def getO (id : Nat) : List OE → Option (List (Nat × Bool) × AO)
  | [] => none
  | ⟨t, g, o⟩ :: r => match Nat.beq t id with
    | true => some (g, o)
    | false => getO id r
def hasTag (t : Nat) (w : Bool) : List (Nat × Bool) → Bool
  | [] => false
  | (s, x) :: r => match Nat.beq s t with
    | true => (match x, w with
      | true, true => true
      | false, false => true
      | _, _ => hasTag t w r)
    | false => hasTag t w r
def subTags : List (Nat × Bool) → List (Nat × Bool) → Bool
  | [], _ => true
  | (t, w) :: r, l => match hasTag t w l with
    | true => subTags r l
    | false => false
/-- The slot t is named in the tags. -/
def inTags (t : Nat) : List (Nat × Bool) → Bool
  | [] => false
  | (s, _) :: r => match Nat.beq s t with
    | true => true
    | false => inTags t r
def inAnyTags (t : Nat) : List KE → Bool
  | [] => false
  | e :: r => match inTags t e.tags with
    | true => true
    | false => inAnyTags t r
def inAnyTagsO (t : Nat) : List OE → Bool
  | [] => false
  | e :: r => match inTags t e.tags with
    | true => true
    | false => inAnyTagsO t r

def avOf1 : Value → AV
  | .bool c => .b c
  | .int k n => .i k n
  | .string x => .s x
  | v => .val v
def avOf1s : List Value → List AV
  | [] => []
  | v :: r => avOf1 v :: avOf1s r
def avOf : Value → AV
  | .agg ⟨l⟩ => .ag (avOf1s l)
  | v => avOf1 v

def evalO (K : List KE) (tags : List (Nat × Bool)) : Operand → Option AV
  | .tmp t => match find t K with
    | some (g, a) => (match subTags g tags with
      | true => some a
      | false => none)
    | none => none
  | .const v => some (avOf v)
  | .func f => some (.fn f [])
  | .global _ => none

/-! ### Small steps in continuation style: what comes out is written out -/
def takeK : Nat → List AV → (List AV → Prop) → Prop
  | 0, _, k => k []
  | n + 1, a :: r, k => takeK n r fun l => k (a :: l)
  | _ + 1, [], _ => False
def dropTakeK : Nat → Nat → List AV → (List AV → Prop) → Prop
  | 0, n, l, k => takeK n l k
  | off + 1, n, _ :: r, k => dropTakeK off n r k
  | _ + 1, _, [], _ => False
def dropK : Nat → List AV → (List AV → Prop) → Prop
  | 0, l, k => k l
  | off + 1, _ :: r, k => dropK off r k
  | _ + 1, [], _ => False
/-- l with the cells cs laid over it from off on. -/
def overK : Nat → List AV → List AV → (List AV → Prop) → Prop
  | _, [], l, k => k l
  | 0, c :: cs, _ :: r, k => overK 0 cs r fun l => k (c :: l)
  | off + 1, cs, a :: r, k => overK off cs r fun l => k (a :: l)
  | _, _ :: _, [], _ => False

theorem takeK_iff : ∀ {n : Nat} {l : List AV} {k : List AV → Prop}, takeK n l k → n ≤ l.length ∧ k (l.take n)
  | 0, _, _, h => ⟨Nat.zero_le _, by simpa [takeK] using h⟩
  | n + 1, a :: r, k, h => by
    have h' := takeK_iff (n := n) (l := r) h
    exact ⟨by simp; omega, by simpa using h'.2⟩
  | _ + 1, [], _, h => h.elim
theorem dropTakeK_iff : ∀ {off n : Nat} {l : List AV} {k : List AV → Prop}, dropTakeK off n l k → off + n ≤ l.length ∧ k ((l.drop off).take n)
  | 0, n, l, k, h => by simpa using takeK_iff (n := n) (l := l) h
  | off + 1, n, _ :: r, k, h => by
    have h' := dropTakeK_iff (off := off) (n := n) (l := r) h
    exact ⟨by simp; omega, by simpa using h'.2⟩
  | _ + 1, _, [], _, h => h.elim
theorem dropK_iff : ∀ {off : Nat} {l : List AV} {k : List AV → Prop}, dropK off l k → off ≤ l.length ∧ k (l.drop off)
  | 0, _, _, h => ⟨Nat.zero_le _, by simpa [dropK] using h⟩
  | off + 1, _ :: r, k, h => by
    have h' := dropK_iff (off := off) (l := r) h
    exact ⟨by simp; omega, by simpa using h'.2⟩
  | _ + 1, [], _, h => h.elim
def over (off : Nat) (cs l : List AV) : List AV := l.take off ++ cs ++ l.drop (off + cs.length)
theorem overK_iff : ∀ {off : Nat} {cs l : List AV} {k : List AV → Prop}, overK off cs l k → (cs = [] ∨ off + cs.length ≤ l.length) ∧ k (over off cs l)
  | off, [], l, k, h => by
    refine ⟨.inl rfl, ?_⟩
    have : overK off [] l k = k l := by unfold overK; rfl
    rw [this] at h
    simpa [over] using h
  | 0, c :: cs, a :: r, k, h => by
    have h' := overK_iff (off := 0) (cs := cs) (l := r) h
    refine ⟨.inr ?_, ?_⟩
    · rcases h'.1 with rfl | h1
      · simp
      · simp at h1 ⊢; omega
    · have := h'.2
      simpa [over, Nat.add_comm] using this
  | off + 1, c :: cs, a :: r, k, h => by
    have h' := overK_iff (off := off) (cs := c :: cs) (l := r) h
    refine ⟨.inr ?_, ?_⟩
    · rcases h'.1 with h1 | h1
      · cases h1
      · simp at h1 ⊢; omega
    · have := h'.2
      have e : off + 1 + (c :: cs).length = (off + (c :: cs).length) + 1 := by omega
      unfold over at this ⊢
      rw [e, List.drop_succ_cons]
      simpa using this
  | 0, _ :: _, [], _, h => h.elim
  | _ + 1, _ :: _, [], _, h => h.elim

/-! ### Integers, Booleans -/
def kn : IntKind → Nat
  | .i8 => 0 | .i16 => 1 | .i32 => 2 | .i64 => 3 | .u8 => 4 | .u16 => 5 | .u32 => 6 | .u64 => 7
theorem kn_inj {j k : IntKind} (h : Nat.beq (kn j) (kn k) = true) : j = k := by cases j <;> cases k <;> first | rfl | (simp [kn] at h)
def bitsI (op : BinOp) (k : IntKind) (x y : Int) : Int :=
  let a := BitVec.ofInt k.bits x
  let b := BitVec.ofInt k.bits y
  k.wrap (match op with
    | .and => a &&& b
    | .or => a ||| b
    | .xor => a ^^^ b
    | _ => a &&& ~~~b).toNat
def binI (op : BinOp) (k : IntKind) (x y : Int) : Option AV :=
  match op with
  | .add => some (.i k (k.wrap (x + y)))
  | .sub => some (.i k (k.wrap (x - y)))
  | .mul => some (.i k (k.wrap (x * y)))
  | .and => some (.i k (bitsI .and k x y))
  | .or => some (.i k (bitsI .or k x y))
  | .xor => some (.i k (bitsI .xor k x y))
  | .eql => some (.b (x == y))
  | .neq => some (.b (x != y))
  | .lss => some (.b (decide (x < y)))
  | .leq => some (.b (decide (x ≤ y)))
  | .gtr => some (.b (decide (x > y)))
  | .geq => some (.b (decide (x ≥ y)))
  | _ => none
theorem binI_sound {P : Program} {w : World} {op : BinOp} {k : IntKind} {x y : Int} {r : AV} (t : TypeId) (h : binI op k x y = some r) :
    ∃ v, (binOp op t (.int k x) (.int k y)).run P w = .ok v w ∧ Rep0 (fun _ => True) w r v := by
  cases op <;> simp only [binI, Option.some.injEq, reduceCtorEq] at h <;> subst h <;>
    simp [binOp, Op.intArith, Op.intBits, Op.intCmp, bitsI] <;> constructor


def isBoolD : TypeDesc → Bool
  | .bool => true
  | _ => false
def intD : TypeDesc → Option IntKind
  | .int k => some k
  | _ => none
def isStringD : TypeDesc → Bool
  | .string => true
  | _ => false
def isMapD : TypeDesc → Bool
  | .map _ _ => true
  | _ => false
def mapD : TypeDesc → Option (TypeId × TypeId)
  | .map k e => some (k, e)
  | _ => none
def sliceD : TypeDesc → Option TypeId
  | .slice e => some e
  | _ => none
def fieldD : TypeDesc → Nat → Option Field
  | .struct fs, f => fs[f]?
  | _, _ => none

/-! ### What an operation does -/
inductive Eff where
  | ext (os : List AO) (r : AV)
  | set (id : Nat) (o : AO) (r : AV)
  | app (id : Nat) (o : AO) (r : AV)

def ob (gc : Option Prop) (p rest : Prop) : Prop :=
  match gc with
  | none => p ∧ rest
  | some c => (c → p) ∧ rest
theorem ob_iff {gc : Option Prop} {p rest : Prop} (h : ob gc p rest) (hc : ∀ c, gc = some c → c) : p ∧ rest := by
  cases gc with
  | none => exact h
  | some c => exact ⟨h.1 (hc c rfl), h.2⟩

/-- A value of one cell. -/
def leaf : AV → Bool
  | .b _ => true
  | .i _ _ => true
  | .s _ => true
  | .fn _ _ => true
  | .p _ _ => true
  | .so _ => true
  | .pe _ _ _ _ => true
  | .rs _ _ _ => true
  | .rp _ => true
  | .mo _ => true
  | .sv _ _ _ _ => true
  | .rm _ _ _ => true
  | .val v => v.oneCell'
  | _ => false
def leaves : List AV → Bool
  | [] => true
  | a :: r => match leaf a with
    | true => leaves r
    | false => false
/-- The cells of a value, if each is of one cell. -/
def cellsK (a : AV) (k : List AV → Prop) : Prop :=
  match a with
  | .ag cs => (match leaves cs with
    | true => k cs
    | false => False)
  | a => (match leaf a with
    | true => k [a]
    | false => False)
def packK (agg : Bool) (l : List AV) (k : AV → Prop) : Prop :=
  match agg, l with
  | true, l => k (.ag l)
  | false, [a] => k a
  | _, _ => False

/-- What is known of a function: called with such arguments it returns such a result; what it returns is new. -/
def Callable (P : Program) (f : FuncId) : Prop := ∃ fn, P.funcs[f]? = some fn ∧ (fn.name == "runtime.NumGoroutine") = false ∧ fn.body.isNone = false


def News (β : Bd) (n : Nat) (F : Nat → Prop) (B : Nat) (w' : World) (d : Nat) (os : List AO) : Prop :=
  (∀ j o, os[j]? = some o → ObjOk β n F w' (d + j) o) ∧ (∀ j o g, os[j]? = some o → ownB β (d + j) o = some g → B ≤ g) ∧
  ∀ j j' o o' g, os[j]? = some o → os[j']? = some o' → ownB β (d + j) o = some g → ownB β (d + j') o' = some g → j = j'
/-- The blocks that what is known may not lie in: those of F, and those of the new objects. -/
def FX (F : Nat → Prop) (β : Bd) (d : Nat) (os : List AO) : Nat → Prop := fun g => F g ∨ ∃ j o, os[j]? = some o ∧ ownB β (d + j) o = some g

def Ctr (P : Program) (f : FuncId) (args : List AV) (os : List AO) (r : AV) : Prop :=
  Callable P f ∧ ∀ (w : World) (vs : List Value), args.length = vs.length → (∀ (j : Nat) (h1 : j < args.length) (h2 : j < vs.length), Rep0 (fun _ => False) w args[j] vs[j]) →
    Calls P f vs.toArray w fun e w' => ∃ (v : Value) (β : Bd), e = .returned v ∧ Below w.heap.size w w' ∧
      News β os.length (FX (fun g => g < w.heap.size) β 0 os) w.heap.size w' 0 os ∧ Rep β os.length (FX (fun g => g < w.heap.size) β 0 os) w' r v
/-- What is returned may lie in the arguments' memory. -/
def CtrA (P : Program) (f : FuncId) (args : List AV) (r : AV) : Prop :=
  Callable P f ∧ ∀ (F : Nat → Prop) (w : World) (vs : List Value), (∀ g, F g → g < w.heap.size) → args.length = vs.length → (∀ (j : Nat) (h1 : j < args.length) (h2 : j < vs.length), Rep0 F w args[j] vs[j]) →
    Calls P f vs.toArray w fun e w' => ∃ (v : Value), e = .returned v ∧ Below w.heap.size w w' ∧ Rep0 F w' r v

def agree (n : Nat) (β β' : Bd) : Prop := ∀ id, id < n → β'.blk id = β.blk id ∧ β'.val id = β.val id

def EffPost (β β' : Bd) (nid : Nat) (F : Nat → Prop) (lk : Nat → Option AO) (w w' : World) (v : Value) : Eff → Prop
  | .ext os r => Below w.heap.size w w' ∧ agree nid β β' ∧ News β' (nid + os.length) (FX F β' nid os) w.heap.size w' nid os ∧ Rep β' (nid + os.length) (FX F β' nid os) w' r v
  | .set id o' r => β' = β ∧ ∃ o, lk id = some o ∧ w.grownBy w' (ownB β id o) ∧ ownB β id o' = ownB β id o ∧ ObjOk β nid F w' id o' ∧ Rep β nid F w' r v
  | .app id o' r => agree nid β β' ∧ ∃ o, lk id = some o ∧ w.grownBy w' (ownB β id o) ∧ (ownB β' nid o' = ownB β id o ∨ ∀ g, ownB β' nid o' = some g → w.heap.size ≤ g) ∧
      ObjOk β' (nid + 1) (FX F β' nid [o']) w' nid o' ∧ Rep β' (nid + 1) (FX F β' nid [o']) w' r v

inductive Out (P : Program) (post : Value → World → Prop) : Result Next → Prop
  | value (v : Value) (w' : World) (hp : post v w') : Out P post (.ok (.value v) w')
  | skip (w' : World) (hp : post undef w') : Out P post (.ok .skip w')
  | enter (f : FuncId) (args : Array Value) (w : World) (hc : Calls P f args w fun e w' => ∃ v, e = .returned v ∧ post v w') : Out P post (.ok (.enter f args) w)

theorem Out.upon {P : Program} {post : Value → World → Prop} {r : Result Next} (h : Out P post r) {o : Oper} {a : Act} {next : Act → World → Prop} {Q : Exit → Act → World → Prop}
    (hn : ∀ v w', post v w' → next (a.put o.dst v) w') : o.upon P a next Q r := by
  cases h with
  | value v w' hp => exact hn v w' hp
  | skip w' hp => exact hn _ w' hp
  | enter f args w hc =>
    refine hc.mono ?_
    rintro e w' ⟨v, rfl, hp⟩
    exact hn v w' hp

theorem FX_nil {F : Nat → Prop} {β : Bd} {d g : Nat} (h : FX F β d [] g) : F g := by
  rcases h with h | ⟨j, o, hj, _⟩
  · exact h
  · simp at hj
theorem EffPost.id {β : Bd} {nid : Nat} {F : Nat → Prop} {lk : Nat → Option AO} {w w' : World} {r : AV} {v : Value} (h : Rep β nid F w' r v) (hb : Below w.heap.size w w') :
    EffPost β β nid F lk w w' v (.ext [] r) :=
  ⟨hb, fun _ _ => ⟨rfl, rfl⟩, ⟨fun j o h => by simp at h, fun j o g h => by simp at h, fun j j' o o' g h => by simp at h⟩, h.stable (fun _ _ hn hf => hn (FX_nil hf)) (fun _ _ _ => rfl) (Nat.le_refl _)⟩

def Bd.blkAt (β : Bd) (n g : Nat) : Bd := ⟨fun i => if i = n then g else β.blk i, β.val⟩
def Bd.valAt (β : Bd) (n : Nat) (v : Value) : Bd := ⟨β.blk, fun i => if i = n then v else β.val i⟩
theorem agree_blkAt (β : Bd) (n g : Nat) : agree n β (β.blkAt n g) := fun id h => ⟨by simp [Bd.blkAt, Nat.ne_of_lt h], rfl⟩
theorem agree_valAt (β : Bd) (n : Nat) (v : Value) : agree n β (β.valAt n v) := fun id h => ⟨rfl, by simp [Bd.valAt, Nat.ne_of_lt h]⟩

theorem below_alloc (w : World) (o : Obj) : Below w.heap.size w (w.alloc o) := (Below.refl _ _).alloc (Nat.le_refl _) _

/-- A new block of cells. -/
theorem EffPost.cells {β : Bd} {nid : Nat} {F : Nat → Prop} {lk : Nat → Option AO} {w : World} (e : TypeId) (cs : List AV) (vs : List Value) (hl : cs.length = vs.length)
    (h : ∀ (j : Nat) (h1 : j < cs.length) (h2 : j < vs.length), Rep β nid F w cs[j] vs[j] ∧ vs[j].oneCell' = true) :
    EffPost β (β.blkAt nid w.heap.size) nid F lk w (w.alloc (.cells vs.toArray e)) (.pointer (some ⟨w.heap.size, 0, none⟩)) (.ext [.cells e cs] (.p nid 0)) := by
  have hblk : (β.blkAt nid w.heap.size).blk nid = w.heap.size := by simp [Bd.blkAt]
  have hF : ∀ g, g < w.heap.size → ¬ F g → ¬ FX F (β.blkAt nid w.heap.size) nid [.cells e cs] g := by
    rintro g hg hn (hf | ⟨j, o, hj, ho⟩)
    · exact hn hf
    · cases j with
      | zero => simp at hj; subst hj; simp [ownB, hblk] at ho; omega
      | succ j => simp at hj
  refine ⟨below_alloc _ _, agree_blkAt _ _ _, ⟨?_, ?_, ?_⟩, ?_⟩
  · intro j o hj
    cases j with
    | succ j => simp at hj
    | zero =>
      simp at hj
      subst hj
      refine ⟨vs, by rw [Nat.add_zero, hblk]; exact heap_alloc_new w _, hl, fun j h1 h2 => ⟨?_, (h j h1 h2).2⟩⟩
      exact (((h j h1 h2).1.stable hF (fun g hg _ => Below.heap_alloc w _ g hg) (by simp)).same (agree_blkAt _ _ _)).more (by simp)
  · intro j o g hj hg
    cases j with
    | succ j => simp at hj
    | zero =>
      simp at hj
      subst hj
      simp [ownB, hblk] at hg
      omega
  · intro j j' o o' g h1 h2 _ _
    cases j <;> cases j' <;> simp at h1 h2 ⊢
  · have hp := Rep.p (β := β.blkAt nid w.heap.size) (n := nid + 1) (F := FX F (β.blkAt nid w.heap.size) nid [.cells e cs]) (w := w.alloc (.cells vs.toArray e)) nid 0 (by omega)
    rw [hblk] at hp
    exact hp

/-- A new row. -/
theorem EffPost.row {β : Bd} {nid : Nat} {F : Nat → Prop} {lk : Nat → Option AO} {w w' : World} (e : TypeId) (sz n : Nat) (get : Nat → List AV) (v : Value) (xs : List Value)
    (hb : Below w.heap.size w w') (hx : RowAt w' e sz v n xs) (hnew : ∀ g, blkOf v = some g → w.heap.size ≤ g) (hlen : ∀ k, k < n → (get k).length = sz)
    (h : ∀ (k j : Nat) (_ : k < n) (h1 : j < (get k).length) (h2 : k * sz + j < xs.length), Rep0 F w (get k)[j] xs[k * sz + j] ∧ xs[k * sz + j].oneCell' = true) :
    EffPost β (β.valAt nid v) nid F lk w w' v (.ext [.row e sz n get] (.so nid)) := by
  have hval : (β.valAt nid v).val nid = v := by simp [Bd.valAt]
  have hF : ∀ g, g < w.heap.size → ¬ F g → ¬ FX F (β.valAt nid v) nid [.row e sz n get] g := by
    rintro g hg hn (hf | ⟨j, o, hj, ho⟩)
    · exact hn hf
    · cases j with
      | zero => simp at hj; subst hj; simp [ownB, hval] at ho; have := hnew g ho; omega
      | succ j => simp at hj
  refine ⟨hb, agree_valAt _ _ _, ⟨?_, ?_, ?_⟩, ?_⟩
  · intro j o hj
    cases j with
    | succ j => simp at hj
    | zero =>
      simp at hj
      subst hj
      exact ⟨xs, by rw [Nat.add_zero, hval]; exact hx, hlen, fun k j hk h1 h2 => ⟨(h k j hk h1 h2).1.stable hF (fun g hg _ => hb.block g hg) hb.size, (h k j hk h1 h2).2⟩⟩
  · intro j o g hj hg
    cases j with
    | succ j => simp at hj
    | zero =>
      simp at hj
      subst hj
      simp only [ownB, Nat.add_zero, hval] at hg
      exact hnew g hg
  · intro j j' o o' g h1 h2 _ _
    cases j <;> cases j' <;> simp at h1 h2 ⊢
  · have hp := Rep.so (β := β.valAt nid v) (n := nid + 1) (F := FX F (β.valAt nid v) nid [.row e sz n get]) (w := w') nid (by omega) (by rw [hval]; exact hx.one)
    rw [hval] at hp
    exact hp

/-- A new object of one block, that is no cells. -/
theorem EffPost.blk {β : Bd} {nid : Nat} {F : Nat → Prop} {lk : Nat → Option AO} {w : World} (o : AO) (ob : Obj) (v : Value) (r : AV) (hown : ∀ β' : Bd, ownB β' nid o = some (β'.blk nid))
    (hok : (∀ g, g < w.heap.size → ¬ F g → ¬ FX F (β.blkAt nid w.heap.size) nid [o] g) → ObjOk (β.blkAt nid w.heap.size) (nid + 1) (FX F (β.blkAt nid w.heap.size) nid [o]) (w.alloc ob) nid o)
    (hr : (β.blkAt nid w.heap.size).blk nid = w.heap.size → Rep (β.blkAt nid w.heap.size) (nid + 1) (FX F (β.blkAt nid w.heap.size) nid [o]) (w.alloc ob) r v) :
    EffPost β (β.blkAt nid w.heap.size) nid F lk w (w.alloc ob) v (.ext [o] r) := by
  have hblk : (β.blkAt nid w.heap.size).blk nid = w.heap.size := by simp [Bd.blkAt]
  have hF : ∀ g, g < w.heap.size → ¬ F g → ¬ FX F (β.blkAt nid w.heap.size) nid [o] g := by
    rintro g hg hn (hf | ⟨j, o', hj, ho⟩)
    · exact hn hf
    · cases j with
      | zero => simp at hj; subst hj; rw [Nat.add_zero, hown, hblk] at ho; have := Option.some.inj ho; omega
      | succ j => simp at hj
  refine ⟨below_alloc _ _, agree_blkAt _ _ _, ⟨?_, ?_, ?_⟩, hr hblk⟩
  · intro j o' hj
    cases j with
    | succ j => simp at hj
    | zero =>
      simp at hj
      subst hj
      exact hok hF
  · intro j o' g hj hg
    cases j with
    | succ j => simp at hj
    | zero =>
      simp at hj
      subst hj
      rw [Nat.add_zero, hown, hblk] at hg
      have := Option.some.inj hg
      omega
  · intro j j' o o' g h1 h2 _ _
    cases j <;> cases j' <;> simp at h1 h2 ⊢

theorem leaf_one {β : Bd} {n : Nat} {F : Nat → Prop} {w : World} {a : AV} {v : Value} (h : Rep β n F w a v) (hl : leaf a = true) : v.oneCell' = true := by
  cases h with
  | pure _ _ h => cases h <;> first | rfl | (simp [leaf] at hl; done) | exact hl
  | p => rfl
  | so id hi h1 => exact h1
  | pe => rfl
  | mo => rfl
  | sv id sz lo m v hi h => exact h.one
  | fn => rfl
  | ag => simp [leaf] at hl
  | tup => simp [leaf] at hl

end Go.Eng
