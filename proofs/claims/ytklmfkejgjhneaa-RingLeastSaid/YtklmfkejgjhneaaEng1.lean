/-
  A small engine: the weakest precondition of a Go function's code, computed over abstract values, and proved sound over the model's own rules.
  No program in sight: everything holds over any program P and any table T of its types that is true of P.
-/
import Derived.WalkKit
namespace Go.Eng
open Go.RowKit

/-! ### Abstract values -/
inductive AV where
  | b (c : Bool)
  | i (k : IntKind) (n : Int)
  | s (x : ByteArray)
  | val (v : Value)
  | u
  | fn (f : FuncId) (caps : List AV)
  | ag (cs : List AV)
  | tup (vs : List AV)
  | p (id off : Nat)
  | so (id : Nat)
  | pe (id sz idx off : Nat)
  | rs (sz n : Nat) (get : Nat → List AV)
  | rp (cs : List AV)
  | mo (id : Nat)
  | sv (id sz lo n : Nat)
  | rm (n : Nat) (key val : Nat → AV)

mutual
/-- Every id that it names is less than m. -/
def AV.lt (m : Nat) : AV → Bool
  | .p id _ => Nat.blt id m
  | .so id => Nat.blt id m
  | .pe id _ _ _ => Nat.blt id m
  | .mo id => Nat.blt id m
  | .sv id _ _ _ => Nat.blt id m
  | .fn _ cs => AV.lts m cs
  | .ag cs => AV.lts m cs
  | .tup cs => AV.lts m cs
  | _ => true
def AV.lts (m : Nat) : List AV → Bool
  | [] => true
  | c :: r => match AV.lt m c with
    | true => AV.lts m r
    | false => false
end
mutual
/-- It does not name the id q. -/
def AV.no (q : Nat) : AV → Bool
  | .p id _ => !(Nat.beq id q)
  | .so id => !(Nat.beq id q)
  | .pe id _ _ _ => !(Nat.beq id q)
  | .mo id => !(Nat.beq id q)
  | .sv id _ _ _ => !(Nat.beq id q)
  | .fn _ cs => AV.nos q cs
  | .ag cs => AV.nos q cs
  | .tup cs => AV.nos q cs
  | _ => true
def AV.nos (q : Nat) : List AV → Bool
  | [] => true
  | c :: r => match AV.no q c with
    | true => AV.nos q r
    | false => false
end

theorem AV.lts_get {m : Nat} : ∀ {l : List AV}, AV.lts m l = true → ∀ (j : Nat) (h : j < l.length), AV.lt m l[j] = true
  | [], _, j, h => by simp at h
  | c :: r, hl, j, h => by
    unfold AV.lts at hl
    split at hl
    · rename_i hc
      cases j with
      | zero => exact hc
      | succ j => exact AV.lts_get hl j (by simpa using h)
    · cases hl
theorem AV.nos_get {m : Nat} : ∀ {l : List AV}, AV.nos m l = true → ∀ (j : Nat) (h : j < l.length), AV.no m l[j] = true
  | [], _, j, h => by simp at h
  | c :: r, hl, j, h => by
    unfold AV.nos at hl
    split at hl
    · rename_i hc
      cases j with
      | zero => exact hc
      | succ j => exact AV.nos_get hl j (by simpa using h)
    · cases hl

/-- Keys of which no part is compared but as what it is. -/
def simpV : Value → Bool
  | .int _ _ => true
  | .string _ => true
  | .bool _ => true
  | _ => false
/-- The entries of a map: born one after the other, keys of one kind, each once. -/
structure MapOk (es : Array MapEntry) (clock : Nat) : Prop where
  asc : ∀ (i j : Nat) (_ : i < j) (h1 : i < es.size) (h2 : j < es.size), es[i].born < es[j].born
  old : ∀ (i : Nat) (h : i < es.size), es[i].born < clock
  one : ∀ (i j : Nat) (_ : i < j) (h1 : i < es.size) (h2 : j < es.size), es[i].key ≠ es[j].key

/-- What an abstract value without ids says of a value; rows and pointers are read only, and avoid the blocks of F. -/
inductive Rep0 (F : Nat → Prop) (w : World) : AV → Value → Prop
  | b (c : Bool) : Rep0 F w (.b c) (.bool c)
  | i (k : IntKind) (n : Int) : Rep0 F w (.i k n) (.int k n)
  | s (x : ByteArray) : Rep0 F w (.s x) (.string x)
  | val (v : Value) : Rep0 F w (.val v) v
  | u (v : Value) : Rep0 F w .u v
  | fn (f : FuncId) (caps : List AV) (vs : List Value) (hl : caps.length = vs.length)
      (h : ∀ (j : Nat) (h1 : j < caps.length) (h2 : j < vs.length), Rep0 F w caps[j] vs[j]) : Rep0 F w (.fn f caps) (.func (.func f) #[] vs.toArray)
  | ag (cs : List AV) (vs : List Value) (hl : cs.length = vs.length)
      (h : ∀ (j : Nat) (h1 : j < cs.length) (h2 : j < vs.length), Rep0 F w cs[j] vs[j]) : Rep0 F w (.ag cs) (.agg vs.toArray)
  | tup (cs : List AV) (vs : List Value) (hl : cs.length = vs.length)
      (h : ∀ (j : Nat) (h1 : j < cs.length) (h2 : j < vs.length), Rep0 F w cs[j] vs[j]) : Rep0 F w (.tup cs) (.tuple vs.toArray)
  | rsnil (sz : Nat) (get : Nat → List AV) : Rep0 F w (.rs sz 0 get) (.slice none 0 0)
  | rsz (sz : Nat) (get : Nat → List AV) (a : Addr) : Rep0 F w (.rs sz 0 get) (.slice (some a) 0 0)
  | rs (sz n : Nat) (get : Nat → List AV) (g off cap : Nat) (vs : Nat → Nat → Value) (hn : n ≤ cap) (hm : cap ≤ maxLen) (hF : ¬ F g) (hg : g < w.heap.size)
      (hlen : ∀ k, k < n → (get k).length = sz)
      (hc : ∀ k j, k < n → j < sz → w.cell? ⟨g, off + k * sz + j, none⟩ = some (vs k j)) (h1 : ∀ k j, k < n → j < sz → (vs k j).oneCell' = true)
      (h : ∀ (k j : Nat) (_ : k < n) (hj : j < (get k).length), Rep0 F w (get k)[j] (vs k j)) : Rep0 F w (.rs sz n get) (.slice (some ⟨g, off, none⟩) n cap)
  | rp (cs : List AV) (g off : Nat) (vs : Nat → Value) (hF : ¬ F g) (hg : g < w.heap.size)
      (hc : ∀ j, j < cs.length → w.cell? ⟨g, off + j, none⟩ = some (vs j)) (h1 : ∀ j, j < cs.length → (vs j).oneCell' = true)
      (h : ∀ (j : Nat) (hj : j < cs.length), Rep0 F w cs[j] (vs j)) : Rep0 F w (.rp cs) (.pointer (some ⟨g, off, none⟩))
  | rmnil (key val : Nat → AV) : Rep0 F w (.rm 0 key val) (.map none)
  | rm (n : Nat) (key val : Nat → AV) (g : Nat) (es : Array MapEntry) (clock : Nat) (hF : ¬ F g) (hg : w.heap[g]? = some (.map es clock)) (hn : es.size = n) (ho : MapOk es clock)
      (hk : ∀ (i : Nat) (_h : i < n) (h2 : i < es.size), Rep0 F w (key i) es[i].key) (hv : ∀ (i : Nat) (_h : i < n) (h2 : i < es.size), Rep0 F w (val i) es[i].val) : Rep0 F w (.rm n key val) (.map (some g))

theorem Rep0.stable {F F' : Nat → Prop} {w w' : World} {a : AV} {v : Value} (h : Rep0 F w a v)
    (hF : ∀ g, g < w.heap.size → ¬ F g → ¬ F' g) (hw : ∀ g, g < w.heap.size → ¬ F g → w'.heap[g]? = w.heap[g]?) (hs : w.heap.size ≤ w'.heap.size) : Rep0 F' w' a v := by
  induction h with
  | b c => exact .b c
  | i k n => exact .i k n
  | s x => exact .s x
  | val v => exact .val v
  | u v => exact .u v
  | fn f caps vs hl h ih => exact .fn f caps vs hl ih
  | ag cs vs hl h ih => exact .ag cs vs hl ih
  | tup cs vs hl h ih => exact .tup cs vs hl ih
  | rsnil sz get => exact .rsnil sz get
  | rsz sz get a => exact .rsz sz get a
  | rs sz n get g off cap vs hn hm hFg hg hlen hc h1 h ih =>
    exact .rs sz n get g off cap vs hn hm (hF g hg hFg) (Nat.lt_of_lt_of_le hg hs) hlen (fun k j hk hj => by rw [World.cell?_of_block (w := w) (hw g hg hFg)]; exact hc k j hk hj) h1 ih
  | rp cs g off vs hFg hg hc h1 h ih =>
    exact .rp cs g off vs (hF g hg hFg) (Nat.lt_of_lt_of_le hg hs) (fun j hj => by rw [World.cell?_of_block (w := w) (hw g hg hFg)]; exact hc j hj) h1 ih
  | rmnil key val => exact .rmnil key val
  | rm n key val g es clock hFg hg hn ho hk hv ihk ihv =>
    have hlt := (Array.getElem?_eq_some_iff.1 hg).1
    exact .rm n key val g es clock (hF g hlt hFg) (by rw [hw g hlt hFg]; exact hg) hn ho ihk ihv

/-! ### Own objects -/
inductive AO where
  | cells (e : TypeId) (cs : List AV)
  | row (e : TypeId) (sz n : Nat) (get : Nat → List AV)
  | mp (n : Nat) (key val : Nat → AV) (born : Nat → Nat) (clock : Nat)
  | it (mid since : Nat) (seen : List Nat)
  | ir (n : Nat) (key val : Nat → AV) (seen : Nat → Bool) (last : Option Nat)
  | dead

structure Bd where
  blk : Nat → Nat
  val : Nat → Value

/-- A part of a slice of the value b, from lo on. -/
def SvOk (b : Value) (sz lo n : Nat) (v : Value) : Prop :=
  (v = .slice none 0 0 ∧ n = 0 ∧ b = .slice none 0 0) ∨ (∃ a, v = .slice (some a) 0 0 ∧ n = 0 ∧ ∃ a' m c, b = .slice a' m c ∧ c ≤ lo) ∨
    ∃ g off m c, b = .slice (some ⟨g, off, none⟩) m c ∧ lo < c ∧ lo + n ≤ m ∧ v = .slice (some ⟨g, off + lo * sz, none⟩) n (c - lo)
theorem SvOk.one {b : Value} {sz lo n : Nat} {v : Value} (h : SvOk b sz lo n v) : v.oneCell' = true := by
  rcases h with ⟨rfl, _⟩ | ⟨a, rfl, _⟩ | ⟨g, off, m, c, _, _, _, rfl⟩ <;> rfl

/-- With the first n ids, as β has them. -/
inductive Rep (β : Bd) (n : Nat) (F : Nat → Prop) (w : World) : AV → Value → Prop
  | pure (a : AV) (v : Value) (h : Rep0 F w a v) : Rep β n F w a v
  | p (id off : Nat) (hi : id < n) : Rep β n F w (.p id off) (.pointer (some ⟨β.blk id, off, none⟩))
  | so (id : Nat) (hi : id < n) (h1 : (β.val id).oneCell' = true) : Rep β n F w (.so id) (β.val id)
  | pe (id sz idx off g o m c : Nat) (hi : id < n) (h : β.val id = .slice (some ⟨g, o, none⟩) m c) : Rep β n F w (.pe id sz idx off) (.pointer (some ⟨g, o + (idx * sz + off), none⟩))
  | mo (id : Nat) (hi : id < n) : Rep β n F w (.mo id) (.map (some (β.blk id)))
  | sv (id sz lo m : Nat) (v : Value) (hi : id < n) (h : SvOk (β.val id) sz lo m v) : Rep β n F w (.sv id sz lo m) v
  | fn (f : FuncId) (caps : List AV) (vs : List Value) (hl : caps.length = vs.length)
      (h : ∀ (j : Nat) (h1 : j < caps.length) (h2 : j < vs.length), Rep β n F w caps[j] vs[j]) : Rep β n F w (.fn f caps) (.func (.func f) #[] vs.toArray)
  | ag (cs : List AV) (vs : List Value) (hl : cs.length = vs.length)
      (h : ∀ (j : Nat) (h1 : j < cs.length) (h2 : j < vs.length), Rep β n F w cs[j] vs[j]) : Rep β n F w (.ag cs) (.agg vs.toArray)
  | tup (cs : List AV) (vs : List Value) (hl : cs.length = vs.length)
      (h : ∀ (j : Nat) (h1 : j < cs.length) (h2 : j < vs.length), Rep β n F w cs[j] vs[j]) : Rep β n F w (.tup cs) (.tuple vs.toArray)

theorem Rep.stable {β : Bd} {n : Nat} {F F' : Nat → Prop} {w w' : World} {a : AV} {v : Value} (h : Rep β n F w a v)
    (hF : ∀ g, g < w.heap.size → ¬ F g → ¬ F' g) (hw : ∀ g, g < w.heap.size → ¬ F g → w'.heap[g]? = w.heap[g]?) (hs : w.heap.size ≤ w'.heap.size) : Rep β n F' w' a v := by
  induction h with
  | pure a v h => exact .pure a v (h.stable hF hw hs)
  | p id off hi => exact .p id off hi
  | so id hi h1 => exact .so id hi h1
  | pe id sz idx off g o n c hi h => exact .pe id sz idx off g o n c hi h
  | mo id hi => exact .mo id hi
  | sv id sz lo m v hi h => exact .sv id sz lo m v hi h
  | fn f caps vs hl h ih => exact .fn f caps vs hl ih
  | ag cs vs hl h ih => exact .ag cs vs hl ih
  | tup cs vs hl h ih => exact .tup cs vs hl ih

theorem Rep.more {β : Bd} {n n' : Nat} {F : Nat → Prop} {w : World} {a : AV} {v : Value} (h : Rep β n F w a v) (hn : n ≤ n') : Rep β n' F w a v := by
  induction h with
  | pure a v h => exact .pure a v h
  | p id off hi => exact .p id off (Nat.lt_of_lt_of_le hi hn)
  | so id hi h1 => exact .so id (Nat.lt_of_lt_of_le hi hn) h1
  | pe id sz idx off g o m c hi h => exact .pe id sz idx off g o m c (Nat.lt_of_lt_of_le hi hn) h
  | mo id hi => exact .mo id (Nat.lt_of_lt_of_le hi hn)
  | sv id sz lo m v hi h => exact .sv id sz lo m v (Nat.lt_of_lt_of_le hi hn) h
  | fn f caps vs hl h ih => exact .fn f caps vs hl ih
  | ag cs vs hl h ih => exact .ag cs vs hl ih
  | tup cs vs hl h ih => exact .tup cs vs hl ih

theorem blt_lt {a b : Nat} (h : Nat.blt a b = true) : a < b := by simpa [Nat.blt_eq] using h

theorem Rep.less {β : Bd} {n m : Nat} {F : Nat → Prop} {w : World} {a : AV} {v : Value} (h : Rep β n F w a v) (hl : a.lt m = true) : Rep β m F w a v := by
  induction h with
  | pure a v h => exact .pure a v h
  | p id off hi => exact .p id off (blt_lt (by simpa [AV.lt] using hl))
  | so id hi h1 => exact .so id (blt_lt (by simpa [AV.lt] using hl)) h1
  | pe id sz idx off g o n c hi h => exact .pe id sz idx off g o n c (blt_lt (by simpa [AV.lt] using hl)) h
  | mo id hi => exact .mo id (blt_lt (by simpa [AV.lt] using hl))
  | sv id sz lo m v hi h => exact .sv id sz lo m v (blt_lt (by simpa [AV.lt] using hl)) h
  | fn f caps vs hl' h ih => exact .fn f caps vs hl' fun j h1 h2 => ih j h1 h2 (AV.lts_get (by simpa [AV.lt] using hl) j h1)
  | ag cs vs hl' h ih => exact .ag cs vs hl' fun j h1 h2 => ih j h1 h2 (AV.lts_get (by simpa [AV.lt] using hl) j h1)
  | tup cs vs hl' h ih => exact .tup cs vs hl' fun j h1 h2 => ih j h1 h2 (AV.lts_get (by simpa [AV.lt] using hl) j h1)

/-- β' has the same as β for all ids less than n but q. -/
theorem Rep.but {β β' : Bd} {n q : Nat} {F : Nat → Prop} {w : World} {a : AV} {v : Value} (h : Rep β n F w a v) (hl : a.no q = true)
    (hb : ∀ id, id < n → id ≠ q → β'.blk id = β.blk id ∧ β'.val id = β.val id) : Rep β' n F w a v := by
  have ne : ∀ id, (!(Nat.beq id q)) = true → id ≠ q := fun id h e => by subst e; simp at h
  induction h with
  | pure a v h => exact .pure a v h
  | p id off hi => rw [← (hb id hi (ne id (by simpa [AV.no] using hl))).1]; exact .p id off hi
  | so id hi h1 => rw [← (hb id hi (ne id (by simpa [AV.no] using hl))).2] at h1 ⊢; exact .so id hi h1
  | pe id sz idx off g o m c hi h => exact .pe id sz idx off g o m c hi ((hb id hi (ne id (by simpa [AV.no] using hl))).2.trans h)
  | mo id hi => rw [← (hb id hi (ne id (by simpa [AV.no] using hl))).1]; exact .mo id hi
  | sv id sz lo m v hi h => exact .sv id sz lo m v hi (by rw [(hb id hi (ne id (by simpa [AV.no] using hl))).2]; exact h)
  | fn f caps vs hl' h ih => exact .fn f caps vs hl' fun j h1 h2 => ih j h1 h2 (AV.nos_get (by simpa [AV.no] using hl) j h1)
  | ag cs vs hl' h ih => exact .ag cs vs hl' fun j h1 h2 => ih j h1 h2 (AV.nos_get (by simpa [AV.no] using hl) j h1)
  | tup cs vs hl' h ih => exact .tup cs vs hl' fun j h1 h2 => ih j h1 h2 (AV.nos_get (by simpa [AV.no] using hl) j h1)

/-- β' has the same as β for all ids less than n. -/
theorem Rep.same {β β' : Bd} {n : Nat} {F : Nat → Prop} {w : World} {a : AV} {v : Value} (h : Rep β n F w a v)
    (hb : ∀ id, id < n → β'.blk id = β.blk id ∧ β'.val id = β.val id) : Rep β' n F w a v := by
  induction h with
  | pure a v h => exact .pure a v h
  | p id off hi => rw [← (hb id hi).1]; exact .p id off hi
  | so id hi h1 => rw [← (hb id hi).2] at h1 ⊢; exact .so id hi h1
  | pe id sz idx off g o m c hi h => exact .pe id sz idx off g o m c hi ((hb id hi).2.trans h)
  | mo id hi => rw [← (hb id hi).1]; exact .mo id hi
  | sv id sz lo m v hi h => exact .sv id sz lo m v hi (by rw [(hb id hi).2]; exact h)
  | fn f caps vs hl' h ih => exact .fn f caps vs hl' ih
  | ag cs vs hl' h ih => exact .ag cs vs hl' ih
  | tup cs vs hl' h ih => exact .tup cs vs hl' ih


/-! ### Renaming of ids -/
mutual
def AV.ren (ρ : Nat → Nat) : AV → AV
  | .p id off => .p (ρ id) off
  | .so id => .so (ρ id)
  | .pe id sz idx off => .pe (ρ id) sz idx off
  | .mo id => .mo (ρ id)
  | .sv id sz lo n => .sv (ρ id) sz lo n
  | .rm n ks xs => .rm n ks xs
  | .fn f cs => .fn f (AV.rens ρ cs)
  | .ag cs => .ag (AV.rens ρ cs)
  | .tup cs => .tup (AV.rens ρ cs)
  | .b c => .b c
  | .i k n => .i k n
  | .s x => .s x
  | .val v => .val v
  | .u => .u
  | .rs sz n get => .rs sz n get
  | .rp cs => .rp cs
def AV.rens (ρ : Nat → Nat) : List AV → List AV
  | [] => []
  | c :: r => AV.ren ρ c :: AV.rens ρ r
end
theorem AV.length_rens (ρ : Nat → Nat) : ∀ l : List AV, (AV.rens ρ l).length = l.length
  | [] => rfl
  | c :: r => by simp [AV.rens, AV.length_rens ρ r]
theorem AV.rens_get (ρ : Nat → Nat) : ∀ (l : List AV) (j : Nat) (h : j < (AV.rens ρ l).length) (h' : j < l.length), (AV.rens ρ l)[j] = AV.ren ρ l[j]
  | [], j, h, _ => by simp [AV.rens] at h
  | c :: r, 0, _, _ => by simp [AV.rens]
  | c :: r, j + 1, h, h' => by
    simp only [AV.rens, List.getElem_cons_succ]
    exact AV.rens_get ρ r j _ _

/-- From the callee's ids to the caller's. -/
theorem Rep0.unren {F : Nat → Prop} {w : World} {a : AV} {v : Value} (h : Rep0 F w a v) (ρ : Nat → Nat) : Rep0 F w (a.ren ρ) v := by
  induction h with
  | b c => exact .b c
  | i k n => exact .i k n
  | s x => exact .s x
  | val v => exact .val v
  | u v => exact .u v
  | fn f caps vs hl h ih => exact .fn f _ vs ((AV.length_rens ρ caps).trans hl) fun j h1 h2 => by rw [AV.rens_get ρ caps j h1 (by rw [AV.length_rens] at h1; exact h1)]; exact ih j _ h2
  | ag caps vs hl h ih => exact .ag _ vs ((AV.length_rens ρ caps).trans hl) fun j h1 h2 => by rw [AV.rens_get ρ caps j h1 (by rw [AV.length_rens] at h1; exact h1)]; exact ih j _ h2
  | tup caps vs hl h ih => exact .tup _ vs ((AV.length_rens ρ caps).trans hl) fun j h1 h2 => by rw [AV.rens_get ρ caps j h1 (by rw [AV.length_rens] at h1; exact h1)]; exact ih j _ h2
  | rsnil sz get => exact .rsnil sz get
  | rsz sz get a => exact .rsz sz get a
  | rs sz n get g off cap vs hn hm hFg hg hlen hc h1 h ih => exact .rs sz n get g off cap vs hn hm hFg hg hlen hc h1 h
  | rp cs g off vs hFg hg hc h1 h ih => exact .rp cs g off vs hFg hg hc h1 h
  | rmnil key val => exact .rmnil key val
  | rm n key val g es clock hFg hg hn ho hk hv ihk ihv => exact .rm n key val g es clock hFg hg hn ho hk hv

theorem Rep.unren {β β' : Bd} {n n' : Nat} {F : Nat → Prop} {w : World} {a : AV} {v : Value} (h : Rep β n F w a v) (ρ : Nat → Nat)
    (hb : ∀ id, id < n → ρ id < n' ∧ β'.blk (ρ id) = β.blk id ∧ β'.val (ρ id) = β.val id) : Rep β' n' F w (a.ren ρ) v := by
  induction h with
  | pure a v h => exact .pure _ v (h.unren ρ)
  | p id off hi => rw [← (hb id hi).2.1]; exact .p _ off (hb id hi).1
  | so id hi h1 => rw [← (hb id hi).2.2] at h1 ⊢; exact .so _ (hb id hi).1 h1
  | pe id sz idx off g o m c hi h => exact .pe _ sz idx off g o m c (hb id hi).1 ((hb id hi).2.2.trans h)
  | mo id hi => rw [← (hb id hi).2.1]; exact .mo _ (hb id hi).1
  | sv id sz lo m v hi h => exact .sv _ sz lo m v (hb id hi).1 (by rw [(hb id hi).2.2]; exact h)
  | fn f caps vs hl h ih => exact .fn f _ vs ((AV.length_rens ρ caps).trans hl) fun j h1 h2 => by rw [AV.rens_get ρ caps j h1 (by rw [AV.length_rens] at h1; exact h1)]; exact ih j _ h2
  | ag caps vs hl h ih => exact .ag _ vs ((AV.length_rens ρ caps).trans hl) fun j h1 h2 => by rw [AV.rens_get ρ caps j h1 (by rw [AV.length_rens] at h1; exact h1)]; exact ih j _ h2
  | tup caps vs hl h ih => exact .tup _ vs ((AV.length_rens ρ caps).trans hl) fun j h1 h2 => by rw [AV.rens_get ρ caps j h1 (by rw [AV.length_rens] at h1; exact h1)]; exact ih j _ h2

theorem Rep0.ren' {F : Nat → Prop} {w : World} {ρ : Nat → Nat} {a' : AV} {v : Value} (h : Rep0 F w a' v) : ∀ a : AV, a.ren ρ = a' → Rep0 F w a v := by
  induction h with
  | b c => intro a e; cases a <;> simp [AV.ren] at e; subst e; exact .b _
  | i k n => intro a e; cases a <;> simp [AV.ren] at e; obtain ⟨rfl, rfl⟩ := e; exact .i _ _
  | s x => intro a e; cases a <;> simp [AV.ren] at e; subst e; exact .s _
  | val v => intro a e; cases a <;> simp [AV.ren] at e; subst e; exact .val _
  | u v => intro a e; cases a <;> simp [AV.ren] at e; exact .u _
  | fn f caps vs hl h ih =>
    intro a e; cases a <;> simp [AV.ren] at e
    rename_i f' cs; obtain ⟨rfl, rfl⟩ := e
    rw [AV.length_rens] at hl
    exact .fn _ _ vs hl fun j h1 h2 => ih j (by rw [AV.length_rens]; exact h1) h2 _ (AV.rens_get ρ cs j _ h1).symm
  | ag caps vs hl h ih =>
    intro a e; cases a <;> simp [AV.ren] at e
    rename_i cs; subst e
    rw [AV.length_rens] at hl
    exact .ag _ vs hl fun j h1 h2 => ih j (by rw [AV.length_rens]; exact h1) h2 _ (AV.rens_get ρ cs j _ h1).symm
  | tup caps vs hl h ih =>
    intro a e; cases a <;> simp [AV.ren] at e
    rename_i cs; subst e
    rw [AV.length_rens] at hl
    exact .tup _ vs hl fun j h1 h2 => ih j (by rw [AV.length_rens]; exact h1) h2 _ (AV.rens_get ρ cs j _ h1).symm
  | rsnil sz get => intro a e; cases a <;> simp [AV.ren] at e; obtain ⟨rfl, rfl, rfl⟩ := e; exact .rsnil _ _
  | rsz sz get ad => intro a e; cases a <;> simp [AV.ren] at e; obtain ⟨rfl, rfl, rfl⟩ := e; exact .rsz _ _ ad
  | rs sz n get g off cap vs hn hm hFg hg hlen hc h1 h ih => intro a e; cases a <;> simp [AV.ren] at e; obtain ⟨rfl, rfl, rfl⟩ := e; exact .rs _ _ _ g off cap vs hn hm hFg hg hlen hc h1 h
  | rp cs g off vs hFg hg hc h1 h ih => intro a e; cases a <;> simp [AV.ren] at e; subst e; exact .rp _ g off vs hFg hg hc h1 h
  | rmnil key val => intro a e; cases a <;> simp [AV.ren] at e; obtain ⟨rfl, rfl, rfl⟩ := e; exact .rmnil _ _
  | rm n key val g es clock hFg hg hn ho hk hv ihk ihv => intro a e; cases a <;> simp [AV.ren] at e; obtain ⟨rfl, rfl, rfl⟩ := e; exact .rm _ _ _ g es clock hFg hg hn ho hk hv

/-- From what is known of the renamed value, with the ids behind ρ. -/
theorem Rep.ren' {β : Bd} {n m : Nat} {F : Nat → Prop} {w : World} {ρ : Nat → Nat} {a' : AV} {v : Value} (h : Rep β n F w a' v) :
    ∀ a : AV, a.ren ρ = a' → a.lt m = true → Rep ⟨fun id => β.blk (ρ id), fun id => β.val (ρ id)⟩ m F w a v := by
  induction h with
  | pure a v h => intro a e _; exact .pure _ _ (h.ren' a e)
  | p id off hi => intro a e l; cases a <;> simp [AV.ren] at e; obtain ⟨rfl, rfl⟩ := e; exact Rep.p (β := ⟨fun id => β.blk (ρ id), fun id => β.val (ρ id)⟩) _ _ (blt_lt (by simpa [AV.lt] using l))
  | so id hi h1 => intro a e l; cases a <;> simp [AV.ren] at e; subst e; exact Rep.so (β := ⟨fun id => β.blk (ρ id), fun id => β.val (ρ id)⟩) _ (blt_lt (by simpa [AV.lt] using l)) h1
  | pe id sz idx off g o m c hi h => intro a e l; cases a <;> simp [AV.ren] at e; obtain ⟨rfl, rfl, rfl, rfl⟩ := e; exact .pe _ _ _ _ g o m c (blt_lt (by simpa [AV.lt] using l)) h
  | sv id sz lo k v hi h => intro a e l; cases a <;> simp [AV.ren] at e; obtain ⟨rfl, rfl, rfl, rfl⟩ := e; exact .sv _ _ _ _ v (blt_lt (by simpa [AV.lt] using l)) h
  | mo id hi => intro a e l; cases a <;> simp [AV.ren] at e; subst e; exact Rep.mo (β := ⟨fun id => β.blk (ρ id), fun id => β.val (ρ id)⟩) _ (blt_lt (by simpa [AV.lt] using l))
  | fn f caps vs hl h ih =>
    intro a e l; cases a <;> simp [AV.ren] at e
    rename_i f' cs; obtain ⟨rfl, rfl⟩ := e
    rw [AV.length_rens] at hl
    exact .fn _ _ vs hl fun j h1 h2 => ih j (by rw [AV.length_rens]; exact h1) h2 _ (AV.rens_get ρ cs j _ h1).symm (AV.lts_get (by simpa [AV.lt] using l) j h1)
  | ag caps vs hl h ih =>
    intro a e l; cases a <;> simp [AV.ren] at e
    rename_i cs; subst e
    rw [AV.length_rens] at hl
    exact .ag _ vs hl fun j h1 h2 => ih j (by rw [AV.length_rens]; exact h1) h2 _ (AV.rens_get ρ cs j _ h1).symm (AV.lts_get (by simpa [AV.lt] using l) j h1)
  | tup caps vs hl h ih =>
    intro a e l; cases a <;> simp [AV.ren] at e
    rename_i cs; subst e
    rw [AV.length_rens] at hl
    exact .tup _ vs hl fun j h1 h2 => ih j (by rw [AV.length_rens]; exact h1) h2 _ (AV.rens_get ρ cs j _ h1).symm (AV.lts_get (by simpa [AV.lt] using l) j h1)

/-! ### Inversions -/
section
variable {β : Bd} {n : Nat} {F : Nat → Prop} {w : World} {v : Value}
theorem Rep.b_inv {c : Bool} (h : Rep β n F w (.b c) v) : v = .bool c := by cases h with | pure _ _ h => cases h; rfl
theorem Rep.i_inv {k : IntKind} {m : Int} (h : Rep β n F w (.i k m) v) : v = .int k m := by cases h with | pure _ _ h => cases h; rfl
theorem Rep.s_inv {x : ByteArray} (h : Rep β n F w (.s x) v) : v = .string x := by cases h with | pure _ _ h => cases h; rfl
theorem Rep.val_inv {x : Value} (h : Rep β n F w (.val x) v) : v = x := by cases h with | pure _ _ h => cases h; rfl
theorem Rep.p_inv {id off : Nat} (h : Rep β n F w (.p id off) v) : id < n ∧ v = .pointer (some ⟨β.blk id, off, none⟩) := by
  cases h with
  | pure _ _ h => cases h
  | p _ _ hi => exact ⟨hi, rfl⟩
theorem Rep.so_inv {id : Nat} (h : Rep β n F w (.so id) v) : id < n ∧ v = β.val id := by
  cases h with
  | pure _ _ h => cases h
  | so _ hi _ => exact ⟨hi, rfl⟩
theorem Rep.mo_inv {id : Nat} (h : Rep β n F w (.mo id) v) : id < n ∧ v = .map (some (β.blk id)) := by
  cases h with
  | pure _ _ h => cases h
  | mo _ hi => exact ⟨hi, rfl⟩
theorem Rep.pe_inv {id sz idx off : Nat} (h : Rep β n F w (.pe id sz idx off) v) : id < n ∧ ∃ g o m c, β.val id = .slice (some ⟨g, o, none⟩) m c ∧ v = .pointer (some ⟨g, o + (idx * sz + off), none⟩) := by
  cases h with
  | pure _ _ h => cases h
  | pe _ _ _ _ g o m c hi h => exact ⟨hi, g, o, m, c, h, rfl⟩
theorem Rep.sv_inv {id sz lo m : Nat} (h : Rep β n F w (.sv id sz lo m) v) : id < n ∧ SvOk (β.val id) sz lo m v := by
  cases h with
  | pure _ _ h => cases h
  | sv _ _ _ _ _ hi h => exact ⟨hi, h⟩
theorem Rep.rm_inv {m : Nat} {key val : Nat → AV} (h : Rep β n F w (.rm m key val) v) : Rep0 F w (.rm m key val) v := by
  cases h with | pure _ _ h => exact h
theorem Rep.rs_inv {sz m : Nat} {get : Nat → List AV} (h : Rep β n F w (.rs sz m get) v) : Rep0 F w (.rs sz m get) v := by
  cases h with | pure _ _ h => exact h
theorem Rep.rp_inv {cs : List AV} (h : Rep β n F w (.rp cs) v) : Rep0 F w (.rp cs) v := by
  cases h with | pure _ _ h => exact h
theorem Rep.ag_inv {cs : List AV} (h : Rep β n F w (.ag cs) v) : ∃ vs : List Value, v = .agg vs.toArray ∧ cs.length = vs.length ∧ ∀ (j : Nat) (h1 : j < cs.length) (h2 : j < vs.length), Rep β n F w cs[j] vs[j] := by
  cases h with
  | pure _ _ h => cases h with | ag _ vs hl h => exact ⟨vs, rfl, hl, fun j h1 h2 => .pure _ _ (h j h1 h2)⟩
  | ag _ vs hl h => exact ⟨vs, rfl, hl, h⟩
theorem Rep.tup_inv {cs : List AV} (h : Rep β n F w (.tup cs) v) : ∃ vs : List Value, v = .tuple vs.toArray ∧ cs.length = vs.length ∧ ∀ (j : Nat) (h1 : j < cs.length) (h2 : j < vs.length), Rep β n F w cs[j] vs[j] := by
  cases h with
  | pure _ _ h => cases h with | tup _ vs hl h => exact ⟨vs, rfl, hl, fun j h1 h2 => .pure _ _ (h j h1 h2)⟩
  | tup _ vs hl h => exact ⟨vs, rfl, hl, h⟩
theorem Rep.fn_inv {f : FuncId} {cs : List AV} (h : Rep β n F w (.fn f cs) v) : ∃ vs : List Value, v = .func (.func f) #[] vs.toArray ∧ cs.length = vs.length ∧ ∀ (j : Nat) (h1 : j < cs.length) (h2 : j < vs.length), Rep β n F w cs[j] vs[j] := by
  cases h with
  | pure _ _ h => cases h with | fn _ _ vs hl h => exact ⟨vs, rfl, hl, fun j h1 h2 => .pure _ _ (h j h1 h2)⟩
  | fn _ _ vs hl h => exact ⟨vs, rfl, hl, h⟩

/-- Without ids it is known without β. -/
theorem Rep.toPure {a : AV} (h : Rep β n F w a v) (hl : a.lt 0 = true) : Rep0 F w a v := by
  induction h with
  | pure a v h => exact h
  | p id off hi => simp [AV.lt] at hl
  | so id hi _ => simp [AV.lt] at hl
  | pe id sz idx off g o m c hi h => simp [AV.lt] at hl
  | mo id hi => simp [AV.lt] at hl
  | sv id sz lo m v hi h => simp [AV.lt] at hl
  | fn f caps vs hl' h ih => exact .fn _ _ vs hl' fun j h1 h2 => ih j h1 h2 (AV.lts_get (by simpa [AV.lt] using hl) j h1)
  | ag caps vs hl' h ih => exact .ag _ vs hl' fun j h1 h2 => ih j h1 h2 (AV.lts_get (by simpa [AV.lt] using hl) j h1)
  | tup caps vs hl' h ih => exact .tup _ vs hl' fun j h1 h2 => ih j h1 h2 (AV.lts_get (by simpa [AV.lt] using hl) j h1)
end

/-! ### What is known of an own object -/
/-- The block that a slice has cells of. -/
def blkOf : Value → Option Nat
  | .slice (some a) _ (_ + 1) => some a.block
  | _ => none
/-- A slice of n elements, to the cells of which nothing else leads. -/
def RowAt (w : World) (e : TypeId) (sz : Nat) (v : Value) (n : Nat) (xs : List Value) : Prop :=
  xs.length = n * sz ∧ ((v = .slice none 0 0 ∧ n = 0) ∨ (∃ a, v = .slice (some a) 0 0 ∧ n = 0) ∨
    ∃ g off cap cur, v = .slice (some ⟨g, off, none⟩) n (cap + 1) ∧ w.heap[g]? = some (.cells cur e (0, 0)) ∧ n ≤ cap + 1 ∧ cap + 1 ≤ maxLen ∧ off + (cap + 1) * sz ≤ cur.size ∧
      (cur.toList.drop off).take (n * sz) = xs)
theorem RowAt.one {w : World} {e : TypeId} {sz : Nat} {v : Value} {n : Nat} {xs : List Value} (h : RowAt w e sz v n xs) : v.oneCell' = true := by
  rcases h.2 with ⟨rfl, _⟩ | ⟨a, rfl, _⟩ | ⟨g, off, cap, cur, rfl, _⟩ <;> rfl
theorem RowAt.lt {w : World} {e : TypeId} {sz : Nat} {v : Value} {n : Nat} {xs : List Value} (h : RowAt w e sz v n xs) {g : Nat} (hg : blkOf v = some g) : g < w.heap.size := by
  rcases h.2 with ⟨rfl, _⟩ | ⟨a, rfl, _⟩ | ⟨g', off, cap, cur, rfl, hh, _⟩
  · cases hg
  · cases hg
  · simp only [blkOf, Option.some.injEq] at hg
    subst hg
    exact (Array.getElem?_eq_some_iff.1 hh).1
theorem RowAt.stable {w w' : World} {e : TypeId} {sz : Nat} {v : Value} {n : Nat} {xs : List Value} (h : RowAt w e sz v n xs) (hw : ∀ g, blkOf v = some g → w'.heap[g]? = w.heap[g]?) : RowAt w' e sz v n xs := by
  refine ⟨h.1, ?_⟩
  rcases h.2 with h | h | ⟨g, off, cap, cur, rfl, hh, hrest⟩
  · exact .inl h
  · exact .inr (.inl h)
  · exact .inr (.inr ⟨g, off, cap, cur, rfl, by rw [hw g rfl]; exact hh, hrest⟩)
/-- Its cells, one after the other. -/
theorem RowAt.cells {w : World} {e : TypeId} {sz : Nat} {v : Value} {n : Nat} {xs : List Value} (h : RowAt w e sz v n xs) (hn : 0 < xs.length) :
    ∃ g off cap cur, v = .slice (some ⟨g, off, none⟩) n (cap + 1) ∧ w.heap[g]? = some (.cells cur e (0, 0)) ∧ n ≤ cap + 1 ∧ cap + 1 ≤ maxLen ∧ off + (cap + 1) * sz ≤ cur.size ∧ (cur.toList.drop off).take (n * sz) = xs ∧
      ∀ j u, xs[j]? = some u → w.cell? ⟨g, off + j, none⟩ = some u := by
  rcases h.2 with ⟨_, rfl⟩ | ⟨a, _, rfl⟩ | ⟨g, off, cap, cur, rfl, hh, hnc, hcm, hcs, htake⟩
  · have := h.1; omega
  · have := h.1; omega
  · refine ⟨g, off, cap, cur, rfl, hh, hnc, hcm, hcs, htake, fun j u hu => ?_⟩
    rw [← htake, List.getElem?_take] at hu
    split at hu
    · rw [List.getElem?_drop] at hu
      rw [cell_of_row w _ _ _ _ _ hh]
      simpa using hu
    · cases hu

theorem RowAt.of_owns {w : World} {base : Nat} {e : TypeId} {sz : Nat} {v : Value} {n : Nat} {xs : List Value} (h : w.ownsRow base e sz v n xs) : RowAt w e sz v n xs ∧ ∀ g, blkOf v = some g → base ≤ g := by
  rcases h.2 with ⟨rfl, h0⟩ | ⟨g, cap, cur, rfl, hb, hh, hnc, hcm, hcs, htake⟩
  · exact ⟨⟨h.1, .inl ⟨rfl, h0⟩⟩, fun g hg => by cases hg⟩
  · cases cap with
    | zero =>
      have hn : n = 0 := by omega
      subst hn
      exact ⟨⟨h.1, .inr (.inl ⟨_, rfl, rfl⟩)⟩, fun g hg => by cases hg⟩
    | succ cap =>
      exact ⟨⟨h.1, .inr (.inr ⟨g, 0, cap, cur, rfl, hh, hnc, hcm, by omega, by simpa using htake⟩)⟩, fun g' hg => by simp only [blkOf, Option.some.injEq] at hg; omega⟩

def ObjOk (β : Bd) (n : Nat) (F : Nat → Prop) (w : World) (id : Nat) : AO → Prop
  | .cells e cs => ∃ vs : List Value, w.heap[β.blk id]? = some (.cells vs.toArray e (0, 0)) ∧ cs.length = vs.length ∧
      ∀ (j : Nat) (h1 : j < cs.length) (h2 : j < vs.length), Rep β n F w cs[j] vs[j] ∧ vs[j].oneCell' = true
  | .row e sz m get => ∃ xs : List Value, RowAt w e sz (β.val id) m xs ∧ (∀ k, k < m → (get k).length = sz) ∧
      ∀ (k j : Nat) (_ : k < m) (h1 : j < (get k).length) (h2 : k * sz + j < xs.length), Rep0 F w (get k)[j] xs[k * sz + j] ∧ xs[k * sz + j].oneCell' = true
  | .mp m key val born clock => ∃ es : Array MapEntry, w.heap[β.blk id]? = some (.map es clock) ∧ es.size = m ∧ MapOk es clock ∧
      ∀ (i : Nat) (_ : i < m) (h2 : i < es.size), Rep0 F w (key i) es[i].key ∧ Rep0 F w (val i) es[i].val ∧ es[i].born = born i
  | .it mid since seen => mid < n ∧ w.heap[β.blk id]? = some (.mapIter (some (β.blk mid)) since seen.toArray since)
  | .ir m key val seen last => ∃ (g : Option Nat) (es : Array MapEntry) (clock : Nat) (sn : Array Nat), w.heap[β.blk id]? = some (.mapIter g clock sn clock) ∧ es.size = m ∧ MapOk es clock ∧ (g = none → m = 0) ∧
      (∀ b, g = some b → ¬ F b ∧ w.heap[b]? = some (.map es clock)) ∧
      (∀ (i : Nat) (_ : i < m) (h2 : i < es.size), Rep0 F w (key i) es[i].key ∧ Rep0 F w (val i) es[i].val ∧ sn.contains es[i].born = seen i) ∧
      ∀ i, last = some i → ∃ h : i < es.size, sn.back? = some es[i].born
  | .dead => True
def ownB (β : Bd) (id : Nat) : AO → Option Nat
  | .cells _ _ => some (β.blk id)
  | .row _ _ _ _ => blkOf (β.val id)
  | .mp _ _ _ _ _ => some (β.blk id)
  | .it _ _ _ => some (β.blk id)
  | .ir _ _ _ _ _ => some (β.blk id)
  | .dead => none

theorem ObjOk.lt {β : Bd} {n : Nat} {F : Nat → Prop} {w : World} {id : Nat} {o : AO} (h : ObjOk β n F w id o) {g : Nat} (hg : ownB β id o = some g) : g < w.heap.size := by
  cases o with
  | cells e cs =>
    obtain ⟨vs, hh, _⟩ := h
    simp only [ownB, Option.some.injEq] at hg
    subst hg
    exact (Array.getElem?_eq_some_iff.1 hh).1
  | row e sz m get =>
    obtain ⟨xs, hx, _⟩ := h
    exact hx.lt hg
  | mp m key val born clock =>
    obtain ⟨es, hh, _⟩ := h
    simp only [ownB, Option.some.injEq] at hg
    subst hg
    exact (Array.getElem?_eq_some_iff.1 hh).1
  | it mid since seen =>
    obtain ⟨_, hh⟩ := h
    simp only [ownB, Option.some.injEq] at hg
    subst hg
    exact (Array.getElem?_eq_some_iff.1 hh).1
  | ir m key val seen last =>
    obtain ⟨_, _, _, _, hh, _⟩ := h
    simp only [ownB, Option.some.injEq] at hg
    subst hg
    exact (Array.getElem?_eq_some_iff.1 hh).1
  | dead => cases hg

/-- An object stays what it is where its block and what it avoids do. -/
theorem ObjOk.stable {β β' : Bd} {n n' : Nat} {F F' : Nat → Prop} {w w' : World} {id : Nat} {o : AO} (h : ObjOk β n F w id o) (hid : id < n) (hn : n ≤ n')
    (hb : ∀ i, i < n → β'.blk i = β.blk i ∧ β'.val i = β.val i)
    (hF : ∀ g, g < w.heap.size → ¬ F g → ¬ F' g) (hw : ∀ g, g < w.heap.size → ¬ F g → w'.heap[g]? = w.heap[g]?) (hs : w.heap.size ≤ w'.heap.size)
    (hown : ∀ g, ownB β id o = some g → w'.heap[g]? = w.heap[g]?) : ObjOk β' n' F' w' id o := by
  cases o with
  | cells e cs =>
    obtain ⟨vs, hh, hl, hc⟩ := h
    refine ⟨vs, by rw [(hb id hid).1, hown _ rfl]; exact hh, hl, fun j h1 h2 => ⟨?_, (hc j h1 h2).2⟩⟩
    exact (((hc j h1 h2).1.stable hF hw hs).same hb).more hn
  | row e sz m get =>
    obtain ⟨xs, hx, hlen, hc⟩ := h
    refine ⟨xs, ?_, hlen, fun k j hk h1 h2 => ⟨(hc k j hk h1 h2).1.stable hF hw hs, (hc k j hk h1 h2).2⟩⟩
    rw [(hb id hid).2]
    exact hx.stable hown
  | mp m key val born clock =>
    obtain ⟨es, hh, hm, ho, hc⟩ := h
    refine ⟨es, by rw [(hb id hid).1, hown _ rfl]; exact hh, hm, ho, fun i hi h2 => ?_⟩
    obtain ⟨h3, h4, h5⟩ := hc i hi h2
    exact ⟨h3.stable hF hw hs, h4.stable hF hw hs, h5⟩
  | it mid since seen =>
    obtain ⟨hm, hh⟩ := h
    refine ⟨Nat.lt_of_lt_of_le hm hn, ?_⟩
    rw [(hb id hid).1, (hb mid hm).1, hown _ rfl]
    exact hh
  | ir m key val seen last =>
    obtain ⟨g, es, clock, sn, hh, hm, ho, hg0, hg, hc, hlast⟩ := h
    refine ⟨g, es, clock, sn, by rw [(hb id hid).1, hown _ rfl]; exact hh, hm, ho, hg0, fun b hb' => ?_, fun i hi h2 => ?_, hlast⟩
    · obtain ⟨h1, h2⟩ := hg b hb'
      have hlt := (Array.getElem?_eq_some_iff.1 h2).1
      exact ⟨hF b hlt h1, by rw [hw b hlt h1]; exact h2⟩
    · obtain ⟨h3, h4, h5⟩ := hc i hi h2
      exact ⟨h3.stable hF hw hs, h4.stable hF hw hs, h5⟩
  | dead => trivial

end Go.Eng
