/-
  Several texts in one: Eng1, Eng2, Eng3, Eng4.
-/
import Derived.WalkKit

section
namespace Go.Eng
open Go.RowKit
def dz (_ : World) : Nat := 0
structure Below (B : Nat) (w w' : World) : Prop extends Go.RowKit.Below B w w' where
 drawn : dz w ≤ dz w'
theorem Below.refl (B : Nat) (w : World) : Below B w w := ⟨Go.RowKit.Below.refl B w, Nat.le_refl _⟩
theorem Below.trans {B : Nat} {a b c : World} (h : Below B a b) (k : Below B b c) : Below B a c := ⟨h.toBelow.trans k.toBelow, Nat.le_trans h.drawn k.drawn⟩
theorem Below.mono {B B' : Nat} {w w' : World} (h : Below B w w') (hB : B' ≤ B) : Below B' w w' := ⟨h.toBelow.mono hB, h.drawn⟩
theorem Below.alloc {B : Nat} {a w : World} (h : Below B a w) (hB : B ≤ w.heap.size) (o : Obj) : Below B a (w.alloc o) := ⟨h.toBelow.alloc hB o, h.drawn⟩
theorem Below.heap_alloc (w : World) (o : Obj) (k : Nat) (h : k < w.heap.size) : (w.alloc o).heap[k]? = w.heap[k]? := Go.RowKit.Below.heap_alloc w o k h
structure GrownBy (w w' : World) (row : Option Nat) : Prop extends World.grownBy w w' row where
 drawn : dz w ≤ dz w'
theorem run_drawn {P : Program} {α : Type} (s : Sem α) {w w' : World} {x : α} (_ : s.run P w = .ok x w') : dz w ≤ dz w' := Nat.le_refl _
inductive AV where
 | b (c : Bool)
 | i (k : IntKind) (n : Int)
 | s (x : ByteArray)
 | val (v : Value)
 | u
 | fn (f : FuncId) (caps : List AV)
 | ag (cs : List AV)
 | tup (vs : List AV)
 | p (id off : Nat)
 | so (id : Nat)
 | pe (id sz idx off : Nat)
 | rs (sz n : Nat) (get : Nat → List AV)
 | rp (cs : List AV)
 | mo (id : Nat)
 | sv (id sz lo n : Nat)
 | sc (id off n cap : Nat)
 | rm (n : Nat) (key val : Nat → AV)
mutual
def AV.lt (m : Nat) : AV → Bool
 | .p id _ => Nat.blt id m
 | .so id => Nat.blt id m
 | .pe id _ _ _ => Nat.blt id m
 | .mo id => Nat.blt id m
 | .sv id _ _ _ => Nat.blt id m
 | .sc id _ _ _ => Nat.blt id m
 | .fn _ cs => AV.lts m cs
 | .ag cs => AV.lts m cs
 | .tup cs => AV.lts m cs
 | _ => true
def AV.lts (m : Nat) : List AV → Bool
 | [] => true
 | c :: r => match AV.lt m c with
  | true => AV.lts m r
  | false => false
end
mutual
def AV.no (q : Nat) : AV → Bool
 | .p id _ => !(Nat.beq id q)
 | .so id => !(Nat.beq id q)
 | .pe id _ _ _ => !(Nat.beq id q)
 | .mo id => !(Nat.beq id q)
 | .sv id _ _ _ => !(Nat.beq id q)
 | .sc id _ _ _ => !(Nat.beq id q)
 | .fn _ cs => AV.nos q cs
 | .ag cs => AV.nos q cs
 | .tup cs => AV.nos q cs
 | _ => true
def AV.nos (q : Nat) : List AV → Bool
 | [] => true
 | c :: r => match AV.no q c with
  | true => AV.nos q r
  | false => false
end
theorem AV.lts_get {m : Nat} : ∀ {l : List AV}, AV.lts m l = true → ∀ (j : Nat) (h : j < l.length), AV.lt m l[j] = true
 | [], _, j, h => by simp at h
 | c :: r, hl, j, h => by
  unfold AV.lts at hl
  split at hl
  ·rename_i hc
   cases j with
   | zero => exact hc
   | succ j => exact AV.lts_get hl j (by simpa using h)
  ·cases hl
structure MapOk (es : Array MapEntry) (clock : Nat) : Prop where
 asc : ∀ (i j : Nat) (_ : i < j) (h1 : i < es.size) (h2 : j < es.size), es[i].born < es[j].born
 old : ∀ (i : Nat) (h : i < es.size), es[i].born < clock
 one : ∀ (i j : Nat) (_ : i < j) (h1 : i < es.size) (h2 : j < es.size), es[i].key ≠ es[j].key
inductive Rep0 (F : Nat → Prop) (w : World) : AV → Value → Prop
 | b (c : Bool) : Rep0 F w (.b c) (.bool c)
 | i (k : IntKind) (n : Int) : Rep0 F w (.i k n) (.int k n)
 | s (x : ByteArray) : Rep0 F w (.s x) (.string x)
 | val (v : Value) : Rep0 F w (.val v) v
 | u (v : Value) : Rep0 F w .u v
 | fn (f : FuncId) (caps : List AV) (vs : List Value) (hl : caps.length = vs.length)
   (h : ∀ (j : Nat) (h1 : j < caps.length) (h2 : j < vs.length), Rep0 F w caps[j] vs[j]) : Rep0 F w (.fn f caps) (.func (.func f) #[] vs.toArray)
 | ag (cs : List AV) (vs : List Value) (hl : cs.length = vs.length)
   (h : ∀ (j : Nat) (h1 : j < cs.length) (h2 : j < vs.length), Rep0 F w cs[j] vs[j]) : Rep0 F w (.ag cs) (.agg vs.toArray)
 | tup (cs : List AV) (vs : List Value) (hl : cs.length = vs.length)
   (h : ∀ (j : Nat) (h1 : j < cs.length) (h2 : j < vs.length), Rep0 F w cs[j] vs[j]) : Rep0 F w (.tup cs) (.tuple vs.toArray)
 | rsnil (sz : Nat) (get : Nat → List AV) : Rep0 F w (.rs sz 0 get) (.slice none 0 0)
 | rsz (sz : Nat) (get : Nat → List AV) (a : Addr) : Rep0 F w (.rs sz 0 get) (.slice (some a) 0 0)
 | rs (sz n : Nat) (get : Nat → List AV) (g off cap : Nat) (vs : Nat → Nat → Value) (hn : n ≤ cap) (hm : cap ≤ maxLen) (hF : ¬ F g) (hg : g < w.heap.size)
   (hlen : ∀ k, k < n → (get k).length = sz)
   (hc : ∀ k j, k < n → j < sz → w.cell? ⟨g, off + k * sz + j, none⟩ = some (vs k j)) (h1 : ∀ k j, k < n → j < sz → (vs k j).oneCell' = true)
   (h : ∀ (k j : Nat) (_ : k < n) (hj : j < (get k).length), Rep0 F w (get k)[j] (vs k j)) : Rep0 F w (.rs sz n get) (.slice (some ⟨g, off, none⟩) n cap)
 | rp (cs : List AV) (g off : Nat) (vs : Nat → Value) (hF : ¬ F g) (hg : g < w.heap.size)
   (hc : ∀ j, j < cs.length → w.cell? ⟨g, off + j, none⟩ = some (vs j)) (h1 : ∀ j, j < cs.length → (vs j).oneCell' = true)
   (h : ∀ (j : Nat) (hj : j < cs.length), Rep0 F w cs[j] (vs j)) : Rep0 F w (.rp cs) (.pointer (some ⟨g, off, none⟩))
 | rmnil (key val : Nat → AV) : Rep0 F w (.rm 0 key val) (.map none)
 | rm (n : Nat) (key val : Nat → AV) (g : Nat) (es : Array MapEntry) (clock : Nat) (hF : ¬ F g) (hg : w.heap[g]? = some (.map es clock)) (hn : es.size = n) (ho : MapOk es clock)
   (hk : ∀ (i : Nat) (_h : i < n) (h2 : i < es.size), Rep0 F w (key i) es[i].key) (hv : ∀ (i : Nat) (_h : i < n) (h2 : i < es.size), Rep0 F w (val i) es[i].val) : Rep0 F w (.rm n key val) (.map (some g))
theorem Rep0.stable {F F' : Nat → Prop} {w w' : World} {a : AV} {v : Value} (h : Rep0 F w a v)
  (hF : ∀ g, g < w.heap.size → ¬ F g → ¬ F' g) (hw : ∀ g, g < w.heap.size → ¬ F g → w'.heap[g]? = w.heap[g]?) (hs : w.heap.size ≤ w'.heap.size) : Rep0 F' w' a v := by
 induction h with
 | b c => exact .b c
 | i k n => exact .i k n
 | s x => exact .s x
 | val v => exact .val v
 | u v => exact .u v
 | fn f caps vs hl h ih => exact .fn f caps vs hl ih
 | ag cs vs hl h ih => exact .ag cs vs hl ih
 | tup cs vs hl h ih => exact .tup cs vs hl ih
 | rsnil sz get => exact .rsnil sz get
 | rsz sz get a => exact .rsz sz get a
 | rs sz n get g off cap vs hn hm hFg hg hlen hc h1 h ih =>
  exact .rs sz n get g off cap vs hn hm (hF g hg hFg) (Nat.lt_of_lt_of_le hg hs) hlen (fun k j hk hj => by rw [World.cell?_of_block (w := w) (hw g hg hFg)]; exact hc k j hk hj) h1 ih
 | rp cs g off vs hFg hg hc h1 h ih =>
  exact .rp cs g off vs (hF g hg hFg) (Nat.lt_of_lt_of_le hg hs) (fun j hj => by rw [World.cell?_of_block (w := w) (hw g hg hFg)]; exact hc j hj) h1 ih
 | rmnil key val => exact .rmnil key val
 | rm n key val g es clock hFg hg hn ho hk hv ihk ihv =>
  have hlt := (Array.getElem?_eq_some_iff.1 hg).1
  exact .rm n key val g es clock (hF g hlt hFg) (by rw [hw g hlt hFg]; exact hg) hn ho ihk ihv
inductive KD where
 | row (e : TypeId) (sz n : Nat) (get : Nat → List AV)
 | cells (e : TypeId) (cs : List AV)
inductive AO where
 | cells (e : TypeId) (cs : List AV)
 | row (e : TypeId) (sz n : Nat) (get : Nat → List AV)
 | mp (n : Nat) (key val : Nat → AV) (born : Nat → Nat) (clock : Nat)
 | it (mid since : Nat) (seen : List Nat)
 | ir (n : Nat) (key val : Nat → AV) (seen : Nat → Bool) (last : Option Nat)
 | mr (n : Nat) (key : Nat → AV) (kid : Nat → KD) (born : Nat → Nat) (clock aux : Nat) (hole : Option (Nat × Nat))
 | dead
structure Bd where
 blk : Nat → Nat
 val : Nat → Value
def SvOk (b : Value) (sz lo n : Nat) (v : Value) : Prop :=
 (v = .slice none 0 0 ∧ n = 0 ∧ b = .slice none 0 0) ∨ (∃ a, v = .slice (some a) 0 0 ∧ n = 0 ∧ ∃ a' m c, b = .slice a' m c ∧ c ≤ lo) ∨
  ∃ g off m c, b = .slice (some ⟨g, off, none⟩) m c ∧ lo < c ∧ lo + n ≤ m ∧ v = .slice (some ⟨g, off + lo * sz, none⟩) n (c - lo)
theorem SvOk.one {b : Value} {sz lo n : Nat} {v : Value} (h : SvOk b sz lo n v) : v.oneCell' = true := by
 rcases h with ⟨rfl, _⟩ | ⟨a, rfl, _⟩ | ⟨g, off, m, c, _, _, _, rfl⟩ <;> rfl
inductive Rep (β : Bd) (n : Nat) (F : Nat → Prop) (w : World) : AV → Value → Prop
 | pure (a : AV) (v : Value) (h : Rep0 F w a v) : Rep β n F w a v
 | p (id off : Nat) (hi : id < n) : Rep β n F w (.p id off) (.pointer (some ⟨β.blk id, off, none⟩))
 | so (id : Nat) (hi : id < n) (h1 : (β.val id).oneCell' = true) : Rep β n F w (.so id) (β.val id)
 | pe (id sz idx off g o m c : Nat) (hi : id < n) (h : β.val id = .slice (some ⟨g, o, none⟩) m c) : Rep β n F w (.pe id sz idx off) (.pointer (some ⟨g, o + (idx * sz + off), none⟩))
 | mo (id : Nat) (hi : id < n) : Rep β n F w (.mo id) (.map (some (β.blk id)))
 | sv (id sz lo m : Nat) (v : Value) (hi : id < n) (h : SvOk (β.val id) sz lo m v) : Rep β n F w (.sv id sz lo m) v
 | sc (id off m cap : Nat) (hi : id < n) (hm : m ≤ cap) (hc : cap ≤ maxLen) : Rep β n F w (.sc id off m cap) (.slice (some ⟨β.blk id, off, none⟩) m cap)
 | fn (f : FuncId) (caps : List AV) (vs : List Value) (hl : caps.length = vs.length)
   (h : ∀ (j : Nat) (h1 : j < caps.length) (h2 : j < vs.length), Rep β n F w caps[j] vs[j]) : Rep β n F w (.fn f caps) (.func (.func f) #[] vs.toArray)
 | ag (cs : List AV) (vs : List Value) (hl : cs.length = vs.length)
   (h : ∀ (j : Nat) (h1 : j < cs.length) (h2 : j < vs.length), Rep β n F w cs[j] vs[j]) : Rep β n F w (.ag cs) (.agg vs.toArray)
 | tup (cs : List AV) (vs : List Value) (hl : cs.length = vs.length)
   (h : ∀ (j : Nat) (h1 : j < cs.length) (h2 : j < vs.length), Rep β n F w cs[j] vs[j]) : Rep β n F w (.tup cs) (.tuple vs.toArray)
theorem Rep.stable {β : Bd} {n : Nat} {F F' : Nat → Prop} {w w' : World} {a : AV} {v : Value} (h : Rep β n F w a v)
  (hF : ∀ g, g < w.heap.size → ¬ F g → ¬ F' g) (hw : ∀ g, g < w.heap.size → ¬ F g → w'.heap[g]? = w.heap[g]?) (hs : w.heap.size ≤ w'.heap.size) : Rep β n F' w' a v := by
 induction h with
 | pure a v h => exact .pure a v (h.stable hF hw hs)
 | p id off hi => exact .p id off hi
 | so id hi h1 => exact .so id hi h1
 | pe id sz idx off g o n c hi h => exact .pe id sz idx off g o n c hi h
 | mo id hi => exact .mo id hi
 | sv id sz lo m v hi h => exact .sv id sz lo m v hi h
 | sc id off m cap hi hm hc => exact .sc id off m cap hi hm hc
 | fn f caps vs hl h ih => exact .fn f caps vs hl ih
 | ag cs vs hl h ih => exact .ag cs vs hl ih
 | tup cs vs hl h ih => exact .tup cs vs hl ih
theorem Rep.more {β : Bd} {n n' : Nat} {F : Nat → Prop} {w : World} {a : AV} {v : Value} (h : Rep β n F w a v) (hn : n ≤ n') : Rep β n' F w a v := by
 induction h with
 | pure a v h => exact .pure a v h
 | p id off hi => exact .p id off (Nat.lt_of_lt_of_le hi hn)
 | so id hi h1 => exact .so id (Nat.lt_of_lt_of_le hi hn) h1
 | pe id sz idx off g o m c hi h => exact .pe id sz idx off g o m c (Nat.lt_of_lt_of_le hi hn) h
 | mo id hi => exact .mo id (Nat.lt_of_lt_of_le hi hn)
 | sv id sz lo m v hi h => exact .sv id sz lo m v (Nat.lt_of_lt_of_le hi hn) h
 | sc id off m cap hi hm hc => exact .sc id off m cap (Nat.lt_of_lt_of_le hi hn) hm hc
 | fn f caps vs hl h ih => exact .fn f caps vs hl ih
 | ag cs vs hl h ih => exact .ag cs vs hl ih
 | tup cs vs hl h ih => exact .tup cs vs hl ih
theorem blt_lt {a b : Nat} (h : Nat.blt a b = true) : a < b := by simpa [Nat.blt_eq] using h
theorem Rep.less {β : Bd} {n m : Nat} {F : Nat → Prop} {w : World} {a : AV} {v : Value} (h : Rep β n F w a v) (hl : a.lt m = true) : Rep β m F w a v := by
 induction h with
 | pure a v h => exact .pure a v h
 | p id off hi => exact .p id off (blt_lt (by simpa [AV.lt] using hl))
 | so id hi h1 => exact .so id (blt_lt (by simpa [AV.lt] using hl)) h1
 | pe id sz idx off g o n c hi h => exact .pe id sz idx off g o n c (blt_lt (by simpa [AV.lt] using hl)) h
 | mo id hi => exact .mo id (blt_lt (by simpa [AV.lt] using hl))
 | sv id sz lo m v hi h => exact .sv id sz lo m v (blt_lt (by simpa [AV.lt] using hl)) h
 | sc id off m cap hi hm hc => exact .sc id off m cap (blt_lt (by simpa [AV.lt] using hl)) hm hc
 | fn f caps vs hl' h ih => exact .fn f caps vs hl' fun j h1 h2 => ih j h1 h2 (AV.lts_get (by simpa [AV.lt] using hl) j h1)
 | ag cs vs hl' h ih => exact .ag cs vs hl' fun j h1 h2 => ih j h1 h2 (AV.lts_get (by simpa [AV.lt] using hl) j h1)
 | tup cs vs hl' h ih => exact .tup cs vs hl' fun j h1 h2 => ih j h1 h2 (AV.lts_get (by simpa [AV.lt] using hl) j h1)
theorem Rep.same {β β' : Bd} {n : Nat} {F : Nat → Prop} {w : World} {a : AV} {v : Value} (h : Rep β n F w a v)
  (hb : ∀ id, id < n → β'.blk id = β.blk id ∧ β'.val id = β.val id) : Rep β' n F w a v := by
 induction h with
 | pure a v h => exact .pure a v h
 | p id off hi => rw [← (hb id hi).1]; exact .p id off hi
 | so id hi h1 => rw [← (hb id hi).2] at h1 ⊢; exact .so id hi h1
 | pe id sz idx off g o m c hi h => exact .pe id sz idx off g o m c hi ((hb id hi).2.trans h)
 | mo id hi => rw [← (hb id hi).1]; exact .mo id hi
 | sv id sz lo m v hi h => exact .sv id sz lo m v hi (by rw [(hb id hi).2]; exact h)
 | sc id off m cap hi hm hc => rw [← (hb id hi).1]; exact .sc id off m cap hi hm hc
 | fn f caps vs hl' h ih => exact .fn f caps vs hl' ih
 | ag cs vs hl' h ih => exact .ag cs vs hl' ih
 | tup cs vs hl' h ih => exact .tup cs vs hl' ih
mutual
def AV.ren (ρ : Nat → Nat) : AV → AV
 | .p id off => .p (ρ id) off
 | .so id => .so (ρ id)
 | .pe id sz idx off => .pe (ρ id) sz idx off
 | .mo id => .mo (ρ id)
 | .sv id sz lo n => .sv (ρ id) sz lo n
 | .sc id off n c => .sc (ρ id) off n c
 | .rm n ks xs => .rm n ks xs
 | .fn f cs => .fn f (AV.rens ρ cs)
 | .ag cs => .ag (AV.rens ρ cs)
 | .tup cs => .tup (AV.rens ρ cs)
 | .b c => .b c
 | .i k n => .i k n
 | .s x => .s x
 | .val v => .val v
 | .u => .u
 | .rs sz n get => .rs sz n get
 | .rp cs => .rp cs
def AV.rens (ρ : Nat → Nat) : List AV → List AV
 | [] => []
 | c :: r => AV.ren ρ c :: AV.rens ρ r
end
theorem AV.length_rens (ρ : Nat → Nat) : ∀ l : List AV, (AV.rens ρ l).length = l.length
 | [] => rfl
 | c :: r => by simp [AV.rens, AV.length_rens ρ r]
theorem AV.rens_get (ρ : Nat → Nat) : ∀ (l : List AV) (j : Nat) (h : j < (AV.rens ρ l).length) (h' : j < l.length), (AV.rens ρ l)[j] = AV.ren ρ l[j]
 | [], j, h, _ => by simp [AV.rens] at h
 | c :: r, 0, _, _ => by simp [AV.rens]
 | c :: r, j + 1, h, h' => by
  simp only [AV.rens, List.getElem_cons_succ]
  exact AV.rens_get ρ r j _ _
theorem Rep0.unren {F : Nat → Prop} {w : World} {a : AV} {v : Value} (h : Rep0 F w a v) (ρ : Nat → Nat) : Rep0 F w (a.ren ρ) v := by
 induction h with
 | b c => exact .b c
 | i k n => exact .i k n
 | s x => exact .s x
 | val v => exact .val v
 | u v => exact .u v
 | fn f caps vs hl h ih => exact .fn f _ vs ((AV.length_rens ρ caps).trans hl) fun j h1 h2 => by rw [AV.rens_get ρ caps j h1 (by rw [AV.length_rens] at h1; exact h1)]; exact ih j _ h2
 | ag caps vs hl h ih => exact .ag _ vs ((AV.length_rens ρ caps).trans hl) fun j h1 h2 => by rw [AV.rens_get ρ caps j h1 (by rw [AV.length_rens] at h1; exact h1)]; exact ih j _ h2
 | tup caps vs hl h ih => exact .tup _ vs ((AV.length_rens ρ caps).trans hl) fun j h1 h2 => by rw [AV.rens_get ρ caps j h1 (by rw [AV.length_rens] at h1; exact h1)]; exact ih j _ h2
 | rsnil sz get => exact .rsnil sz get
 | rsz sz get a => exact .rsz sz get a
 | rs sz n get g off cap vs hn hm hFg hg hlen hc h1 h ih => exact .rs sz n get g off cap vs hn hm hFg hg hlen hc h1 h
 | rp cs g off vs hFg hg hc h1 h ih => exact .rp cs g off vs hFg hg hc h1 h
 | rmnil key val => exact .rmnil key val
 | rm n key val g es clock hFg hg hn ho hk hv ihk ihv => exact .rm n key val g es clock hFg hg hn ho hk hv
theorem Rep.unren {β β' : Bd} {n n' : Nat} {F : Nat → Prop} {w : World} {a : AV} {v : Value} (h : Rep β n F w a v) (ρ : Nat → Nat)
  (hb : ∀ id, id < n → ρ id < n' ∧ β'.blk (ρ id) = β.blk id ∧ β'.val (ρ id) = β.val id) : Rep β' n' F w (a.ren ρ) v := by
 induction h with
 | pure a v h => exact .pure _ v (h.unren ρ)
 | p id off hi => rw [← (hb id hi).2.1]; exact .p _ off (hb id hi).1
 | so id hi h1 => rw [← (hb id hi).2.2] at h1 ⊢; exact .so _ (hb id hi).1 h1
 | pe id sz idx off g o m c hi h => exact .pe _ sz idx off g o m c (hb id hi).1 ((hb id hi).2.2.trans h)
 | mo id hi => rw [← (hb id hi).2.1]; exact .mo _ (hb id hi).1
 | sv id sz lo m v hi h => exact .sv _ sz lo m v (hb id hi).1 (by rw [(hb id hi).2.2]; exact h)
 | sc id off m cap hi hm hc => rw [← (hb id hi).2.1]; exact .sc _ off m cap (hb id hi).1 hm hc
 | fn f caps vs hl h ih => exact .fn f _ vs ((AV.length_rens ρ caps).trans hl) fun j h1 h2 => by rw [AV.rens_get ρ caps j h1 (by rw [AV.length_rens] at h1; exact h1)]; exact ih j _ h2
 | ag caps vs hl h ih => exact .ag _ vs ((AV.length_rens ρ caps).trans hl) fun j h1 h2 => by rw [AV.rens_get ρ caps j h1 (by rw [AV.length_rens] at h1; exact h1)]; exact ih j _ h2
 | tup caps vs hl h ih => exact .tup _ vs ((AV.length_rens ρ caps).trans hl) fun j h1 h2 => by rw [AV.rens_get ρ caps j h1 (by rw [AV.length_rens] at h1; exact h1)]; exact ih j _ h2
theorem Rep0.ren' {F : Nat → Prop} {w : World} {ρ : Nat → Nat} {a' : AV} {v : Value} (h : Rep0 F w a' v) : ∀ a : AV, a.ren ρ = a' → Rep0 F w a v := by
 induction h with
 | b c => intro a e; cases a <;> simp [AV.ren] at e; subst e; exact .b _
 | i k n => intro a e; cases a <;> simp [AV.ren] at e; obtain ⟨rfl, rfl⟩ := e; exact .i _ _
 | s x => intro a e; cases a <;> simp [AV.ren] at e; subst e; exact .s _
 | val v => intro a e; cases a <;> simp [AV.ren] at e; subst e; exact .val _
 | u v => intro a e; cases a <;> simp [AV.ren] at e; exact .u _
 | fn f caps vs hl h ih =>
  intro a e; cases a <;> simp [AV.ren] at e
  rename_i f' cs; obtain ⟨rfl, rfl⟩ := e
  rw [AV.length_rens] at hl
  exact .fn _ _ vs hl fun j h1 h2 => ih j (by rw [AV.length_rens]; exact h1) h2 _ (AV.rens_get ρ cs j _ h1).symm
 | ag caps vs hl h ih =>
  intro a e; cases a <;> simp [AV.ren] at e
  rename_i cs; subst e
  rw [AV.length_rens] at hl
  exact .ag _ vs hl fun j h1 h2 => ih j (by rw [AV.length_rens]; exact h1) h2 _ (AV.rens_get ρ cs j _ h1).symm
 | tup caps vs hl h ih =>
  intro a e; cases a <;> simp [AV.ren] at e
  rename_i cs; subst e
  rw [AV.length_rens] at hl
  exact .tup _ vs hl fun j h1 h2 => ih j (by rw [AV.length_rens]; exact h1) h2 _ (AV.rens_get ρ cs j _ h1).symm
 | rsnil sz get => intro a e; cases a <;> simp [AV.ren] at e; obtain ⟨rfl, rfl, rfl⟩ := e; exact .rsnil _ _
 | rsz sz get ad => intro a e; cases a <;> simp [AV.ren] at e; obtain ⟨rfl, rfl, rfl⟩ := e; exact .rsz _ _ ad
 | rs sz n get g off cap vs hn hm hFg hg hlen hc h1 h ih => intro a e; cases a <;> simp [AV.ren] at e; obtain ⟨rfl, rfl, rfl⟩ := e; exact .rs _ _ _ g off cap vs hn hm hFg hg hlen hc h1 h
 | rp cs g off vs hFg hg hc h1 h ih => intro a e; cases a <;> simp [AV.ren] at e; subst e; exact .rp _ g off vs hFg hg hc h1 h
 | rmnil key val => intro a e; cases a <;> simp [AV.ren] at e; obtain ⟨rfl, rfl, rfl⟩ := e; exact .rmnil _ _
 | rm n key val g es clock hFg hg hn ho hk hv ihk ihv => intro a e; cases a <;> simp [AV.ren] at e; obtain ⟨rfl, rfl, rfl⟩ := e; exact .rm _ _ _ g es clock hFg hg hn ho hk hv
theorem Rep.ren' {β : Bd} {n m : Nat} {F : Nat → Prop} {w : World} {ρ : Nat → Nat} {a' : AV} {v : Value} (h : Rep β n F w a' v) :
  ∀ a : AV, a.ren ρ = a' → a.lt m = true → Rep ⟨fun id => β.blk (ρ id), fun id => β.val (ρ id)⟩ m F w a v := by
 induction h with
 | pure a v h => intro a e _; exact .pure _ _ (h.ren' a e)
 | p id off hi => intro a e l; cases a <;> simp [AV.ren] at e; obtain ⟨rfl, rfl⟩ := e; exact Rep.p (β := ⟨fun id => β.blk (ρ id), fun id => β.val (ρ id)⟩) _ _ (blt_lt (by simpa [AV.lt] using l))
 | so id hi h1 => intro a e l; cases a <;> simp [AV.ren] at e; subst e; exact Rep.so (β := ⟨fun id => β.blk (ρ id), fun id => β.val (ρ id)⟩) _ (blt_lt (by simpa [AV.lt] using l)) h1
 | pe id sz idx off g o m c hi h => intro a e l; cases a <;> simp [AV.ren] at e; obtain ⟨rfl, rfl, rfl, rfl⟩ := e; exact .pe _ _ _ _ g o m c (blt_lt (by simpa [AV.lt] using l)) h
 | sv id sz lo k v hi h => intro a e l; cases a <;> simp [AV.ren] at e; obtain ⟨rfl, rfl, rfl, rfl⟩ := e; exact .sv _ _ _ _ v (blt_lt (by simpa [AV.lt] using l)) h
 | sc id off k cap hi hk hc => intro a e l; cases a <;> simp [AV.ren] at e; obtain ⟨rfl, rfl, rfl, rfl⟩ := e; exact Rep.sc (β := ⟨fun id => β.blk (ρ id), fun id => β.val (ρ id)⟩) _ _ _ _ (blt_lt (by simpa [AV.lt] using l)) hk hc
 | mo id hi => intro a e l; cases a <;> simp [AV.ren] at e; subst e; exact Rep.mo (β := ⟨fun id => β.blk (ρ id), fun id => β.val (ρ id)⟩) _ (blt_lt (by simpa [AV.lt] using l))
 | fn f caps vs hl h ih =>
  intro a e l; cases a <;> simp [AV.ren] at e
  rename_i f' cs; obtain ⟨rfl, rfl⟩ := e
  rw [AV.length_rens] at hl
  exact .fn _ _ vs hl fun j h1 h2 => ih j (by rw [AV.length_rens]; exact h1) h2 _ (AV.rens_get ρ cs j _ h1).symm (AV.lts_get (by simpa [AV.lt] using l) j h1)
 | ag caps vs hl h ih =>
  intro a e l; cases a <;> simp [AV.ren] at e
  rename_i cs; subst e
  rw [AV.length_rens] at hl
  exact .ag _ vs hl fun j h1 h2 => ih j (by rw [AV.length_rens]; exact h1) h2 _ (AV.rens_get ρ cs j _ h1).symm (AV.lts_get (by simpa [AV.lt] using l) j h1)
 | tup caps vs hl h ih =>
  intro a e l; cases a <;> simp [AV.ren] at e
  rename_i cs; subst e
  rw [AV.length_rens] at hl
  exact .tup _ vs hl fun j h1 h2 => ih j (by rw [AV.length_rens]; exact h1) h2 _ (AV.rens_get ρ cs j _ h1).symm (AV.lts_get (by simpa [AV.lt] using l) j h1)
section
variable {β : Bd} {n : Nat} {F : Nat → Prop} {w : World} {v : Value}
theorem Rep.b_inv {c : Bool} (h : Rep β n F w (.b c) v) : v = .bool c := by cases h with | pure _ _ h => cases h; rfl
theorem Rep.i_inv {k : IntKind} {m : Int} (h : Rep β n F w (.i k m) v) : v = .int k m := by cases h with | pure _ _ h => cases h; rfl
theorem Rep.s_inv {x : ByteArray} (h : Rep β n F w (.s x) v) : v = .string x := by cases h with | pure _ _ h => cases h; rfl
theorem Rep.val_inv {x : Value} (h : Rep β n F w (.val x) v) : v = x := by cases h with | pure _ _ h => cases h; rfl
theorem Rep.p_inv {id off : Nat} (h : Rep β n F w (.p id off) v) : id < n ∧ v = .pointer (some ⟨β.blk id, off, none⟩) := by
 cases h with
 | pure _ _ h => cases h
 | p _ _ hi => exact ⟨hi, rfl⟩
theorem Rep.so_inv {id : Nat} (h : Rep β n F w (.so id) v) : id < n ∧ v = β.val id := by
 cases h with
 | pure _ _ h => cases h
 | so _ hi _ => exact ⟨hi, rfl⟩
theorem Rep.mo_inv {id : Nat} (h : Rep β n F w (.mo id) v) : id < n ∧ v = .map (some (β.blk id)) := by
 cases h with
 | pure _ _ h => cases h
 | mo _ hi => exact ⟨hi, rfl⟩
theorem Rep.pe_inv {id sz idx off : Nat} (h : Rep β n F w (.pe id sz idx off) v) : id < n ∧ ∃ g o m c, β.val id = .slice (some ⟨g, o, none⟩) m c ∧ v = .pointer (some ⟨g, o + (idx * sz + off), none⟩) := by
 cases h with
 | pure _ _ h => cases h
 | pe _ _ _ _ g o m c hi h => exact ⟨hi, g, o, m, c, h, rfl⟩
theorem Rep.sv_inv {id sz lo m : Nat} (h : Rep β n F w (.sv id sz lo m) v) : id < n ∧ SvOk (β.val id) sz lo m v := by
 cases h with
 | pure _ _ h => cases h
 | sv _ _ _ _ _ hi h => exact ⟨hi, h⟩
theorem Rep.sc_inv {id off m cap : Nat} (h : Rep β n F w (.sc id off m cap) v) : id < n ∧ m ≤ cap ∧ cap ≤ maxLen ∧ v = .slice (some ⟨β.blk id, off, none⟩) m cap := by
 cases h with
 | pure _ _ h => cases h
 | sc _ _ _ _ hi hm hc => exact ⟨hi, hm, hc, rfl⟩
theorem Rep.rm_inv {m : Nat} {key val : Nat → AV} (h : Rep β n F w (.rm m key val) v) : Rep0 F w (.rm m key val) v := by
 cases h with | pure _ _ h => exact h
theorem Rep.rs_inv {sz m : Nat} {get : Nat → List AV} (h : Rep β n F w (.rs sz m get) v) : Rep0 F w (.rs sz m get) v := by
 cases h with | pure _ _ h => exact h
theorem Rep.rp_inv {cs : List AV} (h : Rep β n F w (.rp cs) v) : Rep0 F w (.rp cs) v := by
 cases h with | pure _ _ h => exact h
theorem Rep.ag_inv {cs : List AV} (h : Rep β n F w (.ag cs) v) : ∃ vs : List Value, v = .agg vs.toArray ∧ cs.length = vs.length ∧ ∀ (j : Nat) (h1 : j < cs.length) (h2 : j < vs.length), Rep β n F w cs[j] vs[j] := by
 cases h with
 | pure _ _ h => cases h with | ag _ vs hl h => exact ⟨vs, rfl, hl, fun j h1 h2 => .pure _ _ (h j h1 h2)⟩
 | ag _ vs hl h => exact ⟨vs, rfl, hl, h⟩
theorem Rep.tup_inv {cs : List AV} (h : Rep β n F w (.tup cs) v) : ∃ vs : List Value, v = .tuple vs.toArray ∧ cs.length = vs.length ∧ ∀ (j : Nat) (h1 : j < cs.length) (h2 : j < vs.length), Rep β n F w cs[j] vs[j] := by
 cases h with
 | pure _ _ h => cases h with | tup _ vs hl h => exact ⟨vs, rfl, hl, fun j h1 h2 => .pure _ _ (h j h1 h2)⟩
 | tup _ vs hl h => exact ⟨vs, rfl, hl, h⟩
theorem Rep.fn_inv {f : FuncId} {cs : List AV} (h : Rep β n F w (.fn f cs) v) : ∃ vs : List Value, v = .func (.func f) #[] vs.toArray ∧ cs.length = vs.length ∧ ∀ (j : Nat) (h1 : j < cs.length) (h2 : j < vs.length), Rep β n F w cs[j] vs[j] := by
 cases h with
 | pure _ _ h => cases h with | fn _ _ vs hl h => exact ⟨vs, rfl, hl, fun j h1 h2 => .pure _ _ (h j h1 h2)⟩
 | fn _ _ vs hl h => exact ⟨vs, rfl, hl, h⟩
theorem Rep.toPure {a : AV} (h : Rep β n F w a v) (hl : a.lt 0 = true) : Rep0 F w a v := by
 induction h with
 | pure a v h => exact h
 | p id off hi => simp [AV.lt] at hl
 | so id hi _ => simp [AV.lt] at hl
 | pe id sz idx off g o m c hi h => simp [AV.lt] at hl
 | mo id hi => simp [AV.lt] at hl
 | sv id sz lo m v hi h => simp [AV.lt] at hl
 | sc id off m cap hi hm hc => simp [AV.lt] at hl
 | fn f caps vs hl' h ih => exact .fn _ _ vs hl' fun j h1 h2 => ih j h1 h2 (AV.lts_get (by simpa [AV.lt] using hl) j h1)
 | ag caps vs hl' h ih => exact .ag _ vs hl' fun j h1 h2 => ih j h1 h2 (AV.lts_get (by simpa [AV.lt] using hl) j h1)
 | tup caps vs hl' h ih => exact .tup _ vs hl' fun j h1 h2 => ih j h1 h2 (AV.lts_get (by simpa [AV.lt] using hl) j h1)
end
def blkOf : Value → Option Nat
 | .slice (some a) _ (_ + 1) => some a.block
 | _ => none
def RowAt (w : World) (e : TypeId) (sz : Nat) (v : Value) (n : Nat) (xs : List Value) : Prop :=
 xs.length = n * sz ∧ ((v = .slice none 0 0 ∧ n = 0) ∨ (∃ a, v = .slice (some a) 0 0 ∧ n = 0) ∨
  ∃ g off cap cur, v = .slice (some ⟨g, off, none⟩) n (cap + 1) ∧ w.heap[g]? = some (.cells cur e (0, 0)) ∧ n ≤ cap + 1 ∧ cap + 1 ≤ maxLen ∧ off + (cap + 1) * sz ≤ cur.size ∧
   (cur.toList.drop off).take (n * sz) = xs)
theorem RowAt.one {w : World} {e : TypeId} {sz : Nat} {v : Value} {n : Nat} {xs : List Value} (h : RowAt w e sz v n xs) : v.oneCell' = true := by
 rcases h.2 with ⟨rfl, _⟩ | ⟨a, rfl, _⟩ | ⟨g, off, cap, cur, rfl, _⟩ <;> rfl
theorem RowAt.lt {w : World} {e : TypeId} {sz : Nat} {v : Value} {n : Nat} {xs : List Value} (h : RowAt w e sz v n xs) {g : Nat} (hg : blkOf v = some g) : g < w.heap.size := by
 rcases h.2 with ⟨rfl, _⟩ | ⟨a, rfl, _⟩ | ⟨g', off, cap, cur, rfl, hh, _⟩
 ·cases hg
 ·cases hg
 ·simp only [blkOf, Option.some.injEq] at hg
  subst hg
  exact (Array.getElem?_eq_some_iff.1 hh).1
theorem RowAt.stable {w w' : World} {e : TypeId} {sz : Nat} {v : Value} {n : Nat} {xs : List Value} (h : RowAt w e sz v n xs) (hw : ∀ g, blkOf v = some g → w'.heap[g]? = w.heap[g]?) : RowAt w' e sz v n xs := by
 refine ⟨h.1, ?_⟩
 rcases h.2 with h | h | ⟨g, off, cap, cur, rfl, hh, hrest⟩
 ·exact .inl h
 ·exact .inr (.inl h)
 ·exact .inr (.inr ⟨g, off, cap, cur, rfl, by rw [hw g rfl]; exact hh, hrest⟩)
theorem RowAt.cells {w : World} {e : TypeId} {sz : Nat} {v : Value} {n : Nat} {xs : List Value} (h : RowAt w e sz v n xs) (hn : 0 < xs.length) :
  ∃ g off cap cur, v = .slice (some ⟨g, off, none⟩) n (cap + 1) ∧ w.heap[g]? = some (.cells cur e (0, 0)) ∧ n ≤ cap + 1 ∧ cap + 1 ≤ maxLen ∧ off + (cap + 1) * sz ≤ cur.size ∧ (cur.toList.drop off).take (n * sz) = xs ∧
   ∀ j u, xs[j]? = some u → w.cell? ⟨g, off + j, none⟩ = some u := by
 rcases h.2 with ⟨_, rfl⟩ | ⟨a, _, rfl⟩ | ⟨g, off, cap, cur, rfl, hh, hnc, hcm, hcs, htake⟩
 ·have := h.1; omega
 ·have := h.1; omega
 ·refine ⟨g, off, cap, cur, rfl, hh, hnc, hcm, hcs, htake, fun j u hu => ?_⟩
  rw [← htake, List.getElem?_take] at hu
  split at hu
  ·rw [List.getElem?_drop] at hu
   rw [cell_of_row w _ _ _ _ _ hh]
   simpa using hu
  ·cases hu
theorem RowAt.of_owns {w : World} {base : Nat} {e : TypeId} {sz : Nat} {v : Value} {n : Nat} {xs : List Value} (h : w.ownsRow base e sz v n xs) : RowAt w e sz v n xs ∧ ∀ g, blkOf v = some g → base ≤ g := by
 rcases h.2 with ⟨rfl, h0⟩ | ⟨g, cap, cur, rfl, hb, hh, hnc, hcm, hcs, htake⟩
 ·exact ⟨⟨h.1, .inl ⟨rfl, h0⟩⟩, fun g hg => by cases hg⟩
 ·cases cap with
  | zero =>
   have hn : n = 0 := by omega
   subst hn
   exact ⟨⟨h.1, .inr (.inl ⟨_, rfl, rfl⟩)⟩, fun g hg => by cases hg⟩
  | succ cap =>
   exact ⟨⟨h.1, .inr (.inr ⟨g, 0, cap, cur, rfl, hh, hnc, hcm, by omega, by simpa using htake⟩)⟩, fun g' hg => by simp only [blkOf, Option.some.injEq] at hg; omega⟩
def noHole (hole : Option (Nat × Nat)) (i : Nat) : Prop := ∀ h, hole ≠ some (i, h)
def kidV : Value → Nat → Value
 | .agg vs, i => vs.toList.getD i (.slice none 0 0)
 | _, _ => .slice none 0 0
def kidB : Value → Option Nat
 | .pointer (some a) => some a.block
 | v => blkOf v
def kidRef (β : Bd) : KD → Nat → Value
 | .row _ _ _ _, h => β.val h
 | .cells _ _, h => .pointer (some ⟨β.blk h, 0, none⟩)
def KidOk (F : Nat → Prop) (w : World) (v : Value) : KD → Prop
 | .row e sz m get => ∃ xs : List Value, RowAt w e sz v m xs ∧ (∀ k, k < m → (get k).length = sz) ∧
   ∀ (k j : Nat) (_ : k < m) (h1 : j < (get k).length) (h2 : k * sz + j < xs.length), Rep0 F w (get k)[j] xs[k * sz + j] ∧ xs[k * sz + j].oneCell' = true
 | .cells e cs => ∃ (b : Nat) (vs : List Value), v = .pointer (some ⟨b, 0, none⟩) ∧ w.heap[b]? = some (.cells vs.toArray e (0, 0)) ∧ cs.length = vs.length ∧
   ∀ (j : Nat) (h1 : j < cs.length) (h2 : j < vs.length), Rep0 F w cs[j] vs[j] ∧ vs[j].oneCell' = true
theorem kidB_row {w : World} {e : TypeId} {sz : Nat} {v : Value} {n : Nat} {xs : List Value} (h : RowAt w e sz v n xs) : kidB v = blkOf v := by
 rcases h.2 with ⟨rfl, _⟩ | ⟨a, rfl, _⟩ | ⟨g, off, cap, cur, rfl, _⟩ <;> rfl
theorem KidOk.lt {F : Nat → Prop} {w : World} {v : Value} {k : KD} (h : KidOk F w v k) {g : Nat} (hg : kidB v = some g) : g < w.heap.size := by
 cases k with
 | row e sz m get =>
  obtain ⟨xs, hx, _⟩ := h
  rw [kidB_row hx] at hg
  exact hx.lt hg
 | cells e cs =>
  obtain ⟨b, vs, rfl, hh, _⟩ := h
  simp only [kidB, Option.some.injEq] at hg
  subst hg
  exact (Array.getElem?_eq_some_iff.1 hh).1
theorem KidOk.stable {F F' : Nat → Prop} {w w' : World} {v : Value} {k : KD} (h : KidOk F w v k)
  (hF : ∀ g, g < w.heap.size → ¬ F g → ¬ F' g) (hw : ∀ g, g < w.heap.size → ¬ F g → w'.heap[g]? = w.heap[g]?) (hs : w.heap.size ≤ w'.heap.size)
  (hown : ∀ g, kidB v = some g → w'.heap[g]? = w.heap[g]?) : KidOk F' w' v k := by
 cases k with
 | row e sz m get =>
  obtain ⟨xs, hx, hlen, hc⟩ := h
  refine ⟨xs, hx.stable fun g hg => hown g (by rw [kidB_row hx]; exact hg), hlen, fun k j hk h1 h2 => ⟨(hc k j hk h1 h2).1.stable hF hw hs, (hc k j hk h1 h2).2⟩⟩
 | cells e cs =>
  obtain ⟨b, vs, rfl, hh, hl, hc⟩ := h
  exact ⟨b, vs, rfl, by rw [hown b rfl]; exact hh, hl, fun j h1 h2 => ⟨(hc j h1 h2).1.stable hF hw hs, (hc j h1 h2).2⟩⟩
def ObjOk (β : Bd) (n : Nat) (F : Nat → Prop) (w : World) (id : Nat) : AO → Prop
 | .cells e cs => ∃ vs : List Value, w.heap[β.blk id]? = some (.cells vs.toArray e (0, 0)) ∧ cs.length = vs.length ∧
   ∀ (j : Nat) (h1 : j < cs.length) (h2 : j < vs.length), Rep β n F w cs[j] vs[j] ∧ vs[j].oneCell' = true
 | .row e sz m get => ∃ xs : List Value, RowAt w e sz (β.val id) m xs ∧ (∀ k, k < m → (get k).length = sz) ∧
   ∀ (k j : Nat) (_ : k < m) (h1 : j < (get k).length) (h2 : k * sz + j < xs.length), Rep0 F w (get k)[j] xs[k * sz + j] ∧ xs[k * sz + j].oneCell' = true
 | .mp m key val born clock => ∃ es : Array MapEntry, w.heap[β.blk id]? = some (.map es clock) ∧ es.size = m ∧ MapOk es clock ∧
   ∀ (i : Nat) (_ : i < m) (h2 : i < es.size), Rep0 F w (key i) es[i].key ∧ Rep0 F w (val i) es[i].val ∧ es[i].born = born i
 | .it mid since seen => mid < n ∧ w.heap[β.blk id]? = some (.mapIter (some (β.blk mid)) since seen.toArray since)
 | .ir m key val seen last => ∃ (g : Option Nat) (es : Array MapEntry) (clock : Nat) (sn : Array Nat), w.heap[β.blk id]? = some (.mapIter g clock sn clock) ∧ es.size = m ∧ MapOk es clock ∧ (g = none → m = 0) ∧
   (∀ b, g = some b → ¬ F b ∧ w.heap[b]? = some (.map es clock)) ∧
   (∀ (i : Nat) (_ : i < m) (h2 : i < es.size), Rep0 F w (key i) es[i].key ∧ Rep0 F w (val i) es[i].val ∧ sn.contains es[i].born = seen i) ∧
   ∀ i, last = some i → ∃ h : i < es.size, sn.back? = some es[i].born
 | .mr m key kid born clock aux hole => aux < n ∧ (∀ i h, hole = some (i, h) → h < n ∧ i < m) ∧ ∃ es : Array MapEntry, w.heap[β.blk id]? = some (.map es clock) ∧ es.size = m ∧ MapOk es clock ∧
   (∀ (i : Nat) (_ : i < m) (h2 : i < es.size), Rep0 F w (key i) es[i].key ∧ es[i].born = born i) ∧
   (∀ (i : Nat) (_ : i < m) (h2 : i < es.size), noHole hole i → es[i].val = kidV (β.val aux) i ∧ KidOk F w es[i].val (kid i)) ∧
   (∀ (i j g : Nat), i < m → j < m → noHole hole i → noHole hole j → kidB (kidV (β.val aux) i) = some g → kidB (kidV (β.val aux) j) = some g → i = j) ∧
   (∀ (i j : Nat), i < m → j < m → noHole hole i → kidB (kidV (β.val aux) i) ≠ some (β.blk id)) ∧
   ∀ i h (_ : hole = some (i, h)) (h2 : i < es.size), es[i].val = kidRef β (kid i) h ∧ es[i].val.oneCell' = true
 | .dead => True
def wrB (β : Bd) (id : Nat) : AO → Option Nat
 | .cells _ _ => some (β.blk id)
 | .row _ _ _ _ => blkOf (β.val id)
 | .mp _ _ _ _ _ => some (β.blk id)
 | .it _ _ _ => some (β.blk id)
 | .ir _ _ _ _ _ => some (β.blk id)
 | .mr _ _ _ _ _ _ _ => some (β.blk id)
 | .dead => none
def ownB (β : Bd) (id : Nat) : AO → Nat → Prop
 | .cells _ _ => fun g => β.blk id = g
 | .row _ _ _ _ => fun g => blkOf (β.val id) = some g
 | .mp _ _ _ _ _ => fun g => β.blk id = g
 | .it _ _ _ => fun g => β.blk id = g
 | .ir _ _ _ _ _ => fun g => β.blk id = g
 | .mr m _ _ _ _ aux hole => fun g => β.blk id = g ∨ ∃ i, i < m ∧ noHole hole i ∧ kidB (kidV (β.val aux) i) = some g
 | .dead => fun _ => False
theorem ownB_of_wr {β : Bd} {id : Nat} {o : AO} {g : Nat} (h : wrB β id o = some g) : ownB β id o g := by
 cases o with
 | cells _ _ => exact Option.some.inj h
 | row _ _ _ _ => exact h
 | mp _ _ _ _ _ => exact Option.some.inj h
 | it _ _ _ => exact Option.some.inj h
 | ir _ _ _ _ _ => exact Option.some.inj h
 | mr _ _ _ _ _ _ _ => exact .inl (Option.some.inj h)
 | dead => cases h
theorem ObjOk.lt {β : Bd} {n : Nat} {F : Nat → Prop} {w : World} {id : Nat} {o : AO} (h : ObjOk β n F w id o) {g : Nat} (hg : ownB β id o g) : g < w.heap.size := by
 cases o with
 | cells e cs =>
  obtain ⟨vs, hh, _⟩ := h
  simp only [ownB] at hg
  subst hg
  exact (Array.getElem?_eq_some_iff.1 hh).1
 | row e sz m get =>
  obtain ⟨xs, hx, _⟩ := h
  exact hx.lt hg
 | mp m key val born clock =>
  obtain ⟨es, hh, _⟩ := h
  simp only [ownB] at hg
  subst hg
  exact (Array.getElem?_eq_some_iff.1 hh).1
 | it mid since seen =>
  obtain ⟨_, hh⟩ := h
  simp only [ownB] at hg
  subst hg
  exact (Array.getElem?_eq_some_iff.1 hh).1
 | ir m key val seen last =>
  obtain ⟨_, _, _, _, hh, _⟩ := h
  simp only [ownB] at hg
  subst hg
  exact (Array.getElem?_eq_some_iff.1 hh).1
 | mr m key kid born clock aux hole =>
  obtain ⟨_, _, es, hh, hm, _, _, hk, _⟩ := h
  rcases hg with hg | ⟨i, hi, hno, hg⟩
  ·have hg : β.blk id = g := hg
   subst hg
   exact (Array.getElem?_eq_some_iff.1 hh).1
  ·obtain ⟨h1, h2⟩ := hk i hi (by omega) hno
   exact h2.lt (by rw [h1]; exact hg)
 | dead => exact hg.elim
def AO.aux : AO → Option Nat
 | .mr _ _ _ _ _ a _ => some a
 | _ => none
theorem ObjOk.aux_lt {β : Bd} {n : Nat} {F : Nat → Prop} {w : World} {id : Nat} {o : AO} (h : ObjOk β n F w id o) {a : Nat} (ha : o.aux = some a) : a < n := by
 cases o <;> simp [AO.aux] at ha
 subst ha
 exact h.1
theorem ownB_eq {β β' : Bd} {j j' : Nat} {o : AO} (hj : β'.blk j' = β.blk j ∧ β'.val j' = β.val j) (ha : ∀ a, o.aux = some a → β'.val a = β.val a) : ownB β' j' o = ownB β j o := by
 cases o with
 | mr n key kid born clock aux hole => simp only [ownB, hj.1, ha aux rfl]
 | _ => simp only [ownB, hj.1, hj.2]
theorem ObjOk.stable {β β' : Bd} {n n' : Nat} {F F' : Nat → Prop} {w w' : World} {id : Nat} {o : AO} (h : ObjOk β n F w id o) (hid : id < n) (hn : n ≤ n')
  (hb : ∀ i, i < n → β'.blk i = β.blk i ∧ β'.val i = β.val i)
  (hF : ∀ g, g < w.heap.size → ¬ F g → ¬ F' g) (hw : ∀ g, g < w.heap.size → ¬ F g → w'.heap[g]? = w.heap[g]?) (hs : w.heap.size ≤ w'.heap.size)
  (hown : ∀ g, ownB β id o g → w'.heap[g]? = w.heap[g]?) : ObjOk β' n' F' w' id o := by
 cases o with
 | cells e cs =>
  obtain ⟨vs, hh, hl, hc⟩ := h
  refine ⟨vs, by rw [(hb id hid).1, hown _ rfl]; exact hh, hl, fun j h1 h2 => ⟨?_, (hc j h1 h2).2⟩⟩
  exact (((hc j h1 h2).1.stable hF hw hs).same hb).more hn
 | row e sz m get =>
  obtain ⟨xs, hx, hlen, hc⟩ := h
  refine ⟨xs, ?_, hlen, fun k j hk h1 h2 => ⟨(hc k j hk h1 h2).1.stable hF hw hs, (hc k j hk h1 h2).2⟩⟩
  rw [(hb id hid).2]
  exact hx.stable hown
 | mp m key val born clock =>
  obtain ⟨es, hh, hm, ho, hc⟩ := h
  refine ⟨es, by rw [(hb id hid).1, hown _ rfl]; exact hh, hm, ho, fun i hi h2 => ?_⟩
  obtain ⟨h3, h4, h5⟩ := hc i hi h2
  exact ⟨h3.stable hF hw hs, h4.stable hF hw hs, h5⟩
 | it mid since seen =>
  obtain ⟨hm, hh⟩ := h
  refine ⟨Nat.lt_of_lt_of_le hm hn, ?_⟩
  rw [(hb id hid).1, (hb mid hm).1, hown _ rfl]
  exact hh
 | ir m key val seen last =>
  obtain ⟨g, es, clock, sn, hh, hm, ho, hg0, hg, hc, hlast⟩ := h
  refine ⟨g, es, clock, sn, by rw [(hb id hid).1, hown _ rfl]; exact hh, hm, ho, hg0, fun b hb' => ?_, fun i hi h2 => ?_, hlast⟩
  ·obtain ⟨h1, h2⟩ := hg b hb'
   have hlt := (Array.getElem?_eq_some_iff.1 h2).1
   exact ⟨hF b hlt h1, by rw [hw b hlt h1]; exact h2⟩
  ·obtain ⟨h3, h4, h5⟩ := hc i hi h2
   exact ⟨h3.stable hF hw hs, h4.stable hF hw hs, h5⟩
 | mr m key kid born clock aux hole =>
  obtain ⟨ha, hho, es, hh, hm, ho, hkey, hk, hd, hne, hr⟩ := h
  refine ⟨Nat.lt_of_lt_of_le ha hn, fun i h e => ⟨Nat.lt_of_lt_of_le (hho i h e).1 hn, (hho i h e).2⟩, es, by rw [(hb id hid).1, hown _ (.inl rfl)]; exact hh, hm, ho, fun i hi h2 => ⟨(hkey i hi h2).1.stable hF hw hs, (hkey i hi h2).2⟩, fun i hi h2 hno => ?_, ?_, ?_, fun i h e h2 => ?_⟩
  ·obtain ⟨h3, h4⟩ := hk i hi h2 hno
   rw [(hb aux ha).2]
   exact ⟨h3, h4.stable hF hw hs fun g hg => hown g (.inr ⟨i, hi, hno, by rw [← h3]; exact hg⟩)⟩
  ·rw [(hb aux ha).2]; exact hd
  ·rw [(hb aux ha).2, (hb id hid).1]; exact hne
  ·refine ⟨?_, (hr i h e h2).2⟩
   rw [(hr i h e h2).1]
   have := hb h (hho i h e).1
   cases kid i <;> simp [kidRef, this.1, this.2]
 | dead => trivial
end Go.Eng
end

section
namespace Go.Eng
open Go.RowKit
structure TI where
 desc : TypeDesc
 agg : Bool
 size : Nat
 bytes : Nat
 zero : Value
 cmp : Bool
def tget (t : Nat) : List (Nat × TI) → Option TI
 | [] => none
 | (s, x) :: r => match Nat.beq s t with
  | true => some x
  | false => tget t r
def isAggD : TypeDesc → Bool
 | .struct _ | .array _ _ => true
 | _ => false
def TIOk (P : Program) (t : TypeId) (ti : TI) : Prop :=
 P.underlying t = some ti.desc ∧ isAggD ti.desc = ti.agg ∧ ∃ i, P.info? t = some i ∧ i.size = ti.size ∧ i.bytes = ti.bytes ∧ i.zero = some ti.zero
def structCmpB (P : Program) (t : TypeId) : Bool :=
 match P.underlying t with
 | some (.struct fs) => (fs.toList.all fun f => f.name != "_") && (!P.stoodInHeld t && !P.eqGuardType P.depth t)
 | _ => false
def TabOk (P : Program) : List (Nat × TI) → Prop
 | [] => P.follows .mixedOrders = true
 | (t, ti) :: r => (TIOk P t ti ∧ (ti.cmp = true → structCmpB P t = true)) ∧ TabOk P r
theorem TabOk.mixed {P : Program} : ∀ {T : List (Nat × TI)}, TabOk P T → P.follows .mixedOrders = true
 | [], h => h
 | _ :: _, h => TabOk.mixed h.2
theorem TabOk.get {P : Program} : ∀ {T : List (Nat × TI)}, TabOk P T → ∀ {t : Nat} {ti : TI}, tget t T = some ti → TIOk P t ti
 | [], _, t, ti, h => by cases h
 | (s, x) :: r, hT, t, ti, h => by
  unfold tget at h
  split at h
  ·rename_i hb
   have : s = t := by simpa using hb
   subst this
   cases h
   exact hT.1.1
  ·exact TabOk.get hT.2 h
theorem TabOk.cmp {P : Program} : ∀ {T : List (Nat × TI)}, TabOk P T → ∀ {t : Nat} {ti : TI}, tget t T = some ti → ti.cmp = true → structCmpB P t = true
 | [], _, t, ti, h, _ => by cases h
 | (s, x) :: r, hT, t, ti, h, hc => by
  unfold tget at h
  split at h
  ·rename_i hb
   have : s = t := by simpa using hb
   subst this
   cases h
   exact hT.1.2 hc
  ·exact TabOk.cmp hT.2 h hc
structure KE where
 slot : Nat
 tags : List (Nat × Bool)
 av : AV
structure OE where
 id : Nat
 tags : List (Nat × Bool)
 o : AO
structure St where
 K : List KE
 O : List OE
 nid : Nat
def find (s : Nat) : List KE → Option (List (Nat × Bool) × AV)
 | [] => none
 | ⟨t, g, a⟩ :: r => match Nat.beq t s with
  | true => some (g, a)
  | false => find s r
def getO (id : Nat) : List OE → Option (List (Nat × Bool) × AO)
 | [] => none
 | ⟨t, g, o⟩ :: r => match Nat.beq t id with
  | true => some (g, o)
  | false => getO id r
def hasTag (t : Nat) (w : Bool) : List (Nat × Bool) → Bool
 | [] => false
 | (s, x) :: r => match Nat.beq s t with
  | true => (match x, w with
   | true, true => true
   | false, false => true
   | _, _ => hasTag t w r)
  | false => hasTag t w r
def subTags : List (Nat × Bool) → List (Nat × Bool) → Bool
 | [], _ => true
 | (t, w) :: r, l => match hasTag t w l with
  | true => subTags r l
  | false => false
def inTags (t : Nat) : List (Nat × Bool) → Bool
 | [] => false
 | (s, _) :: r => match Nat.beq s t with
  | true => true
  | false => inTags t r
def avOf1 : Value → AV
 | .bool c => .b c
 | .int k n => .i k n
 | .string x => .s x
 | v => .val v
def avOf1s : List Value → List AV
 | [] => []
 | v :: r => avOf1 v :: avOf1s r
def avOf : Value → AV
 | .agg ⟨l⟩ => .ag (avOf1s l)
 | v => avOf1 v
def evalO (K : List KE) (tags : List (Nat × Bool)) : Operand → Option AV
 | .tmp t => match find t K with
  | some (g, a) => (match subTags g tags with
   | true => some a
   | false => none)
  | none => none
 | .const v => some (avOf v)
 | .func f => some (.fn f [])
 | .global _ => none
def takeK : Nat → List AV → (List AV → Prop) → Prop
 | 0, _, k => k []
 | n + 1, a :: r, k => takeK n r fun l => k (a :: l)
 | _ + 1, [], _ => False
def dropTakeK : Nat → Nat → List AV → (List AV → Prop) → Prop
 | 0, n, l, k => takeK n l k
 | off + 1, n, _ :: r, k => dropTakeK off n r k
 | _ + 1, _, [], _ => False
def dropK : Nat → List AV → (List AV → Prop) → Prop
 | 0, l, k => k l
 | off + 1, _ :: r, k => dropK off r k
 | _ + 1, [], _ => False
def overK : Nat → List AV → List AV → (List AV → Prop) → Prop
 | _, [], l, k => k l
 | 0, c :: cs, _ :: r, k => overK 0 cs r fun l => k (c :: l)
 | off + 1, cs, a :: r, k => overK off cs r fun l => k (a :: l)
 | _, _ :: _, [], _ => False
theorem takeK_iff : ∀ {n : Nat} {l : List AV} {k : List AV → Prop}, takeK n l k → n ≤ l.length ∧ k (l.take n)
 | 0, _, _, h => ⟨Nat.zero_le _, by simpa [takeK] using h⟩
 | n + 1, a :: r, k, h => by
  have h' := takeK_iff (n := n) (l := r) h
  exact ⟨by simp; omega, by simpa using h'.2⟩
 | _ + 1, [], _, h => h.elim
theorem dropTakeK_iff : ∀ {off n : Nat} {l : List AV} {k : List AV → Prop}, dropTakeK off n l k → off + n ≤ l.length ∧ k ((l.drop off).take n)
 | 0, n, l, k, h => by simpa using takeK_iff (n := n) (l := l) h
 | off + 1, n, _ :: r, k, h => by
  have h' := dropTakeK_iff (off := off) (n := n) (l := r) h
  exact ⟨by simp; omega, by simpa using h'.2⟩
 | _ + 1, _, [], _, h => h.elim
theorem dropK_iff : ∀ {off : Nat} {l : List AV} {k : List AV → Prop}, dropK off l k → off ≤ l.length ∧ k (l.drop off)
 | 0, _, _, h => ⟨Nat.zero_le _, by simpa [dropK] using h⟩
 | off + 1, _ :: r, k, h => by
  have h' := dropK_iff (off := off) (l := r) h
  exact ⟨by simp; omega, by simpa using h'.2⟩
 | _ + 1, [], _, h => h.elim
def over (off : Nat) (cs l : List AV) : List AV := l.take off ++ cs ++ l.drop (off + cs.length)
theorem overK_iff : ∀ {off : Nat} {cs l : List AV} {k : List AV → Prop}, overK off cs l k → (cs = [] ∨ off + cs.length ≤ l.length) ∧ k (over off cs l)
 | off, [], l, k, h => by
  refine ⟨.inl rfl, ?_⟩
  have : overK off [] l k = k l := by unfold overK; rfl
  rw [this] at h
  simpa [over] using h
 | 0, c :: cs, a :: r, k, h => by
  have h' := overK_iff (off := 0) (cs := cs) (l := r) h
  refine ⟨.inr ?_, ?_⟩
  ·rcases h'.1 with rfl | h1
   ·simp
   ·simp at h1 ⊢; omega
  ·have := h'.2
   simpa [over, Nat.add_comm] using this
 | off + 1, c :: cs, a :: r, k, h => by
  have h' := overK_iff (off := off) (cs := c :: cs) (l := r) h
  refine ⟨.inr ?_, ?_⟩
  ·rcases h'.1 with h1 | h1
   ·cases h1
   ·simp at h1 ⊢; omega
  ·have := h'.2
   have e : off + 1 + (c :: cs).length = (off + (c :: cs).length) + 1 := by omega
   unfold over at this ⊢
   rw [e, List.drop_succ_cons]
   simpa using this
 | 0, _ :: _, [], _, h => h.elim
 | _ + 1, _ :: _, [], _, h => h.elim
def kn : IntKind → Nat
 | .i8 => 0 | .i16 => 1 | .i32 => 2 | .i64 => 3 | .u8 => 4 | .u16 => 5 | .u32 => 6 | .u64 => 7
theorem kn_inj {j k : IntKind} (h : Nat.beq (kn j) (kn k) = true) : j = k := by cases j <;> cases k <;> first | rfl | (simp [kn] at h)
def bitsI (op : BinOp) (k : IntKind) (x y : Int) : Int :=
 let a := BitVec.ofInt k.bits x
 let b := BitVec.ofInt k.bits y
 k.wrap (match op with
  | .and => a &&& b
  | .or => a ||| b
  | .xor => a ^^^ b
  | _ => a &&& ~~~b).toNat
def binI (op : BinOp) (k : IntKind) (x y : Int) : Option AV :=
 match op with
 | .add => some (.i k (k.wrap (x + y)))
 | .sub => some (.i k (k.wrap (x - y)))
 | .mul => some (.i k (k.wrap (x * y)))
 | .and => some (.i k (bitsI .and k x y))
 | .or => some (.i k (bitsI .or k x y))
 | .xor => some (.i k (bitsI .xor k x y))
 | .eql => some (.b (x == y))
 | .neq => some (.b (x != y))
 | .lss => some (.b (decide (x < y)))
 | .leq => some (.b (decide (x ≤ y)))
 | .gtr => some (.b (decide (x > y)))
 | .geq => some (.b (decide (x ≥ y)))
 | _ => none
theorem binI_sound {P : Program} {w : World} {op : BinOp} {k : IntKind} {x y : Int} {r : AV} (t : TypeId) (h : binI op k x y = some r) :
  ∃ v, (binOp op t (.int k x) (.int k y)).run P w = .ok v w ∧ Rep0 (fun _ => True) w r v := by
 cases op <;> simp only [binI, Option.some.injEq, reduceCtorEq] at h <;> subst h <;>
  simp [binOp, Op.intArith, Op.intBits, Op.intCmp, bitsI] <;> constructor
def isBoolD : TypeDesc → Bool
 | .bool => true
 | _ => false
def intD : TypeDesc → Option IntKind
 | .int k => some k
 | _ => none
def isStringD : TypeDesc → Bool
 | .string => true
 | _ => false
def isMapD : TypeDesc → Bool
 | .map _ _ => true
 | _ => false
def mapD : TypeDesc → Option (TypeId × TypeId)
 | .map k e => some (k, e)
 | _ => none
def sliceD : TypeDesc → Option TypeId
 | .slice e => some e
 | _ => none
def fieldD : TypeDesc → Nat → Option Field
 | .struct fs, f => fs[f]?
 | _, _ => none
inductive Eff where
 | ext (os : List AO) (r : AV)
 | set (id : Nat) (o : AO) (r : AV)
 | app (id : Nat) (o : AO) (r : AV)
def ob (gc : Option Prop) (p rest : Prop) : Prop :=
 match gc with
 | none => p ∧ rest
 | some c => (c → p) ∧ rest
theorem ob_iff {gc : Option Prop} {p rest : Prop} (h : ob gc p rest) (hc : ∀ c, gc = some c → c) : p ∧ rest := by
 cases gc with
 | none => exact h
 | some c => exact ⟨h.1 (hc c rfl), h.2⟩
def leaf : AV → Bool
 | .b _ => true
 | .i _ _ => true
 | .s _ => true
 | .fn _ _ => true
 | .p _ _ => true
 | .so _ => true
 | .pe _ _ _ _ => true
 | .rs _ _ _ => true
 | .rp _ => true
 | .mo _ => true
 | .sv _ _ _ _ => true
 | .sc _ _ _ _ => true
 | .rm _ _ _ => true
 | .val v => v.oneCell'
 | _ => false
def leaves : List AV → Bool
 | [] => true
 | a :: r => match leaf a with
  | true => leaves r
  | false => false
def cellsK (a : AV) (k : List AV → Prop) : Prop :=
 match a with
 | .ag cs => (match leaves cs with
  | true => k cs
  | false => False)
 | a => (match leaf a with
  | true => k [a]
  | false => False)
def packK (agg : Bool) (l : List AV) (k : AV → Prop) : Prop :=
 match agg, l with
 | true, l => k (.ag l)
 | false, [a] => k a
 | _, _ => False
def Callable (P : Program) (f : FuncId) : Prop := ∃ fn, P.funcs[f]? = some fn ∧ (fn.name == "runtime.NumGoroutine") = false ∧ fn.body.isNone = false
def News (β : Bd) (n : Nat) (F : Nat → Prop) (B : Nat) (w' : World) (d : Nat) (os : List AO) : Prop :=
 (∀ j o, os[j]? = some o → ObjOk β n F w' (d + j) o) ∧ (∀ j o g, os[j]? = some o → ownB β (d + j) o g → B ≤ g) ∧
 ∀ j j' o o' g, os[j]? = some o → os[j']? = some o' → ownB β (d + j) o g → ownB β (d + j') o' g → j = j'
def FX (F : Nat → Prop) (β : Bd) (d : Nat) (os : List AO) : Nat → Prop := fun g => F g ∨ ∃ j o, os[j]? = some o ∧ ownB β (d + j) o g
def Ctr (P : Program) (f : FuncId) (args : List AV) (os : List AO) (r : AV) : Prop :=
 Callable P f ∧ ∀ (w : World) (vs : List Value), args.length = vs.length → (∀ (j : Nat) (h1 : j < args.length) (h2 : j < vs.length), Rep0 (fun _ => False) w args[j] vs[j]) →
  Calls P f vs.toArray w fun e w' => ∃ (v : Value) (β : Bd), e = .returned v ∧ Below w.heap.size w w' ∧
   News β os.length (FX (fun g => g < w.heap.size) β 0 os) w.heap.size w' 0 os ∧ Rep β os.length (FX (fun g => g < w.heap.size) β 0 os) w' r v
def CtrA (P : Program) (f : FuncId) (args : List AV) (r : AV) : Prop :=
 Callable P f ∧ ∀ (F : Nat → Prop) (w : World) (vs : List Value), (∀ g, F g → g < w.heap.size) → args.length = vs.length → (∀ (j : Nat) (h1 : j < args.length) (h2 : j < vs.length), Rep0 F w args[j] vs[j]) →
  Calls P f vs.toArray w fun e w' => ∃ (v : Value), e = .returned v ∧ Below w.heap.size w w' ∧ Rep0 F w' r v
def agree (n : Nat) (β β' : Bd) : Prop := ∀ id, id < n → β'.blk id = β.blk id ∧ β'.val id = β.val id
def EffPost (β β' : Bd) (nid : Nat) (F : Nat → Prop) (lk : Nat → Option AO) (w w' : World) (v : Value) : Eff → Prop
 | .ext os r => Below w.heap.size w w' ∧ agree nid β β' ∧ News β' (nid + os.length) (FX F β' nid os) w.heap.size w' nid os ∧ Rep β' (nid + os.length) (FX F β' nid os) w' r v
 | .set id o' r => β' = β ∧ ∃ o, lk id = some o ∧ GrownBy w w' (wrB β id o) ∧ ownB β id o' = ownB β id o ∧ ObjOk β nid F w' id o' ∧ Rep β nid F w' r v
 | .app id o' r => agree nid β β' ∧ ∃ o, lk id = some o ∧ GrownBy w w' (wrB β id o) ∧ (ownB β' nid o' = ownB β id o ∨ ∀ g, ownB β' nid o' g → w.heap.size ≤ g) ∧
   ObjOk β' (nid + 1) (FX F β' nid [o']) w' nid o' ∧ Rep β' (nid + 1) (FX F β' nid [o']) w' r v
inductive Out (P : Program) (post : Value → World → Prop) : Result Next → Prop
 | value (v : Value) (w' : World) (hp : post v w') : Out P post (.ok (.value v) w')
 | skip (w' : World) (hp : post undef w') : Out P post (.ok .skip w')
 | enter (f : FuncId) (args : Array Value) (w : World) (hc : Calls P f args w fun e w' => ∃ v, e = .returned v ∧ post v w') : Out P post (.ok (.enter f args) w)
theorem Out.upon {P : Program} {post : Value → World → Prop} {r : Result Next} (h : Out P post r) {o : Oper} {a : Act} {next : Act → World → Prop} {Q : Exit → Act → World → Prop}
  (hn : ∀ v w', post v w' → next (a.put o.dst v) w') : o.upon P a next Q r := by
 cases h with
 | value v w' hp => exact hn v w' hp
 | skip w' hp => exact hn _ w' hp
 | enter f args w hc =>
  refine hc.mono ?_
  rintro e w' ⟨v, rfl, hp⟩
  exact hn v w' hp
theorem FX_nil {F : Nat → Prop} {β : Bd} {d g : Nat} (h : FX F β d [] g) : F g := by
 rcases h with h | ⟨j, o, hj, _⟩
 ·exact h
 ·simp at hj
theorem EffPost.id {β : Bd} {nid : Nat} {F : Nat → Prop} {lk : Nat → Option AO} {w w' : World} {r : AV} {v : Value} (h : Rep β nid F w' r v) (hb : Below w.heap.size w w') :
  EffPost β β nid F lk w w' v (.ext [] r) :=
 ⟨hb, fun _ _ => ⟨rfl, rfl⟩, ⟨fun j o h => by simp at h, fun j o g h => by simp at h, fun j j' o o' g h => by simp at h⟩, h.stable (fun _ _ hn hf => hn (FX_nil hf)) (fun _ _ _ => rfl) (Nat.le_refl _)⟩
def Bd.blkAt (β : Bd) (n g : Nat) : Bd := ⟨fun i => if i = n then g else β.blk i, β.val⟩
def Bd.valAt (β : Bd) (n : Nat) (v : Value) : Bd := ⟨β.blk, fun i => if i = n then v else β.val i⟩
theorem agree_blkAt (β : Bd) (n g : Nat) : agree n β (β.blkAt n g) := fun id h => ⟨by simp [Bd.blkAt, Nat.ne_of_lt h], rfl⟩
theorem agree_valAt (β : Bd) (n : Nat) (v : Value) : agree n β (β.valAt n v) := fun id h => ⟨rfl, by simp [Bd.valAt, Nat.ne_of_lt h]⟩
theorem below_alloc (w : World) (o : Obj) : Below w.heap.size w (w.alloc o) := (Below.refl _ _).alloc (Nat.le_refl _) _
theorem EffPost.cells {β : Bd} {nid : Nat} {F : Nat → Prop} {lk : Nat → Option AO} {w : World} (e : TypeId) (cs : List AV) (vs : List Value) (hl : cs.length = vs.length)
  (h : ∀ (j : Nat) (h1 : j < cs.length) (h2 : j < vs.length), Rep β nid F w cs[j] vs[j] ∧ vs[j].oneCell' = true) :
  EffPost β (β.blkAt nid w.heap.size) nid F lk w (w.alloc (.cells vs.toArray e)) (.pointer (some ⟨w.heap.size, 0, none⟩)) (.ext [.cells e cs] (.p nid 0)) := by
 have hblk : (β.blkAt nid w.heap.size).blk nid = w.heap.size := by simp [Bd.blkAt]
 have hF : ∀ g, g < w.heap.size → ¬ F g → ¬ FX F (β.blkAt nid w.heap.size) nid [.cells e cs] g := by
  rintro g hg hn (hf | ⟨j, o, hj, ho⟩)
  ·exact hn hf
  ·cases j with
   | zero => simp at hj; subst hj; simp [ownB, hblk] at ho; omega
   | succ j => simp at hj
 refine ⟨below_alloc _ _, agree_blkAt _ _ _, ⟨?_, ?_, ?_⟩, ?_⟩
 ·intro j o hj
  cases j with
  | succ j => simp at hj
  | zero =>
   simp at hj
   subst hj
   refine ⟨vs, by rw [Nat.add_zero, hblk]; exact heap_alloc_new w _, hl, fun j h1 h2 => ⟨?_, (h j h1 h2).2⟩⟩
   exact (((h j h1 h2).1.stable hF (fun g hg _ => Below.heap_alloc w _ g hg) (by simp)).same (agree_blkAt _ _ _)).more (by simp)
 ·intro j o g hj hg
  cases j with
  | succ j => simp at hj
  | zero =>
   simp at hj
   subst hj
   simp [ownB, hblk] at hg
   omega
 ·intro j j' o o' g h1 h2 _ _
  cases j <;> cases j' <;> simp at h1 h2 ⊢
 ·have hp := Rep.p (β := β.blkAt nid w.heap.size) (n := nid + 1) (F := FX F (β.blkAt nid w.heap.size) nid [.cells e cs]) (w := w.alloc (.cells vs.toArray e)) nid 0 (by omega)
  rw [hblk] at hp
  exact hp
theorem EffPost.row {β : Bd} {nid : Nat} {F : Nat → Prop} {lk : Nat → Option AO} {w w' : World} (e : TypeId) (sz n : Nat) (get : Nat → List AV) (v : Value) (xs : List Value)
  (hb : Below w.heap.size w w') (hx : RowAt w' e sz v n xs) (hnew : ∀ g, blkOf v = some g → w.heap.size ≤ g) (hlen : ∀ k, k < n → (get k).length = sz)
  (h : ∀ (k j : Nat) (_ : k < n) (h1 : j < (get k).length) (h2 : k * sz + j < xs.length), Rep0 F w (get k)[j] xs[k * sz + j] ∧ xs[k * sz + j].oneCell' = true) :
  EffPost β (β.valAt nid v) nid F lk w w' v (.ext [.row e sz n get] (.so nid)) := by
 have hval : (β.valAt nid v).val nid = v := by simp [Bd.valAt]
 have hF : ∀ g, g < w.heap.size → ¬ F g → ¬ FX F (β.valAt nid v) nid [.row e sz n get] g := by
  rintro g hg hn (hf | ⟨j, o, hj, ho⟩)
  ·exact hn hf
  ·cases j with
   | zero => simp at hj; subst hj; simp [ownB, hval] at ho; have := hnew g ho; omega
   | succ j => simp at hj
 refine ⟨hb, agree_valAt _ _ _, ⟨?_, ?_, ?_⟩, ?_⟩
 ·intro j o hj
  cases j with
  | succ j => simp at hj
  | zero =>
   simp at hj
   subst hj
   exact ⟨xs, by rw [Nat.add_zero, hval]; exact hx, hlen, fun k j hk h1 h2 => ⟨(h k j hk h1 h2).1.stable hF (fun g hg _ => hb.block g hg) hb.size, (h k j hk h1 h2).2⟩⟩
 ·intro j o g hj hg
  cases j with
  | succ j => simp at hj
  | zero =>
   simp at hj
   subst hj
   simp only [ownB, Nat.add_zero, hval] at hg
   exact hnew g hg
 ·intro j j' o o' g h1 h2 _ _
  cases j <;> cases j' <;> simp at h1 h2 ⊢
 ·have hp := Rep.so (β := β.valAt nid v) (n := nid + 1) (F := FX F (β.valAt nid v) nid [.row e sz n get]) (w := w') nid (by omega) (by rw [hval]; exact hx.one)
  rw [hval] at hp
  exact hp
theorem EffPost.blk {β : Bd} {nid : Nat} {F : Nat → Prop} {lk : Nat → Option AO} {w : World} (o : AO) (ob : Obj) (v : Value) (r : AV) (hown : ∀ β' : Bd, ownB β' nid o = fun g => β'.blk nid = g)
  (hok : (∀ g, g < w.heap.size → ¬ F g → ¬ FX F (β.blkAt nid w.heap.size) nid [o] g) → ObjOk (β.blkAt nid w.heap.size) (nid + 1) (FX F (β.blkAt nid w.heap.size) nid [o]) (w.alloc ob) nid o)
  (hr : (β.blkAt nid w.heap.size).blk nid = w.heap.size → Rep (β.blkAt nid w.heap.size) (nid + 1) (FX F (β.blkAt nid w.heap.size) nid [o]) (w.alloc ob) r v) :
  EffPost β (β.blkAt nid w.heap.size) nid F lk w (w.alloc ob) v (.ext [o] r) := by
 have hblk : (β.blkAt nid w.heap.size).blk nid = w.heap.size := by simp [Bd.blkAt]
 have hF : ∀ g, g < w.heap.size → ¬ F g → ¬ FX F (β.blkAt nid w.heap.size) nid [o] g := by
  rintro g hg hn (hf | ⟨j, o', hj, ho⟩)
  ·exact hn hf
  ·cases j with
   | zero => simp at hj; subst hj; rw [Nat.add_zero, hown] at ho; have ho : (β.blkAt nid w.heap.size).blk nid = g := ho; rw [hblk] at ho; omega
   | succ j => simp at hj
 refine ⟨below_alloc _ _, agree_blkAt _ _ _, ⟨?_, ?_, ?_⟩, hr hblk⟩
 ·intro j o' hj
  cases j with
  | succ j => simp at hj
  | zero =>
   simp at hj
   subst hj
   exact hok hF
 ·intro j o' g hj hg
  cases j with
  | succ j => simp at hj
  | zero =>
   simp at hj
   subst hj
   rw [Nat.add_zero, hown] at hg
   have hg : (β.blkAt nid w.heap.size).blk nid = g := hg
   rw [hblk] at hg
   omega
 ·intro j j' o o' g h1 h2 _ _
  cases j <;> cases j' <;> simp at h1 h2 ⊢
theorem leaf_one {β : Bd} {n : Nat} {F : Nat → Prop} {w : World} {a : AV} {v : Value} (h : Rep β n F w a v) (hl : leaf a = true) : v.oneCell' = true := by
 cases h with
 | pure _ _ h => cases h <;> first | rfl | (simp [leaf] at hl; done) | exact hl
 | p => rfl
 | so id hi h1 => exact h1
 | pe => rfl
 | mo => rfl
 | sv id sz lo m v hi h => exact h.one
 | sc => rfl
 | fn => rfl
 | ag => simp [leaf] at hl
 | tup => simp [leaf] at hl
end Go.Eng
end

section
namespace Go.Eng
open Go.RowKit
structure Env (β : Bd) (nid : Nat) (F : Nat → Prop) (w : World) (lk : Nat → Option AO) : Prop where
 obj : ∀ id o, lk id = some o → id < nid ∧ ObjOk β nid F w id o
 own : ∀ id o g, lk id = some o → ownB β id o g → F g
 old : ∀ g, F g → g < w.heap.size
def PostK (β : Bd) (nid : Nat) (F : Nat → Prop) (lk : Nat → Option AO) (w : World) (k : Eff → Prop) (v : Value) (w' : World) : Prop :=
 ∃ eff β', k eff ∧ EffPost β β' nid F lk w w' v eff
section
variable {P : Program} {β : Bd} {nid : Nat} {F : Nat → Prop} {w : World} {lk : Nat → Option AO} {k : Eff → Prop}
theorem Out.same {r : AV} {v : Value} {run : Result Next} (hk : k (.ext [] r)) (hr : Rep β nid F w r v) (hrun : run = .ok (.value v) w) : Out P (PostK β nid F lk w k) run := by
 subst hrun
 exact .value v w ⟨_, β, hk, .id hr (Below.refl _ _)⟩
def loadA (gc : Option Prop) (lk : Nat → Option AO) (ti : TI) (a : AV) (k : Eff → Prop) : Prop :=
 match a with
 | .p id off => (match lk id with
  | some (.cells _ cs) => dropTakeK off ti.size cs fun l => packK ti.agg l fun r => k (.ext [] r)
  | _ => False)
 | .rp cs => dropTakeK 0 ti.size cs fun l => packK ti.agg l fun r => k (.ext [] r)
 | .pe id sz idx off => (match lk id with
  | some (.row _ sz' n get) => (match Nat.beq sz sz' with
   | true => ob gc (idx < n) (dropTakeK off ti.size (get idx) fun l => packK ti.agg l fun r => k (.ext [] r))
   | false => False)
  | _ => False)
 | _ => False
theorem load_run {t : TypeId} {ti : TI} (hti : TIOk P t ti) (g o : Nat) (vs : List Value) (hl : vs.length = ti.size) (hc : ∀ (j : Nat) (h : j < vs.length), w.cell? ⟨g, o + j, none⟩ = some vs[j]) :
  (ti.agg = true → (loadVar t ⟨g, o, none⟩).run P w = .ok (.agg vs.toArray) w) ∧ (ti.agg = false → ∀ h : 0 < vs.length, (loadVar t ⟨g, o, none⟩).run P w = .ok vs[0] w) := by
 obtain ⟨hu, hagg, i, hi, hs, _, _⟩ := hti
 have hisagg : (isAgg t).run P w = .ok ti.agg w := by
  unfold isAgg
  rw [Sem.run_bind, run_underlying hu w, ← hagg]
  cases ti.desc <;> simp [isAggD]
 constructor
 ·intro ha
  have hload := run_loadCells_list (P := P) w ⟨g, o, none⟩ vs (fun j v hv => by
   obtain ⟨hj, rfl⟩ := List.getElem?_eq_some_iff.1 hv
   rw [Addr.add_lit]
   exact hc j hj)
  rw [hl] at hload
  simp [loadVar, hisagg, ha, sizeOf, typeInfo, hi, hs, hload]
 ·intro ha h
  have h0 := hc 0 h
  simp only [Nat.add_zero] at h0
  simp [loadVar, hisagg, ha, load, Sem.run, h0]
theorem load_out {t : TypeId} {ti : TI} (hti : TIOk P t ti) (g o : Nat) (vs : List Value) (l : List AV) (hl : vs.length = ti.size) (hll : l.length = vs.length)
  (hc : ∀ (j : Nat) (h : j < vs.length), w.cell? ⟨g, o + j, none⟩ = some vs[j])
  (hr : ∀ (j : Nat) (h1 : j < l.length) (h2 : j < vs.length), Rep β nid F w l[j] vs[j])
  (h : packK ti.agg l fun r => k (.ext [] r)) :
  ∃ v, (loadVar t ⟨g, o, none⟩).run P w = .ok v w ∧ ∃ r, k (.ext [] r) ∧ Rep β nid F w r v := by
 have hrun := load_run hti g o vs hl hc
 unfold packK at h
 split at h
 ·rename_i hagg
  exact ⟨_, hrun.1 hagg, _, h, .ag _ vs hll hr⟩
 ·rename_i a hagg
  have h0 : 0 < vs.length := by rw [← hll]; simp
  exact ⟨_, hrun.2 hagg h0, _, h, by simpa using hr 0 (by simp) h0⟩
 ·exact h.elim
theorem loadA_sound {gc : Option Prop} (hgc : ∀ c, gc = some c → c) (E : Env β nid F w lk) {t : TypeId} {ti : TI} (hti : TIOk P t ti) {a : AV} {v : Value} (hv : Rep β nid F w a v)
  (h : loadA gc lk ti a k) : ∃ x, (Instr.loadAt t v).run P w = .ok x w ∧ ∃ r, k (.ext [] r) ∧ Rep β nid F w r x := by
 unfold loadA at h
 split at h
 ·rename_i id off
  split at h
  ·rename_i e cs hlk
   obtain ⟨hsz, h⟩ := dropTakeK_iff h
   obtain ⟨_, rfl⟩ := hv.p_inv
   obtain ⟨hid, vs, hh, hl, hc⟩ := E.obj id _ hlk
   have := load_out (β := β) (nid := nid) (F := F) (w := w) (k := k) hti (β.blk id) off ((vs.drop off).take ti.size) ((cs.drop off).take ti.size) (by simp; omega) (by simp; omega)
    (fun j hj => by
     simp at hj
     rw [cell_of_row w _ _ _ _ _ hh]
     simp)
    (fun j h1 h2 => by
     simp at h1 h2
     simpa using (hc (off + j) (by omega) (by omega)).1) h
   simpa [Instr.loadAt, Instr.sureAddr] using this
  ·exact h.elim
 ·rename_i cs
  obtain ⟨hsz, h⟩ := dropTakeK_iff h
  have hv0 := hv.rp_inv
  cases hv0 with
  | rp _ g off vs hF hg hc h1 hr =>
   have := load_out (β := β) (nid := nid) (F := F) (w := w) (k := k) hti g off ((List.range ti.size).map vs) ((cs.drop 0).take ti.size) (by simp) (by simp; omega)
    (fun j hj => by
     simp at hj
     simpa using hc j (by omega))
    (fun j h1 h2 => by
     simp at h1 h2
     simpa using Rep.pure _ _ (hr j (by omega))) h
   simpa [Instr.loadAt, Instr.sureAddr] using this
 ·rename_i id sz idx off
  split at h
  ·rename_i e sz' n get hlk
   split at h
   ·rename_i hsz'
    have hsz' : sz = sz' := by simpa using hsz'
    subst hsz'
    obtain ⟨hidx, h⟩ := ob_iff h hgc
    obtain ⟨hsz, h⟩ := dropTakeK_iff h
    obtain ⟨_, g, o, m, c, hval, rfl⟩ := hv.pe_inv
    obtain ⟨hid, xs, hx, hlen, hc⟩ := E.obj id _ hlk
    have hxl := hx.1
    have hgl := hlen idx hidx
    have hmul : idx * sz + sz ≤ n * sz := by rw [← Nat.succ_mul]; exact Nat.mul_le_mul_right _ hidx
    by_cases hx0 : 0 < xs.length
    ·obtain ⟨g', o', cap, cur, hv', _, _, _, _, _, hcells⟩ := hx.cells hx0
     rw [hval] at hv'
     simp only [Value.slice.injEq, Option.some.injEq, Addr.mk.injEq] at hv'
     obtain ⟨⟨rfl, rfl, _⟩, _, _⟩ := hv'
     have := load_out (β := β) (nid := nid) (F := F) (w := w) (k := k) hti g (o + (idx * sz + off)) ((xs.drop (idx * sz + off)).take ti.size) (((get idx).drop off).take ti.size) (by simp; omega) (by simp; omega)
      (fun j hj => by
       simp at hj
       have := hcells (idx * sz + off + j) xs[idx * sz + off + j] (List.getElem?_eq_getElem (by omega))
       rw [Nat.add_assoc o]
       simpa using this)
      (fun j h1 h2 => by
       simp at h1 h2
       have := (hc idx (off + j) hidx (by omega) (by omega)).1
       simpa [Nat.add_assoc] using Rep.pure (β := β) (n := nid) _ _ this) h
     simpa [Instr.loadAt, Instr.sureAddr] using this
    ·have h0 : sz = 0 := by omega
     have hz : ti.size = 0 := by omega
     have := load_out (β := β) (nid := nid) (F := F) (w := w) (k := k) hti g (o + (idx * sz + off)) [] (((get idx).drop off).take ti.size) (by simp [hz]) (by simp [hz]) (fun j hj => by simp at hj) (fun j h1 h2 => by simp at h2) h
     simpa [Instr.loadAt, Instr.sureAddr] using this
   ·exact h.elim
  ·exact h.elim
 ·exact h.elim
def storeA (gc : Option Prop) (lk : Nat → Option AO) (ti : TI) (a y : AV) (k : Eff → Prop) : Prop :=
 cellsK y fun cs => match Nat.beq cs.length ti.size with
  | false => False
  | true => match a with
   | .p id off => (match lk id with
    | some (.cells e old) => overK off cs old fun new => k (.set id (.cells e new) .u)
    | _ => False)
   | .pe id sz idx off => (match lk id with
    | some (.row e sz' n get) => (match Nat.beq sz sz', AV.lts 0 cs, Nat.ble (off + cs.length) sz with
     | true, true, true => ob gc (idx < n) (k (.set id (.row e sz n fun q => if q = idx then over off cs (get q) else get q) .u))
     | _, _, _ => False)
    | _ => False)
   | _ => False
theorem leaves_get : ∀ {l : List AV}, leaves l = true → ∀ (j : Nat) (h : j < l.length), leaf l[j] = true
 | [], _, j, h => by simp at h
 | c :: r, hl, j, h => by
  unfold leaves at hl
  split at hl
  ·rename_i hc
   cases j with
   | zero => exact hc
   | succ j => exact leaves_get hl j (by simpa using h)
  ·cases hl
theorem cellsK_iff {a : AV} {q : List AV → Prop} (h : cellsK a q) : ∃ cs, q cs ∧ (a = .ag cs ∧ leaves cs = true ∨ cs = [a] ∧ leaf a = true) := by
 unfold cellsK at h
 split at h
 ·split at h
  ·rename_i hl
   exact ⟨_, h, .inl ⟨rfl, hl⟩⟩
  ·exact h.elim
 ·split at h
  ·rename_i hl
   exact ⟨_, h, .inr ⟨rfl, hl⟩⟩
  ·exact h.elim
theorem cells_rep {a : AV} {cs : List AV} {v : Value} (hv : Rep β nid F w a v) (h : a = .ag cs ∧ leaves cs = true ∨ cs = [a] ∧ leaf a = true) :
  ∃ vs : List Value, v.cells = vs.toArray ∧ cs.length = vs.length ∧ ∀ (j : Nat) (h1 : j < cs.length) (h2 : j < vs.length), Rep β nid F w cs[j] vs[j] ∧ vs[j].oneCell' = true := by
 rcases h with ⟨rfl, hl⟩ | ⟨rfl, hl⟩
 ·obtain ⟨vs, rfl, hlen, hr⟩ := hv.ag_inv
  exact ⟨vs, rfl, hlen, fun j h1 h2 => ⟨hr j h1 h2, leaf_one (hr j h1 h2) (leaves_get hl j h1)⟩⟩
 ·have h1 := leaf_one hv hl
  refine ⟨[v], ?_, rfl, fun j h1' h2 => ?_⟩
  ·cases v <;> first | rfl | simp [Value.oneCell'] at h1
  ·have : j = 0 := by simpa using h2
   subst this
   exact ⟨hv, h1⟩
theorem store_run {t : TypeId} {ti : TI} (hti : TIOk P t ti) (g o : Nat) (e : TypeId) (cur : Array Value) (v : Value) (vs : List Value) (hv : v.cells = vs.toArray) (hl : vs.length = ti.size)
  (hg : w.heap[g]? = some (.cells cur e (0, 0))) (hfit : o + vs.length ≤ cur.size) (h1 : ∀ u ∈ vs, u.oneCell' = true) :
  (storeVar t ⟨g, o, none⟩ v).run P w = .ok () (w.setRow g (cur.toList.take o ++ vs ++ cur.toList.drop (o + vs.length)).toArray) := by
 obtain ⟨hu, hagg, i, hi, hs, _, _⟩ := hti
 have hst := run_storeCells_at P g o e vs 0 cur w hg (by simpa using hfit) h1
 simp only [Nat.add_zero] at hst
 have hsz : v.cells.size = i.size := by rw [hv, hs]; simpa using hl
 have hcl : v.cells.toList = vs := by rw [hv]
 simp [storeVar, sizeOf, typeInfo, hi, hsz, hcl, hst]
theorem overV_get? {off : Nat} {cs l : List Value} (h : off + cs.length ≤ l.length) (q : Nat) :
  (l.take off ++ cs ++ l.drop (off + cs.length))[q]? = if q < off then l[q]? else if q < off + cs.length then cs[q - off]? else l[q]? := by
 by_cases h1 : q < off
 ·rw [if_pos h1, List.getElem?_append_left (by simp; omega), List.getElem?_append_left (by simp; omega), List.getElem?_take, if_pos h1]
 ·rw [if_neg h1]
  by_cases h2 : q < off + cs.length
  ·rw [if_pos h2, List.getElem?_append_left (by simp; omega), List.getElem?_append_right (by simp; omega)]
   congr 1
   simp
   omega
  ·rw [if_neg h2, List.getElem?_append_right (by simp; omega), List.getElem?_drop]
   congr 1
   simp
   omega
theorem grownBy_setRow (w : World) (g : Nat) (cs : Array Value) : GrownBy w (w.setRow g cs) (some g) :=
 ⟨⟨rfl, rfl, rfl, by simp, fun k _ hne => setRow_other w g k cs (fun e => hne (by rw [e]))⟩, Nat.le_refl _⟩
theorem over_get {off : Nat} {cs l : List AV} (h : off + cs.length ≤ l.length) (j : Nat) (hj : j < (over off cs l).length) :
  (over off cs l).length = l.length ∧ (over off cs l)[j] = if h' : off ≤ j ∧ j < off + cs.length then cs[j - off]'(by omega) else l[j]'(by simp [over] at hj; omega) := by
 refine ⟨by simp [over]; omega, ?_⟩
 simp only [over] at hj ⊢
 by_cases h1 : j < off
 ·rw [List.getElem_append_left (by simp; omega), List.getElem_append_left (by simp; omega), dif_neg (by omega)]
  simp
 ·by_cases h2 : j < off + cs.length
  ·rw [List.getElem_append_left (by simp; omega), List.getElem_append_right (by simp; omega), dif_pos (by omega)]
   congr 1
   simp
   omega
  ·rw [List.getElem_append_right (by simp; omega), dif_neg (by omega)]
   simp
   congr 1
   omega
theorem over_len {off : Nat} {cs l : List AV} (h : off + cs.length ≤ l.length) : (over off cs l).length = l.length := by simp [over]; omega
theorem AV.lts_pure {β : Bd} {nid : Nat} {F : Nat → Prop} {w : World} {cs : List AV} (h : AV.lts 0 cs = true) (j : Nat) (hj : j < cs.length) {v : Value} (hr : Rep β nid F w cs[j] v) : Rep0 F w cs[j] v :=
 hr.toPure (AV.lts_get h j hj)
theorem overV_get {off : Nat} {cs l : List Value} (h : off + cs.length ≤ l.length) (j : Nat) (hj : j < (l.take off ++ cs ++ l.drop (off + cs.length)).length) :
  (l.take off ++ cs ++ l.drop (off + cs.length))[j] = if h' : off ≤ j ∧ j < off + cs.length then cs[j - off]'(by omega) else l[j]'(by simp at hj; omega) := by
 by_cases h1 : j < off
 ·rw [List.getElem_append_left (by simp; omega), List.getElem_append_left (by simp; omega), dif_neg (by omega)]
  simp
 ·by_cases h2 : j < off + cs.length
  ·rw [List.getElem_append_left (by simp; omega), List.getElem_append_right (by simp; omega), dif_pos (by omega)]
   congr 1
   simp
   omega
  ·rw [List.getElem_append_right (by simp; omega), dif_neg (by omega)]
   simp
   congr 1
   omega
theorem RowAt.over {e : TypeId} {sz g o n cap : Nat} {cur : Array Value} {xs : List Value} (hh : w.heap[g]? = some (.cells cur e (0, 0))) (hnc : n ≤ cap + 1) (hcm : cap + 1 ≤ maxLen) (hcs : o + (cap + 1) * sz ≤ cur.size)
  (htake : (cur.toList.drop o).take (n * sz) = xs) (hxl : xs.length = n * sz) (A : Nat) (us : List Value) (hA : A + us.length ≤ n * sz) :
  RowAt (w.setRow g (cur.toList.take (o + A) ++ us ++ cur.toList.drop (o + A + us.length)).toArray) e sz (.slice (some ⟨g, o, none⟩) n (cap + 1)) n (xs.take A ++ us ++ xs.drop (A + us.length)) := by
 have hcapsz : n * sz ≤ (cap + 1) * sz := Nat.mul_le_mul_right _ hnc
 refine ⟨?_, .inr (.inr ⟨g, o, cap, _, rfl, setRow_heap w _ _ _ _ _ hh, hnc, hcm, ?_, ?_⟩)⟩
 ·simp; omega
 ·simp; omega
 ·rw [← htake]
  apply List.ext_getElem?
  intro q
  simp only
  rw [List.getElem?_take, List.getElem?_drop, overV_get? (by simp; omega), overV_get? (by simp; omega)]
  simp only [List.getElem?_take, List.getElem?_drop]
  by_cases hq : q < n * sz
  ·rw [if_pos hq]
   by_cases h1 : q < A
   ·rw [if_pos (by omega), if_pos h1, if_pos hq]
   ·rw [if_neg (by omega), if_neg h1]
    by_cases h2 : q < A + us.length
    ·rw [if_pos (by omega), if_pos h2]; congr 1; omega
    ·rw [if_neg (by omega), if_neg h2, if_pos hq]
  ·rw [if_neg hq, if_neg (by omega), if_neg (by omega), if_neg hq]
theorem storeA_sound {gc : Option Prop} (hgc : ∀ c, gc = some c → c) (E : Env β nid F w lk) {t : TypeId} {ti : TI} (hti : TIOk P t ti) {a y : AV} {v u : Value} (hv : Rep β nid F w a v) (hu : Rep β nid F w y u)
  (h : storeA gc lk ti a y k) : ∃ w', (Instr.storeAt t v u).run P w = .ok () w' ∧ PostK β nid F lk w k undef w' := by
 unfold storeA at h
 have hq := cellsK_iff h
 clear h
 obtain ⟨cs, h, hcs⟩ := hq
 obtain ⟨us, hucells, hlen, hus⟩ := cells_rep hu hcs
 split at h
 ·exact h.elim
 ·rename_i hsz
  have hsz : cs.length = ti.size := by simpa using hsz
  have hone : ∀ x ∈ us, x.oneCell' = true := fun x hx => by
   obtain ⟨j, hj, rfl⟩ := List.getElem_of_mem hx
   exact (hus j (by omega) hj).2
  split at h
  ·rename_i id off
   split at h
   ·rename_i e old hlk
    obtain ⟨hfit, h⟩ := overK_iff h
    obtain ⟨_, rfl⟩ := hv.p_inv
    obtain ⟨hid, vs, hh, hl, hc⟩ := E.obj id _ hlk
    have hF := E.own id _ _ hlk rfl
    by_cases hnil : cs = []
    ·subst hnil
     simp at hlen hsz
     have hus0 : us = [] := by simpa using hlen.symm
     subst hus0
     have hrun : (Instr.storeAt t (.pointer (some ⟨β.blk id, off, none⟩)) u).run P w = .ok () w := by
      obtain ⟨_, _, i, hi, hs, _, _⟩ := hti
      simp [Instr.storeAt, Instr.sureAddr, storeVar, sizeOf, typeInfo, hi, hucells, hs, ← hsz, storeCells]
     refine ⟨w, hrun, _, β, h, rfl, _, hlk, ⟨⟨rfl, rfl, rfl, Nat.le_refl _, fun _ _ _ => rfl⟩, Nat.le_refl _⟩, rfl, ⟨vs, hh, by simpa [over] using hl, fun j h1 h2 => ?_⟩, .pure _ _ (.u _)⟩
     have hj : j < old.length := by simpa [over] using h1
     simpa [over] using hc j hj h2
    ·have hfit : off + cs.length ≤ old.length := hfit.resolve_left hnil
     have hrun := store_run (P := P) (w := w) hti (β.blk id) off e vs.toArray u us hucells (by omega) hh (by simp; omega) hone
     have hold : ∀ g, g < w.heap.size → ¬ F g → (w.setRow (β.blk id) (vs.toArray.toList.take off ++ us ++ vs.toArray.toList.drop (off + us.length)).toArray).heap[g]? = w.heap[g]? :=
      fun g _ hn => setRow_other w _ g _ (fun e => hn (by rw [e]; exact hF))
     refine ⟨_, hrun, _, β, h, rfl, _, hlk, grownBy_setRow _ _ _, rfl, ⟨_, setRow_heap w _ _ _ _ _ hh, ?_, fun j h1 h2 => ?_⟩, .pure _ _ (.u _)⟩
     ·exact (over_len hfit).trans (by simp only [List.length_append, List.length_take, List.length_drop]; omega)
     ·obtain ⟨hol, hog⟩ := over_get hfit j h1
      rw [hog]
      have hvg := overV_get (off := off) (cs := us) (l := vs) (by omega) j (by simpa using h2)
      simp only at h2 ⊢
      rw [hvg]
      by_cases hin : off ≤ j ∧ j < off + cs.length
      ·rw [dif_pos hin, dif_pos (by omega)]
       have := hus (j - off) (by omega) (by omega)
       exact ⟨this.1.stable (fun _ _ hn => hn) hold (by simp), this.2⟩
      ·rw [dif_neg hin, dif_neg (by omega)]
       have := hc j (by omega) (by omega)
       exact ⟨this.1.stable (fun _ _ hn => hn) hold (by simp), this.2⟩
   ·exact h.elim
  ·rename_i id sz idx off
   split at h
   ·rename_i e sz' n get hlk
    split at h
    ·rename_i hsz' hpure hfit
     have hsz' : sz = sz' := by simpa using hsz'
     subst hsz'
     have hfit : off + cs.length ≤ sz := by simpa using hfit
     obtain ⟨hidx, h⟩ := ob_iff h hgc
     obtain ⟨_, g, o, m, c, hval, rfl⟩ := hv.pe_inv
     obtain ⟨hid, xs, hx, hgl, hc⟩ := E.obj id _ hlk
     have hmul : idx * sz + sz ≤ n * sz := by rw [← Nat.succ_mul]; exact Nat.mul_le_mul_right _ hidx
     have hxl := hx.1
     rcases hx.2 with ⟨hnil, _⟩ | ⟨a0, h0, hn0⟩ | ⟨g', o', cap, cur, hv', hg, hnc, hcm, hcsz, htake⟩
     ·rw [hval] at hnil; cases hnil
     ·omega
     ·have hgg : g = g' ∧ o = o' := by
       have hv2 := hv'
       rw [hval] at hv2
       simp at hv2
       exact hv2.1
      obtain ⟨rfl, rfl⟩ := hgg
      have hF := E.own id _ g hlk (by simp [ownB, hv', blkOf])
      have hcapsz : n * sz ≤ (cap + 1) * sz := Nat.mul_le_mul_right _ hnc
      have hrun := store_run (P := P) (w := w) hti g (o + (idx * sz + off)) e cur u us hucells (by omega) hg (by omega) hone
      have hold : ∀ g2, g2 < w.heap.size → ¬ F g2 → (w.setRow g (cur.toList.take (o + (idx * sz + off)) ++ us ++ cur.toList.drop (o + (idx * sz + off) + us.length)).toArray).heap[g2]? = w.heap[g2]? :=
       fun g2 _ hn => setRow_other w _ g2 _ (fun e => hn (by rw [e]; exact hF))
      have hov := RowAt.over (w := w) hg hnc hcm hcsz htake hxl (idx * sz + off) us (by omega)
      have hbk : wrB β id (.row e sz n get) = some g := by simp [wrB, hv', blkOf]
      refine ⟨_, hrun, _, β, h, rfl, _, hlk, by rw [hbk]; exact grownBy_setRow _ _ _, rfl, ⟨_, by rw [hv']; exact hov, ?_, ?_⟩, .pure _ _ (.u _)⟩
      ·intro q hq
       by_cases he : q = idx
       ·subst he
        simp only [if_true]
        rw [over_len (by rw [hgl q hq]; exact hfit), hgl q hq]
       ·simp only [he, if_false]
        exact hgl q hq
      ·intro q j hq h1 h2
       have hjsz : j < sz := by
        by_cases he : q = idx
        ·subst he
         simp only [if_true] at h1
         rw [over_len (by rw [hgl q hq]; exact hfit), hgl q hq] at h1
         exact h1
        ·simp only [he, if_false] at h1
         rw [hgl q hq] at h1
         exact h1
       have hqsz : q * sz + sz ≤ n * sz := by rw [← Nat.succ_mul]; exact Nat.mul_le_mul_right _ hq
       rw [overV_get (by omega) _ h2]
       by_cases he : q = idx
       ·subst he
        have hol := over_get (off := off) (cs := cs) (l := get q) (by rw [hgl q hq]; exact hfit) j (by simpa using h1)
        simp only [if_true]
        rw [hol.2]
        by_cases hin : off ≤ j ∧ j < off + cs.length
        ·rw [dif_pos hin, dif_pos (by omega)]
         have := hus (j - off) (by omega) (by omega)
         have e : q * sz + j - (q * sz + off) = j - off := by omega
         simp only [e]
         exact ⟨(AV.lts_pure hpure _ _ this.1).stable (fun _ _ hn => hn) hold (by simp), this.2⟩
        ·rw [dif_neg hin, dif_neg (by omega)]
         have := hc q j hq (by rw [hgl q hq]; exact hjsz) (by omega)
         exact ⟨this.1.stable (fun _ _ hn => hn) hold (by simp), this.2⟩
       ·have hne : ¬ (idx * sz + off ≤ q * sz + j ∧ q * sz + j < idx * sz + off + us.length) := by
         rcases Nat.lt_or_gt_of_ne he with hlt | hgt
         ·have : q * sz + sz ≤ idx * sz := by rw [← Nat.succ_mul]; exact Nat.mul_le_mul_right _ hlt
          omega
         ·have : idx * sz + sz ≤ q * sz := by rw [← Nat.succ_mul]; exact Nat.mul_le_mul_right _ hgt
          omega
        rw [dif_neg hne]
        simp only [he, if_false] at h1 ⊢
        have := hc q j hq h1 (by omega)
        exact ⟨this.1.stable (fun _ _ hn => hn) hold (by simp), this.2⟩
    ·exact h.elim
   ·exact h.elim
  ·exact h.elim
end
end Go.Eng
end

section
namespace Go.Eng
open Go.RowKit
section
variable {P : Program} {β : Bd} {nid : Nat} {F : Nat → Prop} {w : World} {lk : Nat → Option AO} {k : Eff → Prop}
theorem rep_avOf1 (v : Value) : Rep0 F w (avOf1 v) v := by
 cases v <;> first | exact .b _ | exact .i _ _ | exact .s _ | exact .val _
theorem avOf1s_spec : ∀ (l : List Value), (avOf1s l).length = l.length ∧ ∀ (j : Nat) (h1 : j < (avOf1s l).length) (h2 : j < l.length), Rep0 F w (avOf1s l)[j] l[j]
 | [] => ⟨rfl, fun j h1 _ => by simp [avOf1s] at h1⟩
 | v :: r => by
  have ih := avOf1s_spec r
  refine ⟨by simp [avOf1s, ih.1], fun j h1 h2 => ?_⟩
  cases j with
  | zero => exact rep_avOf1 v
  | succ j => exact ih.2 j (by simpa [avOf1s] using h1) (by simpa using h2)
theorem rep_avOf (v : Value) : Rep0 F w (avOf v) v := by
 unfold avOf
 split
 ·rename_i l
  have h := avOf1s_spec (F := F) (w := w) l
  exact .ag _ l h.1 h.2
 ·exact rep_avOf1 v
def allocA (nid : Nat) (e : TypeId) (a : AV) (k : Eff → Prop) : Prop := cellsK a fun cs => k (.ext [.cells e cs] (.p nid 0))
theorem boxA_sound {e : TypeId} {a : AV} {v : Value} (hv : Rep β nid F w a v) (h : allocA nid e a k) :
  ∃ x w', (Instr.box e v).run P w = .ok x w' ∧ PostK β nid F lk w k x w' := by
 unfold allocA at h
 have hq := cellsK_iff h
 clear h
 obtain ⟨cs, h, hcs⟩ := hq
 obtain ⟨vs, hvc, hl, hr⟩ := cells_rep hv hcs
 refine ⟨_, _, ?_, _, _, h, .cells e cs vs hl hr⟩
 simp [Instr.box, newVar, newRow, hvc]
theorem allocA_sound {e : TypeId} {ti : TI} (hti : TIOk P e ti) (h : allocA nid e (avOf ti.zero) k) :
  ∃ x w', (Instr.alloc e true (.tuple #[])).run P w = .ok x w' ∧ PostK β nid F lk w k x w' := by
 unfold allocA at h
 have hq := cellsK_iff h
 clear h
 obtain ⟨cs, h, hcs⟩ := hq
 obtain ⟨vs, hvc, hl, hr⟩ := cells_rep (.pure (β := β) (n := nid) _ _ (rep_avOf (F := F) (w := w) ti.zero)) hcs
 refine ⟨_, _, ?_, _, _, h, .cells e cs vs hl hr⟩
 obtain ⟨_, _, i, hi, _, _, hz⟩ := hti
 simp [Instr.alloc, zeroValue, typeInfo, hi, hz, newVar, newRow, hvc]
def fieldAddrA (T : List (Nat × TI)) (s f : Nat) (a : AV) (k : Eff → Prop) : Prop :=
 match tget s T with
 | some ti => (match fieldD ti.desc f with
  | some fld => (match tget fld.type T with
   | some ft => (match ft.size with
    | 0 => False
    | _ + 1 => (match a with
     | .p id off => k (.ext [] (.p id (off + fld.offset)))
     | .pe id sz idx off => k (.ext [] (.pe id sz idx (off + fld.offset)))
     | .rp cs => dropK fld.offset cs fun l => k (.ext [] (.rp l))
     | _ => False))
   | none => False)
  | none => False)
 | none => False
theorem fieldAddr_run {T : List (Nat × TI)} (hT : TabOk P T) {s f : Nat} {ti ft : TI} {fld : Field} {m : Nat} (h1 : tget s T = some ti) (h2 : fieldD ti.desc f = some fld) (h3 : tget fld.type T = some ft) (h4 : ft.size = m + 1) (g o : Nat) :
  (Instr.fieldAt s (.pointer (some ⟨g, o, none⟩)) f).run P w = .ok (.pointer (some ⟨g, o + fld.offset, none⟩)) w := by
 obtain ⟨hu, _⟩ := hT.get h1
 obtain ⟨_, _, i, hi, hs, _⟩ := hT.get h3
 cases hd : ti.desc <;> simp [fieldD, hd] at h2
 rename_i fs
 have hsz : i.size ≠ 0 := by omega
 rw [hd] at hu
 simp [Instr.fieldAt, run_underlying hu, h2, Instr.sureAddr, fieldPlace, sizeOf, typeInfo, hi, hsz, Addr.add_lit]
theorem fieldAddrA_sound {T : List (Nat × TI)} (hT : TabOk P T) {s f : Nat} {a : AV} {v : Value} (hv : Rep β nid F w a v) (h : fieldAddrA T s f a k) :
  ∃ x, (Instr.fieldAt s v f).run P w = .ok x w ∧ ∃ r, k (.ext [] r) ∧ Rep β nid F w r x := by
 unfold fieldAddrA at h
 split at h
 ·rename_i ti h1
  split at h
  ·rename_i fld h2
   split at h
   ·rename_i ft h3
    split at h
    ·exact h.elim
    ·rename_i m h4
     split at h
     ·obtain ⟨hid, rfl⟩ := hv.p_inv
      exact ⟨_, fieldAddr_run hT h1 h2 h3 h4 _ _, _, h, .p _ _ hid⟩
     ·obtain ⟨hid, g, o, m', c, hval, rfl⟩ := hv.pe_inv
      exact ⟨_, fieldAddr_run hT h1 h2 h3 h4 _ _, _, h, by rw [Nat.add_assoc, Nat.add_assoc]; exact .pe _ _ _ _ g o m' c hid hval⟩
     ·obtain ⟨hle, h⟩ := dropK_iff h
      have hv0 := hv.rp_inv
      cases hv0 with
      | rp _ g off vs hF hg hc h1' hr =>
       refine ⟨_, fieldAddr_run hT h1 h2 h3 h4 _ _, _, h, .pure _ _ (.rp _ g _ (fun j => vs (fld.offset + j)) hF hg ?_ ?_ ?_)⟩
       ·intro j hj
        simp at hj
        have := hc (fld.offset + j) (by omega)
        rwa [← Nat.add_assoc] at this
       ·intro j hj
        simp at hj
        exact h1' _ (by omega)
       ·intro j hj
        simp at hj
        simpa using hr (fld.offset + j) (by omega)
     ·exact h.elim
   ·exact h.elim
  ·exact h.elim
 ·exact h.elim
def fieldA (T : List (Nat × TI)) (s f : Nat) (a : AV) (k : Eff → Prop) : Prop :=
 match tget s T, a with
 | some ti, .ag cs => (match fieldD ti.desc f with
  | some fld => (match tget fld.type T with
   | some ft => dropTakeK fld.offset ft.size cs fun l => packK ft.agg l fun r => k (.ext [] r)
   | none => False)
  | none => False)
 | _, _ => False
theorem part_out {t : TypeId} {ti : TI} (hti : TIOk P t ti) (off : Nat) (vs : List Value) (cs : List AV) (hl : cs.length = vs.length) (hsz : off + ti.size ≤ cs.length)
  (hr : ∀ (j : Nat) (h1 : j < cs.length) (h2 : j < vs.length), Rep β nid F w cs[j] vs[j])
  (h : packK ti.agg ((cs.drop off).take ti.size) fun r => k (.ext [] r)) :
  ∃ x, (part t vs.toArray off).run P w = .ok x w ∧ ∃ r, k (.ext [] r) ∧ Rep β nid F w r x := by
 obtain ⟨hu, hagg, i, hi, hs, _, _⟩ := hti
 have hisagg : (isAgg t).run P w = .ok ti.agg w := by
  unfold isAgg
  rw [Sem.run_bind, run_underlying hu w, ← hagg]
  cases ti.desc <;> simp [isAggD]
 unfold packK at h
 split at h
 ·rename_i ha
  refine ⟨.agg ((vs.drop off).take ti.size).toArray, ?_, _, h, .ag _ _ (by simp; omega) fun j h1 h2 => ?_⟩
  ·simp [part, hisagg, ha, sizeOf, typeInfo, hi, hs]
  ·simp at h1 h2
   simpa using hr (off + j) (by omega) (by omega)
 ·rename_i x ha hx
  have h0 : 0 < ((cs.drop off).take ti.size).length := by rw [hx]; simp
  simp at h0
  have hlt : off < vs.length := by omega
  refine ⟨vs[off], ?_, _, h, ?_⟩
  ·simp [part, hisagg, ha, hlt]
  ·have := hr off (by omega) hlt
   have e : x = cs[off]'(by omega) := by
    have := congrArg (fun l => l[0]?) hx
    simp at this
    rw [List.getElem?_take, if_pos (by omega), List.getElem?_drop] at this
    simpa [List.getElem?_eq_getElem (show off < cs.length by omega)] using this.symm
   rw [e]
   exact this
 ·exact h.elim
theorem fieldA_sound {T : List (Nat × TI)} (hT : TabOk P T) {s f : Nat} {a : AV} {v : Value} (hv : Rep β nid F w a v) (h : fieldA T s f a k) :
  ∃ x, (Instr.field s v f).run P w = .ok x w ∧ ∃ r, k (.ext [] r) ∧ Rep β nid F w r x := by
 unfold fieldA at h
 split at h
 ·rename_i ti cs h1
  split at h
  ·rename_i fld h2
   split at h
   ·rename_i ft h3
    obtain ⟨hsz, h⟩ := dropTakeK_iff h
    obtain ⟨vs, rfl, hl, hr⟩ := hv.ag_inv
    obtain ⟨x, hx, hk⟩ := part_out (w := w) (hT.get h3) fld.offset vs cs hl hsz hr h
    refine ⟨x, ?_, hk⟩
    obtain ⟨hu, _⟩ := hT.get h1
    cases hd : ti.desc <;> simp [fieldD, hd] at h2
    rename_i fs
    rw [hd] at hu
    simp [Instr.field, run_underlying hu, h2, asAgg, hx]
   ·exact h.elim
  ·exact h.elim
 ·exact h.elim
def indexAddrA (gc : Option Prop) (T : List (Nat × TI)) (lk : Nat → Option AO) (t : Nat) (a ix : AV) (k : Eff → Prop) : Prop :=
 match tget t T, ix with
 | some ti, .i _ i => (match sliceD ti.desc with
  | some e => (match tget e T with
   | some te => (match a with
    | .rs sz n get => (match Nat.beq sz te.size with
     | true => ob gc (0 ≤ i ∧ i < (n : Int)) (k (.ext [] (.rp (get i.toNat))))
     | false => False)
    | .so id => (match lk id with
     | some (.row _ sz n _) => (match Nat.beq sz te.size with
      | true => ob gc (0 ≤ i ∧ i < (n : Int)) (k (.ext [] (.pe id sz i.toNat 0)))
      | false => False)
     | _ => False)
    | .sv id sz lo m => (match Nat.beq sz te.size with
     | true => ob gc (0 ≤ i ∧ i < (m : Int)) (k (.ext [] (.pe id sz (lo + i.toNat) 0)))
     | false => False)
    | _ => False)
   | none => False)
  | none => False)
 | _, _ => False
theorem indexAt_run {T : List (Nat × TI)} (hT : TabOk P T) {t e : Nat} {ti te : TI} (h1 : tget t T = some ti) (h2 : sliceD ti.desc = some e) (h3 : tget e T = some te) (g o n c : Nat) (kk : IntKind) (i : Int) (hi : 0 ≤ i ∧ i < (n : Int)) :
  (Instr.indexAt t (.slice (some ⟨g, o, none⟩) n c) (.int kk i)).run P w = .ok (.pointer (some ⟨g, o + i.toNat * te.size, none⟩)) w := by
 obtain ⟨hu, _⟩ := hT.get h1
 obtain ⟨_, _, j, hj, hs, _⟩ := hT.get h3
 cases hd : ti.desc <;> simp [sliceD, hd] at h2
 subst h2
 rw [hd] at hu
 simp [Instr.indexAt, asIntOf, run_underlying hu, hi.1, hi.2, sizeOf, typeInfo, hj, hs, Addr.add_lit]
theorem indexAddrA_sound {gc : Option Prop} (hgc : ∀ c, gc = some c → c) (E : Env β nid F w lk) {T : List (Nat × TI)} (hT : TabOk P T) {t : Nat} {a ix : AV} {v u : Value}
  (hv : Rep β nid F w a v) (hu : Rep β nid F w ix u) (h : indexAddrA gc T lk t a ix k) :
  ∃ x, (Instr.indexAt t v u).run P w = .ok x w ∧ ∃ r, k (.ext [] r) ∧ Rep β nid F w r x := by
 unfold indexAddrA at h
 split at h
 ·rename_i ti kk i h1
  obtain rfl := hu.i_inv
  split at h
  ·rename_i e h2
   split at h
   ·rename_i te h3
    split at h
    ·rename_i sz n get
     split at h
     ·rename_i hsz
      have hsz : sz = te.size := by simpa using hsz
      obtain ⟨hi, h⟩ := ob_iff h hgc
      have hv0 := hv.rs_inv
      cases hv0 with
      | rsnil => simp at hi; omega
      | rsz => simp at hi; omega
      | rs _ _ _ g off cap vs hn hm hF hg hlen hc h1' hr =>
       have hlt : i.toNat < n := by omega
       refine ⟨_, indexAt_run hT h1 h2 h3 g off n cap kk i hi, _, h, .pure _ _ (.rp _ g _ (fun j => vs i.toNat j) hF hg ?_ ?_ ?_)⟩
       ·intro j hj
        rw [hlen _ hlt] at hj
        rw [← hsz]
        exact hc _ _ hlt hj
       ·intro j hj
        rw [hlen _ hlt] at hj
        exact h1' _ _ hlt hj
       ·intro j hj
        exact hr _ _ hlt hj
     ·exact h.elim
    ·rename_i id
     split at h
     ·rename_i e' sz n get hlk
      split at h
      ·rename_i hsz
       have hsz : sz = te.size := by simpa using hsz
       obtain ⟨hi, h⟩ := ob_iff h hgc
       obtain ⟨hid, rfl⟩ := hv.so_inv
       obtain ⟨_, xs, hx, _⟩ := E.obj id _ hlk
       rcases hx.2 with ⟨_, hn0⟩ | ⟨_, _, hn0⟩ | ⟨g, o, cap, cur, hv', _⟩
       ·omega
       ·omega
       ·refine ⟨_, by rw [hv']; exact indexAt_run hT h1 h2 h3 g o n (cap + 1) kk i hi, _, h, ?_⟩
        have := Rep.pe (β := β) (n := nid) (F := F) (w := w) id sz i.toNat 0 g o n (cap + 1) hid hv'
        rw [Nat.add_zero] at this
        rw [← hsz]
        exact this
      ·exact h.elim
     ·exact h.elim
    ·rename_i id sz lo m
     split at h
     ·rename_i hsz
      have hsz : sz = te.size := by simpa using hsz
      obtain ⟨hi, h⟩ := ob_iff h hgc
      obtain ⟨hid, hsv⟩ := hv.sv_inv
      rcases hsv with ⟨_, hn0, _⟩ | ⟨_, _, hn0, _⟩ | ⟨g, o, m', c, hval, hlo, hloc, rfl⟩
      ·omega
      ·omega
      ·refine ⟨_, indexAt_run hT h1 h2 h3 g (o + lo * sz) m (c - lo) kk i hi, _, h, ?_⟩
       have := Rep.pe (β := β) (n := nid) (F := F) (w := w) id sz (lo + i.toNat) 0 g o m' c hid hval
       have e : o + lo * sz + i.toNat * te.size = o + ((lo + i.toNat) * sz + 0) := by rw [Nat.add_mul, ← hsz]; omega
       rw [e]
       exact this
     ·exact h.elim
    ·exact h.elim
   ·exact h.elim
  ·exact h.elim
 ·exact h.elim
def indexAddrX (gc : Option Prop) (T : List (Nat × TI)) (lk : Nat → Option AO) (t : Nat) (a ix : AV) (k : Eff → Prop) : Prop :=
 match tget t T, a, ix with
 | some ti, .p id off, .i _ i => (match ti.desc with
  | .array n e => (match tget e T with
   | some te => ob gc (0 ≤ i ∧ i < (n : Int)) (k (.ext [] (.p id (off + i.toNat * te.size))))
   | none => False)
  | _ => False)
 | some ti, .rp cs, .i _ i => (match ti.desc with
  | .array n e => (match tget e T with
   | some te => dropK (i.toNat * te.size) cs fun l => ob gc (0 ≤ i ∧ i < (n : Int)) (k (.ext [] (.rp l)))
   | none => False)
  | _ => False)
 | _, a, ix => indexAddrA gc T lk t a ix k
theorem indexAt_arr {T : List (Nat × TI)} (hT : TabOk P T) {t e n : Nat} {ti te : TI} (h1 : tget t T = some ti) (h2 : ti.desc = .array n e) (h3 : tget e T = some te) (g o : Nat) (kk : IntKind) (i : Int) (hi : 0 ≤ i ∧ i < (n : Int)) :
  (Instr.indexAt t (.pointer (some ⟨g, o, none⟩)) (.int kk i)).run P w = .ok (.pointer (some ⟨g, o + i.toNat * te.size, none⟩)) w := by
 obtain ⟨hu, _⟩ := hT.get h1
 obtain ⟨_, _, j, hj, hs, _⟩ := hT.get h3
 rw [h2] at hu
 simp [Instr.indexAt, asIntOf, run_underlying hu, Instr.sureAddr, hi.1, hi.2, sizeOf, typeInfo, hj, hs, Addr.add_lit]
theorem indexAddrX_sound {gc : Option Prop} (hgc : ∀ c, gc = some c → c) (E : Env β nid F w lk) {T : List (Nat × TI)} (hT : TabOk P T) {t : Nat} {a ix : AV} {v u : Value}
  (hv : Rep β nid F w a v) (hu : Rep β nid F w ix u) (h : indexAddrX gc T lk t a ix k) :
  ∃ x, (Instr.indexAt t v u).run P w = .ok x w ∧ ∃ r, k (.ext [] r) ∧ Rep β nid F w r x := by
 unfold indexAddrX at h
 split at h
 ·rename_i ti id off kk i h1
  obtain rfl := hu.i_inv
  obtain ⟨hid, rfl⟩ := hv.p_inv
  split at h
  ·rename_i n e h2
   split at h
   ·rename_i te h3
    obtain ⟨hi, h⟩ := ob_iff h hgc
    exact ⟨_, indexAt_arr hT h1 h2 h3 _ _ kk i hi, _, h, .p _ _ hid⟩
   ·exact h.elim
  ·exact h.elim
 ·rename_i ti cs kk i h1
  obtain rfl := hu.i_inv
  split at h
  ·rename_i n e h2
   split at h
   ·rename_i te h3
    obtain ⟨hle, h⟩ := dropK_iff h
    obtain ⟨hi, h⟩ := ob_iff h hgc
    have hv0 := hv.rp_inv
    cases hv0 with
    | rp _ g off vs hF hg hc h1' hr =>
     refine ⟨_, indexAt_arr hT h1 h2 h3 _ _ kk i hi, _, h, .pure _ _ (.rp _ g _ (fun j => vs (i.toNat * te.size + j)) hF hg ?_ ?_ ?_)⟩
     ·intro j hj
      simp at hj
      have := hc (i.toNat * te.size + j) (by omega)
      rwa [← Nat.add_assoc] at this
     ·intro j hj
      simp at hj
      exact h1' _ (by omega)
     ·intro j hj
      simp at hj
      simpa using hr (i.toNat * te.size + j) (by omega)
   ·exact h.elim
  ·exact h.elim
 ·exact indexAddrA_sound hgc E hT hv hu h
def nthK : Nat → List AV → (AV → Prop) → Prop
 | _, [], _ => False
 | 0, a :: _, k => k a
 | n + 1, _ :: r, k => nthK n r k
theorem nthK_iff : ∀ {n : Nat} {l : List AV} {q : AV → Prop}, nthK n l q → ∃ h : n < l.length, q l[n]
 | _, [], _, h => by simp [nthK] at h
 | 0, a :: r, q, h => ⟨by simp, h⟩
 | n + 1, a :: r, q, h => by
  obtain ⟨h1, h2⟩ := nthK_iff (n := n) (l := r) h
  exact ⟨by simp; omega, by simpa using h2⟩
def extractA (j : Nat) (a : AV) (k : Eff → Prop) : Prop :=
 match a with
 | .tup l => nthK j l fun r => k (.ext [] r)
 | _ => False
theorem extractA_sound {j : Nat} {a : AV} {v : Value} (hv : Rep β nid F w a v) (h : extractA j a k) : ∃ x, (Instr.extract v j).run P w = .ok x w ∧ ∃ r, k (.ext [] r) ∧ Rep β nid F w r x := by
 unfold extractA at h
 split at h
 ·obtain ⟨hj, h⟩ := nthK_iff h
  obtain ⟨vs, rfl, hl, hr⟩ := hv.tup_inv
  refine ⟨vs[j]'(by omega), ?_, _, h, hr j hj (by omega)⟩
  simp [Instr.extract, List.getElem?_eq_getElem (show j < vs.length by omega)]
 ·exact h.elim
end
end Go.Eng
end
