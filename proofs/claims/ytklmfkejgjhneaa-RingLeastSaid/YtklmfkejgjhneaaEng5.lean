/-
  The engine, fifth part: operators and built-in functions.
-/
import Derived.Test.YtklmfkejgjhneaaEngK
namespace Go.Eng
open Go.RowKit Go.MapKept
section
variable {P : Program} {β : Bd} {nid : Nat} {F : Nat → Prop} {w : World} {lk : Nat → Option AO} {k : Eff → Prop}

/-! ### operators -/
def boolAt (T : List (Nat × TI)) (t : Nat) : Bool :=
  match tget t T with
  | some ti => isBoolD ti.desc
  | none => false
def sliceAt (T : List (Nat × TI)) (t : Nat) : Bool :=
  match tget t T with
  | some ti => (sliceD ti.desc).isSome
  | none => false
def nilSlice : Value → Bool
  | .slice none 0 0 => true
  | _ => false

def binA (gc : Option Prop) (T : List (Nat × TI)) (lk : Nat → Option AO) (op : BinOp) (t : Nat) (a b : AV) (k : Eff → Prop) : Prop :=
  match a, b with
  | .i j x, .i j' y => (match Nat.beq (kn j) (kn j') with
    | true => (match op with
      | .quo => ob gc (y ≠ 0) (k (.ext [] (.i j (j.wrap (x.tdiv y)))))
      | .rem => ob gc (y ≠ 0) (k (.ext [] (.i j (x.tmod y))))
      | .shl => ob gc (0 ≤ y) (k (.ext [] (.i j (j.wrap (x * 2 ^ (min y.toNat j.bits))))))
      | .shr => ob gc (0 ≤ y) (k (.ext [] (.i j (x.fdiv (2 ^ (min y.toNat j.bits))))))
      | op => (match binI op j x y with
        | some r => k (.ext [] r)
        | none => False))
    | false => False)
  | .b x, .b y => (match boolAt T t, op with
    | true, .eql => k (.ext [] (.b (x == y)))
    | true, .neq => k (.ext [] (.b (x != y)))
    | _, _ => False)
  | .s x, .s y => (match op with
    | .eql => k (.ext [] (.b (bytesEq x y)))
    | .neq => k (.ext [] (.b (!bytesEq x y)))
    | _ => False)
  | .rs _ n _, .val v => (match nilSlice v, sliceAt T t, op with
    | true, true, .eql => ob gc (0 < n) (k (.ext [] (.b false)))
    | true, true, .neq => ob gc (0 < n) (k (.ext [] (.b true)))
    | _, _, _ => False)
  | .so id, .val v => (match nilSlice v, sliceAt T t, op, lk id with
    | true, true, .eql, some (.row _ _ n _) => ob gc (0 < n) (k (.ext [] (.b false)))
    | true, true, .neq, some (.row _ _ n _) => ob gc (0 < n) (k (.ext [] (.b true)))
    | _, _, _, _ => False)
  | .sv _ _ _ n, .val v => (match nilSlice v, sliceAt T t, op with
    | true, true, .eql => ob gc (0 < n) (k (.ext [] (.b false)))
    | true, true, .neq => ob gc (0 < n) (k (.ext [] (.b true)))
    | _, _, _ => False)
  | .ag xs, .ag ys => (match keyFit T t (.ag xs), keyFit T t (.ag ys), op with
    | true, true, .eql => k (.ext [] (.b (eqAVs xs ys)))
    | true, true, .neq => k (.ext [] (.b (!eqAVs xs ys)))
    | _, _, _ => False)
  | .val u, .val v => (match nilSlice u, nilSlice v, sliceAt T t, op with
    | true, true, true, .eql => k (.ext [] (.b true))
    | true, true, true, .neq => k (.ext [] (.b false))
    | _, _, _, _ => False)
  | _, _ => False

theorem run_quo (t : TypeId) (j : IntKind) (x y : Int) (hy : y ≠ 0) : (binOp .quo t (.int j x) (.int j y)).run P w = .ok (.int j (j.wrap (x.tdiv y))) w := by
  simp [binOp, Op.intDiv, hy]
theorem run_rem (t : TypeId) (j : IntKind) (x y : Int) (hy : y ≠ 0) : (binOp .rem t (.int j x) (.int j y)).run P w = .ok (.int j (x.tmod y)) w := by
  simp [binOp, Op.intDiv, hy]
theorem run_shl (t : TypeId) (j : IntKind) (x y : Int) (hy : 0 ≤ y) : (binOp .shl t (.int j x) (.int j y)).run P w = .ok (.int j (j.wrap (x * 2 ^ (min y.toNat j.bits)))) w := by
  have : ¬ y < 0 := by omega
  simp [binOp, Op.shift, this]
theorem run_shr (t : TypeId) (j : IntKind) (x y : Int) (hy : 0 ≤ y) : (binOp .shr t (.int j x) (.int j y)).run P w = .ok (.int j (x.fdiv (2 ^ (min y.toNat j.bits)))) w := by
  have : ¬ y < 0 := by omega
  simp [binOp, Op.shift, this]
theorem boolAt_run {T : List (Nat × TI)} (hT : TabOk P T) {t : Nat} (h : boolAt T t = true) (x y : Bool) : (Op.equal t (.bool x) (.bool y)).run P w = .ok (x == y) w := by
  unfold boolAt at h
  split at h
  · rename_i ti ht
    obtain ⟨hu, _⟩ := hT.get ht
    cases hd : ti.desc <;> simp [isBoolD, hd] at h
    rw [hd] at hu
    have he : ∀ d, (Op.equalIn (d + 1) t (.bool x) (.bool y)).run P w = .ok (x == y) w := fun d => by simp [Op.equalIn, run_underlying hu]
    exact he 9999
  · cases h
theorem sliceAt_run {T : List (Nat × TI)} (hT : TabOk P T) {t : Nat} (h : sliceAt T t = true) (a : Option Addr) (n c : Nat) : (Op.equal t (.slice a n c) (.slice none 0 0)).run P w = .ok a.isNone w := by
  unfold sliceAt at h
  split at h
  · rename_i ti ht
    obtain ⟨hu, _⟩ := hT.get ht
    cases hd : ti.desc <;> simp [sliceD, hd] at h
    rw [hd] at hu
    have he : ∀ d, (Op.equalIn (d + 1) t (.slice a n c) (.slice none 0 0)).run P w = .ok a.isNone w := fun d => by cases a <;> simp [Op.equalIn, run_underlying hu]
    exact he 9999
  · cases h
theorem nilSlice_iff {v : Value} (h : nilSlice v = true) : v = .slice none 0 0 := by
  unfold nilSlice at h
  split at h
  · rfl
  · cases h

def binRun (op : BinOp) (t : TypeId) (x y : Operand) (a b : Value) : Sem Value := do eqGuard op t x y a b; binOp op t a b

theorem guard_int (op : BinOp) (t : TypeId) (x y : Operand) (i j : IntKind) (a b : Int) : (eqGuard op t x y (.int i a) (.int j b)).run P w = .ok () w := by cases op <;> rfl
theorem guard_bool (op : BinOp) (t : TypeId) (x y : Operand) (a b : Bool) : (eqGuard op t x y (.bool a) (.bool b)).run P w = .ok () w := by cases op <;> rfl
theorem guard_string (op : BinOp) (t : TypeId) (x y : Operand) (a b : ByteArray) : (eqGuard op t x y (.string a) (.string b)).run P w = .ok () w := by cases op <;> rfl
theorem guard_slice (op : BinOp) (t : TypeId) (x y : Operand) (a b : Option Addr) (n c m d : Nat) : (eqGuard op t x y (.slice a n c) (.slice b m d)).run P w = .ok () w := by cases op <;> rfl
theorem plainFit_lt {d : TypeDesc} {a : AV} (h : plainFit d a = true) : a.lt 0 = true := by
  cases d <;> cases a <;> simp [plainFit] at h <;> rfl
theorem fitFs_lts {T : List (Nat × TI)} : ∀ {fs : List Field} {off : Nat} {cs : List AV}, fitFs T fs off cs = true → AV.lts 0 cs = true
  | [], _, [], _ => rfl
  | [], _, _ :: _, h => by simp [fitFs] at h
  | _ :: _, _, [], h => by simp [fitFs] at h
  | f :: r, off, a :: cs, h => by
    unfold fitFs at h
    split at h
    · split at h
      · rename_i h1 h2
        unfold AV.lts
        rw [plainFit_lt h2]
        exact fitFs_lts h
      · cases h
    · cases h
theorem keyFit_lt {T : List (Nat × TI)} {t : Nat} {a : AV} (h : keyFit T t a = true) : a.lt 0 = true := by
  unfold keyFit at h
  split at h
  · split at h
    · split at h
      · exact fitFs_lts h
      · cases h
    · cases h
    · exact plainFit_lt h
  · cases h
theorem equal_ag {T : List (Nat × TI)} (hT : TabOk P T) {t : Nat} {xs ys : List AV} {u v : Value} (h1 : keyFit T t (.ag xs) = true) (h2 : keyFit T t (.ag ys) = true) (hu : Rep β nid F w (.ag xs) u) (hv : Rep β nid F w (.ag ys) v) :
    ∃ r : Bool, (Op.equal t u v).run P w = .ok r w ∧ r = eqAVs xs ys ∧ KV P t u ∧ KV P t v := by
  have hu0 := hu.toPure (keyFit_lt h1)
  have hv0 := hv.toPure (keyFit_lt h2)
  have k1 := keyFit_KV hT h1 hu0
  have k2 := keyFit_KV hT h2 hv0
  obtain ⟨r, hr, hiff⟩ := run_equal_KV (w := w) k1 k2
  refine ⟨r, hr, ?_, k1, k2⟩
  have hrep : eqAVs xs ys = true ↔ u = v := by
    unfold keyFit at h1 h2
    split at h1
    · rename_i ti ht
      cases hfs : structFs ti.desc with
      | none =>
        rw [hfs] at h1
        cases hd : ti.desc <;> simp [plainFit, hd] at h1
      | some fs =>
        rw [ht] at h2
        dsimp only at h2
        rw [hfs] at h1 h2
        dsimp only at h1 h2
        split at h1
        · rename_i hc
          rw [hc] at h2
          cases hu0 with
          | ag _ us hl hrr =>
            cases hv0 with
            | ag _ vs hl' hrr' =>
              rw [(fitFs_eq h1 h2 hl hl' hrr hrr').1]
              simp
        · cases h1
    · cases h1
  rw [Bool.eq_iff_iff, hiff, hrep]
theorem binA_sound {gc : Option Prop} (hgc : ∀ c, gc = some c → c) (E : Env β nid F w lk) {T : List (Nat × TI)} (hT : TabOk P T) {op : BinOp} {t : Nat} {a b : AV} {u v : Value} (x y : Operand)
    (hu : Rep β nid F w a u) (hv : Rep β nid F w b v) (h : binA gc T lk op t a b k) : ∃ z, (binRun op t x y u v).run P w = .ok z w ∧ ∃ r, k (.ext [] r) ∧ Rep β nid F w r z := by
  unfold binA at h
  split at h
  · rename_i j x' j' y'
    obtain rfl := hu.i_inv
    obtain rfl := hv.i_inv
    have hg := guard_int (P := P) (w := w) op t x y j j' x' y'
    split at h
    · rename_i hk
      obtain rfl := kn_inj hk
      split at h
      · obtain ⟨ho, h⟩ := ob_iff h hgc
        exact ⟨_, by unfold binRun; rw [Sem.run_bind, hg]; exact run_quo t j x' y' ho, _, h, .pure _ _ (.i _ _)⟩
      · obtain ⟨ho, h⟩ := ob_iff h hgc
        exact ⟨_, by unfold binRun; rw [Sem.run_bind, hg]; exact run_rem t j x' y' ho, _, h, .pure _ _ (.i _ _)⟩
      · obtain ⟨ho, h⟩ := ob_iff h hgc
        exact ⟨_, by unfold binRun; rw [Sem.run_bind, hg]; exact run_shl t j x' y' ho, _, h, .pure _ _ (.i _ _)⟩
      · obtain ⟨ho, h⟩ := ob_iff h hgc
        exact ⟨_, by unfold binRun; rw [Sem.run_bind, hg]; exact run_shr t j x' y' ho, _, h, .pure _ _ (.i _ _)⟩
      · split at h
        · rename_i r hr
          obtain ⟨z, hz, hrep⟩ := binI_sound (P := P) (w := w) t hr
          exact ⟨z, by unfold binRun; rw [Sem.run_bind, hg]; exact hz, r, h, .pure _ _ (hrep.stable (fun _ _ h => absurd trivial h) (fun _ _ _ => rfl) (Nat.le_refl _))⟩
        · exact h.elim
    · exact h.elim
  · rename_i x' y'
    obtain rfl := hu.b_inv
    obtain rfl := hv.b_inv
    have hg := fun op => guard_bool (P := P) (w := w) op t x y x' y'
    split at h
    · rename_i hb
      refine ⟨.bool (x' == y'), ?_, _, h, .pure _ _ (.b _)⟩
      unfold binRun
      rw [Sem.run_bind, hg]
      simp [binOp, boolAt_run hT hb]
    · rename_i hb
      refine ⟨.bool (x' != y'), ?_, _, h, .pure _ _ (.b _)⟩
      unfold binRun
      rw [Sem.run_bind, hg]
      simp [binOp, boolAt_run hT hb, bne]
    · exact h.elim
  · rename_i x' y'
    obtain rfl := hu.s_inv
    obtain rfl := hv.s_inv
    have hg := fun op => guard_string (P := P) (w := w) op t x y x' y'
    split at h
    · refine ⟨.bool (bytesEq x' y'), ?_, _, h, .pure _ _ (.b _)⟩
      unfold binRun
      rw [Sem.run_bind, hg]
      simp [binOp, Op.stringOp, bytesEq]
    · refine ⟨.bool (!bytesEq x' y'), ?_, _, h, .pure _ _ (.b _)⟩
      unfold binRun
      rw [Sem.run_bind, hg]
      simp [binOp, Op.stringOp, bytesEq]
    · exact h.elim
  · rename_i sz n get v'
    obtain rfl := hv.val_inv
    split at h
    · rename_i hn ht
      obtain ⟨ho, h⟩ := ob_iff h hgc
      obtain rfl := nilSlice_iff hn
      have hu0 := hu.rs_inv
      cases hu0 with
      | rsnil => omega
      | rsz => omega
      | rs _ _ _ g off cap =>
        refine ⟨.bool false, ?_, _, h, .pure _ _ (.b _)⟩
        unfold binRun
        rw [Sem.run_bind, guard_slice]
        simp [binOp, sliceAt_run hT ht]
    · rename_i hn ht
      obtain ⟨ho, h⟩ := ob_iff h hgc
      obtain rfl := nilSlice_iff hn
      have hu0 := hu.rs_inv
      cases hu0 with
      | rsnil => omega
      | rsz => omega
      | rs _ _ _ g off cap =>
        refine ⟨.bool true, ?_, _, h, .pure _ _ (.b _)⟩
        unfold binRun
        rw [Sem.run_bind, guard_slice]
        simp [binOp, sliceAt_run hT ht]
    · exact h.elim
  · rename_i id v'
    obtain rfl := hv.val_inv
    obtain ⟨hid, rfl⟩ := hu.so_inv
    split at h
    · rename_i e sz n get hn ht hlk
      obtain ⟨ho, h⟩ := ob_iff h hgc
      obtain rfl := nilSlice_iff hn
      obtain ⟨_, xs, hx, _⟩ := E.obj id _ hlk
      rcases hx.2 with ⟨_, hn0⟩ | ⟨_, _, hn0⟩ | ⟨g, o, cap, cur, hv', _⟩
      · omega
      · omega
      · refine ⟨.bool false, ?_, _, h, .pure _ _ (.b _)⟩
        rw [hv']
        unfold binRun
        rw [Sem.run_bind, guard_slice]
        simp [binOp, sliceAt_run hT ht]
    · rename_i e sz n get hn ht hlk
      obtain ⟨ho, h⟩ := ob_iff h hgc
      obtain rfl := nilSlice_iff hn
      obtain ⟨_, xs, hx, _⟩ := E.obj id _ hlk
      rcases hx.2 with ⟨_, hn0⟩ | ⟨_, _, hn0⟩ | ⟨g, o, cap, cur, hv', _⟩
      · omega
      · omega
      · refine ⟨.bool true, ?_, _, h, .pure _ _ (.b _)⟩
        rw [hv']
        unfold binRun
        rw [Sem.run_bind, guard_slice]
        simp [binOp, sliceAt_run hT ht]
    · exact h.elim
  · rename_i id sz lo n v'
    obtain rfl := hv.val_inv
    obtain ⟨hid, hsv⟩ := hu.sv_inv
    split at h
    · rename_i hn ht
      obtain ⟨ho, h⟩ := ob_iff h hgc
      obtain rfl := nilSlice_iff hn
      rcases hsv with ⟨_, hn0, _⟩ | ⟨_, _, hn0, _⟩ | ⟨g, o, m, c, hval, hlo, hloc, rfl⟩
      · omega
      · omega
      · refine ⟨.bool false, ?_, _, h, .pure _ _ (.b _)⟩
        unfold binRun
        rw [Sem.run_bind, guard_slice]
        simp [binOp, sliceAt_run hT ht]
    · rename_i hn ht
      obtain ⟨ho, h⟩ := ob_iff h hgc
      obtain rfl := nilSlice_iff hn
      rcases hsv with ⟨_, hn0, _⟩ | ⟨_, _, hn0, _⟩ | ⟨g, o, m, c, hval, hlo, hloc, rfl⟩
      · omega
      · omega
      · refine ⟨.bool true, ?_, _, h, .pure _ _ (.b _)⟩
        unfold binRun
        rw [Sem.run_bind, guard_slice]
        simp [binOp, sliceAt_run hT ht]
    · exact h.elim
  · rename_i xs ys
    split at h
    · rename_i h1 h2
      obtain ⟨r, hrun, hiff, hk1, hk2⟩ := equal_ag hT h1 h2 hu hv
      refine ⟨.bool (eqAVs xs ys), ?_, _, h, .pure _ _ (.b _)⟩
      unfold binRun
      rw [Sem.run_bind, run_guard_KV .eql x y hk1 hk2, ← hiff]
      obtain ⟨us, rfl, _⟩ := hu.ag_inv
      obtain ⟨vs, rfl, _⟩ := hv.ag_inv
      simp [binOp, hrun]
    · rename_i h1 h2
      obtain ⟨r, hrun, hiff, hk1, hk2⟩ := equal_ag hT h1 h2 hu hv
      refine ⟨.bool (!eqAVs xs ys), ?_, _, h, .pure _ _ (.b _)⟩
      unfold binRun
      rw [Sem.run_bind, run_guard_KV .neq x y hk1 hk2, ← hiff]
      obtain ⟨us, rfl, _⟩ := hu.ag_inv
      obtain ⟨vs, rfl, _⟩ := hv.ag_inv
      simp [binOp, hrun]
    · exact h.elim
  · rename_i u' v'
    obtain rfl := hv.val_inv
    obtain rfl := hu.val_inv
    split at h
    · rename_i hn1 hn2 ht
      obtain rfl := nilSlice_iff hn1
      obtain rfl := nilSlice_iff hn2
      refine ⟨.bool true, ?_, _, h, .pure _ _ (.b _)⟩
      unfold binRun
      rw [Sem.run_bind, guard_slice]
      simp [binOp, sliceAt_run hT ht]
    · rename_i hn1 hn2 ht
      obtain rfl := nilSlice_iff hn1
      obtain rfl := nilSlice_iff hn2
      refine ⟨.bool false, ?_, _, h, .pure _ _ (.b _)⟩
      unfold binRun
      rw [Sem.run_bind, guard_slice]
      simp [binOp, sliceAt_run hT ht]
    · exact h.elim
  · exact h.elim

def unA (op : UnOp) (a : AV) (k : Eff → Prop) : Prop :=
  match op, a with
  | .not, .b x => k (.ext [] (.b (!x)))
  | .neg, .i j n => k (.ext [] (.i j (j.wrap (0 - n))))
  | _, _ => False
theorem unA_sound {op : UnOp} {a : AV} {v : Value} (hv : Rep β nid F w a v) (h : unA op a k) : ∃ z, (Op.unary op v).run P w = .ok z w ∧ ∃ r, k (.ext [] r) ∧ Rep β nid F w r z := by
  unfold unA at h
  split at h
  · obtain rfl := hv.b_inv
    exact ⟨_, rfl, _, h, .pure _ _ (.b _)⟩
  · obtain rfl := hv.i_inv
    exact ⟨_, rfl, _, h, .pure _ _ (.i _ _)⟩
  · exact h.elim

def convA (T : List (Nat × TI)) (src dst : Nat) (a : AV) (k : Eff → Prop) : Prop :=
  match tget src T, tget dst T, a with
  | some _, some td, .i _ n => (match intD td.desc with
    | some j => k (.ext [] (.i j (j.wrap n)))
    | none => False)
  | some ts, some td, .s x => (match isStringD ts.desc, isStringD td.desc with
    | true, true => k (.ext [] (.s x))
    | _, _ => False)
  | _, _, _ => False
theorem convA_sound {T : List (Nat × TI)} (hT : TabOk P T) {src dst : Nat} {a : AV} {v : Value} (hv : Rep β nid F w a v) (h : convA T src dst a k) : ∃ z, (convert src dst v).run P w = .ok z w ∧ ∃ r, k (.ext [] r) ∧ Rep β nid F w r z := by
  unfold convA at h
  split at h
  · rename_i ts td j' n h1 h2
    obtain rfl := hv.i_inv
    split at h
    · rename_i j hj
      obtain ⟨hu1, _⟩ := hT.get h1
      obtain ⟨hu2, _⟩ := hT.get h2
      refine ⟨.int j (j.wrap n), ?_, _, h, .pure _ _ (.i _ _)⟩
      cases hd : td.desc <;> simp [intD, hd] at hj
      subst hj
      rw [hd] at hu2
      simp [convert, run_underlying hu1, run_underlying hu2, Conv.intToInt]
    · exact h.elim
  · rename_i ts td x h1 h2
    obtain rfl := hv.s_inv
    split at h
    · rename_i hs1 hs2
      obtain ⟨hu1, _⟩ := hT.get h1
      obtain ⟨hu2, _⟩ := hT.get h2
      refine ⟨.string x, ?_, _, h, .pure _ _ (.s _)⟩
      cases hd1 : ts.desc <;> simp [isStringD, hd1] at hs1
      cases hd2 : td.desc <;> simp [isStringD, hd2] at hs2
      rw [hd1] at hu1
      rw [hd2] at hu2
      simp [convert, run_underlying hu1, run_underlying hu2]
    · exact h.elim
  · exact h.elim

def nilCheckA (a : AV) (k : Eff → Prop) : Prop :=
  match a with
  | .p id off => k (.ext [] (.p id off))
  | .pe id sz idx off => k (.ext [] (.pe id sz idx off))
  | .rp cs => k (.ext [] (.rp cs))
  | _ => False

/-! ### len, min, max -/
def lenA (T : List (Nat × TI)) (lk : Nat → Option AO) (t : Nat) (a : AV) (k : Eff → Prop) : Prop :=
  match tget t T with
  | some ti => (match a with
    | .rs _ n _ => (match sliceD ti.desc with
      | some _ => k (.ext [] (.i .i64 n))
      | none => False)
    | .so id => (match sliceD ti.desc, lk id with
      | some _, some (.row _ _ n _) => k (.ext [] (.i .i64 n))
      | _, _ => False)
    | .val v => (match sliceD ti.desc, nilSlice v with
      | some _, true => k (.ext [] (.i .i64 0))
      | _, _ => False)
    | .sv _ _ _ n => (match sliceD ti.desc with
      | some _ => k (.ext [] (.i .i64 n))
      | none => False)
    | .mo id => (match isMapD ti.desc, lk id with
      | true, some (.mp n _ _ _ _) => k (.ext [] (.i .i64 n))
      | _, _ => False)
    | .rm n _ _ => (match isMapD ti.desc with
      | true => k (.ext [] (.i .i64 n))
      | false => False)
    | .s x => (match isStringD ti.desc with
      | true => k (.ext [] (.i .i64 x.size))
      | false => False)
    | _ => False)
  | none => False
theorem len_slice_run {T : List (Nat × TI)} (hT : TabOk P T) {t e : Nat} {ti : TI} (h1 : tget t T = some ti) (h2 : sliceD ti.desc = some e) (ty : TypeId) (a : Option Addr) (n c : Nat) (ts : Array TypeId) (hts : ts[0]? = some t) :
    (Builtin.len_ ts ty #[.slice a n c]).run P w = .ok (.int .i64 n) w := by
  obtain ⟨hu, _⟩ := hT.get h1
  cases hd : ti.desc <;> simp [sliceD, hd] at h2
  rw [hd] at hu
  simp [Builtin.len_, hts, run_underlying hu, goInt]
theorem lenA_sound (E : Env β nid F w lk) {T : List (Nat × TI)} (hT : TabOk P T) {t : Nat} {a : AV} {v : Value} (ty : TypeId) (ts : Array TypeId) (hts : ts[0]? = some t) (hv : Rep β nid F w a v)
    (h : lenA T lk t a k) : ∃ z, (Builtin.len_ ts ty #[v]).run P w = .ok z w ∧ ∃ r, k (.ext [] r) ∧ Rep β nid F w r z := by
  unfold lenA at h
  split at h
  · rename_i ti h1
    split at h
    · rename_i sz n get
      split at h
      · rename_i e h2
        have hv0 := hv.rs_inv
        cases hv0 with
        | rsnil => exact ⟨_, len_slice_run hT h1 h2 ty none 0 0 ts hts, _, h, .pure _ _ (.i _ _)⟩
        | rsz _ _ a => exact ⟨_, len_slice_run hT h1 h2 ty (some a) 0 0 ts hts, _, h, .pure _ _ (.i _ _)⟩
        | rs _ _ _ g off cap => exact ⟨_, len_slice_run hT h1 h2 ty _ n cap ts hts, _, h, .pure _ _ (.i _ _)⟩
      · exact h.elim
    · rename_i id
      obtain ⟨hid, rfl⟩ := hv.so_inv
      split at h
      · rename_i e _ sz n get h2 hlk
        obtain ⟨_, xs, hx, _⟩ := E.obj id _ hlk
        rcases hx.2 with ⟨hnil, hn0⟩ | ⟨a0, h0, hn0⟩ | ⟨g, o, cap, cur, hv', _⟩
        · rw [hnil]
          subst hn0
          exact ⟨_, len_slice_run hT h1 h2 ty none 0 0 ts hts, _, h, .pure _ _ (.i _ _)⟩
        · rw [h0]
          subst hn0
          exact ⟨_, len_slice_run hT h1 h2 ty _ 0 0 ts hts, _, h, .pure _ _ (.i _ _)⟩
        · rw [hv']
          exact ⟨_, len_slice_run hT h1 h2 ty _ n (cap + 1) ts hts, _, h, .pure _ _ (.i _ _)⟩
      · exact h.elim
    · rename_i v'
      obtain rfl := hv.val_inv
      split at h
      · rename_i e h2 hn
        obtain rfl := nilSlice_iff hn
        exact ⟨_, len_slice_run hT h1 h2 ty none 0 0 ts hts, _, h, .pure _ _ (.i _ _)⟩
      · exact h.elim
    · rename_i id sz lo n
      obtain ⟨hid, hsv⟩ := hv.sv_inv
      split at h
      · rename_i e h2
        rcases hsv with ⟨rfl, hn0, _⟩ | ⟨a0, rfl, hn0, _⟩ | ⟨g, o, m, c, hval, hlo, hloc, rfl⟩
        · subst hn0
          exact ⟨_, len_slice_run hT h1 h2 ty none 0 0 ts hts, _, h, .pure _ _ (.i _ _)⟩
        · subst hn0
          exact ⟨_, len_slice_run hT h1 h2 ty _ 0 0 ts hts, _, h, .pure _ _ (.i _ _)⟩
        · exact ⟨_, len_slice_run hT h1 h2 ty _ n (c - lo) ts hts, _, h, .pure _ _ (.i _ _)⟩
      · exact h.elim
    · rename_i id
      obtain ⟨hid, rfl⟩ := hv.mo_inv
      split at h
      · rename_i n key val born clock hm hlk
        obtain ⟨_, es, hh, hn, _⟩ := E.obj id _ hlk
        obtain ⟨hu, _⟩ := hT.get h1
        cases hd : ti.desc <;> simp [isMapD, hd] at hm
        rw [hd] at hu
        refine ⟨.int .i64 n, ?_, _, h, .pure _ _ (.i _ _)⟩
        simp [Builtin.len_, hts, run_underlying hu, Go.MapKept.run_getObj_map hh, goInt, hn]
      · exact h.elim
    · rename_i n key val
      have hv0 := hv.rm_inv
      split at h
      · rename_i hm
        obtain ⟨hu, _⟩ := hT.get h1
        cases hd : ti.desc <;> simp [isMapD, hd] at hm
        rw [hd] at hu
        cases hv0 with
        | rmnil => exact ⟨.int .i64 0, by simp [Builtin.len_, hts, run_underlying hu, goInt], _, h, .pure _ _ (.i _ _)⟩
        | rm _ _ _ g es clock hF hg hn ho hk hvv => exact ⟨.int .i64 n, by simp [Builtin.len_, hts, run_underlying hu, Go.MapKept.run_getObj_map hg, goInt, hn], _, h, .pure _ _ (.i _ _)⟩
      · exact h.elim
    · rename_i x
      obtain rfl := hv.s_inv
      split at h
      · rename_i hs
        obtain ⟨hu, _⟩ := hT.get h1
        cases hd : ti.desc <;> simp [isStringD, hd] at hs
        rw [hd] at hu
        exact ⟨.int .i64 x.size, by simp [Builtin.len_, hts, run_underlying hu, goInt], _, h, .pure _ _ (.i _ _)⟩
      · exact h.elim
    · exact h.elim
  · exact h.elim

def maxA (a b : AV) (k : Eff → Prop) : Prop :=
  match a, b with
  | .i j x, .i _ y => k (.ext [] (.i j (max x y)))
  | _, _ => False
def minA (a b : AV) (k : Eff → Prop) : Prop :=
  match a, b with
  | .i j x, .i _ y => k (.ext [] (.i j (min x y)))
  | _, _ => False
theorem maxA_sound {a b : AV} {u v : Value} (ts : Array TypeId) (ty : TypeId) (hu : Rep β nid F w a u) (hv : Rep β nid F w b v) (h : maxA a b k) : ∃ z, (Builtin.max_ ts ty #[u, v]).run P w = .ok z w ∧ ∃ r, k (.ext [] r) ∧ Rep β nid F w r z := by
  unfold maxA at h
  split at h
  · rename_i j x j' y
    obtain rfl := hu.i_inv
    obtain rfl := hv.i_inv
    refine ⟨.int j (max x y), ?_, _, h, .pure _ _ (.i _ _)⟩
    have e : (if x < y then y else x) = max x y := by split <;> omega
    simp [Builtin.max_, Builtin.max2, e]
  · exact h.elim
theorem minA_sound {a b : AV} {u v : Value} (ts : Array TypeId) (ty : TypeId) (hu : Rep β nid F w a u) (hv : Rep β nid F w b v) (h : minA a b k) : ∃ z, (Builtin.min_ ts ty #[u, v]).run P w = .ok z w ∧ ∃ r, k (.ext [] r) ∧ Rep β nid F w r z := by
  unfold minA at h
  split at h
  · rename_i j x j' y
    obtain rfl := hu.i_inv
    obtain rfl := hv.i_inv
    refine ⟨.int j (min x y), ?_, _, h, .pure _ _ (.i _ _)⟩
    have e : (if y < x then y else x) = min x y := by split <;> omega
    simp [Builtin.min_, Builtin.min2, e]
  · exact h.elim
end
end Go.Eng
