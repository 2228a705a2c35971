/-
  The engine, fourth part: more operations.
-/
import Derived.Test.YtklmfkejgjhneaaEng3
namespace Go.Eng
open Go.RowKit
section
variable {P : Program} {β : Bd} {nid : Nat} {F : Nat → Prop} {w : World} {lk : Nat → Option AO} {k : Eff → Prop}

/-! ### alloc, box -/
theorem rep_avOf1 (v : Value) : Rep0 F w (avOf1 v) v := by
  cases v <;> first | exact .b _ | exact .i _ _ | exact .s _ | exact .val _
theorem avOf1s_spec : ∀ (l : List Value), (avOf1s l).length = l.length ∧ ∀ (j : Nat) (h1 : j < (avOf1s l).length) (h2 : j < l.length), Rep0 F w (avOf1s l)[j] l[j]
  | [] => ⟨rfl, fun j h1 _ => by simp [avOf1s] at h1⟩
  | v :: r => by
    have ih := avOf1s_spec r
    refine ⟨by simp [avOf1s, ih.1], fun j h1 h2 => ?_⟩
    cases j with
    | zero => exact rep_avOf1 v
    | succ j => exact ih.2 j (by simpa [avOf1s] using h1) (by simpa using h2)
theorem rep_avOf (v : Value) : Rep0 F w (avOf v) v := by
  unfold avOf
  split
  · rename_i l
    have h := avOf1s_spec (F := F) (w := w) l
    exact .ag _ l h.1 h.2
  · exact rep_avOf1 v

def allocA (nid : Nat) (e : TypeId) (a : AV) (k : Eff → Prop) : Prop := cellsK a fun cs => k (.ext [.cells e cs] (.p nid 0))

theorem boxA_sound {e : TypeId} {a : AV} {v : Value} (hv : Rep β nid F w a v) (h : allocA nid e a k) :
    ∃ x w', (Instr.box e v).run P w = .ok x w' ∧ PostK β nid F lk w k x w' := by
  unfold allocA at h
  have hq := cellsK_iff h
  clear h
  obtain ⟨cs, h, hcs⟩ := hq
  obtain ⟨vs, hvc, hl, hr⟩ := cells_rep hv hcs
  refine ⟨_, _, ?_, _, _, h, .cells e cs vs hl hr⟩
  simp [Instr.box, newVar, newRow, hvc]

theorem allocA_sound {e : TypeId} {ti : TI} (hti : TIOk P e ti) (h : allocA nid e (avOf ti.zero) k) :
    ∃ x w', (Instr.alloc e true (.tuple #[])).run P w = .ok x w' ∧ PostK β nid F lk w k x w' := by
  unfold allocA at h
  have hq := cellsK_iff h
  clear h
  obtain ⟨cs, h, hcs⟩ := hq
  obtain ⟨vs, hvc, hl, hr⟩ := cells_rep (.pure (β := β) (n := nid) _ _ (rep_avOf (F := F) (w := w) ti.zero)) hcs
  refine ⟨_, _, ?_, _, _, h, .cells e cs vs hl hr⟩
  obtain ⟨_, _, i, hi, _, _, hz⟩ := hti
  simp [Instr.alloc, zeroValue, typeInfo, hi, hz, newVar, newRow, hvc]

/-! ### fields -/
def fieldAddrA (T : List (Nat × TI)) (s f : Nat) (a : AV) (k : Eff → Prop) : Prop :=
  match tget s T with
  | some ti => (match fieldD ti.desc f with
    | some fld => (match tget fld.type T with
      | some ft => (match ft.size with
        | 0 => False
        | _ + 1 => (match a with
          | .p id off => k (.ext [] (.p id (off + fld.offset)))
          | .pe id sz idx off => k (.ext [] (.pe id sz idx (off + fld.offset)))
          | .rp cs => dropK fld.offset cs fun l => k (.ext [] (.rp l))
          | _ => False))
      | none => False)
    | none => False)
  | none => False

theorem fieldAddr_run {T : List (Nat × TI)} (hT : TabOk P T) {s f : Nat} {ti ft : TI} {fld : Field} {m : Nat} (h1 : tget s T = some ti) (h2 : fieldD ti.desc f = some fld) (h3 : tget fld.type T = some ft) (h4 : ft.size = m + 1) (g o : Nat) :
    (Instr.fieldAt s (.pointer (some ⟨g, o, none⟩)) f).run P w = .ok (.pointer (some ⟨g, o + fld.offset, none⟩)) w := by
  obtain ⟨hu, _⟩ := hT.get h1
  obtain ⟨_, _, i, hi, hs, _⟩ := hT.get h3
  cases hd : ti.desc <;> simp [fieldD, hd] at h2
  rename_i fs
  have hsz : i.size ≠ 0 := by omega
  rw [hd] at hu
  simp [Instr.fieldAt, run_underlying hu, h2, Instr.sureAddr, fieldPlace, sizeOf, typeInfo, hi, hsz, Addr.add_lit]

theorem fieldAddrA_sound {T : List (Nat × TI)} (hT : TabOk P T) {s f : Nat} {a : AV} {v : Value} (hv : Rep β nid F w a v) (h : fieldAddrA T s f a k) :
    ∃ x, (Instr.fieldAt s v f).run P w = .ok x w ∧ ∃ r, k (.ext [] r) ∧ Rep β nid F w r x := by
  unfold fieldAddrA at h
  split at h
  · rename_i ti h1
    split at h
    · rename_i fld h2
      split at h
      · rename_i ft h3
        split at h
        · exact h.elim
        · rename_i m h4
          split at h
          · obtain ⟨hid, rfl⟩ := hv.p_inv
            exact ⟨_, fieldAddr_run hT h1 h2 h3 h4 _ _, _, h, .p _ _ hid⟩
          · obtain ⟨hid, g, o, m', c, hval, rfl⟩ := hv.pe_inv
            exact ⟨_, fieldAddr_run hT h1 h2 h3 h4 _ _, _, h, by rw [Nat.add_assoc, Nat.add_assoc]; exact .pe _ _ _ _ g o m' c hid hval⟩
          · obtain ⟨hle, h⟩ := dropK_iff h
            have hv0 := hv.rp_inv
            cases hv0 with
            | rp _ g off vs hF hg hc h1' hr =>
              refine ⟨_, fieldAddr_run hT h1 h2 h3 h4 _ _, _, h, .pure _ _ (.rp _ g _ (fun j => vs (fld.offset + j)) hF hg ?_ ?_ ?_)⟩
              · intro j hj
                simp at hj
                have := hc (fld.offset + j) (by omega)
                rwa [← Nat.add_assoc] at this
              · intro j hj
                simp at hj
                exact h1' _ (by omega)
              · intro j hj
                simp at hj
                simpa using hr (fld.offset + j) (by omega)
          · exact h.elim
      · exact h.elim
    · exact h.elim
  · exact h.elim

def fieldA (T : List (Nat × TI)) (s f : Nat) (a : AV) (k : Eff → Prop) : Prop :=
  match tget s T, a with
  | some ti, .ag cs => (match fieldD ti.desc f with
    | some fld => (match tget fld.type T with
      | some ft => dropTakeK fld.offset ft.size cs fun l => packK ft.agg l fun r => k (.ext [] r)
      | none => False)
    | none => False)
  | _, _ => False

theorem part_out {t : TypeId} {ti : TI} (hti : TIOk P t ti) (off : Nat) (vs : List Value) (cs : List AV) (hl : cs.length = vs.length) (hsz : off + ti.size ≤ cs.length)
    (hr : ∀ (j : Nat) (h1 : j < cs.length) (h2 : j < vs.length), Rep β nid F w cs[j] vs[j])
    (h : packK ti.agg ((cs.drop off).take ti.size) fun r => k (.ext [] r)) :
    ∃ x, (part t vs.toArray off).run P w = .ok x w ∧ ∃ r, k (.ext [] r) ∧ Rep β nid F w r x := by
  obtain ⟨hu, hagg, i, hi, hs, _, _⟩ := hti
  have hisagg : (isAgg t).run P w = .ok ti.agg w := by
    unfold isAgg
    rw [Sem.run_bind, run_underlying hu w, ← hagg]
    cases ti.desc <;> simp [isAggD]
  unfold packK at h
  split at h
  · rename_i ha
    refine ⟨.agg ((vs.drop off).take ti.size).toArray, ?_, _, h, .ag _ _ (by simp; omega) fun j h1 h2 => ?_⟩
    · simp [part, hisagg, ha, sizeOf, typeInfo, hi, hs]
    · simp at h1 h2
      simpa using hr (off + j) (by omega) (by omega)
  · rename_i x ha hx
    have h0 : 0 < ((cs.drop off).take ti.size).length := by rw [hx]; simp
    simp at h0
    have hlt : off < vs.length := by omega
    refine ⟨vs[off], ?_, _, h, ?_⟩
    · simp [part, hisagg, ha, hlt]
    · have := hr off (by omega) hlt
      have e : x = cs[off]'(by omega) := by
        have := congrArg (fun l => l[0]?) hx
        simp at this
        rw [List.getElem?_take, if_pos (by omega), List.getElem?_drop] at this
        simpa [List.getElem?_eq_getElem (show off < cs.length by omega)] using this.symm
      rw [e]
      exact this
  · exact h.elim

theorem fieldA_sound {T : List (Nat × TI)} (hT : TabOk P T) {s f : Nat} {a : AV} {v : Value} (hv : Rep β nid F w a v) (h : fieldA T s f a k) :
    ∃ x, (Instr.field s v f).run P w = .ok x w ∧ ∃ r, k (.ext [] r) ∧ Rep β nid F w r x := by
  unfold fieldA at h
  split at h
  · rename_i ti cs h1
    split at h
    · rename_i fld h2
      split at h
      · rename_i ft h3
        obtain ⟨hsz, h⟩ := dropTakeK_iff h
        obtain ⟨vs, rfl, hl, hr⟩ := hv.ag_inv
        obtain ⟨x, hx, hk⟩ := part_out (w := w) (hT.get h3) fld.offset vs cs hl hsz hr h
        refine ⟨x, ?_, hk⟩
        obtain ⟨hu, _⟩ := hT.get h1
        cases hd : ti.desc <;> simp [fieldD, hd] at h2
        rename_i fs
        rw [hd] at hu
        simp [Instr.field, run_underlying hu, h2, asAgg, hx]
      · exact h.elim
    · exact h.elim
  · exact h.elim

/-! ### indexing -/
def indexAddrA (gc : Option Prop) (T : List (Nat × TI)) (lk : Nat → Option AO) (t : Nat) (a ix : AV) (k : Eff → Prop) : Prop :=
  match tget t T, ix with
  | some ti, .i _ i => (match sliceD ti.desc with
    | some e => (match tget e T with
      | some te => (match a with
        | .rs sz n get => (match Nat.beq sz te.size with
          | true => ob gc (0 ≤ i ∧ i < (n : Int)) (k (.ext [] (.rp (get i.toNat))))
          | false => False)
        | .so id => (match lk id with
          | some (.row _ sz n _) => (match Nat.beq sz te.size with
            | true => ob gc (0 ≤ i ∧ i < (n : Int)) (k (.ext [] (.pe id sz i.toNat 0)))
            | false => False)
          | _ => False)
        | .sv id sz lo m => (match Nat.beq sz te.size with
          | true => ob gc (0 ≤ i ∧ i < (m : Int)) (k (.ext [] (.pe id sz (lo + i.toNat) 0)))
          | false => False)
        | _ => False)
      | none => False)
    | none => False)
  | _, _ => False

theorem indexAt_run {T : List (Nat × TI)} (hT : TabOk P T) {t e : Nat} {ti te : TI} (h1 : tget t T = some ti) (h2 : sliceD ti.desc = some e) (h3 : tget e T = some te) (g o n c : Nat) (kk : IntKind) (i : Int) (hi : 0 ≤ i ∧ i < (n : Int)) :
    (Instr.indexAt t (.slice (some ⟨g, o, none⟩) n c) (.int kk i)).run P w = .ok (.pointer (some ⟨g, o + i.toNat * te.size, none⟩)) w := by
  obtain ⟨hu, _⟩ := hT.get h1
  obtain ⟨_, _, j, hj, hs, _⟩ := hT.get h3
  cases hd : ti.desc <;> simp [sliceD, hd] at h2
  subst h2
  rw [hd] at hu
  simp [Instr.indexAt, asIntOf, run_underlying hu, hi.1, hi.2, sizeOf, typeInfo, hj, hs, Addr.add_lit]

theorem indexAddrA_sound {gc : Option Prop} (hgc : ∀ c, gc = some c → c) (E : Env β nid F w lk) {T : List (Nat × TI)} (hT : TabOk P T) {t : Nat} {a ix : AV} {v u : Value}
    (hv : Rep β nid F w a v) (hu : Rep β nid F w ix u) (h : indexAddrA gc T lk t a ix k) :
    ∃ x, (Instr.indexAt t v u).run P w = .ok x w ∧ ∃ r, k (.ext [] r) ∧ Rep β nid F w r x := by
  unfold indexAddrA at h
  split at h
  · rename_i ti kk i h1
    obtain rfl := hu.i_inv
    split at h
    · rename_i e h2
      split at h
      · rename_i te h3
        split at h
        · rename_i sz n get
          split at h
          · rename_i hsz
            have hsz : sz = te.size := by simpa using hsz
            obtain ⟨hi, h⟩ := ob_iff h hgc
            have hv0 := hv.rs_inv
            cases hv0 with
            | rsnil => simp at hi; omega
            | rsz => simp at hi; omega
            | rs _ _ _ g off cap vs hn hm hF hg hlen hc h1' hr =>
              have hlt : i.toNat < n := by omega
              refine ⟨_, indexAt_run hT h1 h2 h3 g off n cap kk i hi, _, h, .pure _ _ (.rp _ g _ (fun j => vs i.toNat j) hF hg ?_ ?_ ?_)⟩
              · intro j hj
                rw [hlen _ hlt] at hj
                rw [← hsz]
                exact hc _ _ hlt hj
              · intro j hj
                rw [hlen _ hlt] at hj
                exact h1' _ _ hlt hj
              · intro j hj
                exact hr _ _ hlt hj
          · exact h.elim
        · rename_i id
          split at h
          · rename_i e' sz n get hlk
            split at h
            · rename_i hsz
              have hsz : sz = te.size := by simpa using hsz
              obtain ⟨hi, h⟩ := ob_iff h hgc
              obtain ⟨hid, rfl⟩ := hv.so_inv
              obtain ⟨_, xs, hx, _⟩ := E.obj id _ hlk
              rcases hx.2 with ⟨_, hn0⟩ | ⟨_, _, hn0⟩ | ⟨g, o, cap, cur, hv', _⟩
              · omega
              · omega
              · refine ⟨_, by rw [hv']; exact indexAt_run hT h1 h2 h3 g o n (cap + 1) kk i hi, _, h, ?_⟩
                have := Rep.pe (β := β) (n := nid) (F := F) (w := w) id sz i.toNat 0 g o n (cap + 1) hid hv'
                rw [Nat.add_zero] at this
                rw [← hsz]
                exact this
            · exact h.elim
          · exact h.elim
        · rename_i id sz lo m
          split at h
          · rename_i hsz
            have hsz : sz = te.size := by simpa using hsz
            obtain ⟨hi, h⟩ := ob_iff h hgc
            obtain ⟨hid, hsv⟩ := hv.sv_inv
            rcases hsv with ⟨_, hn0, _⟩ | ⟨_, _, hn0, _⟩ | ⟨g, o, m', c, hval, hlo, hloc, rfl⟩
            · omega
            · omega
            · refine ⟨_, indexAt_run hT h1 h2 h3 g (o + lo * sz) m (c - lo) kk i hi, _, h, ?_⟩
              have := Rep.pe (β := β) (n := nid) (F := F) (w := w) id sz (lo + i.toNat) 0 g o m' c hid hval
              have e : o + lo * sz + i.toNat * te.size = o + ((lo + i.toNat) * sz + 0) := by rw [Nat.add_mul, ← hsz]; omega
              rw [e]
              exact this
          · exact h.elim
        · exact h.elim
      · exact h.elim
    · exact h.elim
  · exact h.elim

/-! ### parts of several results -/
def nthK : Nat → List AV → (AV → Prop) → Prop
  | _, [], _ => False
  | 0, a :: _, k => k a
  | n + 1, _ :: r, k => nthK n r k
theorem nthK_iff : ∀ {n : Nat} {l : List AV} {q : AV → Prop}, nthK n l q → ∃ h : n < l.length, q l[n]
  | _, [], _, h => by simp [nthK] at h
  | 0, a :: r, q, h => ⟨by simp, h⟩
  | n + 1, a :: r, q, h => by
    obtain ⟨h1, h2⟩ := nthK_iff (n := n) (l := r) h
    exact ⟨by simp; omega, by simpa using h2⟩
def extractA (j : Nat) (a : AV) (k : Eff → Prop) : Prop :=
  match a with
  | .tup l => nthK j l fun r => k (.ext [] r)
  | _ => False
theorem extractA_sound {j : Nat} {a : AV} {v : Value} (hv : Rep β nid F w a v) (h : extractA j a k) : ∃ x, (Instr.extract v j).run P w = .ok x w ∧ ∃ r, k (.ext [] r) ∧ Rep β nid F w r x := by
  unfold extractA at h
  split at h
  · obtain ⟨hj, h⟩ := nthK_iff h
    obtain ⟨vs, rfl, hl, hr⟩ := hv.tup_inv
    refine ⟨vs[j]'(by omega), ?_, _, h, hr j hj (by omega)⟩
    simp [Instr.extract, List.getElem?_eq_getElem (show j < vs.length by omega)]
  · exact h.elim

end
end Go.Eng
