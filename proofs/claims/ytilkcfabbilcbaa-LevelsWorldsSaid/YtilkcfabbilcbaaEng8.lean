/-
  The engine, eighth part: parts of slices, function values, calls, and one operation.
-/
import Derived.Test.YtilkcfabbilcbaaEng7
namespace Go.Eng
open Go.RowKit
section
variable {P : Program} {β : Bd} {nid : Nat} {F : Nat → Prop} {w : World} {lk : Nat → Option AO} {base : Nat} {k : Eff → Prop}

/-! ### a part of a read-only slice -/
def intOr (a : Option AV) (d : Int) : Option Int :=
  match a with
  | none => some d
  | some (.i _ n) => some n
  | some _ => none
def subA (gc : Option Prop) (T : List (Nat × TI)) (t : Nat) (a : AV) (lo hi : Option AV) (k : Eff → Prop) : Prop :=
  match tget t T with
  | some ti => (match sliceD ti.desc with
    | some e => (match tget e T, a with
      | some te, .rs sz n get => (match Nat.beq sz te.size, intOr lo 0, intOr hi n with
        | true, some l, some h => ob gc (0 ≤ l ∧ l ≤ h ∧ h ≤ (n : Int)) (k (.ext [] (.rs sz (h - l).toNat fun q => get (l.toNat + q))))
        | _, _, _ => False)
      | _, _ => False)
    | none => False)
  | none => False

theorem bound_run (kk : IntKind) (i : Int) (y : Nat) (c : BoundsCode) (h0 : 0 ≤ i) (h1 : i ≤ y) : (Instr.sliceBound (.int kk i) y c).run P w = .ok i.toNat w := by
  simp [Instr.sliceBound, asIntOf, h0, h1]

theorem sub_run {T : List (Nat × TI)} (hT : TabOk P T) {t e : Nat} {ti te : TI} (h1 : tget t T = some ti) (h2 : sliceD ti.desc = some e) (h3 : tget e T = some te) (a : Option Addr) (n c : Nat) (hnc : n ≤ c) (lo hi : Option Value) (l h : Nat)
    (hlo : ∀ v, lo = some v → ∃ kk, v = .int kk l) (hlo' : lo = none → l = 0) (hhi : ∀ v, hi = some v → ∃ kk, v = .int kk h) (hhi' : hi = none → h = n) (hlh : l ≤ h) (hhn : h ≤ n) :
    (Instr.slice t (.slice a n c) lo hi none).run P w = .ok (.slice (if c = l then a else a.map (·.add (l * te.size))) (h - l) (c - l)) w := by
  obtain ⟨hu, _⟩ := hT.get h1
  obtain ⟨_, _, j, hj, hs, _⟩ := hT.get h3
  cases hd : ti.desc <;> simp [sliceD, hd] at h2
  subst h2
  rw [hd] at hu
  have hb : (Instr.sliceBounds true n c lo hi none).run P w = .ok (l, h, c) w := by
    unfold Instr.sliceBounds
    rcases hi with _ | vh <;> rcases lo with _ | vl
    · simp [hlo' rfl, hhi' rfl]
    · obtain ⟨kk, rfl⟩ := hlo _ rfl
      have := bound_run (P := P) (w := w) kk l n .sliceB (by omega) (by have := hhi' rfl; omega)
      simp [this, hhi' rfl]
    · obtain ⟨kk, rfl⟩ := hhi _ rfl
      have := bound_run (P := P) (w := w) kk h c .sliceAcap (by omega) (by omega)
      simp [this, hlo' rfl]
    · obtain ⟨kk, rfl⟩ := hhi _ rfl
      obtain ⟨kk', rfl⟩ := hlo _ rfl
      have h1 := bound_run (P := P) (w := w) kk h c .sliceAcap (by omega) (by omega)
      have h2 := bound_run (P := P) (w := w) kk' l h .sliceB (by omega) (by omega)
      simp [h1, h2]
  simp [Instr.slice, run_underlying hu, hb, sizeOf, typeInfo, hj, hs]

theorem intOr_spec {a : Option AV} {d n : Int} (h : intOr a d = some n) {v : Option Value} (hv : ∀ x, a = some x → ∃ y, v = some y ∧ Rep β nid F w x y) (hn : a = none → v = none) :
    (∀ y, v = some y → ∃ kk, y = .int kk n) ∧ (v = none → n = d) := by
  unfold intOr at h
  split at h
  · rw [hn rfl]
    exact ⟨fun y hy => (by cases hy), fun _ => (Option.some.inj h).symm⟩
  · obtain ⟨y, rfl, hy⟩ := hv _ rfl
    obtain rfl := Option.some.inj h
    obtain rfl := hy.i_inv
    exact ⟨fun y hy => by cases hy; exact ⟨_, rfl⟩, fun hy => by cases hy⟩
  · cases h

theorem subA_sound {gc : Option Prop} (hgc : ∀ c, gc = some c → c) {T : List (Nat × TI)} (hT : TabOk P T) {t : Nat} {a : AV} {v : Value} {lo hi : Option AV} {lv hv : Option Value} (hr : Rep β nid F w a v)
    (hl : ∀ x, lo = some x → ∃ y, lv = some y ∧ Rep β nid F w x y) (hl' : lo = none → lv = none) (hh : ∀ x, hi = some x → ∃ y, hv = some y ∧ Rep β nid F w x y) (hh' : hi = none → hv = none)
    (h : subA gc T t a lo hi k) : ∃ x, (Instr.slice t v lv hv none).run P w = .ok x w ∧ ∃ r, k (.ext [] r) ∧ Rep β nid F w r x := by
  unfold subA at h
  split at h
  · rename_i ti h1
    split at h
    · rename_i e h2
      split at h
      · rename_i te sz n get h3
        split at h
        · rename_i l hh2 hsz hlo hhi
          have hsz : sz = te.size := by simpa using hsz
          have hq2 := ob_iff h hgc
          clear h
          obtain ⟨⟨hl0, hlh, hhn⟩, h⟩ := hq2
          have sl := intOr_spec hlo hl hl'
          have sh := intOr_spec hhi hh hh'
          obtain ⟨L, rfl⟩ := Int.eq_ofNat_of_zero_le hl0
          obtain ⟨H, rfl⟩ := Int.eq_ofNat_of_zero_le (Int.le_trans hl0 hlh)
          have hv0 := hr.rs_inv
          have run : ∀ (ad : Option Addr) (c : Nat), n ≤ c → (Instr.slice t (.slice ad n c) lv hv none).run P w = .ok (.slice (if c = L then ad else ad.map (·.add (L * te.size))) (H - L) (c - L)) w := fun ad c hc =>
            sub_run hT h1 h2 h3 ad n c hc lv hv L H sl.1 (fun hy => by have := sl.2 hy; omega) sh.1 (fun hy => by have := sh.2 hy; omega) (by omega) (by omega)
          have eHL : ((H : Int) - (L : Int)).toNat = H - L := by omega
          rw [eHL] at h
          cases hv0 with
          | rsnil =>
            have hr := run none 0 (Nat.le_refl _)
            have hL : L = 0 := by omega
            have hH : H = 0 := by omega
            subst hL
            subst hH
            refine ⟨_, hr, _, h, ?_⟩
            simp only [Nat.sub_self, if_true]
            exact .pure _ _ (.rsnil _ _)
          | rs _ _ _ g o c vs hn hm hF hg hlen hc h1' hr' =>
            have hr := run (some ⟨g, o, none⟩) c hn
            refine ⟨_, hr, _, h, .pure _ _ ?_⟩
            by_cases hcl : c = L
            · rw [if_pos hcl]
              have e0 : H - L = 0 := by omega
              rw [e0]
              exact .rs sz 0 _ g o _ (fun _ _ => undef) (Nat.zero_le _) (by omega) hF hg (fun k hk => by omega) (fun k j hk => by omega) (fun k j hk => by omega) (fun k j hk => by omega)
            · rw [if_neg hcl]
              simp only [Option.map_some, Addr.add_lit]
              refine .rs sz (H - L) _ g (o + L * te.size) _ (fun k j => vs (L + k) j) (by omega) (by omega) hF hg ?_ ?_ ?_ ?_
              · intro k hk
                simpa using hlen (L + k) (by omega)
              · intro k j hk hj
                have := hc (L + k) j (by omega) hj
                rw [Nat.add_mul] at this
                rw [← hsz, ← this]
                congr 2
                omega
              · intro k j hk hj
                exact h1' (L + k) j (by omega) hj
              · intro k j hk hj
                simpa using hr' (L + k) j (by omega) (by simpa using hj)
        · exact h.elim
      · exact h.elim
    · exact h.elim
  · exact h.elim

/-! ### what is handed to a function: own objects, seen as read only -/
mutual
def viewK (lk : Nat → Option AO) : Nat → AV → (AV → Prop) → Prop
  | _ + 1, .so id, k => (match lk id with
    | some (.row _ sz m get) => k (.rs sz m get)
    | _ => False)
  | n + 1, .p id off, k => (match lk id with
    | some (.cells _ cs) => viewsK lk n cs fun l => dropK off l fun l' => k (.rp l')
    | _ => False)
  | n + 1, .fn f cs, k => viewsK lk n cs fun l => k (.fn f l)
  | n + 1, .ag cs, k => viewsK lk n cs fun l => k (.ag l)
  | n + 1, .tup cs, k => viewsK lk n cs fun l => k (.tup l)
  | _, .pe _ _ _ _, _ => False
  | _, .mo _, _ => False
  | 0, .so _, _ => False
  | 0, .p _ _, _ => False
  | 0, .fn _ _, _ => False
  | 0, .ag _, _ => False
  | 0, .tup _, _ => False
  | _, a, k => k a
def viewsK (lk : Nat → Option AO) : Nat → List AV → (List AV → Prop) → Prop
  | _, [], k => k []
  | 0, _ :: _, _ => False
  | n + 1, a :: r, k => viewK lk n a fun b => viewsK lk n r fun l => k (b :: l)
end

theorem views_sound (E : Env β nid F w lk base) : ∀ n : Nat,
    (∀ (a : AV) (v : Value) (q : AV → Prop), Rep β nid F w a v → viewK lk n a q → ∃ b, q b ∧ Rep0 (fun _ => False) w b v) ∧
    (∀ (l : List AV) (vs : List Value) (q : List AV → Prop), l.length = vs.length → (∀ (j : Nat) (h1 : j < l.length) (h2 : j < vs.length), Rep β nid F w l[j] vs[j]) → viewsK lk n l q →
      ∃ m, q m ∧ m.length = vs.length ∧ ∀ (j : Nat) (h1 : j < m.length) (h2 : j < vs.length), Rep0 (fun _ => False) w m[j] vs[j]) := by
  have toFalse : ∀ {a : AV} {v : Value}, Rep0 F w a v → Rep0 (fun _ => False) w a v := fun h => h.stable (fun _ _ _ h => h) (fun _ _ _ => rfl) (Nat.le_refl _)
  intro n
  induction n with
  | zero =>
    refine ⟨?_, ?_⟩
    · intro a v q hr h
      cases a <;> simp only [viewK] at h <;> first | exact h.elim | (cases hr with | pure _ _ hr => exact ⟨_, h, toFalse hr⟩)
    · intro l vs q hl hr h
      cases l with
      | nil => simp only [viewsK] at h; exact ⟨[], h, hl, fun j h1 => by simp at h1⟩
      | cons a r => simp only [viewsK] at h
  | succ n ih =>
    refine ⟨?_, ?_⟩
    · intro a v q hr h
      cases a with
      | so id =>
        simp only [viewK] at h
        split at h
        · rename_i e sz m get hlk
          obtain ⟨hid, rfl⟩ := hr.so_inv
          obtain ⟨_, xs, hx, hlen, hc⟩ := E.obj id _ hlk
          refine ⟨_, h, ?_⟩
          rcases hx.2 with ⟨hnil, h0⟩ | ⟨g, cap, cur, hv, hb, hg, hnc, hcm, hcs, htake⟩
          · rw [hnil, h0]
            exact .rsnil _ _
          · rw [hv]
            have hmul : ∀ k, k < m → k * sz + sz ≤ m * sz := fun k hk => by rw [← Nat.succ_mul]; exact Nat.mul_le_mul_right _ hk
            refine .rs sz m get g 0 cap (fun k j => xs.getD (k * sz + j) undef) hnc hcm (fun h => h) (Array.getElem?_eq_some_iff.1 hg).1 hlen ?_ ?_ ?_
            · intro k j hk hj
              have hlt : k * sz + j < xs.length := by rw [hx.1]; have := hmul k hk; omega
              have := hx.cells (g := g) (by rw [hv]; rfl) (k * sz + j) _ (List.getElem?_eq_getElem hlt)
              rw [Addr.add_lit] at this
              simpa [List.getElem?_eq_getElem hlt] using this
            · intro k j hk hj
              have hlt : k * sz + j < xs.length := by rw [hx.1]; have := hmul k hk; omega
              have := (hc k j hk (by rw [hlen k hk]; exact hj) hlt).2
              simpa [List.getElem?_eq_getElem hlt] using this
            · intro k j hk hj
              have hlt : k * sz + j < xs.length := by rw [hx.1]; have := hmul k hk; rw [hlen k hk] at hj; omega
              have := (hc k j hk hj hlt).1
              simpa [List.getElem?_eq_getElem hlt] using toFalse this
        · exact h.elim
      | p id off =>
        simp only [viewK] at h
        split at h
        · rename_i e cs hlk
          obtain ⟨hid, rfl⟩ := hr.p_inv
          obtain ⟨_, hb, vs, hh, hl, hc⟩ := E.obj id _ hlk
          obtain ⟨m, h, hml, hm⟩ := ih.2 cs vs _ hl (fun j h1 h2 => (hc j h1 h2).1) h
          obtain ⟨hle, h⟩ := dropK_iff h
          refine ⟨_, h, .rp _ (β.blk id) off (fun j => vs.getD (off + j) undef) (fun h => h) (Array.getElem?_eq_some_iff.1 hh).1 ?_ ?_ ?_⟩
          · intro j hj
            simp at hj
            rw [cell_of_row w _ _ _ _ _ hh]
            simp [List.getElem?_eq_getElem (show off + j < vs.length by omega)]
          · intro j hj
            simp at hj
            have := (hc (off + j) (by omega) (by omega)).2
            simpa [List.getElem?_eq_getElem (show off + j < vs.length by omega)] using this
          · intro j hj
            simp at hj
            have := hm (off + j) (by omega) (by omega)
            simpa [List.getElem?_eq_getElem (show off + j < vs.length by omega)] using this
        · exact h.elim
      | fn f cs =>
        simp only [viewK] at h
        obtain ⟨vs, rfl, hl, hc⟩ := hr.fn_inv
        obtain ⟨m, h, hml, hm⟩ := ih.2 cs vs _ hl hc h
        exact ⟨_, h, .fn f m vs hml hm⟩
      | ag cs =>
        simp only [viewK] at h
        obtain ⟨vs, rfl, hl, hc⟩ := hr.ag_inv
        obtain ⟨m, h, hml, hm⟩ := ih.2 cs vs _ hl hc h
        exact ⟨_, h, .ag m vs hml hm⟩
      | tup cs =>
        simp only [viewK] at h
        obtain ⟨vs, rfl, hl, hc⟩ := hr.tup_inv
        obtain ⟨m, h, hml, hm⟩ := ih.2 cs vs _ hl hc h
        exact ⟨_, h, .tup m vs hml hm⟩
      | pe => simp only [viewK] at h
      | mo => simp only [viewK] at h
      | b => simp only [viewK] at h; cases hr with | pure _ _ hr => exact ⟨_, h, toFalse hr⟩
      | i => simp only [viewK] at h; cases hr with | pure _ _ hr => exact ⟨_, h, toFalse hr⟩
      | s => simp only [viewK] at h; cases hr with | pure _ _ hr => exact ⟨_, h, toFalse hr⟩
      | val => simp only [viewK] at h; cases hr with | pure _ _ hr => exact ⟨_, h, toFalse hr⟩
      | u => simp only [viewK] at h; cases hr with | pure _ _ hr => exact ⟨_, h, toFalse hr⟩
      | rs => simp only [viewK] at h; cases hr with | pure _ _ hr => exact ⟨_, h, toFalse hr⟩
      | rp => simp only [viewK] at h; cases hr with | pure _ _ hr => exact ⟨_, h, toFalse hr⟩
    · intro l vs q hl hr h
      cases l with
      | nil => simp only [viewsK] at h; exact ⟨[], h, hl, fun j h1 => by simp at h1⟩
      | cons a r =>
        simp only [viewsK] at h
        cases vs with
        | nil => simp at hl
        | cons v vs =>
          obtain ⟨b, h, hb⟩ := ih.1 a v _ (hr 0 (by simp) (by simp)) h
          obtain ⟨m, h, hml, hm⟩ := ih.2 r vs _ (by simpa using hl) (fun j h1 h2 => hr (j + 1) (Nat.succ_lt_succ h1) (Nat.succ_lt_succ h2)) h
          refine ⟨b :: m, h, by simp [hml], fun j h1 h2 => ?_⟩
          cases j with
          | zero => exact hb
          | succ j => exact hm j (by simpa using h1) (by simpa using h2)
end
end Go.Eng
