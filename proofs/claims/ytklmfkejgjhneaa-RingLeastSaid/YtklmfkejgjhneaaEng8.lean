/-
  The engine, eighth part: parts of slices, function values, calls, and one operation.
-/
import Derived.Test.YtklmfkejgjhneaaEng7
namespace Go.Eng
open Go.RowKit
section
variable {P : Program} {β : Bd} {nid : Nat} {F : Nat → Prop} {w : World} {lk : Nat → Option AO} {k : Eff → Prop}

/-! ### a part of a read-only slice -/
def intOr (a : Option AV) (d : Int) : Option Int :=
  match a with
  | none => some d
  | some (.i _ n) => some n
  | some _ => none
def subA (gc : Option Prop) (T : List (Nat × TI)) (lk : Nat → Option AO) (t : Nat) (a : AV) (lo hi : Option AV) (k : Eff → Prop) : Prop :=
  match tget t T with
  | some ti => (match sliceD ti.desc with
    | some e => (match tget e T, a with
      | some te, .rs sz n get => (match Nat.beq sz te.size, intOr lo 0, intOr hi n with
        | true, some l, some h => ob gc (0 ≤ l ∧ l ≤ h ∧ h ≤ (n : Int)) (k (.ext [] (.rs sz (h - l).toNat fun q => get (l.toNat + q))))
        | _, _, _ => False)
      | some te, .so id => (match lk id with
        | some (.row _ sz n _) => (match Nat.beq sz te.size, intOr lo 0, intOr hi n with
          | true, some l, some h => ob gc (0 ≤ l ∧ l ≤ h ∧ h ≤ (n : Int)) (k (.ext [] (.sv id sz l.toNat (h - l).toNat)))
          | _, _, _ => False)
        | _ => False)
      | some te, .sv id sz lo' n => (match lk id with
        | some (.row _ sz' _ _) => (match Nat.beq sz te.size, Nat.beq sz' te.size, intOr lo 0, intOr hi n with
          | true, true, some l, some h => ob gc (0 ≤ l ∧ l ≤ h ∧ h ≤ (n : Int)) (k (.ext [] (.sv id sz (lo' + l.toNat) (h - l).toNat)))
          | _, _, _, _ => False)
        | _ => False)
      | _, _ => False)
    | none => False)
  | none => False

theorem bound_run (kk : IntKind) (i : Int) (y : Nat) (c : BoundsCode) (h0 : 0 ≤ i) (h1 : i ≤ y) : (Instr.sliceBound (.int kk i) y c).run P w = .ok i.toNat w := by
  simp [Instr.sliceBound, asIntOf, h0, h1]

theorem sub_run {T : List (Nat × TI)} (hT : TabOk P T) {t e : Nat} {ti te : TI} (h1 : tget t T = some ti) (h2 : sliceD ti.desc = some e) (h3 : tget e T = some te) (a : Option Addr) (n c : Nat) (hnc : n ≤ c) (lo hi : Option Value) (l h : Nat)
    (hlo : ∀ v, lo = some v → ∃ kk, v = .int kk l) (hlo' : lo = none → l = 0) (hhi : ∀ v, hi = some v → ∃ kk, v = .int kk h) (hhi' : hi = none → h = n) (hlh : l ≤ h) (hhn : h ≤ n) :
    (Instr.slice t (.slice a n c) lo hi none).run P w = .ok (.slice (if c = l then a else a.map (·.add (l * te.size))) (h - l) (c - l)) w := by
  obtain ⟨hu, _⟩ := hT.get h1
  obtain ⟨_, _, j, hj, hs, _⟩ := hT.get h3
  cases hd : ti.desc <;> simp [sliceD, hd] at h2
  subst h2
  rw [hd] at hu
  have hb : (Instr.sliceBounds true n c lo hi none).run P w = .ok (l, h, c) w := by
    unfold Instr.sliceBounds
    rcases hi with _ | vh <;> rcases lo with _ | vl
    · simp [hlo' rfl, hhi' rfl]
    · obtain ⟨kk, rfl⟩ := hlo _ rfl
      have := bound_run (P := P) (w := w) kk l n .sliceB (by omega) (by have := hhi' rfl; omega)
      simp [this, hhi' rfl]
    · obtain ⟨kk, rfl⟩ := hhi _ rfl
      have := bound_run (P := P) (w := w) kk h c .sliceAcap (by omega) (by omega)
      simp [this, hlo' rfl]
    · obtain ⟨kk, rfl⟩ := hhi _ rfl
      obtain ⟨kk', rfl⟩ := hlo _ rfl
      have h1 := bound_run (P := P) (w := w) kk h c .sliceAcap (by omega) (by omega)
      have h2 := bound_run (P := P) (w := w) kk' l h .sliceB (by omega) (by omega)
      simp [h1, h2]
  simp [Instr.slice, run_underlying hu, hb, sizeOf, typeInfo, hj, hs]

theorem intOr_spec {a : Option AV} {d n : Int} (h : intOr a d = some n) {v : Option Value} (hv : ∀ x, a = some x → ∃ y, v = some y ∧ Rep β nid F w x y) (hn : a = none → v = none) :
    (∀ y, v = some y → ∃ kk, y = .int kk n) ∧ (v = none → n = d) := by
  unfold intOr at h
  split at h
  · rw [hn rfl]
    exact ⟨fun y hy => (by cases hy), fun _ => (Option.some.inj h).symm⟩
  · obtain ⟨y, rfl, hy⟩ := hv _ rfl
    obtain rfl := Option.some.inj h
    obtain rfl := hy.i_inv
    exact ⟨fun y hy => by cases hy; exact ⟨_, rfl⟩, fun hy => by cases hy⟩
  · cases h

theorem subA_sound {gc : Option Prop} (hgc : ∀ c, gc = some c → c) (E : Env β nid F w lk) {T : List (Nat × TI)} (hT : TabOk P T) {t : Nat} {a : AV} {v : Value} {lo hi : Option AV} {lv hv : Option Value} (hr : Rep β nid F w a v)
    (hl : ∀ x, lo = some x → ∃ y, lv = some y ∧ Rep β nid F w x y) (hl' : lo = none → lv = none) (hh : ∀ x, hi = some x → ∃ y, hv = some y ∧ Rep β nid F w x y) (hh' : hi = none → hv = none)
    (h : subA gc T lk t a lo hi k) : ∃ x, (Instr.slice t v lv hv none).run P w = .ok x w ∧ ∃ r, k (.ext [] r) ∧ Rep β nid F w r x := by
  unfold subA at h
  split at h
  · rename_i ti h1
    split at h
    · rename_i e h2
      split at h
      · rename_i te sz n get h3
        split at h
        · rename_i l hh2 hsz hlo hhi
          have hsz : sz = te.size := by simpa using hsz
          have hq2 := ob_iff h hgc
          clear h
          obtain ⟨⟨hl0, hlh, hhn⟩, h⟩ := hq2
          have sl := intOr_spec hlo hl hl'
          have sh := intOr_spec hhi hh hh'
          obtain ⟨L, rfl⟩ := Int.eq_ofNat_of_zero_le hl0
          obtain ⟨H, rfl⟩ := Int.eq_ofNat_of_zero_le (Int.le_trans hl0 hlh)
          have hv0 := hr.rs_inv
          have run : ∀ (ad : Option Addr) (c : Nat), n ≤ c → (Instr.slice t (.slice ad n c) lv hv none).run P w = .ok (.slice (if c = L then ad else ad.map (·.add (L * te.size))) (H - L) (c - L)) w := fun ad c hc =>
            sub_run hT h1 h2 h3 ad n c hc lv hv L H sl.1 (fun hy => by have := sl.2 hy; omega) sh.1 (fun hy => by have := sh.2 hy; omega) (by omega) (by omega)
          have eHL : ((H : Int) - (L : Int)).toNat = H - L := by omega
          rw [eHL] at h
          cases hv0 with
          | rsnil =>
            have hr := run none 0 (Nat.le_refl _)
            have hL : L = 0 := by omega
            have hH : H = 0 := by omega
            subst hL
            subst hH
            refine ⟨_, hr, _, h, ?_⟩
            simp only [Nat.sub_self, if_true]
            exact .pure _ _ (.rsnil _ _)
          | rsz _ _ a0 =>
            have hr := run (some a0) 0 (Nat.le_refl _)
            have hL : L = 0 := by omega
            have hH : H = 0 := by omega
            subst hL
            subst hH
            refine ⟨_, hr, _, h, ?_⟩
            simp only [Nat.sub_self, if_true]
            exact .pure _ _ (.rsz _ _ a0)
          | rs _ _ _ g o c vs hn hm hF hg hlen hc h1' hr' =>
            have hr := run (some ⟨g, o, none⟩) c hn
            refine ⟨_, hr, _, h, .pure _ _ ?_⟩
            by_cases hcl : c = L
            · rw [if_pos hcl]
              have e0 : H - L = 0 := by omega
              rw [e0]
              exact .rs sz 0 _ g o _ (fun _ _ => undef) (Nat.zero_le _) (by omega) hF hg (fun k hk => by omega) (fun k j hk => by omega) (fun k j hk => by omega) (fun k j hk => by omega)
            · rw [if_neg hcl]
              simp only [Option.map_some, Addr.add_lit]
              refine .rs sz (H - L) _ g (o + L * te.size) _ (fun k j => vs (L + k) j) (by omega) (by omega) hF hg ?_ ?_ ?_ ?_
              · intro k hk
                simpa using hlen (L + k) (by omega)
              · intro k j hk hj
                have := hc (L + k) j (by omega) hj
                rw [Nat.add_mul] at this
                rw [← hsz, ← this]
                congr 2
                omega
              · intro k j hk hj
                exact h1' (L + k) j (by omega) hj
              · intro k j hk hj
                simpa using hr' (L + k) j (by omega) (by simpa using hj)
        · exact h.elim
      · rename_i te id h3
        split at h
        · rename_i e' sz n get hlk
          split at h
          · rename_i l hh2 hsz hlo hhi
            have hsz : sz = te.size := by simpa using hsz
            subst hsz
            have hq2 := ob_iff h hgc
            clear h
            obtain ⟨⟨hl0, hlh, hhn⟩, h⟩ := hq2
            have sl := intOr_spec hlo hl hl'
            have sh := intOr_spec hhi hh hh'
            obtain ⟨L, rfl⟩ := Int.eq_ofNat_of_zero_le hl0
            obtain ⟨H, rfl⟩ := Int.eq_ofNat_of_zero_le (Int.le_trans hl0 hlh)
            obtain ⟨hid, rfl⟩ := hr.so_inv
            obtain ⟨_, xs, hx, _⟩ := E.obj id _ hlk
            have run : ∀ (ad : Option Addr) (c : Nat), n ≤ c → (Instr.slice t (.slice ad n c) lv hv none).run P w = .ok (.slice (if c = L then ad else ad.map (·.add (L * te.size))) (H - L) (c - L)) w := fun ad c hc =>
              sub_run hT h1 h2 h3 ad n c hc lv hv L H sl.1 (fun hy => by have := sl.2 hy; omega) sh.1 (fun hy => by have := sh.2 hy; omega) (by omega) (by omega)
            have eHL : ((H : Int) - (L : Int)).toNat = H - L := by omega
            rw [eHL, Int.toNat_natCast] at h
            rcases hx.2 with ⟨hv0, hn0⟩ | ⟨a0, hv0, hn0⟩ | ⟨g, o, cap, cur, hv0, _, hnc, _⟩
            · have e0 : L = 0 ∧ H = 0 := by omega
              obtain ⟨rfl, rfl⟩ := e0
              subst hn0
              refine ⟨_, by rw [hv0]; exact run none 0 (Nat.le_refl _), _, h, .sv _ _ _ _ _ hid (.inl ⟨rfl, rfl, hv0⟩)⟩
            · have e0 : L = 0 ∧ H = 0 := by omega
              obtain ⟨rfl, rfl⟩ := e0
              subst hn0
              refine ⟨_, by rw [hv0]; exact run (some a0) 0 (Nat.le_refl _), _, h, .sv _ _ _ _ _ hid (.inr (.inl ⟨a0, rfl, rfl, _, _, _, hv0, Nat.zero_le _⟩))⟩
            · refine ⟨_, by rw [hv0]; exact run (some ⟨g, o, none⟩) (cap + 1) hnc, _, h, .sv _ _ _ _ _ hid ?_⟩
              by_cases hcl : cap + 1 = L
              · have e0 : H - L = 0 := by omega
                rw [if_pos hcl, e0, show cap + 1 - L = 0 by omega]
                exact .inr (.inl ⟨_, rfl, rfl, _, _, _, hv0, by omega⟩)
              · rw [if_neg hcl]
                simp only [Option.map_some, Addr.add_lit]
                exact .inr (.inr ⟨g, o, n, cap + 1, hv0, by omega, by omega, rfl⟩)
          · exact h.elim
        · exact h.elim
      · rename_i te id sz lo' n h3
        split at h
        · rename_i e' sz' N get hlk
          split at h
          · rename_i l hh2 hsz hsz' hlo hhi
            have hsz : sz = te.size := by simpa using hsz
            have hsz' : sz' = te.size := by simpa using hsz'
            subst hsz
            subst hsz'
            have hq2 := ob_iff h hgc
            clear h
            obtain ⟨⟨hl0, hlh, hhn⟩, h⟩ := hq2
            have sl := intOr_spec hlo hl hl'
            have sh := intOr_spec hhi hh hh'
            obtain ⟨L, rfl⟩ := Int.eq_ofNat_of_zero_le hl0
            obtain ⟨H, rfl⟩ := Int.eq_ofNat_of_zero_le (Int.le_trans hl0 hlh)
            obtain ⟨hid, hsv⟩ := hr.sv_inv
            obtain ⟨_, xs, hx, _⟩ := E.obj id _ hlk
            have run : ∀ (ad : Option Addr) (c : Nat), n ≤ c → (Instr.slice t (.slice ad n c) lv hv none).run P w = .ok (.slice (if c = L then ad else ad.map (·.add (L * te.size))) (H - L) (c - L)) w := fun ad c hc =>
              sub_run hT h1 h2 h3 ad n c hc lv hv L H sl.1 (fun hy => by have := sl.2 hy; omega) sh.1 (fun hy => by have := sh.2 hy; omega) (by omega) (by omega)
            have eHL : ((H : Int) - (L : Int)).toNat = H - L := by omega
            rw [eHL, Int.toNat_natCast] at h
            rcases hsv with ⟨rfl, hn0, hb⟩ | ⟨a0, rfl, hn0, a', m', c, hb, hc⟩ | ⟨g, o, m', c, hb, hlo', hlm, rfl⟩
            · have e0 : L = 0 ∧ H = 0 := by omega
              obtain ⟨rfl, rfl⟩ := e0
              subst hn0
              exact ⟨_, run none 0 (Nat.le_refl _), _, h, .sv _ _ _ _ _ hid (.inl ⟨rfl, rfl, hb⟩)⟩
            · have e0 : L = 0 ∧ H = 0 := by omega
              obtain ⟨rfl, rfl⟩ := e0
              subst hn0
              exact ⟨_, run (some a0) 0 (Nat.le_refl _), _, h, .sv _ _ _ _ _ hid (.inr (.inl ⟨a0, rfl, rfl, a', m', c, hb, by omega⟩))⟩
            · have hnc : n ≤ c - lo' := by
                rcases hx.2 with ⟨h1, _⟩ | ⟨_, h1, _⟩ | ⟨g', o', cap, cur, h1, _, hnc, _⟩
                · rw [hb] at h1; cases h1
                · rw [hb] at h1
                  simp only [Value.slice.injEq] at h1
                  omega
                · rw [hb] at h1
                  simp only [Value.slice.injEq] at h1
                  omega
              refine ⟨_, run (some ⟨g, o + lo' * te.size, none⟩) (c - lo') hnc, _, h, .sv _ _ _ _ _ hid ?_⟩
              by_cases hcl : c - lo' = L
              · have e0 : H - L = 0 := by omega
                rw [if_pos hcl, e0, show c - lo' - L = 0 by omega]
                exact .inr (.inl ⟨_, rfl, rfl, _, _, _, hb, by omega⟩)
              · rw [if_neg hcl]
                simp only [Option.map_some, Addr.add_lit]
                refine .inr (.inr ⟨g, o, m', c, hb, by omega, by omega, ?_⟩)
                rw [Nat.add_mul, ← Nat.add_assoc, Nat.sub_sub]
          · exact h.elim
        · exact h.elim
      · exact h.elim
    · exact h.elim
  · exact h.elim

/-! ### what is handed to a function: own objects, seen as read only -/
mutual
def viewK (lk : Nat → Option AO) : Nat → AV → (AV → Prop) → Prop
  | _ + 1, .so id, k => (match lk id with
    | some (.row _ sz m get) => k (.rs sz m get)
    | _ => False)
  | _ + 1, .sv id sz lo m, k => (match lk id with
    | some (.row _ sz' _ get) => (match Nat.beq sz' sz with
      | true => k (.rs sz m fun q => get (lo + q))
      | false => False)
    | _ => False)
  | _ + 1, .mo id, k => (match lk id with
    | some (.mp m key val _ _) => k (.rm m key val)
    | _ => False)
  | n + 1, .p id off, k => (match lk id with
    | some (.cells _ cs) => viewsK lk n cs fun l => dropK off l fun l' => k (.rp l')
    | _ => False)
  | n + 1, .fn f cs, k => viewsK lk n cs fun l => k (.fn f l)
  | n + 1, .ag cs, k => viewsK lk n cs fun l => k (.ag l)
  | n + 1, .tup cs, k => viewsK lk n cs fun l => k (.tup l)
  | _, .pe _ _ _ _, _ => False
  | 0, .mo _, _ => False
  | 0, .sv _ _ _ _, _ => False
  | 0, .so _, _ => False
  | 0, .p _ _, _ => False
  | 0, .fn _ _, _ => False
  | 0, .ag _, _ => False
  | 0, .tup _, _ => False
  | _, a, k => k a
def viewsK (lk : Nat → Option AO) : Nat → List AV → (List AV → Prop) → Prop
  | _, [], k => k []
  | 0, _ :: _, _ => False
  | n + 1, a :: r, k => viewK lk n a fun b => viewsK lk n r fun l => k (b :: l)
end

/-- A part of a row, seen as a slice that is read only. -/
theorem part_view {Fa : Nat → Prop} (hFF : ∀ g, Fa g → F g) {e : TypeId} {sz n : Nat} {xs : List Value} {get : Nat → List AV} {g o cap : Nat} (hga : ¬ Fa g) {cur : Array Value} (hh : w.heap[g]? = some (.cells cur e (0, 0))) (hcm : cap + 1 ≤ maxLen)
    (htake : (cur.toList.drop o).take (n * sz) = xs) (hxl : xs.length = n * sz) (hlen : ∀ k, k < n → (get k).length = sz)
    (hc : ∀ (k j : Nat) (_ : k < n) (h1 : j < (get k).length) (h2 : k * sz + j < xs.length), Rep0 F w (get k)[j] xs[k * sz + j] ∧ xs[k * sz + j].oneCell' = true) (lo m : Nat) (hlm : lo + m ≤ n) (c : Nat) (hmc : m ≤ c) (hcc : c ≤ cap + 1) :
    Rep0 Fa w (.rs sz m fun q => get (lo + q)) (.slice (some ⟨g, o + lo * sz, none⟩) m c) := by
  have hmul : ∀ k, k < n → k * sz + sz ≤ n * sz := fun k hk => by rw [← Nat.succ_mul]; exact Nat.mul_le_mul_right _ hk
  refine .rs sz m _ g (o + lo * sz) c (fun k j => xs.getD ((lo + k) * sz + j) undef) hmc (by omega) hga (Array.getElem?_eq_some_iff.1 hh).1 (fun k hk => hlen _ (by omega)) ?_ ?_ ?_
  · intro k j hk hj
    have hlt : (lo + k) * sz + j < xs.length := by have := hmul (lo + k) (by omega); omega
    rw [cell_of_row w _ _ _ _ _ hh]
    have e1 : o + lo * sz + k * sz + j = o + ((lo + k) * sz + j) := by rw [Nat.add_mul]; omega
    rw [e1]
    have h2 : xs[(lo + k) * sz + j]? = cur.toList[o + ((lo + k) * sz + j)]? := by
      rw [← htake, List.getElem?_take, if_pos (by omega), List.getElem?_drop]
    have h3 : xs[(lo + k) * sz + j]? = some xs[(lo + k) * sz + j] := List.getElem?_eq_getElem hlt
    rw [List.getD_eq_getElem?_getD, h3]
    rw [h3] at h2
    simpa using h2.symm
  · intro k j hk hj
    have hlt : (lo + k) * sz + j < xs.length := by have := hmul (lo + k) (by omega); omega
    have := (hc (lo + k) j (by omega) (by rw [hlen _ (by omega)]; exact hj) hlt).2
    rw [List.getD_eq_getElem?_getD, List.getElem?_eq_getElem hlt]
    simpa using this
  · intro k j hk hj
    have hj' : j < sz := by rw [hlen (lo + k) (by omega)] at hj; exact hj
    have hlt : (lo + k) * sz + j < xs.length := by have := hmul (lo + k) (by omega); omega
    have := (hc (lo + k) j (by omega) hj hlt).1
    rw [List.getD_eq_getElem?_getD, List.getElem?_eq_getElem hlt]
    exact this.stable (fun g _ hn hf => hn (hFF g hf)) (fun _ _ _ => rfl) (Nat.le_refl _)
theorem row_view {Fa : Nat → Prop} (hFF : ∀ g, Fa g → F g) {e : TypeId} {sz n : Nat} {v : Value} {xs : List Value} {get : Nat → List AV} (hx : RowAt w e sz v n xs) (hb : ∀ g, blkOf v = some g → ¬ Fa g) (hlen : ∀ k, k < n → (get k).length = sz)
    (hc : ∀ (k j : Nat) (_ : k < n) (h1 : j < (get k).length) (h2 : k * sz + j < xs.length), Rep0 F w (get k)[j] xs[k * sz + j] ∧ xs[k * sz + j].oneCell' = true) : Rep0 Fa w (.rs sz n get) v := by
  rcases hx.2 with ⟨rfl, rfl⟩ | ⟨a, rfl, rfl⟩ | ⟨g, o, cap, cur, rfl, hh, hnc, hcm, hcs, htake⟩
  · exact .rsnil _ _
  · exact .rsz _ _ a
  · have := part_view hFF (hb g rfl) hh hcm htake hx.1 hlen hc 0 n (by omega) (cap + 1) hnc (Nat.le_refl _)
    simpa using this
theorem sv_view {Fa : Nat → Prop} (hFF : ∀ g, Fa g → F g) {e : TypeId} {sz n lo m : Nat} {b v : Value} {xs : List Value} {get : Nat → List AV} (hsv : SvOk b sz lo m v) (hx : RowAt w e sz b n xs) (hbb : ∀ g, blkOf b = some g → ¬ Fa g) (hlen : ∀ k, k < n → (get k).length = sz)
    (hc : ∀ (k j : Nat) (_ : k < n) (h1 : j < (get k).length) (h2 : k * sz + j < xs.length), Rep0 F w (get k)[j] xs[k * sz + j] ∧ xs[k * sz + j].oneCell' = true) : Rep0 Fa w (.rs sz m fun q => get (lo + q)) v := by
  rcases hsv with ⟨rfl, rfl, _⟩ | ⟨a, rfl, rfl, _⟩ | ⟨g, o, m', c, hb, hlo, hlm, rfl⟩
  · exact .rsnil _ _
  · exact .rsz _ _ a
  · rcases hx.2 with ⟨h1, _⟩ | ⟨_, h1, _⟩ | ⟨g', o', cap, cur, h1, hh, hnc, hcm, hcs, htake⟩
    · rw [hb] at h1; cases h1
    · rw [hb] at h1
      simp only [Value.slice.injEq] at h1
      omega
    · rw [hb] at h1
      simp only [Value.slice.injEq, Option.some.injEq, Addr.mk.injEq] at h1
      obtain ⟨⟨rfl, rfl, _⟩, rfl, rfl⟩ := h1
      exact part_view hFF (hbb g (by rw [hb]; rfl)) hh hcm htake hx.1 hlen hc lo m (by omega) _ (by omega) (by omega)
theorem views_sound (E : Env β nid F w lk) {Fa : Nat → Prop} (hFF : ∀ g, Fa g → F g) {lkv : Nat → Option AO} (hlkv : ∀ id o, lkv id = some o → lk id = some o) (hFa : ∀ id o g, lkv id = some o → ownB β id o = some g → ¬ Fa g) : ∀ n : Nat,
    (∀ (a : AV) (v : Value) (q : AV → Prop), Rep β nid F w a v → viewK lkv n a q → ∃ b, q b ∧ Rep0 Fa w b v) ∧
    (∀ (l : List AV) (vs : List Value) (q : List AV → Prop), l.length = vs.length → (∀ (j : Nat) (h1 : j < l.length) (h2 : j < vs.length), Rep β nid F w l[j] vs[j]) → viewsK lkv n l q →
      ∃ m, q m ∧ m.length = vs.length ∧ ∀ (j : Nat) (h1 : j < m.length) (h2 : j < vs.length), Rep0 Fa w m[j] vs[j]) := by
  have toFalse : ∀ {a : AV} {v : Value}, Rep0 F w a v → Rep0 Fa w a v := fun h => h.stable (fun g _ hn hf => hn (hFF g hf)) (fun _ _ _ => rfl) (Nat.le_refl _)
  intro n
  induction n with
  | zero =>
    refine ⟨?_, ?_⟩
    · intro a v q hr h
      cases a <;> simp only [viewK] at h <;> first | exact h.elim | (cases hr with | pure _ _ hr => exact ⟨_, h, toFalse hr⟩)
    · intro l vs q hl hr h
      cases l with
      | nil => simp only [viewsK] at h; exact ⟨[], h, hl, fun j h1 => by simp at h1⟩
      | cons a r => simp only [viewsK] at h
  | succ n ih =>
    refine ⟨?_, ?_⟩
    · intro a v q hr h
      cases a with
      | so id =>
        simp only [viewK] at h
        split at h
        · rename_i e sz m get hlk
          obtain ⟨hid, rfl⟩ := hr.so_inv
          obtain ⟨_, xs, hx, hlen, hc⟩ := E.obj id _ (hlkv _ _ hlk)
          exact ⟨_, h, row_view hFF hx (fun g hg => hFa id _ g hlk hg) hlen hc⟩
        · exact h.elim
      | sv id sz lo m =>
        simp only [viewK] at h
        split at h
        · rename_i e sz' N get hlk
          split at h
          · rename_i hs
            have hs : sz' = sz := by simpa using hs
            subst hs
            obtain ⟨hid, hsv⟩ := hr.sv_inv
            obtain ⟨_, xs, hx, hlen, hc⟩ := E.obj id _ (hlkv _ _ hlk)
            exact ⟨_, h, sv_view hFF hsv hx (fun g hg => hFa id _ g hlk hg) hlen hc⟩
          · exact h.elim
        · exact h.elim
      | mo id =>
        simp only [viewK] at h
        split at h
        · rename_i m key val born clock hlk
          obtain ⟨hid, rfl⟩ := hr.mo_inv
          obtain ⟨_, es, hh, hn, ho, hc⟩ := E.obj id _ (hlkv _ _ hlk)
          exact ⟨_, h, .rm _ _ _ _ es clock (hFa id _ _ hlk rfl) hh hn ho (fun i h1 h2 => toFalse (hc i h1 h2).1) (fun i h1 h2 => toFalse (hc i h1 h2).2.1)⟩
        · exact h.elim
      | p id off =>
        simp only [viewK] at h
        split at h
        · rename_i e cs hlk
          obtain ⟨hid, rfl⟩ := hr.p_inv
          obtain ⟨_, vs, hh, hl, hc⟩ := E.obj id _ (hlkv _ _ hlk)
          obtain ⟨m, h, hml, hm⟩ := ih.2 cs vs _ hl (fun j h1 h2 => (hc j h1 h2).1) h
          obtain ⟨hle, h⟩ := dropK_iff h
          refine ⟨_, h, .rp _ (β.blk id) off (fun j => vs.getD (off + j) undef) (hFa id _ _ hlk rfl) (Array.getElem?_eq_some_iff.1 hh).1 ?_ ?_ ?_⟩
          · intro j hj
            simp at hj
            rw [cell_of_row w _ _ _ _ _ hh]
            simp [List.getElem?_eq_getElem (show off + j < vs.length by omega)]
          · intro j hj
            simp at hj
            have := (hc (off + j) (by omega) (by omega)).2
            simpa [List.getElem?_eq_getElem (show off + j < vs.length by omega)] using this
          · intro j hj
            simp at hj
            have := hm (off + j) (by omega) (by omega)
            simpa [List.getElem?_eq_getElem (show off + j < vs.length by omega)] using this
        · exact h.elim
      | fn f cs =>
        simp only [viewK] at h
        obtain ⟨vs, rfl, hl, hc⟩ := hr.fn_inv
        obtain ⟨m, h, hml, hm⟩ := ih.2 cs vs _ hl hc h
        exact ⟨_, h, .fn f m vs hml hm⟩
      | ag cs =>
        simp only [viewK] at h
        obtain ⟨vs, rfl, hl, hc⟩ := hr.ag_inv
        obtain ⟨m, h, hml, hm⟩ := ih.2 cs vs _ hl hc h
        exact ⟨_, h, .ag m vs hml hm⟩
      | tup cs =>
        simp only [viewK] at h
        obtain ⟨vs, rfl, hl, hc⟩ := hr.tup_inv
        obtain ⟨m, h, hml, hm⟩ := ih.2 cs vs _ hl hc h
        exact ⟨_, h, .tup m vs hml hm⟩
      | pe => simp only [viewK] at h
      | rm => simp only [viewK] at h; cases hr with | pure _ _ hr => exact ⟨_, h, toFalse hr⟩
      | b => simp only [viewK] at h; cases hr with | pure _ _ hr => exact ⟨_, h, toFalse hr⟩
      | i => simp only [viewK] at h; cases hr with | pure _ _ hr => exact ⟨_, h, toFalse hr⟩
      | s => simp only [viewK] at h; cases hr with | pure _ _ hr => exact ⟨_, h, toFalse hr⟩
      | val => simp only [viewK] at h; cases hr with | pure _ _ hr => exact ⟨_, h, toFalse hr⟩
      | u => simp only [viewK] at h; cases hr with | pure _ _ hr => exact ⟨_, h, toFalse hr⟩
      | rs => simp only [viewK] at h; cases hr with | pure _ _ hr => exact ⟨_, h, toFalse hr⟩
      | rp => simp only [viewK] at h; cases hr with | pure _ _ hr => exact ⟨_, h, toFalse hr⟩
    · intro l vs q hl hr h
      cases l with
      | nil => simp only [viewsK] at h; exact ⟨[], h, hl, fun j h1 => by simp at h1⟩
      | cons a r =>
        simp only [viewsK] at h
        cases vs with
        | nil => simp at hl
        | cons v vs =>
          obtain ⟨b, h, hb⟩ := ih.1 a v _ (hr 0 (by simp) (by simp)) h
          obtain ⟨m, h, hml, hm⟩ := ih.2 r vs _ (by simpa using hl) (fun j h1 h2 => hr (j + 1) (Nat.succ_lt_succ h1) (Nat.succ_lt_succ h2)) h
          refine ⟨b :: m, h, by simp [hml], fun j h1 h2 => ?_⟩
          cases j with
          | zero => exact hb
          | succ j => exact hm j (by simpa using h1) (by simpa using h2)
end
end Go.Eng
