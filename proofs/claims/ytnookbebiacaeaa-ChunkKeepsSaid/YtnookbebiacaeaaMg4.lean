/-
  Several texts in one: Eng8, EngM.
-/
import Derived.Laws.CopyRow
import Derived.Test.YtnookbebiacaeaaMg3

section
namespace Go.Eng
open Go.RowKit
section
variable {P : Program} {β : Bd} {nid : Nat} {F : Nat → Prop} {w : World} {lk : Nat → Option AO} {k : Eff → Prop}
def intOr (a : Option AV) (d : Int) : Option Int :=
 match a with
 | none => some d
 | some (.i _ n) => some n
 | some _ => none
def subA (gc : Option Prop) (T : List (Nat × TI)) (lk : Nat → Option AO) (t : Nat) (a : AV) (lo hi : Option AV) (k : Eff → Prop) : Prop :=
 match tget t T with
 | some ti => (match sliceD ti.desc with
  | some e => (match tget e T, a with
   | some te, .rs sz n get => (match Nat.beq sz te.size, intOr lo 0, intOr hi n with
    | true, some l, some h => ob gc (0 ≤ l ∧ l ≤ h ∧ h ≤ (n : Int)) (k (.ext [] (.rs sz (h - l).toNat fun q => get (l.toNat + q))))
    | _, _, _ => False)
   | some te, .so id => (match lk id with
    | some (.row _ sz n _) => (match Nat.beq sz te.size, intOr lo 0, intOr hi n with
     | true, some l, some h => ob gc (0 ≤ l ∧ l ≤ h ∧ h ≤ (n : Int)) (k (.ext [] (.sv id sz l.toNat (h - l).toNat)))
     | _, _, _ => False)
    | _ => False)
   | some te, .sv id sz lo' n => (match lk id with
    | some (.row _ sz' N _) => (match Nat.beq sz te.size, Nat.beq sz' te.size, intOr lo 0, intOr hi n with
     | true, true, some l, some h => ob gc (0 ≤ l ∧ l ≤ h ∧ (h ≤ (n : Int) ∨ lo' + h ≤ (N : Int))) (k (.ext [] (.sv id sz (lo' + l.toNat) (h - l).toNat)))
     | _, _, _, _ => False)
    | _ => False)
   | _, _ => False)
  | none => False)
 | none => False
theorem bound_run (kk : IntKind) (i : Int) (y : Nat) (c : BoundsCode) (h0 : 0 ≤ i) (h1 : i ≤ y) : (Instr.sliceBound (.int kk i) y c).run P w = .ok i.toNat w := by
 simp [Instr.sliceBound, asIntOf, h0, h1]
theorem sub_run {T : List (Nat × TI)} (hT : TabOk P T) {t e : Nat} {ti te : TI} (h1 : tget t T = some ti) (h2 : sliceD ti.desc = some e) (h3 : tget e T = some te) (a : Option Addr) (n c : Nat) (lo hi : Option Value) (l h : Nat)
  (hlo : ∀ v, lo = some v → ∃ kk, v = .int kk l) (hlo' : lo = none → l = 0) (hhi : ∀ v, hi = some v → ∃ kk, v = .int kk h) (hhi' : hi = none → h = n) (hlh : l ≤ h) (hhn : h ≤ c) :
  (Instr.slice t (.slice a n c) lo hi none).run P w = .ok (.slice (if c = l then a else a.map (·.add (l * te.size))) (h - l) (c - l)) w := by
 obtain ⟨hu, _⟩ := hT.get h1
 obtain ⟨_, _, j, hj, hs, _⟩ := hT.get h3
 cases hd : ti.desc <;> simp [sliceD, hd] at h2
 subst h2
 rw [hd] at hu
 have hb : (Instr.sliceBounds true n c lo hi none).run P w = .ok (l, h, c) w := by
  unfold Instr.sliceBounds
  rcases hi with _ | vh <;> rcases lo with _ | vl
  ·simp [hlo' rfl, hhi' rfl]
  ·obtain ⟨kk, rfl⟩ := hlo _ rfl
   have := bound_run (P := P) (w := w) kk l n .sliceB (by omega) (by have := hhi' rfl; omega)
   simp [this, hhi' rfl]
  ·obtain ⟨kk, rfl⟩ := hhi _ rfl
   have := bound_run (P := P) (w := w) kk h c .sliceAcap (by omega) (by omega)
   simp [this, hlo' rfl]
  ·obtain ⟨kk, rfl⟩ := hhi _ rfl
   obtain ⟨kk', rfl⟩ := hlo _ rfl
   have h1 := bound_run (P := P) (w := w) kk h c .sliceAcap (by omega) (by omega)
   have h2 := bound_run (P := P) (w := w) kk' l h .sliceB (by omega) (by omega)
   simp [h1, h2]
 simp [Instr.slice, run_underlying hu, hb, sizeOf, typeInfo, hj, hs]
theorem intOr_spec {a : Option AV} {d n : Int} (h : intOr a d = some n) {v : Option Value} (hv : ∀ x, a = some x → ∃ y, v = some y ∧ Rep β nid F w x y) (hn : a = none → v = none) :
  (∀ y, v = some y → ∃ kk, y = .int kk n) ∧ (v = none → n = d) := by
 unfold intOr at h
 split at h
 ·rw [hn rfl]
  exact ⟨fun y hy => (by cases hy), fun _ => (Option.some.inj h).symm⟩
 ·obtain ⟨y, rfl, hy⟩ := hv _ rfl
  obtain rfl := Option.some.inj h
  obtain rfl := hy.i_inv
  exact ⟨fun y hy => by cases hy; exact ⟨_, rfl⟩, fun hy => by cases hy⟩
 ·cases h
theorem subA_sound {gc : Option Prop} (hgc : ∀ c, gc = some c → c) (E : Env β nid F w lk) {T : List (Nat × TI)} (hT : TabOk P T) {t : Nat} {a : AV} {v : Value} {lo hi : Option AV} {lv hv : Option Value} (hr : Rep β nid F w a v)
  (hl : ∀ x, lo = some x → ∃ y, lv = some y ∧ Rep β nid F w x y) (hl' : lo = none → lv = none) (hh : ∀ x, hi = some x → ∃ y, hv = some y ∧ Rep β nid F w x y) (hh' : hi = none → hv = none)
  (h : subA gc T lk t a lo hi k) : ∃ x, (Instr.slice t v lv hv none).run P w = .ok x w ∧ ∃ r, k (.ext [] r) ∧ Rep β nid F w r x := by
 unfold subA at h
 split at h
 ·rename_i ti h1
  split at h
  ·rename_i e h2
   split at h
   ·rename_i te sz n get h3
    split at h
    ·rename_i l hh2 hsz hlo hhi
     have hsz : sz = te.size := by simpa using hsz
     have hq2 := ob_iff h hgc
     clear h
     obtain ⟨⟨hl0, hlh, hhn⟩, h⟩ := hq2
     have sl := intOr_spec hlo hl hl'
     have sh := intOr_spec hhi hh hh'
     obtain ⟨L, rfl⟩ := Int.eq_ofNat_of_zero_le hl0
     obtain ⟨H, rfl⟩ := Int.eq_ofNat_of_zero_le (Int.le_trans hl0 hlh)
     have hv0 := hr.rs_inv
     have run : ∀ (ad : Option Addr) (c : Nat), n ≤ c → (Instr.slice t (.slice ad n c) lv hv none).run P w = .ok (.slice (if c = L then ad else ad.map (·.add (L * te.size))) (H - L) (c - L)) w := fun ad c hc =>
      sub_run hT h1 h2 h3 ad n c lv hv L H sl.1 (fun hy => by have := sl.2 hy; omega) sh.1 (fun hy => by have := sh.2 hy; omega) (by omega) (by omega)
     have eHL : ((H : Int) - (L : Int)).toNat = H - L := by omega
     rw [eHL] at h
     cases hv0 with
     | rsnil =>
      have hr := run none 0 (Nat.le_refl _)
      have hL : L = 0 := by omega
      have hH : H = 0 := by omega
      subst hL
      subst hH
      refine ⟨_, hr, _, h, ?_⟩
      simp only [Nat.sub_self, if_true]
      exact .pure _ _ (.rsnil _ _)
     | rsz _ _ a0 =>
      have hr := run (some a0) 0 (Nat.le_refl _)
      have hL : L = 0 := by omega
      have hH : H = 0 := by omega
      subst hL
      subst hH
      refine ⟨_, hr, _, h, ?_⟩
      simp only [Nat.sub_self, if_true]
      exact .pure _ _ (.rsz _ _ a0)
     | rs _ _ _ g o c vs hn hm hF hg hlen hc h1' hr' =>
      have hr := run (some ⟨g, o, none⟩) c hn
      refine ⟨_, hr, _, h, .pure _ _ ?_⟩
      by_cases hcl : c = L
      ·rw [if_pos hcl]
       have e0 : H - L = 0 := by omega
       rw [e0]
       exact .rs sz 0 _ g o _ (fun _ _ => undef) (Nat.zero_le _) (by omega) hF hg (fun k hk => by omega) (fun k j hk => by omega) (fun k j hk => by omega) (fun k j hk => by omega)
      ·rw [if_neg hcl]
       simp only [Option.map_some, Addr.add_lit]
       refine .rs sz (H - L) _ g (o + L * te.size) _ (fun k j => vs (L + k) j) (by omega) (by omega) hF hg ?_ ?_ ?_ ?_
       ·intro k hk
        simpa using hlen (L + k) (by omega)
       ·intro k j hk hj
        have := hc (L + k) j (by omega) hj
        rw [Nat.add_mul] at this
        rw [← hsz, ← this]
        congr 2
        omega
       ·intro k j hk hj
        exact h1' (L + k) j (by omega) hj
       ·intro k j hk hj
        simpa using hr' (L + k) j (by omega) (by simpa using hj)
    ·exact h.elim
   ·rename_i te id h3
    split at h
    ·rename_i e' sz n get hlk
     split at h
     ·rename_i l hh2 hsz hlo hhi
      have hsz : sz = te.size := by simpa using hsz
      subst hsz
      have hq2 := ob_iff h hgc
      clear h
      obtain ⟨⟨hl0, hlh, hhn⟩, h⟩ := hq2
      have sl := intOr_spec hlo hl hl'
      have sh := intOr_spec hhi hh hh'
      obtain ⟨L, rfl⟩ := Int.eq_ofNat_of_zero_le hl0
      obtain ⟨H, rfl⟩ := Int.eq_ofNat_of_zero_le (Int.le_trans hl0 hlh)
      obtain ⟨hid, rfl⟩ := hr.so_inv
      obtain ⟨_, xs, hx, _⟩ := E.obj id _ hlk
      have run : ∀ (ad : Option Addr) (c : Nat), n ≤ c → (Instr.slice t (.slice ad n c) lv hv none).run P w = .ok (.slice (if c = L then ad else ad.map (·.add (L * te.size))) (H - L) (c - L)) w := fun ad c hc =>
       sub_run hT h1 h2 h3 ad n c lv hv L H sl.1 (fun hy => by have := sl.2 hy; omega) sh.1 (fun hy => by have := sh.2 hy; omega) (by omega) (by omega)
      have eHL : ((H : Int) - (L : Int)).toNat = H - L := by omega
      rw [eHL, Int.toNat_natCast] at h
      rcases hx.2 with ⟨hv0, hn0⟩ | ⟨a0, hv0, hn0⟩ | ⟨g, o, cap, cur, hv0, _, hnc, _⟩
      ·have e0 : L = 0 ∧ H = 0 := by omega
       obtain ⟨rfl, rfl⟩ := e0
       subst hn0
       refine ⟨_, by rw [hv0]; exact run none 0 (Nat.le_refl _), _, h, .sv _ _ _ _ _ hid (.inl ⟨rfl, rfl, hv0⟩)⟩
      ·have e0 : L = 0 ∧ H = 0 := by omega
       obtain ⟨rfl, rfl⟩ := e0
       subst hn0
       refine ⟨_, by rw [hv0]; exact run (some a0) 0 (Nat.le_refl _), _, h, .sv _ _ _ _ _ hid (.inr (.inl ⟨a0, rfl, rfl, _, _, _, hv0, Nat.zero_le _⟩))⟩
      ·refine ⟨_, by rw [hv0]; exact run (some ⟨g, o, none⟩) (cap + 1) hnc, _, h, .sv _ _ _ _ _ hid ?_⟩
       by_cases hcl : cap + 1 = L
       ·have e0 : H - L = 0 := by omega
        rw [if_pos hcl, e0, show cap + 1 - L = 0 by omega]
        exact .inr (.inl ⟨_, rfl, rfl, _, _, _, hv0, by omega⟩)
       ·rw [if_neg hcl]
        simp only [Option.map_some, Addr.add_lit]
        exact .inr (.inr ⟨g, o, n, cap + 1, hv0, by omega, by omega, rfl⟩)
     ·exact h.elim
    ·exact h.elim
   ·rename_i te id sz lo' n h3
    split at h
    ·rename_i e' sz' N get hlk
     split at h
     ·rename_i l hh2 hsz hsz' hlo hhi
      have hsz : sz = te.size := by simpa using hsz
      have hsz' : sz' = te.size := by simpa using hsz'
      subst hsz
      subst hsz'
      have hq2 := ob_iff h hgc
      clear h
      obtain ⟨⟨hl0, hlh, hhn⟩, h⟩ := hq2
      have sl := intOr_spec hlo hl hl'
      have sh := intOr_spec hhi hh hh'
      obtain ⟨L, rfl⟩ := Int.eq_ofNat_of_zero_le hl0
      obtain ⟨H, rfl⟩ := Int.eq_ofNat_of_zero_le (Int.le_trans hl0 hlh)
      obtain ⟨hid, hsv⟩ := hr.sv_inv
      obtain ⟨_, xs, hx, _⟩ := E.obj id _ hlk
      have run : ∀ (ad : Option Addr) (c : Nat), n ≤ c → H ≤ c → (Instr.slice t (.slice ad n c) lv hv none).run P w = .ok (.slice (if c = L then ad else ad.map (·.add (L * te.size))) (H - L) (c - L)) w := fun ad c hc _ =>
       sub_run hT h1 h2 h3 ad n c lv hv L H sl.1 (fun hy => by have := sl.2 hy; omega) sh.1 (fun hy => by have := sh.2 hy; omega) (by omega) (by omega)
      have eHL : ((H : Int) - (L : Int)).toNat = H - L := by omega
      rw [eHL, Int.toNat_natCast] at h
      rcases hsv with ⟨rfl, hn0, hb⟩ | ⟨a0, rfl, hn0, a', m', c, hb, hc⟩ | ⟨g, o, m', c, hb, hlo', hlm, rfl⟩
      ·rw [hb] at hx
       have hN := row_len hx
       have e0 : L = 0 ∧ H = 0 := by omega
       obtain ⟨rfl, rfl⟩ := e0
       subst hn0
       exact ⟨_, run none 0 (Nat.le_refl _) (Nat.le_refl _), _, h, .sv _ _ _ _ _ hid (.inl ⟨rfl, rfl, hb⟩)⟩
      ·rw [hb] at hx
       have hN := row_len hx
       have e0 : L = 0 ∧ H = 0 := by omega
       obtain ⟨rfl, rfl⟩ := e0
       subst hn0
       exact ⟨_, run (some a0) 0 (Nat.le_refl _) (Nat.le_refl _), _, h, .sv _ _ _ _ _ hid (.inr (.inl ⟨a0, rfl, rfl, a', m', c, hb, by omega⟩))⟩
      ·rw [hb] at hx
       have hN := row_len hx
       refine ⟨_, run (some ⟨g, o + lo' * te.size, none⟩) (c - lo') (by omega) (by omega), _, h, .sv _ _ _ _ _ hid ?_⟩
       by_cases hcl : c - lo' = L
       ·have e0 : H - L = 0 := by omega
        rw [if_pos hcl, e0, show c - lo' - L = 0 by omega]
        exact .inr (.inl ⟨_, rfl, rfl, _, _, _, hb, by omega⟩)
       ·rw [if_neg hcl]
        simp only [Option.map_some, Addr.add_lit]
        refine .inr (.inr ⟨g, o, m', c, hb, by omega, by omega, ?_⟩)
        rw [Nat.add_mul, ← Nat.add_assoc, Nat.sub_sub]
     ·exact h.elim
    ·exact h.elim
   ·exact h.elim
  ·exact h.elim
 ·exact h.elim
def sub3A (gc : Option Prop) (T : List (Nat × TI)) (lk : Nat → Option AO) (t : Nat) (a lo hi mx : AV) (k : Eff → Prop) : Prop :=
 match tget t T with
 | some ti => (match sliceD ti.desc with
  | some e => (match tget e T, a, lo, hi, mx with
   | some _, .so id, .i _ l, .i _ h, .i _ m => (match lk id with
    | some (.row _ _ n _) => ob gc (0 ≤ l ∧ l ≤ h ∧ h ≤ m ∧ m ≤ (n : Int)) (k (.ext [] .u))
    | _ => False)
   | _, _, _, _, _ => False)
  | none => False)
 | none => False
theorem sub3A_sound {gc : Option Prop} (hgc : ∀ c, gc = some c → c) (E : Env β nid F w lk) {T : List (Nat × TI)} (hT : TabOk P T) {t : Nat} {a lo hi mx : AV} {v lv hv mv : Value} (hr : Rep β nid F w a v)
  (hl : Rep β nid F w lo lv) (hh : Rep β nid F w hi hv) (hm : Rep β nid F w mx mv)
  (h : sub3A gc T lk t a lo hi mx k) : ∃ x, (Instr.sliceAt t v (some lv) (some hv) (some mv)).run P w = .ok x w ∧ ∃ r, k (.ext [] r) ∧ Rep β nid F w r x := by
 unfold sub3A at h
 split at h
 ·rename_i ti h1
  split at h
  ·rename_i e h2
   split at h
   ·rename_i te id kl l kh H km m h3
    split at h
    ·rename_i e' sz n get hlk
     have hq2 := ob_iff h hgc
     clear h
     obtain ⟨⟨hl0, hlh, hhm, hmn⟩, h⟩ := hq2
     obtain rfl := hl.i_inv
     obtain rfl := hh.i_inv
     obtain rfl := hm.i_inv
     obtain ⟨L, rfl⟩ := Int.eq_ofNat_of_zero_le hl0
     obtain ⟨H, rfl⟩ := Int.eq_ofNat_of_zero_le (Int.le_trans hl0 hlh)
     obtain ⟨M, rfl⟩ := Int.eq_ofNat_of_zero_le (Int.le_trans (Int.le_trans hl0 hlh) hhm)
     obtain ⟨hid, rfl⟩ := hr.so_inv
     obtain ⟨_, xs, hx, _⟩ := E.obj id _ hlk
     obtain ⟨ad, c, hb⟩ : ∃ ad c, β.val id = .slice ad n c ∧ n ≤ c := by
      rcases hx.2 with ⟨h1, h2⟩ | ⟨a, h1, h2⟩ | ⟨g, o, cap, cur, h1, _, hnc, _⟩
      ·subst h2; exact ⟨_, _, h1, Nat.le_refl _⟩
      ·subst h2; exact ⟨_, _, h1, Nat.le_refl _⟩
      ·exact ⟨_, _, h1, hnc⟩
     obtain ⟨hu, _⟩ := hT.get h1
     obtain ⟨_, _, j, hj, hs, _⟩ := hT.get h3
     cases hd : ti.desc <;> simp [sliceD, hd] at h2
     subst h2
     rw [hd] at hu
     have b1 := bound_run (P := P) (w := w) km M c .slice3Acap (by omega) (by omega)
     have b2 := bound_run (P := P) (w := w) kh H M .slice3B (by omega) (by omega)
     have b3 := bound_run (P := P) (w := w) kl L H .slice3C (by omega) (by omega)
     simp only [Int.toNat_natCast] at b1 b2 b3
     have hbd : (Instr.sliceBounds true n c (some (.int kl L)) (some (.int kh H)) (some (.int km M))).run P w = .ok (L, H, M) w := by
      unfold Instr.sliceBounds
      simp [b1, b2, b3]
     refine ⟨.slice (if M = L then ad else ad.map (·.add (L * j.size))) (H - L) (M - L), ?_, _, h, .pure _ _ (.u _)⟩
     rw [hb.1]
     simp [Instr.sliceAt, Instr.slice, run_underlying hu, hbd, sizeOf, typeInfo, hj]
    ·exact h.elim
   ·exact h.elim
  ·exact h.elim
 ·exact h.elim
def subX (gc : Option Prop) (T : List (Nat × TI)) (lk : Nat → Option AO) (t : Nat) (a : AV) (lo hi : Option AV) (k : Eff → Prop) : Prop :=
 match tget t T, a with
 | some ti, .p id off => (match ti.desc, lo with
  | .array n e, none => (match tget e T, intOr hi n with
   | some te, some h => (match Nat.beq te.size 1, Nat.ble n 1000000, Nat.blt 0 n with
    | true, true, true => ob gc (0 ≤ h ∧ h ≤ (n : Int)) (k (.ext [] (.sc id off h.toNat n)))
    | _, _, _ => False)
   | _, _ => False)
  | _, _ => False)
 | some ti, .s x => (match ti.desc, intOr lo 0, intOr hi x.size with
  | .string, some l, some h => ob gc (0 ≤ l ∧ l ≤ h ∧ h ≤ (x.size : Int)) (k (.ext [] (.s (x.extract l.toNat h.toNat))))
  | _, _, _ => False)
 | _, a => subA gc T lk t a lo hi k
theorem bounds_run (isS : Bool) (n c L H : Nat) {lo hi : Option Value} (hlo : ∀ v, lo = some v → ∃ kk, v = .int kk (L : Int)) (hlo' : lo = none → L = 0) (hhi : ∀ v, hi = some v → ∃ kk, v = .int kk (H : Int)) (hhi' : hi = none → H = n) (hlh : L ≤ H) (hhn : H ≤ c) :
  (Instr.sliceBounds isS n c lo hi none).run P w = .ok (L, H, c) w := by
 unfold Instr.sliceBounds
 rcases hi with _ | vh <;> rcases lo with _ | vl
 ·simp [hlo' rfl, hhi' rfl]
 ·obtain ⟨kk, rfl⟩ := hlo _ rfl
  have := bound_run (P := P) (w := w) kk L n .sliceB (by omega) (by have := hhi' rfl; omega)
  simp [this, hhi' rfl]
 ·obtain ⟨kk, rfl⟩ := hhi _ rfl
  have := bound_run (P := P) (w := w) kk H c (if isS then .sliceAcap else .sliceAlen) (by omega) (by omega)
  simp [this, hlo' rfl]
 ·obtain ⟨kk, rfl⟩ := hhi _ rfl
  obtain ⟨kk', rfl⟩ := hlo _ rfl
  have h1 := bound_run (P := P) (w := w) kk H c (if isS then .sliceAcap else .sliceAlen) (by omega) (by omega)
  have h2 := bound_run (P := P) (w := w) kk' L H .sliceB (by omega) (by omega)
  simp [h1, h2]
theorem subX_sound {gc : Option Prop} (hgc : ∀ c, gc = some c → c) (E : Env β nid F w lk) {T : List (Nat × TI)} (hT : TabOk P T) {t : Nat} {a : AV} {v : Value} {lo hi : Option AV} {lv hv : Option Value} (hr : Rep β nid F w a v)
  (hl : ∀ x, lo = some x → ∃ y, lv = some y ∧ Rep β nid F w x y) (hl' : lo = none → lv = none) (hh : ∀ x, hi = some x → ∃ y, hv = some y ∧ Rep β nid F w x y) (hh' : hi = none → hv = none)
  (h : subX gc T lk t a lo hi k) : ∃ x, (Instr.sliceAt t v lv hv none).run P w = .ok x w ∧ ∃ r, k (.ext [] r) ∧ Rep β nid F w r x := by
 unfold subX at h
 split at h
 ·rename_i ti id off h1
  obtain ⟨hu, _⟩ := hT.get h1
  split at h
  ·rename_i n e hd
   split at h
   ·rename_i te H0 h3 hhi
    split at h
    ·rename_i hsz hn1 hn0
     have hsz : te.size = 1 := by simpa using hsz
     have hn1 : n ≤ 1000000 := by simpa using hn1
     have hn0 : 0 < n := blt_lt hn0
     obtain ⟨hb, h⟩ := ob_iff h hgc
     have sh := intOr_spec hhi hh hh'
     obtain ⟨H, rfl⟩ := Int.eq_ofNat_of_zero_le hb.1
     obtain ⟨hid, rfl⟩ := hr.p_inv
     obtain ⟨_, _, j, hj, hs, _⟩ := hT.get h3
     rw [hd] at hu
     have hbd := bounds_run (P := P) (w := w) false n n 0 H (lo := lv) (hi := hv) (fun y hy => by rw [hl' rfl] at hy; cases hy) (fun _ => rfl) sh.1 (fun hy => by have := sh.2 hy; omega) (Nat.zero_le _) (by omega)
     refine ⟨.slice (some ⟨β.blk id, off, none⟩) H n, ?_, _, h, ?_⟩
     ·have hne : ¬ n = 0 := by omega
      simp [Instr.sliceAt, run_underlying hu, Instr.sureAddr, hbd, sizeOf, typeInfo, hj, hs, hne, Addr.add_lit]
     ·have := Rep.sc (β := β) (n := nid) (F := F) (w := w) id off H n hid (by omega) (by unfold maxLen; omega)
      rw [Int.toNat_natCast]
      exact this
    ·exact h.elim
   ·exact h.elim
  ·exact h.elim
 ·rename_i ti x h1
  obtain ⟨hu, _⟩ := hT.get h1
  split at h
  ·rename_i l0 H0 hd hlo hhi
   obtain ⟨⟨hl0, hlh, hhn⟩, h⟩ := ob_iff h hgc
   have sl := intOr_spec hlo hl hl'
   have sh := intOr_spec hhi hh hh'
   obtain ⟨L, rfl⟩ := Int.eq_ofNat_of_zero_le hl0
   obtain ⟨H, rfl⟩ := Int.eq_ofNat_of_zero_le (Int.le_trans hl0 hlh)
   cases hr with
   | pure _ _ hr =>
   cases hr
   rw [hd] at hu
   have hbd := bounds_run (P := P) (w := w) false x.size x.size L H (lo := lv) (hi := hv) sl.1 (fun hy => by have := sl.2 hy; omega) sh.1 (fun hy => by have := sh.2 hy; omega) (by omega) (by omega)
   refine ⟨.string (x.extract L H), ?_, _, h, ?_⟩
   ·simp [Instr.sliceAt, Instr.slice, run_underlying hu, hbd]
   ·rw [Int.toNat_natCast, Int.toNat_natCast]
    exact .pure _ _ (.s _)
  ·exact h.elim
 ·have h0 := h
  obtain ⟨z, hrun, hp⟩ := subA_sound (P := P) hgc E hT hr hl hl' hh hh' h
  refine ⟨z, ?_, hp⟩
  rw [← hrun]
  unfold subA at h0
  split at h0
  ·rename_i ti h1
   obtain ⟨hu, _⟩ := hT.get h1
   split at h0
   ·rename_i e h2
    cases hd : ti.desc <;> simp [sliceD, hd] at h2
    rw [hd] at hu
    simp [Instr.sliceAt, run_underlying hu]
   ·exact h0.elim
  ·exact h0.elim
def bAt (x : ByteArray) (j : Nat) (v : Int) : Int := if j < x.size then ((x.data.toList.getD j 0).toNat : Int) else v
def u8Of : AV → Option Int
 | .i .u8 v => some v
 | _ => none
theorem u8Of_iff {a : AV} {v : Int} (h : u8Of a = some v) : a = .i .u8 v := by
 unfold u8Of at h
 split at h
 ·cases h; rfl
 ·cases h
def cpK (x : ByteArray) : Nat → Nat → Nat → List AV → (List AV → Prop) → Prop
 | 0, 0, _, l, k => k l
 | 0, _ + 1, _, [], _ => False
 | 0, n + 1, j, a :: r, k => (match u8Of a with
  | some v => cpK x 0 n (j + 1) r fun l => k (.i .u8 (bAt x j v) :: l)
  | none => False)
 | _ + 1, _, _, [], _ => False
 | off + 1, n, j, a :: r, k => cpK x off n j r fun l => k (a :: l)
theorem cpK_iff (x : ByteArray) : ∀ {off n j : Nat} {l : List AV} {q : List AV → Prop}, cpK x off n j l q → ∃ m, q m ∧ m.length = l.length ∧ off + n ≤ l.length ∧
  ∀ (p : Nat) (h1 : p < l.length) (h2 : p < m.length), (¬ (off ≤ p ∧ p < off + n) → m[p] = l[p]) ∧ (off ≤ p ∧ p < off + n → ∃ v, l[p] = .i .u8 v ∧ m[p] = .i .u8 (bAt x (j + (p - off)) v))
 | 0, 0, j, l, q, h => by
  unfold cpK at h
  exact ⟨l, h, rfl, Nat.zero_le _, fun p h1 h2 => ⟨fun _ => rfl, fun h => by omega⟩⟩
 | 0, n + 1, j, [], q, h => by unfold cpK at h; exact h.elim
 | 0, n + 1, j, a :: r, q, h => by
  unfold cpK at h
  split at h
  ·rename_i v hv
   obtain rfl := u8Of_iff hv
   obtain ⟨m, hm, hl, hle, hp⟩ := cpK_iff x h
   refine ⟨_, hm, by simp [hl], by simp; omega, fun p h1 h2 => ?_⟩
   cases p with
   | zero => exact ⟨fun h => by omega, fun _ => ⟨v, rfl, by simp⟩⟩
   | succ p =>
    have := hp p (by simpa using h1) (by simpa using h2)
    refine ⟨fun h => ?_, fun h => ?_⟩
    ·simpa using this.1 (by omega)
    ·obtain ⟨u, e1, e2⟩ := this.2 (by omega)
     exact ⟨u, by simpa using e1, by simp only [List.getElem_cons_succ, e2]; congr 2; omega⟩
  ·exact h.elim
 | off + 1, n, j, [], q, h => by unfold cpK at h; exact h.elim
 | off + 1, n, j, a :: r, q, h => by
  unfold cpK at h
  obtain ⟨m, hm, hl, hle, hp⟩ := cpK_iff x h
  refine ⟨_, hm, by simp [hl], by simp; omega, fun p h1 h2 => ?_⟩
  cases p with
  | zero => exact ⟨fun _ => rfl, fun h => by omega⟩
  | succ p =>
   have := hp p (by simpa using h1) (by simpa using h2)
   refine ⟨fun h => ?_, fun h => ?_⟩
   ·simpa using this.1 (by omega)
   ·obtain ⟨u, e1, e2⟩ := this.2 (by omega)
    exact ⟨u, by simpa using e1, by simp only [List.getElem_cons_succ, e2]; congr 2; omega⟩
def strV (x : ByteArray) : List Value := x.data.toList.map fun b : UInt8 => Value.int IntKind.u8 (b.toNat : Int)
theorem strV_len (x : ByteArray) : (strV x).length = x.size := by unfold strV; rw [List.length_map, Array.length_toList]; rfl
theorem strV_get (x : ByteArray) (j : Nat) (h : j < (strV x).length) : (strV x)[j] = .int .u8 ((x.data.toList.getD j 0).toNat : Int) := by
 unfold strV at h ⊢
 rw [List.length_map] at h
 rw [List.getElem_map, List.getD_eq_getElem?_getD, List.getElem?_eq_getElem h]
 rfl
def copyA (T : List (Nat × TI)) (lk : Nat → Option AO) (t : Nat) (a b : AV) (k : Eff → Prop) : Prop :=
 match tget t T, a, b with
 | some ti, .sc id off n _, .s x => (match sliceD ti.desc with
  | some e => (match tget e T, lk id with
   | some te, some (.cells eo cs) => (match Nat.beq te.size 1 with
    | true => cpK x off n 0 cs fun cs' => k (.set id (.cells eo cs') (.i .i64 (min x.size n : Nat)))
    | false => False)
   | _, _ => False)
  | none => False)
 | _, _, _ => False
theorem copyA_sound (E : Env β nid F w lk) {T : List (Nat × TI)} (hT : TabOk P T) {t : Nat} {a b : AV} {u v : Value} (t' ty : TypeId) (hu : Rep β nid F w a u) (hv : Rep β nid F w b v) (h : copyA T lk t a b k) :
  ∃ x w', (Builtin.copy_ #[t, t'] ty #[u, v]).run P w = .ok x w' ∧ PostK β nid F lk w k x w' := by
 unfold copyA at h
 split at h
 ·rename_i ti id off n cap x h1
  split at h
  ·rename_i e h2
   split at h
   ·rename_i te eo cs h3 hlk
    split at h
    ·rename_i hsz
     have hsz : te.size = 1 := by simpa using hsz
     obtain ⟨hid, hnc, hcm, rfl⟩ := hu.sc_inv
     cases hv with
     | pure _ _ hv =>
     cases hv
     obtain ⟨_, vs, hh, hl, hc⟩ := E.obj id _ hlk
     have hF := E.own id _ _ hlk rfl
     obtain ⟨cs', hk, hl', hle, hp⟩ := cpK_iff x h
     obtain ⟨hut, _⟩ := hT.get h1
     obtain ⟨_, _, i, hi, hs, _⟩ := hT.get h3
     have hd : ti.desc = .slice e := by cases hd : ti.desc <;> simp [sliceD, hd] at h2; rw [h2]
     rw [hd] at hut
     obtain ⟨N, hN, hN1, hN2, hN3⟩ : ∃ N, N = min x.size n ∧ N ≤ x.size ∧ N ≤ n ∧ (N = x.size ∨ N = n) := ⟨_, rfl, by omega, by omega, by omega⟩
     obtain ⟨us, hus, hlen⟩ : ∃ us, us = List.take N (strV x) ∧ us.length = N := ⟨_, rfl, by rw [List.length_take, strV_len]; omega⟩
     have hone : ∀ y ∈ us, y.oneCell' = true := fun y hy => by
      rw [hus] at hy
      have := List.mem_of_mem_take hy
      unfold strV at this
      rw [List.mem_map] at this
      obtain ⟨z, _, rfl⟩ := this
      rfl
     have hst := run_storeCells_at P (β.blk id) off eo us 0 vs.toArray w hh (by rw [hlen]; show off + 0 + N ≤ vs.length; omega) hone
     simp only [Nat.add_zero] at hst
     have hold : ∀ g, g < w.heap.size → ¬ F g → (w.setRow (β.blk id) (vs.toArray.toList.take off ++ us ++ vs.toArray.toList.drop (off + us.length)).toArray).heap[g]? = w.heap[g]? :=
      fun g _ hn => setRow_other w _ g _ (fun e => hn (by rw [e]; exact hF))
     rw [← hN] at hk
     refine ⟨goInt N, w.setRow (β.blk id) (vs.toArray.toList.take off ++ us ++ vs.toArray.toList.drop (off + us.length)).toArray, ?_, ?_⟩
     ·have hN' : Nat.min x.size n = N := hN.symm
      simp [Builtin.copy_, run_underlying hut, Builtin.lenOf, Builtin.firstCells, sizeOf, typeInfo, hi, hN']
      have e1 : List.take N (List.map (fun b : UInt8 => Value.int IntKind.u8 (b.toNat : Int)) x.data.toList) = us := by rw [hus]; rfl
      rw [e1, hst]
      simp [Result.andThen]
     ·refine ⟨_, β, hk, rfl, _, hlk, grownBy_setRow _ _ _, rfl, ⟨_, setRow_heap w _ _ _ _ _ hh, ?_, fun j h1 h2 => ?_⟩, .pure _ _ (.i _ _)⟩
      ·rw [hl', hl]
       simp only [List.length_append, List.length_take, List.length_drop]
       omega
      ·have hj : j < cs.length := by rw [← hl']; exact h1
       have hcj := hc j hj (by omega)
       have hpj := hp j hj h1
       have hvg := overV_get (off := off) (cs := us) (l := vs) (by omega) j (by simpa using h2)
       simp only at h2 ⊢
       rw [hvg]
       by_cases hin : off ≤ j ∧ j < off + us.length
       ·rw [dif_pos hin]
        obtain ⟨v0, e1, e2⟩ := hpj.2 (by omega)
        rw [e2]
        have hjl : j - off < (strV x).length := by rw [strV_len]; omega
        have e3 : us[j - off]'(by omega) = (strV x)[j - off] := by
         subst hus
         rw [List.getElem_take]
        rw [e3, strV_get]
        have e4 : bAt x (0 + (j - off)) v0 = ((x.data.toList.getD (j - off) 0).toNat : Int) := by
         unfold bAt
         rw [Nat.zero_add, if_pos (by rw [strV_len] at hjl; exact hjl)]
        rw [e4]
        exact ⟨.pure _ _ (.i _ _), rfl⟩
       ·rw [dif_neg hin]
        by_cases hin2 : off ≤ j ∧ j < off + n
        ·obtain ⟨v0, e1, e2⟩ := hpj.2 hin2
         have e4 : bAt x (0 + (j - off)) v0 = v0 := by
          unfold bAt
          rw [if_neg (by omega)]
         rw [e2, e4, ← e1]
         exact ⟨hcj.1.stable (fun _ _ hn => hn) hold (by simp), hcj.2⟩
        ·rw [hpj.1 hin2]
         exact ⟨hcj.1.stable (fun _ _ hn => hn) hold (by simp), hcj.2⟩
    ·exact h.elim
   ·exact h.elim
  ·exact h.elim
 ·exact h.elim
def kdV : KD → AV
 | .row _ sz n get => .rs sz n get
 | .cells _ cs => .rp cs
mutual
def viewK (lk : Nat → Option AO) : Nat → AV → (AV → Prop) → Prop
 | _ + 1, .so id, k => (match lk id with
  | some (.row _ sz m get) => k (.rs sz m get)
  | _ => False)
 | _ + 1, .sv id sz lo m, k => (match lk id with
  | some (.row _ sz' _ get) => (match Nat.beq sz' sz with
   | true => k (.rs sz m fun q => get (lo + q))
   | false => False)
  | _ => False)
 | _ + 1, .mo id, k => (match lk id with
  | some (.mp m key val _ _) => k (.rm m key val)
  | some (.mr m key kid _ _ _ none) => k (.rm m key fun i => kdV (kid i))
  | some (.mr _ _ _ _ _ _ (some _)) => k .u
  | _ => False)
 | n + 1, .p id off, k => (match lk id with
  | some (.cells _ cs) => viewsK lk n cs fun l => dropK off l fun l' => k (.rp l')
  | _ => False)
 | n + 1, .sc id off m cap, k => (match lk id with
  | some (.cells _ cs) => viewsK lk n cs fun l => dropK off l fun l' => (match Nat.ble cap l'.length with
   | true => k (.rs 1 m fun q => [l'.getD q .u])
   | false => False)
  | _ => False)
 | n + 1, .fn f cs, k => viewsK lk n cs fun l => k (.fn f l)
 | n + 1, .ag cs, k => viewsK lk n cs fun l => k (.ag l)
 | n + 1, .tup cs, k => viewsK lk n cs fun l => k (.tup l)
 | _, .pe _ _ _ _, _ => False
 | 0, .mo _, _ => False
 | 0, .sv _ _ _ _, _ => False
 | 0, .sc _ _ _ _, _ => False
 | 0, .so _, _ => False
 | 0, .p _ _, _ => False
 | 0, .fn _ _, _ => False
 | 0, .ag _, _ => False
 | 0, .tup _, _ => False
 | _, a, k => k a
def viewsK (lk : Nat → Option AO) : Nat → List AV → (List AV → Prop) → Prop
 | _, [], k => k []
 | 0, _ :: _, _ => False
 | n + 1, a :: r, k => viewK lk n a fun b => viewsK lk n r fun l => k (b :: l)
end
theorem part_view {Fa : Nat → Prop} (hFF : ∀ g, Fa g → F g) {e : TypeId} {sz n : Nat} {xs : List Value} {get : Nat → List AV} {g o cap : Nat} (hga : ¬ Fa g) {cur : Array Value} (hh : w.heap[g]? = some (.cells cur e (0, 0))) (hcm : cap + 1 ≤ maxLen)
  (htake : (cur.toList.drop o).take (n * sz) = xs) (hxl : xs.length = n * sz) (hlen : ∀ k, k < n → (get k).length = sz)
  (hc : ∀ (k j : Nat) (_ : k < n) (h1 : j < (get k).length) (h2 : k * sz + j < xs.length), Rep0 F w (get k)[j] xs[k * sz + j] ∧ xs[k * sz + j].oneCell' = true) (lo m : Nat) (hlm : lo + m ≤ n) (c : Nat) (hmc : m ≤ c) (hcc : c ≤ cap + 1) :
  Rep0 Fa w (.rs sz m fun q => get (lo + q)) (.slice (some ⟨g, o + lo * sz, none⟩) m c) := by
 have hmul : ∀ k, k < n → k * sz + sz ≤ n * sz := fun k hk => by rw [← Nat.succ_mul]; exact Nat.mul_le_mul_right _ hk
 refine .rs sz m _ g (o + lo * sz) c (fun k j => xs.getD ((lo + k) * sz + j) undef) hmc (by omega) hga (Array.getElem?_eq_some_iff.1 hh).1 (fun k hk => hlen _ (by omega)) ?_ ?_ ?_
 ·intro k j hk hj
  have hlt : (lo + k) * sz + j < xs.length := by have := hmul (lo + k) (by omega); omega
  rw [cell_of_row w _ _ _ _ _ hh]
  have e1 : o + lo * sz + k * sz + j = o + ((lo + k) * sz + j) := by rw [Nat.add_mul]; omega
  rw [e1]
  have h2 : xs[(lo + k) * sz + j]? = cur.toList[o + ((lo + k) * sz + j)]? := by
   rw [← htake, List.getElem?_take, if_pos (by omega), List.getElem?_drop]
  have h3 : xs[(lo + k) * sz + j]? = some xs[(lo + k) * sz + j] := List.getElem?_eq_getElem hlt
  rw [List.getD_eq_getElem?_getD, h3]
  rw [h3] at h2
  simpa using h2.symm
 ·intro k j hk hj
  have hlt : (lo + k) * sz + j < xs.length := by have := hmul (lo + k) (by omega); omega
  have := (hc (lo + k) j (by omega) (by rw [hlen _ (by omega)]; exact hj) hlt).2
  rw [List.getD_eq_getElem?_getD, List.getElem?_eq_getElem hlt]
  simpa using this
 ·intro k j hk hj
  have hj' : j < sz := by rw [hlen (lo + k) (by omega)] at hj; exact hj
  have hlt : (lo + k) * sz + j < xs.length := by have := hmul (lo + k) (by omega); omega
  have := (hc (lo + k) j (by omega) hj hlt).1
  rw [List.getD_eq_getElem?_getD, List.getElem?_eq_getElem hlt]
  exact this.stable (fun g _ hn hf => hn (hFF g hf)) (fun _ _ _ => rfl) (Nat.le_refl _)
theorem row_view {Fa : Nat → Prop} (hFF : ∀ g, Fa g → F g) {e : TypeId} {sz n : Nat} {v : Value} {xs : List Value} {get : Nat → List AV} (hx : RowAt w e sz v n xs) (hb : ∀ g, blkOf v = some g → ¬ Fa g) (hlen : ∀ k, k < n → (get k).length = sz)
  (hc : ∀ (k j : Nat) (_ : k < n) (h1 : j < (get k).length) (h2 : k * sz + j < xs.length), Rep0 F w (get k)[j] xs[k * sz + j] ∧ xs[k * sz + j].oneCell' = true) : Rep0 Fa w (.rs sz n get) v := by
 rcases hx.2 with ⟨rfl, rfl⟩ | ⟨a, rfl, rfl⟩ | ⟨g, o, cap, cur, rfl, hh, hnc, hcm, hcs, htake⟩
 ·exact .rsnil _ _
 ·exact .rsz _ _ a
 ·have := part_view hFF (hb g rfl) hh hcm htake hx.1 hlen hc 0 n (by omega) (cap + 1) hnc (Nat.le_refl _)
  simpa using this
theorem sv_view {Fa : Nat → Prop} (hFF : ∀ g, Fa g → F g) {e : TypeId} {sz n lo m : Nat} {b v : Value} {xs : List Value} {get : Nat → List AV} (hsv : SvOk b sz lo m v) (hx : RowAt w e sz b n xs) (hbb : ∀ g, blkOf b = some g → ¬ Fa g) (hlen : ∀ k, k < n → (get k).length = sz)
  (hc : ∀ (k j : Nat) (_ : k < n) (h1 : j < (get k).length) (h2 : k * sz + j < xs.length), Rep0 F w (get k)[j] xs[k * sz + j] ∧ xs[k * sz + j].oneCell' = true) : Rep0 Fa w (.rs sz m fun q => get (lo + q)) v := by
 rcases hsv with ⟨rfl, rfl, _⟩ | ⟨a, rfl, rfl, _⟩ | ⟨g, o, m', c, hb, hlo, hlm, rfl⟩
 ·exact .rsnil _ _
 ·exact .rsz _ _ a
 ·rcases hx.2 with ⟨h1, _⟩ | ⟨_, h1, _⟩ | ⟨g', o', cap, cur, h1, hh, hnc, hcm, hcs, htake⟩
  ·rw [hb] at h1; cases h1
  ·rw [hb] at h1
   simp only [Value.slice.injEq] at h1
   omega
  ·rw [hb] at h1
   simp only [Value.slice.injEq, Option.some.injEq, Addr.mk.injEq] at h1
   obtain ⟨⟨rfl, rfl, _⟩, rfl, rfl⟩ := h1
   exact part_view hFF (hbb g (by rw [hb]; rfl)) hh hcm htake hx.1 hlen hc lo m (by omega) _ (by omega) (by omega)
theorem kid_view {Fa : Nat → Prop} (hFF : ∀ g, Fa g → F g) {v : Value} {kd : KD} (h : KidOk F w v kd) (hga : ∀ g, kidB v = some g → ¬ Fa g) : Rep0 Fa w (kdV kd) v := by
 have toFalse : ∀ {a : AV} {v : Value}, Rep0 F w a v → Rep0 Fa w a v := fun h => h.stable (fun g _ hn hf => hn (hFF g hf)) (fun _ _ _ => rfl) (Nat.le_refl _)
 cases kd with
 | row e sz m get =>
  obtain ⟨xs, hx, hlen, hc⟩ := h
  exact row_view hFF hx (fun g hg => hga g (by rw [kidB_row hx]; exact hg)) hlen hc
 | cells e cs =>
  obtain ⟨b, vs, rfl, hh, hl, hc⟩ := h
  refine .rp cs b 0 (fun j => vs.getD j undef) (hga b rfl) (Array.getElem?_eq_some_iff.1 hh).1 (fun j hj => ?_) (fun j hj => ?_) (fun j hj => ?_)
  ·rw [cell_of_row w _ _ _ _ _ hh]
   simp [List.getElem?_eq_getElem (show j < vs.length by omega)]
  ·have := (hc j hj (by omega)).2
   simpa [List.getElem?_eq_getElem (show j < vs.length by omega)] using this
  ·have := toFalse (hc j hj (by omega)).1
   simpa [List.getElem?_eq_getElem (show j < vs.length by omega)] using this
theorem views_sound (E : Env β nid F w lk) {Fa : Nat → Prop} (hFF : ∀ g, Fa g → F g) {lkv : Nat → Option AO} (hlkv : ∀ id o, lkv id = some o → lk id = some o) (hFa : ∀ id o g, lkv id = some o → ownB β id o g → ¬ Fa g) : ∀ n : Nat,
  (∀ (a : AV) (v : Value) (q : AV → Prop), Rep β nid F w a v → viewK lkv n a q → ∃ b, q b ∧ Rep0 Fa w b v) ∧
  (∀ (l : List AV) (vs : List Value) (q : List AV → Prop), l.length = vs.length → (∀ (j : Nat) (h1 : j < l.length) (h2 : j < vs.length), Rep β nid F w l[j] vs[j]) → viewsK lkv n l q →
   ∃ m, q m ∧ m.length = vs.length ∧ ∀ (j : Nat) (h1 : j < m.length) (h2 : j < vs.length), Rep0 Fa w m[j] vs[j]) := by
 have toFalse : ∀ {a : AV} {v : Value}, Rep0 F w a v → Rep0 Fa w a v := fun h => h.stable (fun g _ hn hf => hn (hFF g hf)) (fun _ _ _ => rfl) (Nat.le_refl _)
 intro n
 induction n with
 | zero =>
  refine ⟨?_, ?_⟩
  ·intro a v q hr h
   cases a <;> simp only [viewK] at h <;> first | exact h.elim | (cases hr with | pure _ _ hr => exact ⟨_, h, toFalse hr⟩)
  ·intro l vs q hl hr h
   cases l with
   | nil => simp only [viewsK] at h; exact ⟨[], h, hl, fun j h1 => by simp at h1⟩
   | cons a r => simp only [viewsK] at h
 | succ n ih =>
  refine ⟨?_, ?_⟩
  ·intro a v q hr h
   cases a with
   | so id =>
    simp only [viewK] at h
    split at h
    ·rename_i e sz m get hlk
     obtain ⟨hid, rfl⟩ := hr.so_inv
     obtain ⟨_, xs, hx, hlen, hc⟩ := E.obj id _ (hlkv _ _ hlk)
     exact ⟨_, h, row_view hFF hx (fun g hg => hFa id _ g hlk hg) hlen hc⟩
    ·exact h.elim
   | sv id sz lo m =>
    simp only [viewK] at h
    split at h
    ·rename_i e sz' N get hlk
     split at h
     ·rename_i hs
      have hs : sz' = sz := by simpa using hs
      subst hs
      obtain ⟨hid, hsv⟩ := hr.sv_inv
      obtain ⟨_, xs, hx, hlen, hc⟩ := E.obj id _ (hlkv _ _ hlk)
      exact ⟨_, h, sv_view hFF hsv hx (fun g hg => hFa id _ g hlk hg) hlen hc⟩
     ·exact h.elim
    ·exact h.elim
   | mo id =>
    simp only [viewK] at h
    split at h
    ·rename_i m key val born clock hlk
     obtain ⟨hid, rfl⟩ := hr.mo_inv
     obtain ⟨_, es, hh, hn, ho, hc⟩ := E.obj id _ (hlkv _ _ hlk)
     exact ⟨_, h, .rm _ _ _ _ es clock (hFa id _ _ hlk rfl) hh hn ho (fun i h1 h2 => toFalse (hc i h1 h2).1) (fun i h1 h2 => toFalse (hc i h1 h2).2.1)⟩
    ·rename_i m key kid born clock aux hlk
     obtain ⟨hid, rfl⟩ := hr.mo_inv
     obtain ⟨_, ha, _, es, hh, hn, ho, hkey, hk, hd, hne, _⟩ := E.obj id _ (hlkv _ _ hlk)
     have nn : ∀ j : Nat, noHole none j := fun j h e => by cases e
     exact ⟨_, h, .rm _ _ _ _ es clock (hFa id _ _ hlk (.inl rfl)) hh hn ho (fun i h1 h2 => toFalse (hkey i h1 h2).1) (fun i h1 h2 => kid_view hFF (hk i h1 h2 (nn i)).2 fun g hg => hFa id _ g hlk (.inr ⟨i, h1, nn i, by rw [← (hk i h1 h2 (nn i)).1]; exact hg⟩))⟩
    ·exact ⟨_, h, .u _⟩
    ·exact h.elim
   | p id off =>
    simp only [viewK] at h
    split at h
    ·rename_i e cs hlk
     obtain ⟨hid, rfl⟩ := hr.p_inv
     obtain ⟨_, vs, hh, hl, hc⟩ := E.obj id _ (hlkv _ _ hlk)
     obtain ⟨m, h, hml, hm⟩ := ih.2 cs vs _ hl (fun j h1 h2 => (hc j h1 h2).1) h
     obtain ⟨hle, h⟩ := dropK_iff h
     refine ⟨_, h, .rp _ (β.blk id) off (fun j => vs.getD (off + j) undef) (hFa id _ _ hlk rfl) (Array.getElem?_eq_some_iff.1 hh).1 ?_ ?_ ?_⟩
     ·intro j hj
      simp at hj
      rw [cell_of_row w _ _ _ _ _ hh]
      simp [List.getElem?_eq_getElem (show off + j < vs.length by omega)]
     ·intro j hj
      simp at hj
      have := (hc (off + j) (by omega) (by omega)).2
      simpa [List.getElem?_eq_getElem (show off + j < vs.length by omega)] using this
     ·intro j hj
      simp at hj
      have := hm (off + j) (by omega) (by omega)
      simpa [List.getElem?_eq_getElem (show off + j < vs.length by omega)] using this
    ·exact h.elim
   | sc id off m cap =>
    simp only [viewK] at h
    split at h
    ·rename_i e cs hlk
     obtain ⟨hid, hmc, hcm, rfl⟩ := hr.sc_inv
     obtain ⟨_, vs, hh, hl, hc⟩ := E.obj id _ (hlkv _ _ hlk)
     obtain ⟨ml, h, hml, hm⟩ := ih.2 cs vs _ hl (fun j h1 h2 => (hc j h1 h2).1) h
     obtain ⟨hle, h⟩ := dropK_iff h
     split at h
     ·rename_i hcl
      have hcl : cap ≤ (ml.drop off).length := by simpa using hcl
      rw [List.length_drop] at hcl
      refine ⟨_, h, .rs 1 m _ (β.blk id) off cap (fun k _ => vs.getD (off + k) undef) hmc hcm (hFa id _ _ hlk rfl) (Array.getElem?_eq_some_iff.1 hh).1 (fun _ _ => rfl) ?_ ?_ ?_⟩
      ·intro k j hk hj
       have : j = 0 := by omega
       subst this
       rw [cell_of_row w _ _ _ _ _ hh]
       simp [List.getElem?_eq_getElem (show off + k < vs.length by omega)]
      ·intro k j hk hj
       have := (hc (off + k) (by omega) (by omega)).2
       simpa [List.getElem?_eq_getElem (show off + k < vs.length by omega)] using this
      ·intro k j hk hj
       have hj0 : j = 0 := by simpa using hj
       subst hj0
       have := hm (off + k) (by omega) (by omega)
       have e1 : (ml.drop off).getD k .u = ml[off + k]'(by omega) := by
        simp [List.getElem?_eq_getElem (show off + k < ml.length by omega)]
       show Rep0 Fa w ((ml.drop off).getD k .u) _
       rw [e1]
       simpa [List.getElem?_eq_getElem (show off + k < vs.length by omega)] using this
     ·exact h.elim
    ·exact h.elim
   | fn f cs =>
    simp only [viewK] at h
    obtain ⟨vs, rfl, hl, hc⟩ := hr.fn_inv
    obtain ⟨m, h, hml, hm⟩ := ih.2 cs vs _ hl hc h
    exact ⟨_, h, .fn f m vs hml hm⟩
   | ag cs =>
    simp only [viewK] at h
    obtain ⟨vs, rfl, hl, hc⟩ := hr.ag_inv
    obtain ⟨m, h, hml, hm⟩ := ih.2 cs vs _ hl hc h
    exact ⟨_, h, .ag m vs hml hm⟩
   | tup cs =>
    simp only [viewK] at h
    obtain ⟨vs, rfl, hl, hc⟩ := hr.tup_inv
    obtain ⟨m, h, hml, hm⟩ := ih.2 cs vs _ hl hc h
    exact ⟨_, h, .tup m vs hml hm⟩
   | pe => simp only [viewK] at h
   | rm => simp only [viewK] at h; cases hr with | pure _ _ hr => exact ⟨_, h, toFalse hr⟩
   | b => simp only [viewK] at h; cases hr with | pure _ _ hr => exact ⟨_, h, toFalse hr⟩
   | i => simp only [viewK] at h; cases hr with | pure _ _ hr => exact ⟨_, h, toFalse hr⟩
   | s => simp only [viewK] at h; cases hr with | pure _ _ hr => exact ⟨_, h, toFalse hr⟩
   | val => simp only [viewK] at h; cases hr with | pure _ _ hr => exact ⟨_, h, toFalse hr⟩
   | u => simp only [viewK] at h; cases hr with | pure _ _ hr => exact ⟨_, h, toFalse hr⟩
   | rs => simp only [viewK] at h; cases hr with | pure _ _ hr => exact ⟨_, h, toFalse hr⟩
   | rp => simp only [viewK] at h; cases hr with | pure _ _ hr => exact ⟨_, h, toFalse hr⟩
  ·intro l vs q hl hr h
   cases l with
   | nil => simp only [viewsK] at h; exact ⟨[], h, hl, fun j h1 => by simp at h1⟩
   | cons a r =>
    simp only [viewsK] at h
    cases vs with
    | nil => simp at hl
    | cons v vs =>
     obtain ⟨b, h, hb⟩ := ih.1 a v _ (hr 0 (by simp) (by simp)) h
     obtain ⟨m, h, hml, hm⟩ := ih.2 r vs _ (by simpa using hl) (fun j h1 h2 => hr (j + 1) (Nat.succ_lt_succ h1) (Nat.succ_lt_succ h2)) h
     refine ⟨b :: m, h, by simp [hml], fun j h1 h2 => ?_⟩
     cases j with
     | zero => exact hb
     | succ j => exact hm j (by simpa using h1) (by simpa using h2)
end
end Go.Eng
end

section
namespace Go.Eng
open Go.RowKit Go.MapKept
def nilMap : Value → Bool
 | .map none => true
 | _ => false
theorem nilMap_iff {v : Value} (h : nilMap v = true) : v = .map none := by
 unfold nilMap at h
 split at h
 ·rfl
 ·cases h
def AVEq : AV → AV → Prop
 | .rs sz n g, b => (match b with
  | .rs sz' n' g' => sz' = sz ∧ n' = n ∧ ∀ k, k < n → g' k = g k
  | .val v => n = 0 ∧ nilSlice v = true
  | _ => False)
 | .rm n key val, b => (match b with
  | .rm n' key' val' => n' = n ∧ ∀ k, k < n → key' k = key k ∧ val' k = val k
  | .val v => n = 0 ∧ nilMap v = true
  | _ => False)
 | .sv id sz lo n, b => (match b with
  | .sv id' sz' lo' n' => id' = id ∧ sz' = sz ∧ lo' = lo ∧ n' = n
  | _ => False)
 | .b c, b => (match b with
  | .b d => d = c
  | _ => False)
 | .i k n, b => (match b with
  | .i j m => j = k ∧ m = n
  | _ => False)
 | .u, _ => True
 | a, b => b = a
theorem AVEq.refl (x : AV) : AVEq x x := by
 cases x <;> simp [AVEq]
theorem AVEq.rep0 {F : Nat → Prop} {w : World} {x y : AV} {v : Value} (h : AVEq x y) (hr : Rep0 F w y v) : Rep0 F w x v := by
 cases x with
 | rs sz n g =>
  cases y <;> simp only [AVEq] at h <;> first | exact h.elim | skip
  ·obtain ⟨rfl, hv⟩ := h
   cases hr
   rw [nilSlice_iff hv]
   exact .rsnil _ _
  obtain ⟨rfl, rfl, hg⟩ := h
  cases hr with
  | rsnil => exact .rsnil _ _
  | rsz _ _ a => exact .rsz _ _ a
  | rs _ _ _ b o c vs hn hm hF hb hlen hc h1 hrr =>
   exact .rs _ _ _ b o c vs hn hm hF hb (fun k hk => by rw [← hg k hk]; exact hlen k hk) hc h1 (fun k j hk hj => by
    have := hrr k j hk (by rw [hg k hk]; exact hj)
    simpa only [hg k hk] using this)
 | rm n key val =>
  cases y <;> simp only [AVEq] at h <;> first | exact h.elim | skip
  ·obtain ⟨rfl, hv⟩ := h
   cases hr
   rw [nilMap_iff hv]
   exact .rmnil _ _
  obtain ⟨rfl, hg⟩ := h
  cases hr with
  | rmnil => exact .rmnil _ _
  | rm _ _ _ g es clock hF hb hn ho hk hv =>
   exact .rm _ _ _ g es clock hF hb hn ho (fun i h1 h2 => by rw [← (hg i h1).1]; exact hk i h1 h2) (fun i h1 h2 => by rw [← (hg i h1).2]; exact hv i h1 h2)
 | sv id sz lo n =>
  cases y <;> simp only [AVEq] at h <;> first | exact h.elim | skip
  obtain ⟨rfl, rfl, rfl, rfl⟩ := h; exact hr
 | b c =>
  cases y <;> simp only [AVEq] at h <;> first | exact h.elim | skip
  subst h; exact hr
 | i k n =>
  cases y <;> simp only [AVEq] at h <;> first | exact h.elim | skip
  obtain ⟨rfl, rfl⟩ := h; exact hr
 | u => exact .u _
 | _ => simp only [AVEq] at h; subst h; exact hr
theorem AVEq.rep {β : Bd} {n : Nat} {F : Nat → Prop} {w : World} {x y : AV} {v : Value} (h : AVEq x y) (hr : Rep β n F w y v) : Rep β n F w x v := by
 cases x with
 | rs sz m g =>
  have h0 := h
  cases y <;> simp only [AVEq] at h <;> first | exact h.elim | skip
  ·rw [hr.val_inv]
   exact .pure _ _ (AVEq.rep0 h0 (.val _))
  exact .pure _ _ (AVEq.rep0 h0 hr.rs_inv)
 | rm m key val =>
  have h0 := h
  cases y <;> simp only [AVEq] at h <;> first | exact h.elim | skip
  ·rw [hr.val_inv]
   exact .pure _ _ (AVEq.rep0 h0 (.val _))
  exact .pure _ _ (AVEq.rep0 h0 hr.rm_inv)
 | sv id sz lo m =>
  cases y <;> simp only [AVEq] at h <;> first | exact h.elim | skip
  obtain ⟨rfl, rfl, rfl, rfl⟩ := h; exact hr
 | b c =>
  cases y <;> simp only [AVEq] at h <;> first | exact h.elim | skip
  subst h; exact hr
 | i k n =>
  cases y <;> simp only [AVEq] at h <;> first | exact h.elim | skip
  obtain ⟨rfl, rfl⟩ := h; exact hr
 | u => exact .pure _ _ (.u _)
 | _ => simp only [AVEq] at h; subst h; exact hr
def KeysFit (T : List (Nat × TI)) (kt n : Nat) (key : Nat → AV) : Prop := ∀ i, i < n → keyFit T kt (key i) = true
def LookOk (n : Nat) (key val : Nat → AV) (k v z : AV) (c : Bool) : Prop :=
 (c = true → ∃ i, i < n ∧ key i = k ∧ AVEq v (val i)) ∧ (c = false → (∀ i, i < n → key i ≠ k) ∧ AVEq v z)
def UpdOk (n : Nat) (key val : Nat → AV) (born : Nat → Nat) (clock : Nat) (k v : AV) (n' : Nat) (key' val' : Nat → AV) (born' : Nat → Nat) (clock' : Nat) : Prop :=
 (∃ i, i < n ∧ key i = k ∧ n' = n ∧ clock' = clock ∧ ∀ j, j < n → key' j = key j ∧ born' j = born j ∧ val' j = if j = i then v else val j) ∨
 ((∀ i, i < n → key i ≠ k) ∧ n' = n + 1 ∧ clock' = clock + 1 ∧ (∀ j, j < n → key' j = key j ∧ born' j = born j ∧ val' j = val j) ∧ key' n = k ∧ val' n = v ∧ born' n = clock)
def DelOk (n : Nat) (key val : Nat → AV) (born : Nat → Nat) (k : AV) (n' : Nat) (key' val' : Nat → AV) (born' : Nat → Nat) : Prop :=
 (∃ i, i < n ∧ key i = k ∧ n = n' + 1 ∧ ∀ j, j < n' → key' j = key (if j < i then j else j + 1) ∧ born' j = born (if j < i then j else j + 1) ∧ val' j = val (if j < i then j else j + 1)) ∨
 ((∀ i, i < n → key i ≠ k) ∧ n' = n ∧ ∀ j, j < n → key' j = key j ∧ born' j = born j ∧ val' j = val j)
section
variable {P : Program} {β : Bd} {nid : Nat} {F : Nat → Prop} {w : World} {lk : Nat → Option AO} {k : Eff → Prop}
def mapK (lk : Nat → Option AO) (a : AV) (k : Nat → (Nat → AV) → (Nat → AV) → Prop) : Prop :=
 match a with
 | .rm n key val => k n key val
 | .mo id => (match lk id with
  | some (.mp n key val _ _) => k n key val
  | _ => False)
 | .val v => (match nilMap v with
  | true => k 0 (fun _ => .u) (fun _ => .u)
  | false => False)
 | _ => False
structure MapIs (F : Nat → Prop) (w : World) (v : Value) (n : Nat) (key val : Nat → AV) : Prop where
 is : (v = .map none ∧ n = 0) ∨ ∃ g es clock, v = .map (some g) ∧ w.heap[g]? = some (.map es clock) ∧ es.size = n ∧ MapOk es clock ∧
  ∀ (i : Nat) (_ : i < n) (h2 : i < es.size), Rep0 F w (key i) es[i].key ∧ Rep0 F w (val i) es[i].val
theorem mapK_sound (E : Env β nid F w lk) {a : AV} {v : Value} {q : Nat → (Nat → AV) → (Nat → AV) → Prop} (hv : Rep β nid F w a v) (h : mapK lk a q) : ∃ n key val, q n key val ∧ MapIs F w v n key val := by
 unfold mapK at h
 split at h
 ·refine ⟨_, _, _, h, ⟨?_⟩⟩
  have hv0 := hv.rm_inv
  cases hv0 with
  | rmnil => exact .inl ⟨rfl, rfl⟩
  | rm _ _ _ g es clock hF hg hn ho hk hvv => exact .inr ⟨g, es, clock, rfl, hg, hn, ho, fun i h1 h2 => ⟨hk i h1 h2, hvv i h1 h2⟩⟩
 ·split at h
  ·rename_i hlk
   refine ⟨_, _, _, h, ⟨?_⟩⟩
   obtain ⟨_, rfl⟩ := hv.mo_inv
   obtain ⟨_, es, hh, hn, ho, hc⟩ := E.obj _ _ hlk
   exact .inr ⟨_, es, _, rfl, hh, hn, ho, fun i h1 h2 => ⟨(hc i h1 h2).1, (hc i h1 h2).2.1⟩⟩
  ·exact h.elim
 ·split at h
  ·rename_i hn
   refine ⟨_, _, _, h, ⟨?_⟩⟩
   obtain rfl := hv.val_inv
   exact .inl ⟨nilMap_iff hn, rfl⟩
  ·exact h.elim
 ·exact h.elim
theorem keys_KV {T : List (Nat × TI)} (hT : TabOk P T) {kt n : Nat} {key : Nat → AV} (hf : KeysFit T kt n key) {es : Array MapEntry} (hn : es.size = n) (hk : ∀ (i : Nat) (_ : i < n) (h2 : i < es.size), Rep0 F w (key i) es[i].key) :
  ∀ x ∈ es.toList, KV P kt x.key := by
 intro x hx
 obtain ⟨j, hj, rfl⟩ := List.getElem_of_mem hx
 have hj' : j < es.size := by simpa using hj
 have := keyFit_KV hT (hf j (by omega)) (hk j (by omega) hj')
 simpa using this
def lookupA0 (gc : Option Prop) (T : List (Nat × TI)) (lk : Nat → Option AO) (t : Nat) (a ix : AV) (ok : Bool) (k : Eff → Prop) : Prop :=
 match tget t T with
 | some ti => (match mapD ti.desc with
  | some (kt, et) => (match tget et T with
   | some te => mapK lk a fun n key val => ∃ c v, ob gc (KeysFit T kt n key ∧ keyFit T kt ix = true ∧ LookOk n key val ix v (avOf te.zero) c) (match ok with
    | true => k (.ext [] (.tup [v, .b c]))
    | false => k (.ext [] v))
   | none => False)
  | none => False)
 | none => False
theorem lookupA0_sound {gc : Option Prop} (hgc : ∀ c, gc = some c → c) (E : Env β nid F w lk) {T : List (Nat × TI)} (hT : TabOk P T) {t : Nat} {a ix : AV} {ok : Bool} {u v : Value} (hu : Rep β nid F w a u) (hv : Rep β nid F w ix v)
  (h : lookupA0 gc T lk t a ix ok k) : ∃ x, (Instr.lookup t u v ok).run P w = .ok x w ∧ ∃ r, k (.ext [] r) ∧ Rep β nid F w r x := by
 unfold lookupA0 at h
 split at h
 ·rename_i ti h1
  split at h
  ·rename_i kt et h2
   split at h
   ·rename_i te h3
    obtain ⟨n, key, val, ⟨c, r, h⟩, hm⟩ := mapK_sound E hu h
    obtain ⟨⟨hf, hk, hl⟩, hfin⟩ := ob_iff h hgc
    have hv0 := hv.toPure (keyFit_lt hk)
    have hkv := keyFit_KV hT hk hv0
    obtain ⟨hut, _⟩ := hT.get h1
    obtain ⟨_, _, i, hi, _, _, hz⟩ := hT.get h3
    cases hd : ti.desc <;> simp [mapD, hd] at h2
    rename_i kt' et'
    obtain ⟨rfl, rfl⟩ := h2
    rw [hd] at hut
    have hzero : (zeroValue et').run P w = .ok te.zero w := by simp [zeroValue, typeInfo, hi, hz]
    have key2 : ∃ x, Rep0 F w r x ∧ (Instr.lookup t u v ok).run P w = .ok (if ok then .tuple #[x, .bool c] else x) w := by
     rcases hm.is with ⟨rfl, rfl⟩ | ⟨g, es, clock, rfl, hg, hn, ho, hc⟩
     ·have hcf : c = false := by
       cases c with
       | false => rfl
       | true => obtain ⟨i, hi, _⟩ := hl.1 rfl; omega
      subst hcf
      refine ⟨te.zero, (hl.2 rfl).2.rep0 (rep_avOf _), ?_⟩
      have hfind : (Instr.findKey kt' v []).run P w = .ok none w := by
       rcases run_find_KV (w := w) hkv [] (by simp) with ⟨h1, _⟩ | ⟨j, e, _, h2, _⟩
       ·exact h1
       ·simp at h2
      simp [Instr.lookup, run_underlying hut, run_check_KV true hkv, hfind, hzero]
     ·have hall := keys_KV hT hf hn (fun i h1 h2 => (hc i h1 h2).1)
      rcases run_find_KV (w := w) hkv es.toList hall with ⟨hfind, hno⟩ | ⟨j, e, hfind, he, hek⟩
      ·have hcf : c = false := by
        cases c with
        | false => rfl
        | true =>
         obtain ⟨i, hi, hki, _⟩ := hl.1 rfl
         have hi2 : i < es.size := by omega
         have := (keyFit_eq (hf i hi) hk (hc i hi hi2).1 hv0).1 hki
         exact absurd this (hno _ (by simp))
       subst hcf
       refine ⟨te.zero, (hl.2 rfl).2.rep0 (rep_avOf _), ?_⟩
       simp [Instr.lookup, run_underlying hut, Go.MapKept.run_getObj_map hg, run_check_KV es.isEmpty hkv, hfind, hzero]
      ·have hj2 : j < es.size := by simpa using (List.getElem?_eq_some_iff.1 he).1
       have hje : es[j] = e := by
        have := (List.getElem?_eq_some_iff.1 he).2
        simpa using this
       have hjn : j < n := by omega
       have hkj : key j = ix := (keyFit_eq (hf j hjn) hk (hc j hjn hj2).1 hv0).2 (by rw [hje]; exact hek)
       have hct : c = true := by
        cases c with
        | true => rfl
        | false => exact absurd hkj ((hl.2 rfl).1 j hjn)
       subst hct
       obtain ⟨i, hi, hki, hvi⟩ := hl.1 rfl
       have hij : i = j := by
        have hi2 : i < es.size := by omega
        have e1 := (keyFit_eq (hf i hi) hk (hc i hi hi2).1 hv0).1 hki
        have e2 : es[j].key = v := by rw [hje]; exact hek
        rcases Nat.lt_trichotomy i j with h | h | h
        ·exact absurd (e1.trans e2.symm) (ho.one i j h hi2 hj2)
        ·exact h
        ·exact absurd (e2.trans e1.symm) (ho.one j i h hj2 hi2)
       subst hij
       refine ⟨e.val, hvi.rep0 (by rw [← hje]; exact (hc i hi hj2).2), ?_⟩
       simp [Instr.lookup, run_underlying hut, Go.MapKept.run_getObj_map hg, run_check_KV es.isEmpty hkv, hfind]
    obtain ⟨x, hx, hrun⟩ := key2
    cases ok with
    | true =>
     refine ⟨_, hrun, _, hfin, .pure _ _ (.tup [r, .b c] [x, .bool c] rfl fun j h1 h2 => ?_)⟩
     match j, h1 with
     | 0, _ => exact hx
     | 1, _ => exact .b c
    | false => exact ⟨_, hrun, _, hfin, .pure _ _ hx⟩
   ·exact h.elim
  ·exact h.elim
 ·exact h.elim
def kidA : KD → Nat → AV
 | .row _ _ _ _, h => .so h
 | .cells _ _, h => .p h 0
theorem kidA_rep {β : Bd} {n : Nat} {F : Nat → Prop} {w : World} {kd : KD} {h : Nat} (hh : h < n) (h1 : (kidRef β kd h).oneCell' = true) : Rep β n F w (kidA kd h) (kidRef β kd h) := by
 cases kd with
 | row => exact .so h hh h1
 | cells => exact .p h 0 hh
theorem kidA_inv {β : Bd} {n : Nat} {F : Nat → Prop} {w : World} {kd : KD} {h : Nat} {v : Value} (hr : Rep β n F w (kidA kd h) v) : h < n ∧ v = kidRef β kd h := by
 cases kd with
 | row => exact hr.so_inv
 | cells => exact hr.p_inv
theorem Rep.kid_one {β : Bd} {n : Nat} {F : Nat → Prop} {w : World} {kd : KD} {h : Nat} {v : Value} (hr : Rep β n F w (kidA kd h) v) : v.oneCell' = true := by
 cases kd with
 | row =>
  cases hr with
  | pure _ _ h => cases h
  | so _ _ h1 => exact h1
 | cells => rw [hr.p_inv.2]; rfl
def lookupR (gc : Option Prop) (T : List (Nat × TI)) (t : Nat) (n : Nat) (key : Nat → AV) (kid : Nat → KD) (hole : Option (Nat × Nat)) (ix : AV) (ok : Bool) (k : Eff → Prop) : Prop :=
 match tget t T with
 | some ti => (match mapD ti.desc with
  | some (kt, et) => (match tget et T with
   | some te => ∃ c : Bool, (match c with
    | true => (match hole with
     | some (i, h) => ob gc (KeysFit T kt n key ∧ keyFit T kt ix = true ∧ key i = ix) (match ok with
      | true => k (.ext [] (.tup [kidA (kid i) h, .b true]))
      | false => k (.ext [] (kidA (kid i) h)))
     | none => False)
    | false => ob gc (KeysFit T kt n key ∧ keyFit T kt ix = true ∧ ∀ i, i < n → key i ≠ ix) (match ok with
      | true => k (.ext [] (.tup [avOf te.zero, .b false]))
      | false => k (.ext [] (avOf te.zero))))
   | none => False)
  | none => False)
 | none => False
theorem lookupR_sound {gc : Option Prop} (hgc : ∀ c, gc = some c → c) (E : Env β nid F w lk) {T : List (Nat × TI)} (hT : TabOk P T) {t id : Nat} {ix : AV} {ok : Bool} {v : Value} {n : Nat} {key : Nat → AV} {kid : Nat → KD} {born : Nat → Nat} {clock aux : Nat} {hole : Option (Nat × Nat)}
  (hlk : lk id = some (.mr n key kid born clock aux hole)) (hv : Rep β nid F w ix v)
  (h : lookupR gc T t n key kid hole ix ok k) : ∃ x, (Instr.lookup t (.map (some (β.blk id))) v ok).run P w = .ok x w ∧ ∃ r, k (.ext [] r) ∧ Rep β nid F w r x := by
 obtain ⟨_, ha, hho, es, hg, hn, ho, hkey, _, _, _, hhole⟩ := E.obj id _ hlk
 unfold lookupR at h
 split at h
 ·rename_i ti h1
  split at h
  ·rename_i kt et h2
   split at h
   ·rename_i te h3
    obtain ⟨hut, _⟩ := hT.get h1
    obtain ⟨_, _, i, hi, _, _, hz⟩ := hT.get h3
    cases hd : ti.desc <;> simp [mapD, hd] at h2
    rename_i kt' et'
    obtain ⟨rfl, rfl⟩ := h2
    rw [hd] at hut
    have hzero : (zeroValue et').run P w = .ok te.zero w := by simp [zeroValue, typeInfo, hi, hz]
    obtain ⟨c, h⟩ := h
    cases c with
    | true =>
     rcases hole with _ | ⟨i0, h0⟩
     ·exact h.elim
     ·dsimp only at h
      obtain ⟨⟨hf, hk, hki⟩, hfin⟩ := ob_iff h hgc
      have hv0 := hv.toPure (keyFit_lt hk)
      have hkv := keyFit_KV hT hk hv0
      have hall := keys_KV hT hf hn (fun i h1 h2 => (hkey i h1 h2).1)
      obtain ⟨hh0, hi0⟩ := hho i0 h0 rfl
      have hi2 : i0 < es.size := by omega
      obtain ⟨he1, he2⟩ := hhole i0 h0 rfl hi2
      have hkk := (keyFit_eq (hf i0 hi0) hk (hkey i0 hi0 hi2).1 hv0).1 hki
      rcases run_find_KV (w := w) hkv es.toList hall with ⟨hfind, hno⟩ | ⟨j, e, hfind, he, hek⟩
      ·exact absurd hkk (hno _ (by simp))
      ·have hj2 : j < es.size := by simpa using (List.getElem?_eq_some_iff.1 he).1
       have hje : es[j] = e := by
        have := (List.getElem?_eq_some_iff.1 he).2
        simpa using this
       have hij : i0 = j := by
        have e2 : es[j].key = v := by rw [hje]; exact hek
        rcases Nat.lt_trichotomy i0 j with h | h | h
        ·exact absurd (hkk.trans e2.symm) (ho.one i0 j h hi2 hj2)
        ·exact h
        ·exact absurd (e2.trans hkk.symm) (ho.one j i0 h hj2 hi2)
       subst hij
       have hrun : (Instr.lookup t (.map (some (β.blk id))) v ok).run P w = .ok (if ok then .tuple #[kidRef β (kid i0) h0, .bool true] else kidRef β (kid i0) h0) w := by
        rw [← he1, hje]
        simp [Instr.lookup, run_underlying hut, Go.MapKept.run_getObj_map hg, run_check_KV es.isEmpty hkv, hfind]
       have hrep : Rep β nid F w (kidA (kid i0) h0) (kidRef β (kid i0) h0) := kidA_rep hh0 (by rw [← he1]; exact he2)
       cases ok with
       | true =>
        refine ⟨_, hrun, _, hfin, .tup [kidA (kid i0) h0, .b true] [kidRef β (kid i0) h0, .bool true] rfl fun j h1 h2 => ?_⟩
        match j, h1 with
        | 0, _ => exact hrep
        | 1, _ => exact .pure _ _ (.b true)
       | false => exact ⟨_, hrun, _, hfin, hrep⟩
    | false =>
     dsimp only at h
     obtain ⟨⟨hf, hk, hno⟩, hfin⟩ := ob_iff h hgc
     have hv0 := hv.toPure (keyFit_lt hk)
     have hkv := keyFit_KV hT hk hv0
     have hall := keys_KV hT hf hn (fun i h1 h2 => (hkey i h1 h2).1)
     rcases run_find_KV (w := w) hkv es.toList hall with ⟨hfind, _⟩ | ⟨j, e, hfind, he, hek⟩
     ·have hrun : (Instr.lookup t (.map (some (β.blk id))) v ok).run P w = .ok (if ok then .tuple #[te.zero, .bool false] else te.zero) w := by
       simp [Instr.lookup, run_underlying hut, Go.MapKept.run_getObj_map hg, run_check_KV es.isEmpty hkv, hfind, hzero]
      cases ok with
      | true =>
       refine ⟨_, hrun, _, hfin, .pure _ _ (.tup [avOf te.zero, .b false] [te.zero, .bool false] rfl fun j h1 h2 => ?_)⟩
       match j, h1 with
       | 0, _ => exact rep_avOf _
       | 1, _ => exact .b false
      | false => exact ⟨_, hrun, _, hfin, .pure _ _ (rep_avOf _)⟩
     ·have hj2 : j < es.size := by simpa using (List.getElem?_eq_some_iff.1 he).1
      have hje : es[j] = e := by
       have := (List.getElem?_eq_some_iff.1 he).2
       simpa using this
      have hjn : j < n := by omega
      exact absurd ((keyFit_eq (hf j hjn) hk (hkey j hjn hj2).1 hv0).2 (by rw [hje]; exact hek)) (hno j hjn)
   ·exact h.elim
  ·exact h.elim
 ·exact h.elim
def lookupA (gc : Option Prop) (T : List (Nat × TI)) (lk : Nat → Option AO) (t : Nat) (a ix : AV) (ok : Bool) (k : Eff → Prop) : Prop :=
 match a with
 | .mo id => (match lk id with
  | some (.mr n key kid _ _ _ hole) => lookupR gc T t n key kid hole ix ok k
  | _ => lookupA0 gc T lk t (.mo id) ix ok k)
 | a => lookupA0 gc T lk t a ix ok k
theorem lookupA_sound {gc : Option Prop} (hgc : ∀ c, gc = some c → c) (E : Env β nid F w lk) {T : List (Nat × TI)} (hT : TabOk P T) {t : Nat} {a ix : AV} {ok : Bool} {u v : Value} (hu : Rep β nid F w a u) (hv : Rep β nid F w ix v)
  (h : lookupA gc T lk t a ix ok k) : ∃ x, (Instr.lookup t u v ok).run P w = .ok x w ∧ ∃ r, k (.ext [] r) ∧ Rep β nid F w r x := by
 unfold lookupA at h
 split at h
 ·split at h
  ·rename_i hlk
   rw [hu.mo_inv.2]
   exact lookupR_sound hgc E hT hlk hv h
  ·exact lookupA0_sound hgc E hT hu hv h
 ·exact lookupA0_sound hgc E hT hu hv h
def makeMapA (nid : Nat) (k : Eff → Prop) : Prop := k (.ext [.mp 0 (fun _ => .u) (fun _ => .u) (fun _ => 0) 0] (.mo nid))
theorem mapOk_empty : MapOk #[] 0 := ⟨fun i j _ h1 => by simp at h1, fun i h => by simp at h, fun i j _ h1 => by simp at h1⟩
theorem makeMapA_sound (t : TypeId) (h : makeMapA nid k) : ∃ x w', (Instr.makeMap t none).run P w = .ok x w' ∧ PostK β nid F lk w k x w' := by
 refine ⟨.map (some w.heap.size), w.alloc (.map #[] 0), by simp [Instr.makeMap], _, β.blkAt nid w.heap.size, h, .blk _ _ _ _ (fun _ => rfl) (fun hF => ?_) (fun hb => ?_)⟩
 ·exact ⟨#[], by rw [show (β.blkAt nid w.heap.size).blk nid = w.heap.size by simp [Bd.blkAt]]; exact heap_alloc_new w _, rfl, mapOk_empty, fun i hi => by omega⟩
 ·have := Rep.mo (β := β.blkAt nid w.heap.size) (n := nid + 1) (F := FX F (β.blkAt nid w.heap.size) nid [.mp 0 (fun _ => .u) (fun _ => .u) (fun _ => 0) 0]) (w := w.alloc (.map #[] 0)) nid (by omega)
  rw [hb] at this
  exact this
def updateA0 (gc : Option Prop) (T : List (Nat × TI)) (lk : Nat → Option AO) (t : Nat) (a kx vx : AV) (k : Eff → Prop) : Prop :=
 match tget t T, a with
 | some ti, .mo id => (match mapD ti.desc, lk id with
  | some (kt, _), some (.mp n key val born clock) => (match AV.lt 0 vx with
   | true => ∃ n' key' val' born' clock', ob gc (KeysFit T kt n key ∧ keyFit T kt kx = true ∧ UpdOk n key val born clock kx vx n' key' val' born' clock') (k (.set id (.mp n' key' val' born' clock') .u))
   | false => False)
  | _, _ => False)
 | _, _ => False
theorem setMap_old (w : World) (g : Nat) (o : Obj) (g2 : Nat) (h : g2 ≠ g) : ({ w with heap := w.heap.setIfInBounds g o } : World).heap[g2]? = w.heap[g2]? := by
 simp [Ne.symm h]
theorem setMap_new (w : World) (g : Nat) (o : Obj) (h : g < w.heap.size) : ({ w with heap := w.heap.setIfInBounds g o } : World).heap[g]? = some o := by
 simp [h]
theorem updateA0_sound {gc : Option Prop} (hgc : ∀ c, gc = some c → c) (E : Env β nid F w lk) {T : List (Nat × TI)} (hT : TabOk P T) {t : Nat} {a kx vx : AV} {u v x : Value} (hu : Rep β nid F w a u) (hv : Rep β nid F w kx v) (hx : Rep β nid F w vx x)
  (h : updateA0 gc T lk t a kx vx k) : ∃ w', (Instr.mapUpdate t u v x).run P w = .ok () w' ∧ PostK β nid F lk w k undef w' := by
 unfold updateA0 at h
 split at h
 ·rename_i ti id h1
  split at h
  ·rename_i kt et n key val born clock h2 hlk
   split at h
   ·rename_i hpure
    obtain ⟨n', key', val', born', clock', h⟩ := h
    obtain ⟨⟨hf, hk, hupd⟩, hfin⟩ := ob_iff h hgc
    have hv0 := hv.toPure (keyFit_lt hk)
    have hx0 := hx.toPure hpure
    have hkv := keyFit_KV hT hk hv0
    obtain ⟨hut, _⟩ := hT.get h1
    cases hd : ti.desc <;> simp [mapD, hd] at h2
    obtain ⟨rfl, rfl⟩ := h2
    rw [hd] at hut
    obtain ⟨hid, rfl⟩ := hu.mo_inv
    obtain ⟨_, es, hh, hn, ho, hc⟩ := E.obj id _ hlk
    have hF := E.own id _ (β.blk id) hlk rfl
    have hlt := (Array.getElem?_eq_some_iff.1 hh).1
    have hall := keys_KV hT hf hn (fun i h1 h2 => (hc i h1 h2).1)
    have hold : ∀ (o : Obj) g2, g2 < w.heap.size → ¬ F g2 → ({ w with heap := w.heap.setIfInBounds (β.blk id) o } : World).heap[g2]? = w.heap[g2]? := fun o g2 _ hn => setMap_old w _ o g2 (fun e => hn (by rw [e]; exact hF))
    have hgrow : ∀ o : Obj, GrownBy w { w with heap := w.heap.setIfInBounds (β.blk id) o } (some (β.blk id)) := fun o => ⟨⟨rfl, rfl, rfl, by simp, fun g _ hne => setMap_old w _ o g (fun e => hne (by rw [e]))⟩, Nat.le_refl _⟩
    rcases run_find_KV (w := w) hkv es.toList hall with ⟨hfind, hno⟩ | ⟨j, e, hfind, he, hek⟩
    ·have hnk : ∀ i, i < n → key i ≠ kx := fun i hi hki => by
      have hi2 : i < es.size := by omega
      exact hno _ (by simp) ((keyFit_eq (hf i hi) hk (hc i hi hi2).1 hv0).1 hki)
     rcases hupd with ⟨i, hi, hki, _⟩ | ⟨_, rfl, rfl, hsame, hk1, hv1, hb1⟩
     ·exact absurd hki (hnk i hi)
     ·refine ⟨{ w with heap := w.heap.setIfInBounds (β.blk id) (.map (es.push { key := v, val := x, born := clock }) (clock + 1)) }, ?_, _, β, hfin, rfl, _, hlk, hgrow _, rfl, ⟨_, setMap_new w _ _ hlt, by simp [hn], ?_, ?_⟩, .pure _ _ (.u _)⟩
      ·simp [Instr.mapUpdate, run_underlying hut, Go.MapKept.run_getObj_map hh, run_check_KV false hkv, hfind, Go.MapKept.run_setObj_map _ hh]
      ·refine ⟨fun i j hij h1 h2 => ?_, fun i h1 => ?_, fun i j hij h1 h2 => ?_⟩
       ·simp at h1 h2
        by_cases hj : j = es.size
        ·subst hj
         have := ho.old i hij
         simpa [Array.getElem_push, hij] using this
        ·have hj' : j < es.size := by omega
         have := ho.asc i j hij (by omega) hj'
         simpa [Array.getElem_push, hj', show i < es.size by omega] using this
       ·simp at h1
        by_cases hi : i = es.size
        ·subst hi; simp
        ·have := ho.old i (by omega)
         simp [Array.getElem_push, show i < es.size by omega]
         omega
       ·simp at h1 h2
        by_cases hj : j = es.size
        ·subst hj
         have := hno es[i] (by simp)
         simpa [Array.getElem_push, hij] using this
        ·have hj' : j < es.size := by omega
         have := ho.one i j hij (by omega) hj'
         simpa [Array.getElem_push, hj', show i < es.size by omega] using this
      ·intro i hi h2
       simp at h2
       by_cases hin : i = n
       ·subst hin
        simp only [Array.getElem_push, hn, Nat.lt_irrefl, dite_false]
        rw [hk1, hv1, hb1]
        exact ⟨hv0.stable (fun _ _ hn => hn) (hold _) (by simp), hx0.stable (fun _ _ hn => hn) (hold _) (by simp), rfl⟩
       ·have hi' : i < es.size := by omega
        obtain ⟨e1, e2, e3⟩ := hsame i (by omega)
        simp only [Array.getElem_push, hi', dite_true]
        rw [e1, e2, e3]
        obtain ⟨h3, h4, h5⟩ := hc i (by omega) hi'
        exact ⟨h3.stable (fun _ _ hn => hn) (hold _) (by simp), h4.stable (fun _ _ hn => hn) (hold _) (by simp), h5⟩
    ·have hj2 : j < es.size := by simpa using (List.getElem?_eq_some_iff.1 he).1
     have hje : es[j] = e := by
      have := (List.getElem?_eq_some_iff.1 he).2
      simpa using this
     have hjn : j < n := by omega
     have hkj : key j = kx := (keyFit_eq (hf j hjn) hk (hc j hjn hj2).1 hv0).2 (by rw [hje]; exact hek)
     rcases hupd with ⟨i, hi, hki, hnn, hcc, hsame⟩ | ⟨hno, _⟩
     ·obtain rfl := hnn.symm
      obtain rfl := hcc.symm
      have hij : i = j := by
       have hi2 : i < es.size := by omega
       have e1 := (keyFit_eq (hf i hi) hk (hc i hi hi2).1 hv0).1 hki
       have e2 : es[j].key = v := by rw [hje]; exact hek
       rcases Nat.lt_trichotomy i j with h | h | h
       ·exact absurd (e1.trans e2.symm) (ho.one i j h hi2 hj2)
       ·exact h
       ·exact absurd (e2.trans e1.symm) (ho.one j i h hj2 hi2)
      subst hij
      have hkey : ((es[i]?).map (·.key)).getD v = v := by
       rw [Array.getElem?_eq_getElem hj2, hje]
       simpa using hek
      have hget : ∀ (q : Nat) (h : q < (es.modify i fun e => { e with key := v, val := x }).size) (h' : q < es.size), (es.modify i fun e => { e with key := v, val := x })[q] = { es[q] with val := if q = i then x else es[q].val } := by
       intro q h h'
       rw [Array.getElem_modify]
       by_cases hq : i = q
       ·subst hq
        rw [hje]
        simp [hek]
       ·simp [hq, Ne.symm hq]
      refine ⟨{ w with heap := w.heap.setIfInBounds (β.blk id) (.map (es.modify i fun e => { e with key := v, val := x }) clock) }, ?_, _, β, hfin, rfl, _, hlk, hgrow _, rfl, ⟨_, setMap_new w _ _ hlt, by simp [hn], ?_, ?_⟩, .pure _ _ (.u _)⟩
      ·simp [Instr.mapUpdate, run_underlying hut, Go.MapKept.run_getObj_map hh, run_check_KV false hkv, hfind, Go.MapKept.run_setObj_map _ hh, hkey, Instr.keyThatStays, sameBits_KV hkv]
      ·refine ⟨fun q r hqr h1 h2 => ?_, fun q h1 => ?_, fun q r hqr h1 h2 => ?_⟩
       ·simp at h1 h2
        rw [hget q _ h1, hget r _ h2]
        exact ho.asc q r hqr h1 h2
       ·simp at h1
        rw [hget q _ h1]
        exact ho.old q h1
       ·simp at h1 h2
        rw [hget q _ h1, hget r _ h2]
        exact ho.one q r hqr h1 h2
      ·intro q hq h2
       simp at h2
       rw [hget q _ h2]
       obtain ⟨e1, e2, e3⟩ := hsame q hq
       rw [e1, e2, e3]
       obtain ⟨h3, h4, h5⟩ := hc q hq h2
       refine ⟨h3.stable (fun _ _ hn => hn) (hold _) (by simp), ?_, h5⟩
       dsimp only
       split
       ·exact hx0.stable (fun _ _ hn => hn) (hold _) (by simp)
       ·exact h4.stable (fun _ _ hn => hn) (hold _) (by simp)
     ·exact absurd hkj (hno j hjn)
   ·exact h.elim
  ·exact h.elim
 ·exact h.elim
def UpdR (n : Nat) (key : Nat → AV) (born : Nat → Nat) (clock : Nat) (hole : Option (Nat × Nat)) (k : AV) (n' : Nat) (key' : Nat → AV) (born' : Nat → Nat) (clock' i : Nat) : Prop :=
 ((∃ h0, hole = some (i, h0)) ∧ key i = k ∧ n' = n ∧ clock' = clock ∧ ∀ j, j < n → key' j = key j ∧ born' j = born j) ∨
 (hole = none ∧ (∀ j, j < n → key j ≠ k) ∧ i = n ∧ n' = n + 1 ∧ clock' = clock + 1 ∧ (∀ j, j < n → key' j = key j ∧ born' j = born j) ∧ key' n = k ∧ born' n = clock)
def refId : AV → Option Nat
 | .so h => some h
 | .p h 0 => some h
 | _ => none
def updateR (gc : Option Prop) (T : List (Nat × TI)) (t id : Nat) (n : Nat) (key : Nat → AV) (kid : Nat → KD) (born : Nat → Nat) (clock aux : Nat) (hole : Option (Nat × Nat)) (kx vx : AV) (k : Eff → Prop) : Prop :=
 match tget t T, refId vx with
 | some ti, some h => (match mapD ti.desc with
  | some (kt, _) => ∃ n' key' born' clock' i, ob gc (KeysFit T kt n key ∧ keyFit T kt kx = true ∧ vx = kidA (kid i) h ∧ UpdR n key born clock hole kx n' key' born' clock' i) (k (.set id (.mr n' key' kid born' clock' aux (some (i, h))) .u))
  | none => False)
 | _, _ => False
theorem updateR_sound {gc : Option Prop} (hgc : ∀ c, gc = some c → c) (E : Env β nid F w lk) {T : List (Nat × TI)} (hT : TabOk P T) {t id : Nat} {kx vx : AV} {v x : Value} {n : Nat} {key : Nat → AV} {kid : Nat → KD} {born : Nat → Nat} {clock aux : Nat} {hole : Option (Nat × Nat)}
  (hlk : lk id = some (.mr n key kid born clock aux hole)) (hv : Rep β nid F w kx v) (hx : Rep β nid F w vx x)
  (h : updateR gc T t id n key kid born clock aux hole kx vx k) : ∃ w', (Instr.mapUpdate t (.map (some (β.blk id))) v x).run P w = .ok () w' ∧ PostK β nid F lk w k undef w' := by
 obtain ⟨_, ha, hho, es, hh, hn, ho, hkey, hkids, hd, hne, hhole⟩ := E.obj id _ hlk
 have hF := E.own id _ (β.blk id) hlk (.inl rfl)
 have hlt := (Array.getElem?_eq_some_iff.1 hh).1
 have hold : ∀ (o : Obj) g2, g2 < w.heap.size → ¬ F g2 → ({ w with heap := w.heap.setIfInBounds (β.blk id) o } : World).heap[g2]? = w.heap[g2]? := fun o g2 _ hn => setMap_old w _ o g2 (fun e => hn (by rw [e]; exact hF))
 have hgrow : ∀ o : Obj, GrownBy w { w with heap := w.heap.setIfInBounds (β.blk id) o } (some (β.blk id)) := fun o => ⟨⟨rfl, rfl, rfl, by simp, fun g _ hne => setMap_old w _ o g (fun e => hne (by rw [e]))⟩, Nat.le_refl _⟩
 unfold updateR at h
 split at h
 ·rename_i ti hx0 h1 hrx
  split at h
  ·rename_i kt et h2
   obtain ⟨n', key', born', clock', i, h⟩ := h
   obtain ⟨⟨hf, hk, hvx, hupd⟩, hfin⟩ := ob_iff h hgc
   rw [hvx] at hx
   obtain ⟨hh0, hxe⟩ := kidA_inv hx
   have hx1 := hx.kid_one
   have hv0 := hv.toPure (keyFit_lt hk)
   have hkv := keyFit_KV hT hk hv0
   obtain ⟨hut, _⟩ := hT.get h1
   cases hdd : ti.desc <;> simp [mapD, hdd] at h2
   obtain ⟨rfl, rfl⟩ := h2
   rw [hdd] at hut
   have hall := keys_KV hT hf hn (fun i h1 h2 => (hkey i h1 h2).1)
   have hkk : ∀ (o : Obj) j (hj : j < n) (hj2 : j < es.size), noHole hole j → KidOk F { w with heap := w.heap.setIfInBounds (β.blk id) o } es[j].val (kid j) := fun o j hj hj2 hno => by
    obtain ⟨e1, e2⟩ := hkids j hj hj2 hno
    refine e2.stable (fun _ _ hn => hn) (hold o) (by simp) fun g hg => setMap_old w _ o g fun e => ?_
    refine hne j j hj hj hno ?_
    rw [← e1, hg, e]
   rcases run_find_KV (w := w) hkv es.toList hall with ⟨hfind, hno⟩ | ⟨j, e, hfind, he, hek⟩
   ·have hnk : ∀ i, i < n → key i ≠ kx := fun i hi hki => by
     have hi2 : i < es.size := by omega
     exact hno _ (by simp) ((keyFit_eq (hf i hi) hk (hkey i hi hi2).1 hv0).1 hki)
    rcases hupd with ⟨⟨h0, e0⟩, hki, _⟩ | ⟨rfl, _, rfl, rfl, rfl, hsame, hk1, hb1⟩
    ·exact absurd hki (hnk i (hho i h0 e0).2)
    ·have nh : ∀ j, j < i + 1 → noHole (some (i, hx0)) j → j < i := fun j hj hno => by
      rcases Nat.lt_or_ge j i with h | h
      ·exact h
      ·have : j = i := by omega
       subst this
       exact absurd rfl (hno hx0)
     have nn : ∀ j : Nat, noHole none j := fun j h e => by cases e
     refine ⟨{ w with heap := w.heap.setIfInBounds (β.blk id) (.map (es.push { key := v, val := x, born := clock }) (clock + 1)) }, ?_, _, β, hfin, rfl, _, hlk, hgrow _, ?_, ⟨ha, fun q h e => ?_, _, setMap_new w _ _ hlt, by simp [hn], ?_, ?_, ?_, ?_, ?_, ?_⟩, .pure _ _ (.u _)⟩
     ·simp [Instr.mapUpdate, run_underlying hut, Go.MapKept.run_getObj_map hh, run_check_KV false hkv, hfind, Go.MapKept.run_setObj_map _ hh]
     ·simp only [ownB]
      funext g
      refine propext ⟨?_, ?_⟩
      ·rintro (h | ⟨j, h1, h2, h3⟩)
       ·exact .inl h
       ·exact .inr ⟨j, nh j h1 h2, nn j, h3⟩
      ·rintro (h | ⟨j, h1, _, h3⟩)
       ·exact .inl h
       ·exact .inr ⟨j, by omega, fun h e => by simp only [Option.some.injEq, Prod.mk.injEq] at e; omega, h3⟩
     ·simp only [Option.some.injEq, Prod.mk.injEq] at e
      exact ⟨by omega, by omega⟩
     ·refine ⟨fun i j hij h1 h2 => ?_, fun i h1 => ?_, fun i j hij h1 h2 => ?_⟩
      ·simp at h1 h2
       by_cases hj : j = es.size
       ·subst hj
        have := ho.old i hij
        simpa [Array.getElem_push, hij] using this
       ·have hj' : j < es.size := by omega
        have := ho.asc i j hij (by omega) hj'
        simpa [Array.getElem_push, hj', show i < es.size by omega] using this
      ·simp at h1
       by_cases hi : i = es.size
       ·subst hi; simp
       ·have := ho.old i (by omega)
        simp [Array.getElem_push, show i < es.size by omega]
        omega
      ·simp at h1 h2
       by_cases hj : j = es.size
       ·subst hj
        have := hno es[i] (by simp)
        simpa [Array.getElem_push, hij] using this
       ·have hj' : j < es.size := by omega
        have := ho.one i j hij (by omega) hj'
        simpa [Array.getElem_push, hj', show i < es.size by omega] using this
     ·intro j hj h2
      simp at h2
      by_cases hin : j = i
      ·subst hin
       simp only [Array.getElem_push, hn, Nat.lt_irrefl, dite_false]
       rw [hk1, hb1]
       exact ⟨hv0.stable (fun _ _ hn => hn) (hold _) (by simp), rfl⟩
      ·have hj' : j < es.size := by omega
       obtain ⟨e1, e2⟩ := hsame j (by omega)
       simp only [Array.getElem_push, hj', dite_true]
       rw [e1, e2]
       obtain ⟨h3, h4⟩ := hkey j (by omega) hj'
       exact ⟨h3.stable (fun _ _ hn => hn) (hold _) (by simp), h4⟩
     ·intro j hj h2 hnoh
      have hji := nh j hj hnoh
      have hj' : j < es.size := by omega
      simp only [Array.getElem_push, hj', dite_true]
      exact ⟨(hkids j hji hj' (nn j)).1, hkk _ j hji hj' (nn j)⟩
     ·exact fun p q g h1 h2 h3 h4 => hd p q g (nh p h1 h3) (nh q h2 h4) (nn p) (nn q)
     ·exact fun p q h1 h2 h3 => hne p p (nh p h1 h3) (nh p h1 h3) (nn p)
     ·intro q h e h2
      simp only [Option.some.injEq, Prod.mk.injEq] at e
      obtain ⟨rfl, rfl⟩ := e
      simp only [Array.getElem_push, hn, Nat.lt_irrefl, dite_false]
      exact ⟨hxe, hx1⟩
   ·have hj2 : j < es.size := by simpa using (List.getElem?_eq_some_iff.1 he).1
    have hje : es[j] = e := by
     have := (List.getElem?_eq_some_iff.1 he).2
     simpa using this
    have hjn : j < n := by omega
    have hkj : key j = kx := (keyFit_eq (hf j hjn) hk (hkey j hjn hj2).1 hv0).2 (by rw [hje]; exact hek)
    rcases hupd with ⟨⟨h0, e0⟩, hki, hnn, hcc, hsame⟩ | ⟨_, hno, _⟩
    ·obtain rfl := hnn.symm
     obtain rfl := hcc.symm
     subst e0
     have hi := (hho i h0 rfl).2
     have hij : i = j := by
      have hi2 : i < es.size := by omega
      have e1 := (keyFit_eq (hf i hi) hk (hkey i hi hi2).1 hv0).1 hki
      have e2 : es[j].key = v := by rw [hje]; exact hek
      rcases Nat.lt_trichotomy i j with h | h | h
      ·exact absurd (e1.trans e2.symm) (ho.one i j h hi2 hj2)
      ·exact h
      ·exact absurd (e2.trans e1.symm) (ho.one j i h hj2 hi2)
     subst hij
     have nh : ∀ q, noHole (some (i, hx0)) q ↔ noHole (some (i, h0)) q := fun q => by
      unfold noHole
      constructor
      ·intro hh h e
       simp only [Option.some.injEq, Prod.mk.injEq] at e
       exact hh hx0 (by rw [e.1])
      ·intro hh h e
       simp only [Option.some.injEq, Prod.mk.injEq] at e
       exact hh h0 (by rw [e.1])
     have hkey2 : ((es[i]?).map (·.key)).getD v = v := by
      rw [Array.getElem?_eq_getElem hj2, hje]
      simpa using hek
     have hget : ∀ (q : Nat) (h : q < (es.modify i fun e => { e with key := v, val := x }).size) (h' : q < es.size), (es.modify i fun e => { e with key := v, val := x })[q] = { es[q] with val := if q = i then x else es[q].val } := by
      intro q h h'
      rw [Array.getElem_modify]
      by_cases hq : i = q
      ·subst hq
       rw [hje]
       simp [hek]
      ·simp [hq, Ne.symm hq]
     refine ⟨{ w with heap := w.heap.setIfInBounds (β.blk id) (.map (es.modify i fun e => { e with key := v, val := x }) clock) }, ?_, _, β, hfin, rfl, _, hlk, hgrow _, ?_, ⟨ha, fun q h e => ?_, _, setMap_new w _ _ hlt, by simp [hn], ?_, ?_, ?_, ?_, ?_, ?_⟩, .pure _ _ (.u _)⟩
     ·simp [Instr.mapUpdate, run_underlying hut, Go.MapKept.run_getObj_map hh, run_check_KV false hkv, hfind, Go.MapKept.run_setObj_map _ hh, hkey2, Instr.keyThatStays, sameBits_KV hkv]
     ·simp only [ownB, nh]
     ·simp only [Option.some.injEq, Prod.mk.injEq] at e
      exact ⟨by omega, by omega⟩
     ·refine ⟨fun q r hqr h1 h2 => ?_, fun q h1 => ?_, fun q r hqr h1 h2 => ?_⟩
      ·simp at h1 h2
       rw [hget q _ h1, hget r _ h2]
       exact ho.asc q r hqr h1 h2
      ·simp at h1
       rw [hget q _ h1]
       exact ho.old q h1
      ·simp at h1 h2
       rw [hget q _ h1, hget r _ h2]
       exact ho.one q r hqr h1 h2
     ·intro q hq h2
      simp at h2
      rw [hget q _ h2]
      obtain ⟨e1, e2⟩ := hsame q hq
      rw [e1, e2]
      obtain ⟨h3, h4⟩ := hkey q hq h2
      exact ⟨h3.stable (fun _ _ hn => hn) (hold _) (by simp), h4⟩
     ·intro q hq h2 hnoh
      simp at h2
      rw [hget q _ h2]
      have hqi : q ≠ i := fun e => hnoh hx0 (by rw [e])
      simp only [if_neg hqi]
      exact ⟨(hkids q hq h2 ((nh q).1 hnoh)).1, hkk _ q hq h2 ((nh q).1 hnoh)⟩
     ·exact fun p q g h1 h2 h3 h4 => hd p q g h1 h2 ((nh p).1 h3) ((nh q).1 h4)
     ·exact fun p q h1 h2 h3 => hne p q h1 h2 ((nh p).1 h3)
     ·intro q h e h2
      simp only [Option.some.injEq, Prod.mk.injEq] at e
      obtain ⟨rfl, rfl⟩ := e
      simp at h2
      rw [hget _ _ h2]
      simp only [if_true]
      exact ⟨hxe, hx1⟩
    ·exact absurd hkj (hno j hjn)
  ·exact h.elim
 ·exact h.elim
def updateA (gc : Option Prop) (T : List (Nat × TI)) (lk : Nat → Option AO) (t : Nat) (a kx vx : AV) (k : Eff → Prop) : Prop :=
 match a with
 | .mo id => (match lk id with
  | some (.mr n key kid born clock aux hole) => updateR gc T t id n key kid born clock aux hole kx vx k
  | _ => updateA0 gc T lk t (.mo id) kx vx k)
 | a => updateA0 gc T lk t a kx vx k
theorem updateA_sound {gc : Option Prop} (hgc : ∀ c, gc = some c → c) (E : Env β nid F w lk) {T : List (Nat × TI)} (hT : TabOk P T) {t : Nat} {a kx vx : AV} {u v x : Value} (hu : Rep β nid F w a u) (hv : Rep β nid F w kx v) (hx : Rep β nid F w vx x)
  (h : updateA gc T lk t a kx vx k) : ∃ w', (Instr.mapUpdate t u v x).run P w = .ok () w' ∧ PostK β nid F lk w k undef w' := by
 unfold updateA at h
 split at h
 ·split at h
  ·rename_i hlk
   rw [hu.mo_inv.2]
   exact updateR_sound hgc E hT hlk hv hx h
  ·exact updateA0_sound hgc E hT hu hv hx h
 ·exact updateA0_sound hgc E hT hu hv hx h
def deleteA (gc : Option Prop) (T : List (Nat × TI)) (lk : Nat → Option AO) (t : Nat) (a kx : AV) (k : Eff → Prop) : Prop :=
 match tget t T, a with
 | some ti, .mo id => (match mapD ti.desc, lk id with
  | some (kt, _), some (.mp n key val born clock) => ∃ n' key' val' born', ob gc (KeysFit T kt n key ∧ keyFit T kt kx = true ∧ DelOk n key val born kx n' key' val' born') (k (.set id (.mp n' key' val' born' clock) .u))
  | _, _ => False)
 | _, _ => False
theorem deleteA_sound {gc : Option Prop} (hgc : ∀ c, gc = some c → c) (E : Env β nid F w lk) {T : List (Nat × TI)} (hT : TabOk P T) {t : Nat} {a kx : AV} {u v : Value} (ts : Array TypeId) (ty : TypeId) (hts : ts[0]? = some t) (hu : Rep β nid F w a u) (hv : Rep β nid F w kx v)
  (h : deleteA gc T lk t a kx k) : ∃ x w', (Builtin.delete_ ts ty #[u, v]).run P w = .ok x w' ∧ PostK β nid F lk w k x w' := by
 unfold deleteA at h
 split at h
 ·rename_i ti id h1
  split at h
  ·rename_i kt et n key val born clock h2 hlk
   obtain ⟨n', key', val', born', h⟩ := h
   obtain ⟨⟨hf, hk, hdel⟩, hfin⟩ := ob_iff h hgc
   have hv0 := hv.toPure (keyFit_lt hk)
   have hkv := keyFit_KV hT hk hv0
   obtain ⟨hut, _⟩ := hT.get h1
   cases hd : ti.desc <;> simp [mapD, hd] at h2
   obtain ⟨rfl, rfl⟩ := h2
   rw [hd] at hut
   obtain ⟨hid, rfl⟩ := hu.mo_inv
   obtain ⟨_, es, hh, hn, ho, hc⟩ := E.obj id _ hlk
   have hF := E.own id _ (β.blk id) hlk rfl
   have hlt := (Array.getElem?_eq_some_iff.1 hh).1
   have hall := keys_KV hT hf hn (fun i h1 h2 => (hc i h1 h2).1)
   have hold : ∀ (o : Obj) g2, g2 < w.heap.size → ¬ F g2 → ({ w with heap := w.heap.setIfInBounds (β.blk id) o } : World).heap[g2]? = w.heap[g2]? := fun o g2 _ hn => setMap_old w _ o g2 (fun e => hn (by rw [e]; exact hF))
   have hgrow : ∀ o : Obj, GrownBy w { w with heap := w.heap.setIfInBounds (β.blk id) o } (some (β.blk id)) := fun o => ⟨⟨rfl, rfl, rfl, by simp, fun g _ hne => setMap_old w _ o g (fun e => hne (by rw [e]))⟩, Nat.le_refl _⟩
   rcases run_find_KV (w := w) hkv es.toList hall with ⟨hfind, hno⟩ | ⟨j, e, hfind, he, hek⟩
   ·have hnk : ∀ i, i < n → key i ≠ kx := fun i hi hki => by
     have hi2 : i < es.size := by omega
     exact hno _ (by simp) ((keyFit_eq (hf i hi) hk (hc i hi hi2).1 hv0).1 hki)
    rcases hdel with ⟨i, hi, hki, _⟩ | ⟨_, rfl, hsame⟩
    ·exact absurd hki (hnk i hi)
    ·refine ⟨.tuple #[], { w with heap := w.heap.setIfInBounds (β.blk id) (.map es clock) }, ?_, _, β, hfin, rfl, _, hlk, hgrow _, rfl, ⟨es, setMap_new w _ _ hlt, hn, ho, ?_⟩, .pure _ _ (.u _)⟩
     ·simp [Builtin.delete_, hts, run_underlying hut, Go.MapKept.run_getObj_map hh, run_check_KV es.isEmpty hkv, hfind, Go.MapKept.run_setObj_map _ hh]
     ·intro i hi h2
      obtain ⟨e1, e2, e3⟩ := hsame i hi
      rw [e1, e2, e3]
      obtain ⟨h3, h4, h5⟩ := hc i hi h2
      exact ⟨h3.stable (fun _ _ hn => hn) (hold _) (by simp), h4.stable (fun _ _ hn => hn) (hold _) (by simp), h5⟩
   ·have hj2 : j < es.size := by simpa using (List.getElem?_eq_some_iff.1 he).1
    have hje : es[j] = e := by
     have := (List.getElem?_eq_some_iff.1 he).2
     simpa using this
    have hjn : j < n := by omega
    have hkj : key j = kx := (keyFit_eq (hf j hjn) hk (hc j hjn hj2).1 hv0).2 (by rw [hje]; exact hek)
    rcases hdel with ⟨i, hi, hki, hnn, hsame⟩ | ⟨hno, _⟩
    ·have hij : i = j := by
      have hi2 : i < es.size := by omega
      have e1 := (keyFit_eq (hf i hi) hk (hc i hi hi2).1 hv0).1 hki
      have e2 : es[j].key = v := by rw [hje]; exact hek
      rcases Nat.lt_trichotomy i j with h | h | h
      ·exact absurd (e1.trans e2.symm) (ho.one i j h hi2 hj2)
      ·exact h
      ·exact absurd (e2.trans e1.symm) (ho.one j i h hj2 hi2)
     subst hij
     have hsz : (es.eraseIdxIfInBounds i).size = n' := by
      rw [Array.eraseIdxIfInBounds, dif_pos hj2]
      simp
      omega
     have hget : ∀ (q : Nat) (h : q < (es.eraseIdxIfInBounds i).size), ∃ h' : (if q < i then q else q + 1) < es.size, (es.eraseIdxIfInBounds i)[q] = es[if q < i then q else q + 1] := by
      intro q hq
      have hq' : q < n' := by omega
      have h' : (if q < i then q else q + 1) < es.size := by split <;> omega
      refine ⟨h', ?_⟩
      simp only [Array.eraseIdxIfInBounds, dif_pos hj2, Array.getElem_eraseIdx]
      split <;> rfl
     refine ⟨.tuple #[], { w with heap := w.heap.setIfInBounds (β.blk id) (.map (es.eraseIdxIfInBounds i) clock) }, ?_, _, β, hfin, rfl, _, hlk, hgrow _, rfl, ⟨_, setMap_new w _ _ hlt, hsz, ?_, ?_⟩, .pure _ _ (.u _)⟩
     ·simp [Builtin.delete_, hts, run_underlying hut, Go.MapKept.run_getObj_map hh, run_check_KV es.isEmpty hkv, hfind, Go.MapKept.run_setObj_map _ hh]
     ·refine ⟨fun q r hqr h1 h2 => ?_, fun q h1 => ?_, fun q r hqr h1 h2 => ?_⟩
      ·obtain ⟨h3, e3⟩ := hget q h1
       obtain ⟨h4, e4⟩ := hget r h2
       rw [e3, e4]
       exact ho.asc _ _ (by split <;> split <;> omega) h3 h4
      ·obtain ⟨h3, e3⟩ := hget q h1
       rw [e3]
       exact ho.old _ h3
      ·obtain ⟨h3, e3⟩ := hget q h1
       obtain ⟨h4, e4⟩ := hget r h2
       rw [e3, e4]
       exact ho.one _ _ (by split <;> split <;> omega) h3 h4
     ·intro q hq h2
      obtain ⟨h3, e3⟩ := hget q h2
      obtain ⟨e1, e2, e4⟩ := hsame q hq
      rw [e3, e1, e2, e4]
      obtain ⟨h5, h6, h7⟩ := hc _ (by omega) h3
      exact ⟨h5.stable (fun _ _ hn => hn) (hold _) (by simp), h6.stable (fun _ _ hn => hn) (hold _) (by simp), h7⟩
    ·exact absurd hkj (hno j hjn)
  ·exact h.elim
 ·exact h.elim
def rangeA (T : List (Nat × TI)) (lk : Nat → Option AO) (nid t : Nat) (a : AV) (k : Eff → Prop) : Prop :=
 match tget t T with
 | some ti => (match isMapD ti.desc, a with
  | true, .rm n key val => k (.ext [.ir n key val (fun _ => false) none] (.p nid 0))
  | true, .mo id => (match lk id with
   | some (.mp _ _ _ _ clock) => k (.ext [.it id clock []] (.p nid 0))
   | _ => False)
  | _, _ => False)
 | none => False
theorem rangeA_sound (E : Env β nid F w lk) {T : List (Nat × TI)} (hT : TabOk P T) {t : Nat} {a : AV} {v : Value} (hv : Rep β nid F w a v) (h : rangeA T lk nid t a k) :
  ∃ x w', (Instr.range t v).run P w = .ok x w' ∧ PostK β nid F lk w k x w' := by
 unfold rangeA at h
 split at h
 ·rename_i ti h1
  obtain ⟨hut, _⟩ := hT.get h1
  split at h
  ·rename_i n key val hm
   cases hd : ti.desc <;> simp [isMapD, hd] at hm
   rw [hd] at hut
   have hv0 := hv.rm_inv
   have hp : ∀ ob, (β.blkAt nid w.heap.size).blk nid = w.heap.size → Rep (β.blkAt nid w.heap.size) (nid + 1) (FX F (β.blkAt nid w.heap.size) nid [.ir n key val (fun _ => false) none]) (w.alloc ob) (.p nid 0) (.pointer (some ⟨w.heap.size, 0, none⟩)) := fun ob hb => by
    have := Rep.p (β := β.blkAt nid w.heap.size) (n := nid + 1) (F := FX F (β.blkAt nid w.heap.size) nid [.ir n key val (fun _ => false) none]) (w := w.alloc ob) nid 0 (by omega)
    rw [hb] at this
    exact this
   cases hv0 with
   | rmnil =>
    refine ⟨.pointer (some ⟨w.heap.size, 0, none⟩), w.alloc (.mapIter none 0 #[] 0), by simp [Instr.range, run_underlying hut], _, β.blkAt nid w.heap.size, h, .blk _ _ _ _ (fun _ => rfl) (fun hF => ?_) (hp _)⟩
    exact ⟨none, #[], 0, #[], by rw [show (β.blkAt nid w.heap.size).blk nid = w.heap.size by simp [Bd.blkAt]]; exact heap_alloc_new w _, rfl, mapOk_empty, fun _ => rfl, fun b hb => (by cases hb), fun i hi => (by omega), fun i hi => (by cases hi)⟩
   | rm _ _ _ g es clock hFg hg hn ho hk hvv =>
    have hlt := (Array.getElem?_eq_some_iff.1 hg).1
    refine ⟨.pointer (some ⟨w.heap.size, 0, none⟩), w.alloc (.mapIter (some g) clock #[] clock), by simp [Instr.range, run_underlying hut, Go.MapKept.run_getObj_map hg], _, β.blkAt nid w.heap.size, h, .blk _ _ _ _ (fun _ => rfl) (fun hF => ?_) (hp _)⟩
    have hw : ∀ g, g < w.heap.size → ¬ F g → (w.alloc (.mapIter (some g) clock #[] clock)).heap[g]? = w.heap[g]? := fun g hg _ => Below.heap_alloc w _ g hg
    have hw2 : ∀ g2, g2 < w.heap.size → ¬ F g2 → (w.alloc (.mapIter (some g) clock #[] clock)).heap[g2]? = w.heap[g2]? := fun g2 hg _ => Below.heap_alloc w _ g2 hg
    refine ⟨some g, es, clock, #[], by rw [show (β.blkAt nid w.heap.size).blk nid = w.heap.size by simp [Bd.blkAt]]; exact heap_alloc_new w _, hn, ho, fun h => (by cases h), fun b hb => ?_, fun i h1 h2 => ?_, fun i hi => (by cases hi)⟩
    ·obtain rfl := Option.some.inj hb
     exact ⟨hF _ hlt hFg, by rw [hw2 _ hlt hFg]; exact hg⟩
    ·exact ⟨(hk i h1 h2).stable hF hw2 (by simp), (hvv i h1 h2).stable hF hw2 (by simp), by simp⟩
  ·rename_i id hm
   cases hd : ti.desc <;> simp [isMapD, hd] at hm
   rw [hd] at hut
   split at h
   ·rename_i n key val born clock hlk
    obtain ⟨hid, rfl⟩ := hv.mo_inv
    obtain ⟨_, es, hh, hn, ho, hc⟩ := E.obj id _ hlk
    refine ⟨.pointer (some ⟨w.heap.size, 0, none⟩), w.alloc (.mapIter (some (β.blk id)) clock #[] clock), by simp [Instr.range, run_underlying hut, Go.MapKept.run_getObj_map hh], _, β.blkAt nid w.heap.size, h, .blk _ _ _ _ (fun _ => rfl) (fun hF => ?_) (fun hb => ?_)⟩
    ·refine ⟨by omega, ?_⟩
     rw [show (β.blkAt nid w.heap.size).blk nid = w.heap.size by simp [Bd.blkAt], show (β.blkAt nid w.heap.size).blk id = β.blk id by simp [Bd.blkAt, Nat.ne_of_lt hid]]
     exact heap_alloc_new w _
    ·have := Rep.p (β := β.blkAt nid w.heap.size) (n := nid + 1) (F := FX F (β.blkAt nid w.heap.size) nid [.it id clock []]) (w := w.alloc (.mapIter (some (β.blk id)) clock #[] clock)) nid 0 (by omega)
     rw [hb] at this
     exact this
   ·exact h.elim
  ·exact h.elim
 ·exact h.elim
def entryA (gc : Option Prop) (lk : Nat → Option AO) (a : AV) (k : Eff → Prop) : Prop :=
 match a with
 | .p id 0 => (match lk id with
  | some (.ir _ key val _ (some i)) => k (.ext [] (.tup [key i, val i]))
  | some (.it mid since seen) => (match lk mid with
   | some (.mp n key val born clock) => ∃ i, ob gc (i < n ∧ seen.getLast? = some (born i) ∧ clock = since) (k (.ext [] (.tup [key i, val i])))
   | _ => False)
  | _ => False)
 | _ => False
theorem find_born {es : Array MapEntry} {clock : Nat} (ho : MapOk es clock) {i : Nat} (hi : i < es.size) : es.find? (fun x => x.born == es[i].born) = some es[i] := by
 rw [Array.find?_eq_some_iff_getElem]
 refine ⟨by simp, i, hi, rfl, fun j hj => ?_⟩
 have := ho.asc j i hj (by omega) hi
 simp
 omega
theorem entryA_sound {gc : Option Prop} (hgc : ∀ c, gc = some c → c) (E : Env β nid F w lk) {a : AV} {v : Value} (hv : Rep β nid F w a v) (h : entryA gc lk a k) :
  ∃ x, (Instr.entry v).run P w = .ok x w ∧ ∃ r, k (.ext [] r) ∧ Rep β nid F w r x := by
 have two : ∀ {x y : AV} {u z : Value}, Rep0 F w x u → Rep0 F w y z → Rep β nid F w (.tup [x, y]) (.tuple #[u, z]) := by
  intro x y u z h1 h2
  refine .pure _ _ (.tup [x, y] [u, z] rfl fun j h3 h4 => ?_)
  match j, h3 with
  | 0, _ => exact h1
  | 1, _ => exact h2
 unfold entryA at h
 split at h
 ·rename_i id
  obtain ⟨hid, rfl⟩ := hv.p_inv
  split at h
  ·rename_i n key val seen i hlk
   obtain ⟨_, g, es, clock, sn, hh, hm, ho, hg0, hg, hc, hlast⟩ := E.obj id _ hlk
   obtain ⟨hi, hb⟩ := hlast i rfl
   cases g with
   | none => have := hg0 rfl; omega
   | some b =>
    obtain ⟨_, hmap⟩ := hg b rfl
    obtain ⟨h1, h2, _⟩ := hc i (by omega) hi
    refine ⟨_, ?_, _, h, two h1 h2⟩
    simp [Instr.entry, getObj, Sem.run, hh, hmap, hb, find_born ho hi]
  ·rename_i mid since seen hlk
   split at h
   ·rename_i n key val born clock hlk2
    obtain ⟨i, h⟩ := h
    obtain ⟨⟨hi, hs, hcl⟩, hfin⟩ := ob_iff h hgc
    obtain ⟨_, _, hh⟩ := E.obj id _ hlk
    obtain ⟨_, es, hmap, hn, ho, hc⟩ := E.obj mid _ hlk2
    have hi2 : i < es.size := by omega
    obtain ⟨h1, h2, h3⟩ := hc i hi hi2
    have hb : seen.toArray.back? = some es[i].born := by simp [hs, h3]
    refine ⟨_, ?_, _, hfin, two h1 h2⟩
    simp [Instr.entry, getObj, Sem.run, hh, hmap, hb, find_born ho hi2, hcl]
   ·exact h.elim
  ·exact h.elim
 ·exact h.elim
def clearA (T : List (Nat × TI)) (lk : Nat → Option AO) (t : Nat) (a : AV) (k : Eff → Prop) : Prop :=
 match tget t T with
 | some ti => (match sliceD ti.desc with
  | some e => (match tget e T with
   | some te => (match te.size, Nat.beq te.zero.cells.size te.size, allOne te.zero.cells.toList, a with
    | _ + 1, true, true, .sv id sz lo m => (match lk id with
     | some (.row e' sz' n get) => (match Nat.beq e' e, Nat.beq sz te.size, Nat.beq sz' te.size with
      | true, true, true => k (.set id (.row e te.size n fun q => if lo ≤ q ∧ q < lo + m then zeroL te.zero else get q) (.tup []))
      | _, _, _ => False)
     | _ => False)
    | _, _, _, _ => False)
   | none => False)
  | none => False)
 | none => False
theorem clearA_sound (E : Env β nid F w lk) {T : List (Nat × TI)} (hT : TabOk P T) {t : Nat} {a : AV} {v : Value} (ts : Array TypeId) (ty : TypeId) (hts : ts[0]? = some t) (hv : Rep β nid F w a v)
  (h : clearA T lk t a k) : ∃ x w', (Builtin.clear_ ts ty #[v]).run P w = .ok x w' ∧ PostK β nid F lk w k x w' := by
 unfold clearA at h
 split at h
 ·rename_i ti h1
  split at h
  ·rename_i e h2
   split at h
   ·rename_i te h3
    split at h
    ·rename_i sz1 id sz lo m hsz1 hzs hone
     split at h
     ·rename_i e' sz' n get hlk
      split at h
      ·rename_i he hsz hsz'
       have he : e' = e := by simpa using he
       have hsz : sz = te.size := by simpa using hsz
       have hsz' : sz' = te.size := by simpa using hsz'
       subst he
       subst hsz
       have hzs : te.zero.cells.size = te.size := by simpa using hzs
       obtain ⟨hut, _⟩ := hT.get h1
       obtain ⟨_, _, i, hi, hs, _, hz⟩ := hT.get h3
       cases hd : ti.desc <;> simp [sliceD, hd] at h2
       rename_i el
       subst h2
       rw [hd] at hut
       obtain ⟨hid, hsv⟩ := hv.sv_inv
       obtain ⟨_, xs, hx, hlen, hc⟩ := E.obj id _ hlk
       rw [hsz'] at hx hlen hc
       have htup : Rep β nid F w (.tup []) (.tuple #[]) := .pure _ _ (.tup [] [] rfl fun j h1 => by simp at h1)
       have hempty : m = 0 → (Builtin.clear_ ts ty #[v]).run P w = .ok (.tuple #[]) w → ∃ x w', (Builtin.clear_ ts ty #[v]).run P w = .ok x w' ∧ PostK β nid F lk w k x w' := by
        intro hm hrun
        have hsame : (fun q => if lo ≤ q ∧ q < lo + m then zeroL te.zero else get q) = get := by
         funext q
         rw [if_neg (by omega)]
        rw [hsame] at h
        refine ⟨_, w, hrun, _, β, h, rfl, _, hlk, ⟨⟨rfl, rfl, rfl, Nat.le_refl _, fun _ _ _ => rfl⟩, Nat.le_refl _⟩, ?_, ⟨xs, hx, hlen, hc⟩, htup⟩
        rfl
       rcases hsv with ⟨rfl, hn0, _⟩ | ⟨a, rfl, hn0, _⟩ | ⟨g, o, m', c, hb, hlo, hlm, rfl⟩
       ·exact hempty hn0 (by simp [Builtin.clear_, hts, run_underlying hut])
       ·exact hempty hn0 (by simp [Builtin.clear_, hts, run_underlying hut])
       ·rcases hx.2 with ⟨h1, _⟩ | ⟨_, h1, _⟩ | ⟨g', o', cap, cur, hval, hh, hnc, hcm, hcs, htake⟩
        ·rw [hb] at h1; cases h1
        ·rw [hb] at h1
         simp only [Value.slice.injEq] at h1
         omega
        rw [hb] at hval
        simp only [Value.slice.injEq, Option.some.injEq, Addr.mk.injEq] at hval
        obtain ⟨⟨rfl, rfl, _⟩, rfl, rfl⟩ := hval
        by_cases hm0 : m = 0
        ·subst hm0
         exact hempty rfl (by simp [Builtin.clear_, hts, run_underlying hut])
        ·have hxl := hx.1
         have hmul : (lo + m) * te.size ≤ m' * te.size := Nat.mul_le_mul_right _ hlm
         have hcapsz : m' * te.size ≤ (cap + 1) * te.size := Nat.mul_le_mul_right _ hnc
         rw [Nat.add_mul] at hmul
         have hzl : (Builtin.zeroCells te.zero.cells m).toList.length = m * te.size := by simp [Builtin.zeroCells, hzs]
         have hzg : ∀ (q : Nat) (h : q < (Builtin.zeroCells te.zero.cells m).toList.length), ∃ h' : q % te.size < te.zero.cells.size, (Builtin.zeroCells te.zero.cells m).toList[q] = te.zero.cells[q % te.size] := by
          intro q hq
          have hlt : q % te.size < te.zero.cells.size := by rw [hzs]; exact Nat.mod_lt _ (by omega)
          refine ⟨hlt, ?_⟩
          simp only [Builtin.zeroCells, hzs, Array.getElem_toList, Array.getElem_map, Array.getElem_range]
          exact getElem!_pos (c := te.zero.cells) (i := q % te.size) hlt
         have hrun0 : ∀ zs, (Builtin.zeroCells te.zero.cells m).toList = zs → ∀ w', (storeCells ⟨g, o + lo * te.size, none⟩ zs).run P w = .ok () w' → (Builtin.clear_ ts ty #[.slice (some ⟨g, o + lo * te.size, none⟩) m (cap + 1 - lo)]).run P w = .ok (.tuple #[]) w' := by
          rintro zs rfl w' hst
          have hzero : (zeroValue el).run P w = .ok te.zero w := by simp [zeroValue, typeInfo, hi, hz]
          obtain ⟨m2, rfl⟩ : ∃ m2, m = m2 + 1 := ⟨m - 1, by omega⟩
          simp [Builtin.clear_, hts, run_underlying hut, hzero, hst]
         generalize (Builtin.zeroCells te.zero.cells m).toList = zs at hzl hzg hrun0
         have hz1 : ∀ u ∈ zs, u.oneCell' = true := by
          intro u hu
          obtain ⟨q, hq, rfl⟩ := List.getElem_of_mem hu
          obtain ⟨h', e⟩ := hzg q hq
          rw [e]
          exact allOne_get hone _ (by simp)
         have hst := run_storeCells_at P g (o + lo * te.size) el zs 0 cur w hh (by simp; omega) hz1
         simp only [Nat.add_zero] at hst
         have hrun := hrun0 zs rfl _ hst
         have hov := RowAt.over (w := w) hh hnc hcm hcs htake hxl (lo * te.size) zs (by omega)
         have hF := E.own id _ g hlk (by simp [ownB, hb, blkOf])
         have hold : ∀ g2, g2 < w.heap.size → ¬ F g2 → (w.setRow g (cur.toList.take (o + lo * te.size) ++ zs ++ cur.toList.drop (o + lo * te.size + zs.length)).toArray).heap[g2]? = w.heap[g2]? :=
          fun g2 _ hn => setRow_other w _ g2 _ (fun e => hn (by rw [e]; exact hF))
         have hbk : ∀ e1 s1, wrB β id (.row e1 s1 m' get) = some g := by simp [wrB, hb, blkOf]
         have hzL := zeroL_spec (F := F) (w := w) te.zero
         refine ⟨_, _, hrun, _, β, h, rfl, _, hlk, by rw [hbk]; exact grownBy_setRow _ _ _, rfl, ⟨_, by rw [hb]; exact hov, ?_, ?_⟩, .pure _ _ (.tup [] [] rfl fun j h1 => by simp at h1)⟩
         ·intro q hq
          dsimp only
          split
          ·rw [hzL.1, hzs]
          ·exact hlen q hq
         ·intro q j hq h1 h2
          have hqsz : q * te.size + te.size ≤ m' * te.size := by rw [← Nat.succ_mul]; exact Nat.mul_le_mul_right _ hq
          rw [overV_get (by omega) _ h2]
          by_cases hin : lo ≤ q ∧ q < lo + m
          ·simp only [if_pos hin] at h1 ⊢
           have hj : j < te.size := by rw [hzL.1, hzs] at h1; exact h1
           have e2 : (q - lo) * te.size = q * te.size - lo * te.size := Nat.sub_mul _ _ _
           have e3 : lo * te.size ≤ q * te.size := Nat.mul_le_mul_right _ hin.1
           have e4 : q * te.size + te.size ≤ lo * te.size + m * te.size := by rw [← Nat.succ_mul, ← Nat.add_mul]; exact Nat.mul_le_mul_right _ hin.2
           rw [dif_pos (by omega)]
           obtain ⟨h', e5⟩ := hzg (q * te.size + j - lo * te.size) (by omega)
           have e6 : (q * te.size + j - lo * te.size) % te.size = j := by
            have : q * te.size + j - lo * te.size = (q - lo) * te.size + j := by omega
            rw [this, Nat.mul_comm, Nat.mul_add_mod]
            exact Nat.mod_eq_of_lt hj
           rw [e5]
           simp only [e6]
           refine ⟨?_, allOne_get hone _ (by simp)⟩
           exact (hzL.2 j h1 (by omega)).stable (fun _ _ hn => hn) hold (by simp)
          ·simp only [if_neg hin] at h1 ⊢
           have hj : j < te.size := by rw [hlen q hq] at h1; exact h1
           have hne : ¬ (lo * te.size ≤ q * te.size + j ∧ q * te.size + j < lo * te.size + zs.length) := by
            rintro ⟨h3, h4⟩
            apply hin
            have e6 : lo * te.size < (q + 1) * te.size := by rw [Nat.succ_mul]; omega
            have e7 : q * te.size < (lo + m) * te.size := by rw [Nat.add_mul]; omega
            have := Nat.lt_of_mul_lt_mul_right e6
            have := Nat.lt_of_mul_lt_mul_right e7
            omega
           rw [dif_neg hne]
           have := hc q j hq h1 (by omega)
           exact ⟨this.1.stable (fun _ _ hn => hn) hold (by simp), this.2⟩
      ·exact h.elim
     ·exact h.elim
    ·exact h.elim
   ·exact h.elim
  ·exact h.elim
 ·exact h.elim
end
end Go.Eng
end
