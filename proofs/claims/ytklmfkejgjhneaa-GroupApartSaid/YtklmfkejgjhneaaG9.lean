/-
  Groups: GroupApart.
-/
import Derived.Test.YtklmfkejgjhneaaG6
namespace Go.Proofs.Ytklmfkejgjhneaa
open Go.Eng

def grpP (g : Int) (e : Ev) : Bool := e.group == g
def graP (g p : Int) (x : Gra) : Bool := x.grp == g && x.per == p
theorem filter_takeA {α : Type} (d : α) (p : α → Bool) (l : List α) (k : Nat) (h : k < l.length) : (l.take (k + 1)).filter p = if p (l.getD k d) = true then (l.take k).filter p ++ [l.getD k d] else (l.take k).filter p := by
  rw [List.take_succ_eq_append_getElem h, List.filter_append]
  have e : l.getD k d = l[k] := by simp [List.getD, h]
  rw [e, List.filter_cons]
  split <;> simp
theorem evs_snoc (o : List Ev) (x : Ev) : evs (o ++ [x]) o.length = x := by
  unfold evs
  rw [getD_append_ge dE _ _ _ (Nat.le_refl _)]
  simp
theorem evs_snoc_lt (o : List Ev) (x : Ev) : ∀ i, i < o.length → evs (o ++ [x]) i = evs o i := fun i hi => getD_append_lt dE o _ i hi
theorem own_in (l : List Ev) (a g : Int) : ∀ k, k ≤ l.length → inN (evs ((l.take k).filter (grpP g))) a g ((l.take k).filter (grpP g)).length = inN (evs l) a g k
  | 0, _ => by simp [inN]
  | k + 1, h => by
    have ih := own_in l a g k (by omega)
    rw [filter_takeA dE (grpP g) l k (by omega)]
    have e1 : inN (evs l) a g (k + 1) = if joinP (l.getD k dE) a g = true then true else if endsP (l.getD k dE) a g = true then false else inN (evs l) a g k := rfl
    rw [e1]
    by_cases hp : grpP g (l.getD k dE) = true
    · rw [if_pos hp, List.length_append]
      have e2 : ∀ (o : List Ev) (x : Ev), inN (evs (o ++ [x])) a g (o.length + 1) = if joinP x a g = true then true else if endsP x a g = true then false else inN (evs o) a g o.length := fun o x => by
        have e3 : inN (evs (o ++ [x])) a g (o.length + 1) = if joinP (evs (o ++ [x]) o.length) a g = true then true else if endsP (evs (o ++ [x]) o.length) a g = true then false else inN (evs (o ++ [x])) a g o.length := rfl
        rw [e3, evs_snoc, inN_congr (evs_snoc_lt o x)]
      rw [show [l.getD k dE].length = 1 from rfl, e2, ih]
    · rw [if_neg hp, ih]
      have hg : ((l.getD k dE).group == g) = false := by
        unfold grpP at hp
        simpa using hp
      have hj : joinP (l.getD k dE) a g = false := by unfold joinP; rw [hg, Bool.and_false]
      have he : endsP (l.getD k dE) a g = false := by unfold endsP; rw [hg, Bool.false_and]
      rw [hj, he]
      rfl
theorem own_rights (b : Int) (l : List Ev) (g p : Int) : ∀ k, k ≤ l.length → rightsN b (evs ((l.take k).filter (grpP g))) g p ((l.take k).filter (grpP g)).length = rightsN b (evs l) g p k
  | 0, _ => by simp [rightsN]
  | k + 1, h => by
    have ih := own_rights b l g p k (by omega)
    rw [filter_takeA dE (grpP g) l k (by omega)]
    have e1 : rightsN b (evs l) g p (k + 1) = if roleP (l.getD k dE) g p = true then (l.getD k dE).n else rightsN b (evs l) g p k := rfl
    rw [e1]
    by_cases hp : grpP g (l.getD k dE) = true
    · rw [if_pos hp, List.length_append]
      have e2 : ∀ (o : List Ev) (x : Ev), rightsN b (evs (o ++ [x])) g p (o.length + 1) = if roleP x g p = true then x.n else rightsN b (evs o) g p o.length := fun o x => by
        have e3 : rightsN b (evs (o ++ [x])) g p (o.length + 1) = if roleP (evs (o ++ [x]) o.length) g p = true then (evs (o ++ [x]) o.length).n else rightsN b (evs (o ++ [x])) g p o.length := rfl
        rw [e3, evs_snoc, rightsN_congr (evs_snoc_lt o x)]
      rw [show [l.getD k dE].length = 1 from rfl, e2, ih]
    · rw [if_neg hp, ih]
      have hg : ((l.getD k dE).group == g) = false := by
        unfold grpP at hp
        simpa using hp
      have hr : roleP (l.getD k dE) g p = false := by unfold roleP; rw [hg, Bool.and_false, Bool.false_and]
      rw [hr]
      rfl
theorem bits_filter (l : List Gra) (g p : Int) : bitsG (l.filter (graP g p)) g p = bitsG l g p := by
  unfold bitsG
  generalize (0 : Int) = z
  induction l generalizing z with
  | nil => rfl
  | cons x r ih =>
    rw [List.filter_cons, List.foldl_cons]
    by_cases h : graP g p x = true
    · rw [if_pos h, List.foldl_cons]
      exact ih _
    · have h2 : ¬ (x.grp == g && x.per == p) = true := h
      rw [if_neg h, if_neg h2]
      exact ih _
theorem role_last (l : List Ev) (g p b : Int) : ∀ k, k ≤ l.length → (l.take k).any (fun e => roleP e g p) = true → rightsN b (evs l) g p k = rightsN 0 (evs l) g p k
  | 0, _, h => by simp at h
  | k + 1, hk, h => by
    rw [any_takeD dE l _ k (by omega)] at h
    have e1 : ∀ b, rightsN b (evs l) g p (k + 1) = if roleP (l.getD k dE) g p = true then (l.getD k dE).n else rightsN b (evs l) g p k := fun _ => rfl
    rw [e1, e1]
    split
    · rfl
    · rename_i hr
      refine role_last l g p b k (by omega) ?_
      have hr2 : roleP (l.getD k dE) g p = false := by simpa using hr
      rw [hr2, Bool.or_false] at h
      exact h
theorem role_none (l : List Ev) (g p b : Int) : ∀ k, k ≤ l.length → (l.take k).any (fun e => roleP e g p) = false → rightsN b (evs l) g p k = b
  | 0, _, _ => rfl
  | k + 1, hk, h => by
    rw [any_takeD dE l _ k (by omega), Bool.or_eq_false_iff] at h
    have e1 : rightsN b (evs l) g p (k + 1) = if roleP (l.getD k dE) g p = true then (l.getD k dE).n else rightsN b (evs l) g p k := rfl
    rw [e1, if_neg (by rw [h.2]; decide)]
    exact role_none l g p b k (by omega) h.1
theorem snocE (o : List Ev) (x : Ev) : ∀ k, k < (o ++ [x]).length → catG o.length (rowsE o) (rowOf 12 x.av) k = rowsE (o ++ [x]) k := by
  intro k hk
  unfold catG rowsE
  by_cases h : k < o.length
  · rw [if_pos h, getD_append_lt dE _ _ _ h]
  · rw [if_neg h]
    have : k = o.length := by simp at hk; omega
    subst this
    rw [getD_append_ge dE _ _ _ (Nat.le_refl _)]
    simp
    rfl
theorem snocGr (o : List Gra) (x : Gra) : ∀ k, k < (o ++ [x]).length → catG o.length (rowsG o) (rowOf 3 x.av) k = rowsG (o ++ [x]) k := by
  intro k hk
  unfold catG rowsG
  by_cases h : k < o.length
  · rw [if_pos h, getD_append_lt dG _ _ _ h]
  · rw [if_neg h]
    have : k = o.length := by simp at hk; omega
    subst this
    rw [getD_append_ge dG _ _ _ (Nat.le_refl _)]
    simp
    rfl
theorem cut_all (l : List Ev) : cut l l.length = l.length := by unfold cut; omega

set_option maxRecDepth 20000 in
set_option maxHeartbeats 4000000 in
theorem groupApart_fn (l : List Ev) (hwf : ∀ x ∈ l, (Lit.int .i64 x.who).wf = true) (gl : List Gra) (g p : Int) :
    Ctr Try.prog 6 [.rs 12 l.length (rowsE l), .rs 3 gl.length (rowsG gl), .i .i64 g, .i .i64 p] [] (.b true) := by
  refine fn_of_exec tabOk Try.func6 (by kernel_rfl) rfl (N := Try.f6.ntmps) rfl (res := [.tmp 8]) rfl rfl [] ?_
  refine .inl ⟨[], _, smallG_fn, ?_⟩
  repeat refine Or.inl ?_
  refine ⟨fun hf => RetIs.b rfl, fun hf => ?_⟩
  have hf : (decide ((l.length : Int) > 60) || decide ((gl.length : Int) > 60)) = false := hf
  simp only [Bool.or_eq_false_iff, decide_eq_false_iff_not] at hf
  refine .inl ⟨[(10, 36, 12)], Nat, fun k => k ≤ l.length, fun k => [⟨13, [], .i .i64 k⟩, ⟨10, [], .so 0⟩, ⟨11, [], .b ((l.take k).any (fun e => roleP e g p))⟩, ⟨12, [], .i .i64 (rightsN 0 (evs l) g p k)⟩],
    fun k => [⟨0, [], .row 36 12 ((l.take k).filter (grpP g)).length (rowsE ((l.take k).filter (grpP g)))⟩], fun k => l.length - k,
    ⟨0, [], Nat.zero_le _, rfl, rfl, rfl, rfl, rfl, ⟨⟨rfl, rfl⟩, rfl, rfl, ⟨rfl, rfl⟩⟩, ⟨rfl, rfl, rfl, fun j hj => by simp at hj⟩⟩, ?_⟩
  intro k hk
  have hlk : ((l.take k).filter (grpP g)).length ≤ k := by
    refine Nat.le_trans (List.length_filter_le _ _) ?_
    simp
    omega
  refine .inl ⟨fun hc => ?_, fun hc => ?_⟩
  · have hc := dlt hc
    have ek : (k : Int).toNat = k := Int.toNat_natCast k
    have w : IntKind.i64.wrap ((k : Int) + 1) = ((k + 1 : Nat) : Int) := wr (by omega) (by omega)
    have hfl := filter_takeA dE (grpP g) l k (by omega)
    have han := any_takeD dE l (fun e => roleP e g p) k (by omega)
    have hrn : rightsN 0 (evs l) g p (k + 1) = if roleP (l.getD k dE) g p = true then (l.getD k dE).n else rightsN 0 (evs l) g p k := rfl
    have hsn := snocE ((l.take k).filter (grpP g)) (l.getD (k : Int).toNat dE)
    have hro : ∀ e : Ev, ((e.group == g && e.kind == 9) && e.who == p) = roleP e g p := fun e => by unfold roleP; rw [Bool.and_comm (e.group == g)]
    repeat refine Or.inl ?_
    refine ⟨⟨by omega, by omega⟩, ⟨fun h2 => ?_, fun h2 => ?_⟩⟩
    · have h2 : grpP g (l.getD (k : Int).toNat dE) = true := h2
      rw [ek] at h2
      rw [if_pos h2] at hfl
      have row : AOEq (.row 36 12 ((l.take (k + 1)).filter (grpP g)).length (rowsE ((l.take (k + 1)).filter (grpP g)))) (.row 36 12 (((l.take k).filter (grpP g)).length + 1) (catG ((l.take k).filter (grpP g)).length (rowsE ((l.take k).filter (grpP g))) (rowOf 12 (l.getD (k : Int).toNat dE).av))) := by
        rw [hfl]
        rw [ek] at hsn ⊢
        exact ⟨rfl, rfl, by simp, hsn⟩
      refine ⟨⟨by omega, by omega⟩, fits (by omega), ?_⟩
      repeat refine Or.inl ?_
      refine ⟨⟨by omega, by omega⟩, fun _ => ⟨by omega, by omega⟩, fun _ => ⟨by omega, by omega⟩, ⟨fun h3 => ⟨⟨by omega, by omega⟩, ?_⟩, fun h3 => ?_⟩⟩
      · have h3 : (((l.getD (k : Int).toNat dE).group == g && (l.getD (k : Int).toNat dE).kind == 9) && (l.getD (k : Int).toNat dE).who == p) = true := h3
        rw [hro, ek] at h3
        refine ⟨k + 1, [(0, 2)], by dsimp only; omega, by dsimp only; omega, rfl, rfl, rfl, rfl, rfl, ⟨⟨rfl, w⟩, rfl, ?_, ⟨rfl, ?_⟩⟩, row⟩
        · show true = _
          rw [han, h3, Bool.or_true]
        · show (l.getD (k : Int).toNat dE).n = _
          rw [hrn, if_pos h3, ek]
      · have h3 : (((l.getD (k : Int).toNat dE).group == g && (l.getD (k : Int).toNat dE).kind == 9) && (l.getD (k : Int).toNat dE).who == p) = false := h3
        rw [hro, ek] at h3
        refine ⟨k + 1, [(0, 2)], by dsimp only; omega, by dsimp only; omega, rfl, rfl, rfl, rfl, rfl, ⟨⟨rfl, w⟩, rfl, ?_, ⟨rfl, ?_⟩⟩, row⟩
        · show (l.take k).any _ = _
          rw [han, h3, Bool.or_false]
        · show rightsN 0 (evs l) g p k = _
          rw [hrn, if_neg (by rw [h3]; decide)]
    · have h2 : grpP g (l.getD (k : Int).toNat dE) = false := h2
      rw [ek] at h2
      rw [if_neg (by rw [h2]; decide)] at hfl
      have row : AOEq (.row 36 12 ((l.take (k + 1)).filter (grpP g)).length (rowsE ((l.take (k + 1)).filter (grpP g)))) (.row 36 12 ((l.take k).filter (grpP g)).length (rowsE ((l.take k).filter (grpP g)))) := by
        rw [hfl]
        exact AOEq.refl _
      repeat refine Or.inl ?_
      refine ⟨⟨by omega, by omega⟩, fun _ => ⟨by omega, by omega⟩, fun _ => ⟨by omega, by omega⟩, ⟨fun h3 => ⟨⟨by omega, by omega⟩, ?_⟩, fun h3 => ?_⟩⟩
      · have h3 : (((l.getD (k : Int).toNat dE).group == g && (l.getD (k : Int).toNat dE).kind == 9) && (l.getD (k : Int).toNat dE).who == p) = true := h3
        rw [hro, ek] at h3
        refine ⟨k + 1, [], by dsimp only; omega, by dsimp only; omega, rfl, rfl, rfl, rfl, rfl, ⟨⟨rfl, w⟩, rfl, ?_, ⟨rfl, ?_⟩⟩, row⟩
        · show true = _
          rw [han, h3, Bool.or_true]
        · show (l.getD (k : Int).toNat dE).n = _
          rw [hrn, if_pos h3, ek]
      · have h3 : (((l.getD (k : Int).toNat dE).group == g && (l.getD (k : Int).toNat dE).kind == 9) && (l.getD (k : Int).toNat dE).who == p) = false := h3
        rw [hro, ek] at h3
        refine ⟨k + 1, [], by dsimp only; omega, by dsimp only; omega, rfl, rfl, rfl, rfl, rfl, ⟨⟨rfl, w⟩, rfl, ?_, ⟨rfl, ?_⟩⟩, row⟩
        · show (l.take k).any _ = _
          rw [han, h3, Bool.or_false]
        · show rightsN 0 (evs l) g p k = _
          rw [hrn, if_neg (by rw [h3]; decide)]
  · have hc := dnlt hc
    have hk2 : l.take k = l := List.take_of_length_le (by omega)
    have hin := fun a => own_in l a g l.length (Nat.le_refl _)
    have hri := fun b => own_rights b l g p l.length (Nat.le_refl _)
    have hrl := fun b => role_last l g p b l.length (Nat.le_refl _)
    have hrn := fun b => role_none l g p b l.length (Nat.le_refl _)
    obtain rfl : k = l.length := by omega
    rw [hk2] at hin hri hrl hrn hlk ⊢
    have hOw : ∀ x ∈ l.filter (grpP g), (Lit.int .i64 x.who).wf = true := fun x hx => hwf x (List.mem_filter.1 hx).1
    refine .inl ⟨[(14, 41, 3)], Nat, fun k => k ≤ gl.length, fun k => [⟨16, [], .i .i64 k⟩, ⟨14, [], .so 1⟩, ⟨15, [], .i .i64 (bitsG (gl.take k) g p)⟩],
      fun k => [⟨1, [], .row 41 3 ((gl.take k).filter (graP g p)).length (rowsG ((gl.take k).filter (graP g p)))⟩], fun k => gl.length - k,
      ⟨0, [], Nat.zero_le _, rfl, rfl, rfl, rfl, rfl, ⟨⟨rfl, rfl⟩, rfl, ⟨rfl, rfl⟩⟩, ⟨rfl, rfl, rfl, fun j hj => by simp at hj⟩⟩, ?_⟩
    intro q hq
    have hlq : ((gl.take q).filter (graP g p)).length ≤ q := by
      refine Nat.le_trans (List.length_filter_le _ _) ?_
      simp
      omega
    refine .inl ⟨fun hc => ?_, fun hc => ?_⟩
    · have hc := dlt hc
      have eq : (q : Int).toNat = q := Int.toNat_natCast q
      have w : IntKind.i64.wrap ((q : Int) + 1) = ((q + 1 : Nat) : Int) := wr (by omega) (by omega)
      have hfl := filter_takeA dG (graP g p) gl q (by omega)
      have hs := bitsG_succ gl g p q (by omega)
      have hsn := snocGr ((gl.take q).filter (graP g p)) (gl.getD (q : Int).toNat dG)
      repeat refine Or.inl ?_
      refine ⟨⟨by omega, by omega⟩, fun _ => ⟨by omega, by omega⟩, ⟨fun h2 => ?_, fun h2 => ?_⟩⟩
      · have h2 : graP g p (gl.getD (q : Int).toNat dG) = true := h2
        rw [eq] at h2
        rw [if_pos h2] at hfl
        have h3 : ((gl.getD q dG).grp == g && (gl.getD q dG).per == p) = true := h2
        rw [if_pos h3] at hs
        refine ⟨⟨by omega, by omega⟩, fits (by omega), ⟨by omega, by omega⟩, ?_⟩
        refine ⟨q + 1, [(1, 3)], by dsimp only; omega, by dsimp only; omega, rfl, rfl, rfl, rfl, rfl, ⟨⟨rfl, w⟩, rfl, ⟨rfl, ?_⟩⟩, ?_⟩
        · show bitsI .or .i64 (bitsG (gl.take q) g p) (gl.getD (q : Int).toNat dG).rig = _
          rw [hs, eq]
        · have row : AOEq (.row 41 3 ((gl.take (q + 1)).filter (graP g p)).length (rowsG ((gl.take (q + 1)).filter (graP g p)))) (.row 41 3 (((gl.take q).filter (graP g p)).length + 1) (catG ((gl.take q).filter (graP g p)).length (rowsG ((gl.take q).filter (graP g p))) (rowOf 3 (gl.getD (q : Int).toNat dG).av))) := by
            rw [hfl]
            rw [eq] at hsn ⊢
            exact ⟨rfl, rfl, by simp, hsn⟩
          exact row
      · have h2 : graP g p (gl.getD (q : Int).toNat dG) = false := h2
        rw [eq] at h2
        rw [if_neg (by rw [h2]; decide)] at hfl
        have h3 : ((gl.getD q dG).grp == g && (gl.getD q dG).per == p) = false := h2
        rw [if_neg (by rw [h3]; decide)] at hs
        refine ⟨q + 1, [], by dsimp only; omega, by dsimp only; omega, rfl, rfl, rfl, rfl, rfl, ⟨⟨rfl, w⟩, rfl, ⟨rfl, ?_⟩⟩, ?_⟩
        · show bitsG (gl.take q) g p = _
          rw [hs]
        · have row : AOEq (.row 41 3 ((gl.take (q + 1)).filter (graP g p)).length (rowsG ((gl.take (q + 1)).filter (graP g p)))) (.row 41 3 ((gl.take q).filter (graP g p)).length (rowsG ((gl.take q).filter (graP g p)))) := by
            rw [hfl]
            exact AOEq.refl _
          exact row
    · have hc := dnlt hc
      obtain rfl : q = gl.length := by omega
      have hq2 : gl.take gl.length = gl := List.take_of_length_le (Nat.le_refl _)
      rw [hq2] at hlq ⊢
      have hb := bits_filter gl g p
      have n1 : RightsG gl l g p l.length = rightsN (bitsG gl g p) (evs l) g p l.length := by unfold RightsG; rw [cut_all]
      have n2 : RightsG (gl.filter (graP g p)) (l.filter (grpP g)) g p (l.filter (grpP g)).length = rightsN (bitsG gl g p) (evs l) g p l.length := by unfold RightsG; rw [cut_all, hb, hri]
      have m1 : Memb (evs (l.filter (grpP g))) g (l.filter (grpP g)).length = Memb (evs l) g l.length := ascExt (Memb_asc _ _ _) (Memb_asc _ _ _) fun a => by rw [mem_Memb, mem_Memb, hin]
      have c1 := Rights_fn gl (by omega) l (by omega) g p l.length
      have c2 := Rights_fn (gl.filter (graP g p)) (by omega) (l.filter (grpP g)) (by omega) g p (l.filter (grpP g)).length
      have c3 := Members_fn l (by omega) hwf g l.length
      have c4 := Members_fn (l.filter (grpP g)) (by omega) hOw g (l.filter (grpP g)).length
      rw [n1] at c1
      rw [n2] at c2
      rw [cut_all] at c3
      rw [cut_all, m1] at c4
      have hml := Memb_len (evs l) g l.length
      have c5 : Ctr Try.prog 27 [.val (.slice none 0 0), .rs 12 l.length (rowsE l), .i .i64 g, .i .i64 p, .i .i64 l.length] [] (.i .i64 (rightsN 0 (evs l) g p l.length)) := by
        have h := Rights_fn [] (by decide) l (by omega) g p l.length
        have e : RightsG [] l g p l.length = rightsN 0 (evs l) g p l.length := by unfold RightsG; rw [cut_all]; rfl
        rw [e] at h
        exact Ctr.of_w (args := [.rs 3 0 (rowsG []), .rs 12 l.length (rowsE l), .i .i64 g, .i .i64 p, .i .i64 l.length]) ⟨AVW.nil _ _, AVW.refl _, AVW.refl _, AVW.refl _, AVW.refl _, trivial⟩ h
      have c6 : Ctr Try.prog 27 [.rs 3 gl.length (rowsG gl), .val (.slice none 0 0), .i .i64 g, .i .i64 p, .i .i64 0] [] (.i .i64 (bitsG gl g p)) :=
        Ctr.of_w (args := [.rs 3 gl.length (rowsG gl), .rs 12 0 (rowsE []), .i .i64 g, .i .i64 p, .i .i64 0]) ⟨AVW.refl _, AVW.nil _ _, AVW.refl _, AVW.refl _, AVW.refl _, trivial⟩ (Rights_fn gl (by omega) [] (by decide) g p 0)
      refine .inl ⟨[], _, c1, ?_⟩
      repeat refine Or.inl ?_
      refine ⟨[], _, c2, ?_⟩
      refine .inl ⟨_, _, fun _ => c3, .inl ⟨_, _, fun _ => c4, .inl ⟨[], _, fun _ => intsG_fn _ _ (by omega) (by omega), ⟨fun h2 => ?_, fun _ => ?_⟩⟩⟩⟩
      · exfalso
        have h2 : ((rightsN (bitsG gl g p) (evs l) g p l.length != rightsN (bitsG gl g p) (evs l) g p l.length) || !decide (Memb (evs l) g l.length = Memb (evs l) g l.length)) = true := h2
        simp at h2
      repeat refine Or.inl ?_
      refine ⟨fun h2 => ?_, fun h2 => ?_⟩
      · have h2 : l.any (fun e => roleP e g p) = true := h2
        refine .inl ⟨[], _, fun _ => c5, ?_⟩
        refine RetIs.b ?_
        show (true && (rightsN (bitsG gl g p) (evs l) g p l.length == rightsN 0 (evs l) g p l.length) && (rightsN 0 (evs l) g p l.length == rightsN 0 (evs l) g p l.length)) = true
        rw [hrl _ h2]
        simp
      · have h2 : l.any (fun e => roleP e g p) = false := h2
        refine .inl ⟨[], _, fun _ => c6, ?_⟩
        refine RetIs.b ?_
        show (true && (rightsN (bitsG gl g p) (evs l) g p l.length == bitsG gl g p) && (bitsG gl g p == bitsG gl g p)) = true
        rw [hrn _ h2]
        simp
end Go.Proofs.Ytklmfkejgjhneaa
