/-
  Several texts in one: Cvd, Cve, Cvf, Cvm, Cvo.
-/
import Derived.Test.YtnookbebiacaeaaMg15

section
/-
  Conversations: an event that is there stays there, and is told its number again (the law Again, in plain words).
-/
namespace Go.Proofs.Ytnookbebiacaeaa
open Go.Eng

theorem bare_bare (e : Ev) : bareE (bareE e) = bareE e := by
  unfold bareE
  by_cases h : e.k = 0 ∨ e.k = 1
  · rw [if_pos h, if_pos h]
  · rw [if_neg h, if_neg h]
theorem bare_text {e : Ev} (h : e.k = 0 ∨ e.k = 1) (x : ByteArray) : bareE { e with x := x } = bareE e := by
  unfold bareE
  rw [if_pos h, if_pos (show ({ e with x := x } : Ev).k = 0 ∨ ({ e with x := x } : Ev).k = 1 from h)]
theorem right_text {e : Ev} (hr : rightE e = true) (h : e.k = 0 ∨ e.k = 1) {x : ByteArray} (hx : x.size ≤ 4000) : rightE { e with x := x } = true := by
  have hsp := (right_rt hr).sp
  have hs2 : ({ e with x := x } : Ev) = spareE { e with x := x } := by
    rcases h with h | h
    · rw [spare0 h] at hsp
      rw [spare0 (e := { e with x := x }) h]
      have : e.n = 0 := by rw [hsp]
      rw [Ev.mk.injEq]
      exact ⟨rfl, rfl, rfl, rfl, rfl, rfl, rfl, rfl, this, rfl, rfl, rfl⟩
    · rw [spare1 h] at hsp
      rw [spare1 (e := { e with x := x }) h]
      have h1 : e.q = -1 := by rw [hsp]
      have h2 : e.w = -1 := by rw [hsp]
      have h3 : e.n = 0 := by rw [hsp]
      rw [Ev.mk.injEq]
      exact ⟨rfl, rfl, rfl, rfl, rfl, rfl, h1, h2, h3, rfl, rfl, rfl⟩
  unfold rightE at hr ⊢
  simp only [Bool.and_eq_true, decide_eq_true_eq] at hr ⊢
  exact ⟨hr.1, ⟨⟨⟨⟨hr.2.1.1.1.1.1, hr.2.1.1.1.1.2⟩, hr.2.1.1.1.2⟩, by show ((x.size : Nat) : Int) ≤ 4000; omega⟩, hr.2.1.2⟩, hs2⟩
/-- The event is there, at id. -/
structure AgI (E : List Ev) (e : Ev) (id : Int) : Prop where
  right : rightE e = true
  lt : e.s < (idsOf E e.a).length
  at' : (idsOf E e.a).getD e.s.toNat 0 = id
  alike : alikeE (E.getD id.toNat dE) e = true
theorem AgI.add {E : List Ev} {e : Ev} {id : Int} (h : AgI E e id) : addC E e = (E, (id, 0)) := by
  unfold addC
  rw [if_neg (by rw [h.right]; decide), if_pos h.lt, h.at', if_neg (by rw [h.alike]; decide)]
theorem AgI.rng {E : List Ev} {e : Ev} {id : Int} (h : AgI E e id) : 0 ≤ id ∧ id < E.length := by
  have := (right_rt h.right).s
  have hlt := h.lt
  rw [← h.at']
  exact idsOf_lt (getD_memI (by omega))
theorem alike_refl (e : Ev) : alikeE e e = true := decide_eq_true rfl
theorem AgI.of_add {E : List Ev} {e : Ev} (h : (addC E e).2.2 = 0) : AgI (addC E e).1 e (addC E e).2.1 := by
  revert h
  unfold addC
  by_cases c1 : rightE e = false
  · rw [if_pos c1]; intro h; cases h
  have hr : rightE e = true := by cases h : rightE e; exact absurd h c1; rfl
  rw [if_neg c1]
  by_cases c2 : e.s < (idsOf E e.a).length
  · rw [if_pos c2]
    by_cases c : alikeE (E.getD ((idsOf E e.a).getD e.s.toNat 0).toNat dE) e = false
    · rw [if_pos c]; intro h; cases h
    · rw [if_neg c]
      intro _
      exact ⟨hr, c2, rfl, by cases h : alikeE (E.getD ((idsOf E e.a).getD e.s.toNat 0).toNat dE) e; exact absurd h c; rfl⟩
  rw [if_neg c2]
  by_cases c3 : (decide (e.s > (idsOf E e.a).length) || missE E e) = true
  · rw [if_pos c3]; intro h; cases h
  rw [if_neg c3]
  by_cases c4 : (badM E e e.t || badM E e e.q) = true
  · rw [if_pos c4]; intro h; cases h
  rw [if_neg c4]
  by_cases c5 : (delB E e.t || delB E e.q) = true
  · rw [if_pos c5]; intro h; cases h
  rw [if_neg c5]
  by_cases c6 : E.length ≥ 100000
  · rw [if_pos c6]; intro h; cases h
  rw [if_neg c6]
  intro _
  have c3 := Bool.eq_false_iff.2 c3
  rw [Bool.or_eq_false_iff, decide_eq_false_iff_not] at c3
  have hs := (right_rt hr).s
  have hi : idsOf (E ++ [e]) e.a = idsOf E e.a ++ [(E.length : Int)] := by rw [idsOf_snoc, if_pos rfl]
  refine ⟨hr, ?_, ?_, ?_⟩
  · show e.s < ((idsOf (E ++ [e]) e.a).length : Int)
    rw [hi, List.length_append, List.length_singleton]
    omega
  · show (idsOf (E ++ [e]) e.a).getD e.s.toNat 0 = E.length
    rw [hi, getD_snoc, if_neg (by omega), if_pos (by omega)]
  · show alikeE ((E ++ [e]).getD ((E.length : Int)).toNat dE) e = true
    rw [Int.toNat_natCast, getD_snoc, if_neg (Nat.lt_irrefl _), if_pos rfl]
    exact alike_refl e
theorem AgI.snoc {E : List Ev} {e : Ev} {id : Int} (h : AgI E e id) (e' : Ev) : AgI (E ++ [e']) e id := by
  have hrg := h.rng
  have hs := (right_rt h.right).s
  have hlt := h.lt
  have hi := idsOf_snoc E e' e.a
  refine ⟨h.right, ?_, ?_, ?_⟩
  · rw [hi]
    split
    · rw [List.length_append]; omega
    · exact h.lt
  · rw [hi]
    split
    · rw [getD_snoc, if_pos (by omega)]; exact h.at'
    · exact h.at'
  · rw [getD_snoc, if_pos (by omega)]
    exact h.alike
theorem AgI.added {E : List Ev} {e : Ev} {id : Int} (h : AgI E e id) (e' : Ev) : AgI (addC E e').1 e id := by
  rcases addC_shape (E := E) (e := e') with h' | ⟨h', _⟩
  · rw [h']; exact h
  · rw [h']; exact h.snoc e'
theorem AgI.erased {E : List Ev} {e : Ev} {id : Int} (h : AgI E e id) (i : Int) : AgI (eraseC E i).1 e id := by
  unfold eraseC
  split
  · exact h
  · have hi : idsOf (eraseTo E i E.length) e.a = idsOf E e.a := idsOf_congr (eraseTo_map Ev.a bareE_a E i _) _
    have hrg := h.rng
    refine ⟨h.right, by rw [hi]; exact h.lt, by rw [hi]; exact h.at', ?_⟩
    show alikeE ((eraseTo E i E.length).getD id.toNat dE) e = true
    rw [eraseTo_getD E i E.length id.toNat (by omega)]
    split
    · have := h.alike
      unfold alikeE at this ⊢
      rw [bare_bare]
      exact this
    · exact h.alike
theorem AgI.text {E : List Ev} {e : Ev} {id : Int} (h : AgI E e id) (hk : e.k = 0 ∨ e.k = 1) {x : ByteArray} (hx : x.size ≤ 4000) : AgI E { e with x := x } id := by
  refine ⟨right_text h.right hk hx, h.lt, h.at', ?_⟩
  have := h.alike
  unfold alikeE at this ⊢
  rw [bare_text hk]
  exact this
/-- The conversation after the first k events, and what each was told. -/
def cvTo (l : List Ev) (k : Nat) : List Ev := (l.take k).foldl (fun F e => (addC F e).1) []
theorem cvTo_snoc {l : List Ev} {k : Nat} (h : k < l.length) : cvTo l (k + 1) = (addC (cvTo l k) (l.getD k dE)).1 := by
  unfold cvTo
  rw [List.take_succ_eq_append_getElem h, ← gdI (d := dE) h, List.foldl_append]
  rfl
theorem cvTo_cok (l : List Ev) (k : Nat) : Cok (cvTo l k) := fold_cok _ [] cok_nil
theorem cvTo_le (l : List Ev) : ∀ k, (cvTo l k).length ≤ k := by
  intro k
  induction k with
  | zero => exact Nat.le_refl _
  | succ k ih =>
    by_cases hk : k < l.length
    · rw [cvTo_snoc hk]
      rcases addC_shape (E := cvTo l k) (e := l.getD k dE) with h | ⟨h, _⟩
      · rw [h]; omega
      · rw [h, List.length_append, List.length_singleton]; omega
    · have : cvTo l (k + 1) = cvTo l k := by unfold cvTo; rw [List.take_of_length_le (by omega), List.take_of_length_le (by omega)]
      rw [this]
      omega
end Go.Proofs.Ytnookbebiacaeaa
end

section
/-
  Conversations: the law Again.
-/
namespace Go.Proofs.Ytnookbebiacaeaa
open Go.Eng

theorem few_ev {e : Ev} (h : fewE e = true) : e.cs.length ≤ 10 ∧ e.fs.length ≤ 10 ∧ e.x.size ≤ 300 := by
  unfold fewE at h
  simp only [Bool.and_eq_true, decide_eq_true_eq] at h
  omega
theorem okE_L {E : List Ev} (h : okE E) : okL E := fun e he => by
  have := (h.2 e he).cs.1
  have := (h.2 e he).fs
  omega
end Go.Proofs.Ytnookbebiacaeaa
end

section
/-
  Conversations: what is there is opened again; what an adding says (plain laws of Opens and Refuses).
-/
namespace Go.Proofs.Ytnookbebiacaeaa
open Go.Eng

/-- Each event is taken by those before it. -/
def Live (E : List Ev) : Prop := ∀ j, j < E.length → addC (E.take j) (E.getD j dE) = (E.take (j + 1), ((j : Int), 0))
theorem live_nil : Live [] := fun j hj => absurd hj (Nat.not_lt_zero j)
theorem live_snoc {E : List Ev} {e : Ev} (h : Live E) (ha : addC E e = (E ++ [e], ((E.length : Int), 0))) : Live (E ++ [e]) := by
  intro j hj
  rw [List.length_append, List.length_singleton] at hj
  by_cases e1 : j < E.length
  · rw [List.take_append_of_le_length (by omega), List.take_append_of_le_length (by omega), getD_snoc, if_pos e1]
    exact h j e1
  · have e2 : j = E.length := by omega
    subst e2
    rw [List.take_left, getD_snoc, if_neg (Nat.lt_irrefl _), if_pos rfl, List.take_of_length_le (by simp)]
    exact ha
theorem addC_live {E : List Ev} (h : Live E) (e : Ev) : Live (addC E e).1 := by
  rcases addC_shape (E := E) (e := e) with h' | ⟨h', _⟩
  · rw [h']; exact h
  · rw [h']; exact live_snoc h h'
theorem cvTo_live (l : List Ev) (k : Nat) : Live (cvTo l k) := by
  induction k with
  | zero => exact live_nil
  | succ k ih =>
    by_cases hk : k < l.length
    · rw [cvTo_snoc hk]; exact addC_live ih _
    · have : cvTo l (k + 1) = cvTo l k := by unfold cvTo; rw [List.take_of_length_le (by omega), List.take_of_length_le (by omega)]
      rw [this]; exact ih
theorem live_copy {E : List Ev} (h : Live E) : copyC E = E := by
  have key : ∀ k, k ≤ E.length → copyC (E.take k) = E.take k := by
    intro k
    induction k with
    | zero => intro _; rfl
    | succ k ih => intro hk; rw [copy_snoc E k (by omega), ih (by omega), h k (by omega)]
  have := key E.length (Nat.le_refl _)
  rwa [List.take_length] at this
theorem live_open {E : List Ev} (h : Live E) (R : List Ev) : openS (E ++ R) = openSt E R := by
  have key : ∀ j, j ≤ E.length → openSt (E.take j) (E.drop j ++ R) = openS (E ++ R) := by
    intro j
    induction j with
    | zero => intro _; rw [List.take_zero, List.drop_zero]; rfl
    | succ j ih =>
      intro hj
      rw [← ih (by omega), List.drop_eq_getElem_cons (show j < E.length by omega), ← gdI (d := dE) (show j < E.length by omega), List.cons_append]
      conv => rhs; unfold openSt
      have hl : (E.take j).length = j := by rw [List.length_take]; omega
      rw [h j (by omega), hl, if_neg (by simp), if_neg (by simp), List.take_succ_eq_append_getElem (show j < E.length by omega), ← gdI (d := dE) (show j < E.length by omega)]
  have := key E.length (Nat.le_refl _)
  rw [List.take_length, List.drop_length, List.nil_append] at this
  exact this.symm
theorem live_opens {E : List Ev} (h : Live E) : openS E = 0 := by
  have := live_open h []
  rw [List.append_nil] at this
  rw [this]
  rfl
theorem live_ag {E : List Ev} (h : Live E) {k : Nat} (hk : k < E.length) : AgI E (E.getD k dE) k := by
  have key : ∀ j, k + 1 ≤ j → j ≤ E.length → AgI (E.take j) (E.getD k dE) k := by
    intro j
    induction j with
    | zero => intro h; omega
    | succ j ih =>
      intro h1 h2
      by_cases e : j = k
      · subst e
        have h3 := h j hk
        have := AgI.of_add (E := E.take j) (e := E.getD j dE) (by rw [h3])
        rw [h3] at this
        exact this
      · rw [List.take_succ_eq_append_getElem (show j < E.length by omega)]
        exact (ih (by omega) (by omega)).snoc _
  have := key E.length (by omega) (Nat.le_refl _)
  rwa [List.take_length] at this
theorem live_twice {E : List Ev} (h : Live E) {k : Nat} (hk : k < E.length) : openS (E ++ [E.getD k dE]) = 5 := by
  rw [live_open h]
  unfold openSt
  rw [(live_ag h hk).add, if_neg (by simp), if_pos (by show (k : Int) ≠ E.length; omega)]
end Go.Proofs.Ytnookbebiacaeaa
end

section
/-
  Conversations: what is opened, of which only the events' number is kept (a plain contract, for regions that draw their order).
-/
namespace Go.Proofs.Ytnookbebiacaeaa
open Go.Eng

def uU (_ : Nat) : List AV := [.u, .u, .u, .u, .u, .u, .u, .u, .u, .u, .u, .u]
theorem open_ctr (l : List Ev) (hl : l.length < 2^62) (hk : okL l) (h0 : openS l = 0) :
    Ctr Try.prog 87 [.rs 12 l.length (rE l)] [.cells 182 [.so 1, .u, .u], .row 96 12 l.length uU] (.tup [.p 0 0, .i .i64 0]) := by
  have hC := open_fn l hl hk
  refine ⟨hC.1, fun w vs hlen hr => ?_⟩
  refine (hC.2 (fun _ => False) w ⟨fun _ => 0, fun _ => Go.undef⟩ vs (fun g ⟨j, o, hj, _⟩ => by simp at hj) (fun _ h => h.elim) (fun h => by cases h) (fun j o hj => by simp at hj) (fun j j' o o' g hj => by simp at hj) hlen
    (fun j h1 h2 => .pure _ _ (hr j h1 h2))).mono ?_
  rintro e w' ⟨v, β, y, rfl, hy, g⟩
  rw [(open_yes h0).1, (open_yes h0).2] at g
  obtain ⟨vs0, hh0, hl0, hc0⟩ := g.obj 0 _ rfl
  obtain ⟨xs, hx, hlen1, hc1⟩ := g.obj 1 _ rfl
  have hs1 := (hc0 0 (by decide) (by rw [← hl0]; decide)).1.so_inv
  have hown0 : w.heap.size ≤ β.blk 0 := by
    rcases g.own (β.blk 0) ⟨0, _, rfl, rfl⟩ with ⟨j, o, hj, _⟩ | h
    · simp at hj
    · exact h
  have hown1 : ∀ b, blkOf (β.val 1) = some b → w.heap.size ≤ b := fun b hb => by
    rcases g.own b ⟨1, _, rfl, hb⟩ with ⟨j, o, hj, _⟩ | h
    · simp at hj
    · exact h
  have hd : ∀ b, b = β.blk 0 → blkOf (β.val 1) = some b → False := fun b h1 h2 => by
    have := g.dist 0 1 _ _ b rfl rfl h1.symm h2
    cases this
  refine ⟨v, β, rfl, g.fr.below (fun k ⟨j, o, hj, _⟩ => by simp at hj), ⟨fun j o hj => ?_, fun j o b hj hb => ?_, fun j j' o o' b hj hj' hb hb' => ?_⟩, ?_⟩
  · match j, hj with
    | 0, hj =>
      cases hj
      refine ⟨vs0, hh0, hl0, fun j h1 h2 => ⟨?_, (hc0 j h1 h2).2⟩⟩
      match j, h1 with
      | 0, _ =>
        have h1 := (hc0 0 (by decide) (by rw [← hl0]; decide)).2
        show Rep β 2 _ w' (.so 1) vs0[0]
        rw [hs1.2] at h1 ⊢
        exact .so 1 (by decide) h1
      | 1, _ => exact .pure _ _ (.u _)
      | 2, _ => exact .pure _ _ (.u _)
    | 1, hj =>
      cases hj
      refine ⟨xs, hx, fun _ _ => rfl, fun k j hk h1 h2 => ?_⟩
      have hu : ∀ a ∈ uU k, a = .u := by simp [uU]
      rw [hu _ (List.getElem_mem h1)]
      exact ⟨.u _, (hc1 k j hk (by rw [hlen1 k hk]; exact h1) h2).2⟩
    | j + 2, hj => simp at hj
  · match j, hj with
    | 0, hj =>
      cases hj
      have hb : β.blk 0 = b := hb
      rw [← hb]
      exact hown0
    | 1, hj =>
      cases hj
      exact hown1 b hb
    | j + 2, hj => simp at hj
  · match j, j', hj, hj' with
    | 0, 0, _, _ => rfl
    | 1, 1, _, _ => rfl
    | 0, 1, hj, hj' =>
      cases hj
      cases hj'
      have hb : β.blk 0 = b := hb
      exact (hd b hb.symm hb').elim
    | 1, 0, hj, hj' =>
      cases hj
      cases hj'
      have hb' : β.blk 0 = b := hb'
      exact (hd b hb'.symm hb).elim
    | j + 2, _, hj, _ => simp at hj
    | _, j' + 2, _, hj' => simp at hj'
  · obtain ⟨us, rfl, hul, hu⟩ := g.res.tup_inv
    refine .tup _ us hul fun j h1 h2 => ?_
    match j, h1 with
    | 0, _ =>
      have := (hu 0 (by show 0 < 2; omega) h2).p_inv
      rw [this.2]
      exact .p 0 0 (by show 0 < 2; omega)
    | 1, _ =>
      have := (hu 1 (by show 1 < 2; omega) h2).i_inv
      rw [this]
      exact .pure _ _ (.i _ _)
theorem open_ctr_no (l : List Ev) (hl : l.length < 2^62) (hk : okL l) {st : Int} (hs : openS l = st) (h0 : st ≠ 0) :
    Ctr Try.prog 87 [.rs 12 l.length (rE l)] [] (.tup [.val (.pointer none), .i .i64 st]) := by
  have hC := open_fn l hl hk
  refine ⟨hC.1, fun w vs hlen hr => ?_⟩
  refine (hC.2 (fun _ => False) w ⟨fun _ => 0, fun _ => Go.undef⟩ vs (fun g ⟨j, o, hj, _⟩ => by simp at hj) (fun _ h => h.elim) (fun h => by cases h) (fun j o hj => by simp at hj) (fun j j' o o' g hj => by simp at hj) hlen
    (fun j h1 h2 => .pure _ _ (hr j h1 h2))).mono ?_
  rintro e w' ⟨v, β, y, rfl, hy, g⟩
  rw [(open_no hs h0).1, (open_no hs h0).2] at g
  refine ⟨v, β, rfl, g.fr.below (fun k ⟨j, o, hj, _⟩ => by simp at hj), ⟨fun j o hj => by simp at hj, fun j o b hj hb => by simp at hj, fun j j' o o' b hj hj' hb hb' => by simp at hj⟩, ?_⟩
  obtain ⟨us, rfl, hul, hu⟩ := g.res.tup_inv
  refine .tup _ us hul fun j h1 h2 => ?_
  match j, h1 with
  | 0, _ =>
    have := (hu 0 (by show 0 < 2; omega) h2).val_inv
    rw [this]
    exact .pure _ _ (.val _)
  | 1, _ =>
    have := (hu 1 (by show 1 < 2; omega) h2).i_inv
    rw [this]
    exact .pure _ _ (.i _ _)
/-- The length alone. -/
theorem len_fnU (n : Nat) (get : Nat → List AV) (x y : AV) : Ctr Try.prog 79 [.rp [.rs 12 n get, x, y]] [] (.i .i64 n) := by
  refine fn_of_exec tabOk Try.func79 (by kernel_rfl) rfl (N := Try.f79.ntmps) rfl (res := [.tmp 2]) rfl rfl [] ?_
  exact RetIs.i rfl
/-- What is there is opened again. -/
theorem open_yes_fn (l : List Ev) (hl : l.length < 2^62) (hk : okL l) (h0 : openS l = 0) :
    CtrM Try.prog 87 true [] [.rs 12 l.length (rE l)] (fun _ : Unit => True) (fun _ => []) (fun _ => [.cells 182 [.so 1, .mo 2, .mo 4], rowO l, ownO l 3, .dead, delO l]) (fun _ => .tup [.p 0 0, .i .i64 0]) := by
  have h := open_fn l hl hk
  have e1 : (fun _ : Unit => openO l) = fun _ => [.cells 182 [.so 1, .mo 2, .mo 4], rowO l, ownO l 3, .dead, delO l] := by funext _; exact (open_yes h0).1
  have e2 : (fun _ : Unit => openR l) = fun _ => .tup [.p 0 0, .i .i64 0] := by funext _; exact (open_yes h0).2
  rw [e1, e2] at h
  exact h
theorem copy_live_fn (E : List Ev) (hE : okE E) (hc : copyC E = E) : CtrM Try.prog 94 true [.cells 182 [.so 1, .mo 2, .mo 4], rowO E, ownO E 3, .dead, delO E] [.p 0 0] (fun _ : Unit => True) (fun _ => cvI E) (fun _ => [.cells 182 [.so 6, .mo 7, .mo 9], rowO E, ownO E 8, .dead, delO E]) (fun _ => .p 5 0) := by
  have h := copy_fn E hE
  rw [hc] at h
  exact h
/-- The place of the event that is left out. -/
def kO (n : Nat) (x : Int) : Int := min (max x 0) ((n : Int) - 1)
theorem kO_lt {n : Nat} (x : Int) (h : 0 < n) : 0 ≤ kO n x ∧ kO n x < n := by
  unfold kO
  omega
def lessE (E : List Ev) (k : Nat) : List Ev := E.take k ++ E.drop (k + 1)
theorem lessE_len {E : List Ev} {k : Nat} (h : k < E.length) : (lessE E k).length = E.length - 1 := by
  unfold lessE
  simp
  omega
theorem lessE_get {E : List Ev} {k : Nat} (h : k < E.length) (q : Nat) : (lessE E k).getD q dE = if q < k then E.getD q dE else E.getD (k + 1 + (q - k)) dE := by
  unfold lessE
  simp only [List.getD, List.getElem?_append, List.length_take, List.getElem?_take, List.getElem?_drop]
  rw [Nat.min_eq_left (by omega)]
  split
  · rfl
  · rfl
theorem lessE_ok {E : List Ev} (h : okL E) (k : Nat) : okL (lessE E k) := fun e he => by
  unfold lessE at he
  rcases List.mem_append.1 he with h1 | h1
  · exact h e (List.mem_of_mem_take h1)
  · exact h e (List.mem_of_mem_drop h1)
theorem snocE_ok {E : List Ev} (h : okL E) {k : Nat} (hk : k < E.length) : okL (E ++ [E.getD k dE]) := fun e he => by
  rcases List.mem_append.1 he with h1 | h1
  · exact h e h1
  · rw [List.mem_singleton.1 h1]
    exact h _ (getD_memE hk)
theorem lessE_av {E : List Ev} {K W : Int} (h0 : 0 ≤ K) (h1 : K < E.length) (hw : W = K + 1) (g0 : Nat → List AV) :
    AVsEq [.rs 12 (lessE E K.toNat).length (rE (lessE E K.toNat))] [.rs 12 (0 + (K - 0).toNat + ((E.length : Int) - W).toNat) (catG (0 + (K - 0).toNat) (catG 0 g0 fun q => rE E (Int.toNat 0 + q)) fun q => rE E (W.toNat + q))] := by
  subst hw
  have hl := lessE_len (E := E) (k := K.toNat) (by omega)
  refine ⟨rfl, by rw [hl]; omega, fun q hq => ?_⟩
  have key : catG (0 + (K - 0).toNat) (catG 0 g0 fun q => rE E (Int.toNat 0 + q)) (fun q => rE E ((K + 1).toNat + q)) q = rE (lessE E K.toNat) q := by
    unfold catG rE
    rw [lessE_get (by omega)]
    by_cases hq2 : q < K.toNat
    · rw [if_pos hq2, if_pos (by omega), if_neg (by omega)]
      congr 2
      simp
    · rw [if_neg hq2, if_neg (by omega)]
      show (E.getD ((K + 1).toNat + (q - (0 + (K - 0).toNat))) dE).av = _
      rw [show (K + 1).toNat + (q - (0 + (K - 0).toNat)) = K.toNat + 1 + (q - K.toNat) by omega]
  first
    | exact key
    | exact key.symm
theorem snocE_av (E : List Ev) (K : Int) (g0 : Nat → List AV) :
    AVsEq [.rs 12 (E ++ [E.getD K.toNat dE]).length (rE (E ++ [E.getD K.toNat dE]))] [.rs 12 (0 + E.length + 1) (catG (0 + E.length) (catG 0 g0 (rE E)) (rowOf 12 (E.getD K.toNat dE).av))] := by
  refine ⟨rfl, by simp, fun q hq => ?_⟩
  have key : catG (0 + E.length) (catG 0 g0 (rE E)) (rowOf 12 (E.getD K.toNat dE).av) q = rE (E ++ [E.getD K.toNat dE]) q := by
    have h := (snocE_row E (E.getD K.toNat dE)).2.2.2
    rw [List.length_append, List.length_singleton] at hq
    have e1 : catG (0 + E.length) (catG 0 g0 (rE E)) (rowOf 12 (E.getD K.toNat dE).av) q = catG E.length (rE E) (rowOf 12 (E.getD K.toNat dE).av) q := by
      unfold catG
      rw [Nat.zero_add]
      simp
    rw [e1]
    have h2 := h q (by first | omega | (rw [List.length_append, List.length_singleton]; omega))
    first
      | exact h2
      | exact h2.symm
  first
    | exact key
    | exact key.symm
end Go.Proofs.Ytnookbebiacaeaa
end

section
/-
  Conversations: the law Opens.
-/
namespace Go.Proofs.Ytnookbebiacaeaa
open Go.Eng

set_option maxRecDepth 20000 in
set_option maxHeartbeats 64000000 in
theorem convOpens_fn (l : List Ev) (hl : l.length < 2^63) (e : Ev) (x3 : Int) : Ctr Try.prog 21 [.rs 12 l.length (rE l), .ag e.av, .i .i64 x3] [] (.b true) := by
  refine fn_of_exec tabOk Try.func21 (by kernel_rfl) rfl (N := Try.f21.ntmps) rfl (res := [.tmp 6]) rfl rfl [(12, [.frz 10 [6]]), (23, [.sl 18 (.i .i64 (kO (cvTo l l.length).length x3))])] ?_
  repeat refine Or.inl ?_
  refine ⟨[], _, small71_fn, ?_⟩
  repeat refine Or.inl ?_
  refine ⟨[], _, fewAll_fn l hl 20, ?_⟩
  repeat refine Or.inl ?_
  refine ⟨[], _, fun _ => few_fn e, ?_⟩
  repeat refine Or.inl ?_
  refine ⟨fun h => RetIs.b rfl, fun h => ?_⟩
  have h : (!fewAll l 20 || !fewE e) = false := h
  rw [Bool.or_eq_false_iff, Bool.not_eq_false', Bool.not_eq_false'] at h
  obtain ⟨hn, hfe⟩ := fewAll_of h.1
  have hee := few_ev h.2
  have hev : ∀ k, k < l.length → (l.getD k dE).cs.length ≤ 10 ∧ (l.getD k dE).fs.length ≤ 10 ∧ (l.getD k dE).x.size ≤ 300 := fun k hk => few_ev (hfe _ (getD_memE hk))
  have aoD0 : AOEq (delO []) (delO []) := AOEq.refl _
  refine Or.inr (Or.inr ?_)
  refine ⟨true, [], rfl, Unit, _, _, _, _, new_fn, fun _ _ => ?_⟩
  repeat refine Or.inl ?_
  refine ⟨fun h => (by cases h), fun _ => ?_⟩
  repeat refine Or.inl ?_
  refine ⟨[], Nat, fun j => j ≤ l.length, fun j => [⟨9, [], .i .i64 j⟩],
    fun j => [⟨1, [], .cells 182 [.so 2, .mo 3, .mo 5]⟩, ⟨2, [], rowO (cvTo l j)⟩, ⟨3, [], ownO (cvTo l j) 4⟩, ⟨4, [], .dead⟩, ⟨5, [], delO (cvTo l j)⟩], fun j => l.length - j,
    ⟨0, [], Nat.zero_le _, rfl, rfl, rfl, rfl, rfl, ⟨rfl, rfl⟩, ⟨AOEq.refl _, AOEq.refl _, AOEq.own _ _, AOEq.refl _, aoD0⟩⟩, ?_⟩
  intro j hj
  have hj : j ≤ l.length := hj
  have hF := cvTo_cok l j
  have hFl := cvTo_le l j
  refine .inl ⟨fun hc => ?_, fun hc => ?_⟩
  · have hc := dlt hc
    have hc : (j : Int) < l.length := hc
    have ej : (j : Int).toNat = j := Int.toNat_natCast j
    have he := hev (j : Int).toNat (by omega)
    have hsn : cvTo l (j + 1) = (addC (cvTo l j) (l.getD (j : Int).toNat dE)).1 := by rw [ej]; exact cvTo_snoc (by omega)
    repeat refine Or.inl ?_
    refine ⟨⟨by omega, by omega⟩, ?_⟩
    refine Or.inr (Or.inr ?_)
    refine ⟨true, [1, 2, 3, 4, 5], rfl, Unit, _, _, _, _, add_fn (cvTo l j) hF.ok (l.getD (j : Int).toNat dE) (by omega) (by omega), fun _ _ => ?_⟩
    have aoR : AOEq (rowO (cvTo l (j + 1))) (rowO (addC (cvTo l j) (l.getD (j : Int).toNat dE)).1) := by rw [hsn]; exact AOEq.refl _
    have aoO : AOEq (ownO (cvTo l (j + 1)) 7) (ownO (addC (cvTo l j) (l.getD (j : Int).toNat dE)).1 7) := by rw [hsn]; exact AOEq.own _ _
    have aoD : AOEq (delO (cvTo l (j + 1))) (delO (addC (cvTo l j) (l.getD (j : Int).toNat dE)).1) := by rw [hsn]; exact AOEq.refl _
    refine ⟨j + 1, [(2, 6), (4, 7)], (by show j + 1 ≤ l.length; omega), by dsimp only; omega, rfl, rfl, rfl, rfl, rfl, ⟨rfl, wr (by omega) (by omega)⟩, ⟨AOEq.refl _, aoR, aoO, AOEq.refl _, aoD⟩⟩
  have hc := dnlt hc
  have hje : j = l.length := by
    have hc : (l.length : Int) ≤ j := hc
    omega
  subst hje
  have hkF := okE_L hF.ok
  have hlv := cvTo_live l l.length
  have hop := live_opens hlv
  have hF1 := addC_cok hF e
  have hk1 := okE_L hF1.ok
  have hl1 := hF1.ok.1
  have hnn : (cvTo l l.length).length ≤ 20 := by omega
  refine Or.inr (Or.inr ?_)
  refine ⟨true, [1, 2, 3, 4, 5], rfl, Unit, _, _, _, _, all_fn (cvTo l l.length) hF.ok, fun _ _ => ?_⟩
  refine Or.inr (Or.inr ?_)
  refine ⟨true, [], rfl, Unit, _, _, _, _, open_yes_fn (cvTo l l.length) (by omega) hkF hop, fun _ _ => ?_⟩
  refine Or.inr (Or.inr ?_)
  refine ⟨true, [1, 2, 3, 4, 5], rfl, Unit, _, _, _, _, copy_live_fn (cvTo l l.length) hF.ok (live_copy hlv), fun _ _ => ?_⟩
  repeat refine Or.inl ?_
  refine ⟨fun h => (by cases h), fun _ => ?_⟩
  refine Or.inr (Or.inr ?_)
  refine ⟨true, [1, 2, 3, 4, 5], rfl, Unit, _, _, _, _, add_fn (cvTo l l.length) hF.ok e (by omega) (by omega), fun _ _ => ?_⟩
  refine Or.inr (Or.inr ?_)
  refine ⟨true, [7, 8, 9, 10, 11], rfl, Unit, _, _, _, _, add_fn (cvTo l l.length) hF.ok e (by omega) (by omega), fun _ _ => ?_⟩
  refine Or.inl ?_
  refine Or.inr (Or.inl ⟨⟨⟨rfl, by simp⟩, trivial⟩, ?_⟩)
  refine Or.inr (Or.inr ?_)
  refine ⟨true, [1, 17, 3, 18, 5], rfl, Unit, _, _, _, _, all_fn (addC (cvTo l l.length) e).1 hF1.ok, fun _ _ => ?_⟩
  refine Or.inr (Or.inl ⟨⟨⟨rfl, by simp⟩, trivial⟩, ?_⟩)
  refine Or.inr (Or.inr ?_)
  refine ⟨true, [7, 19, 9, 20, 11], rfl, Unit, _, _, _, _, all_fn (addC (cvTo l l.length) e).1 hF1.ok, fun _ _ => ?_⟩
  repeat refine Or.inl ?_
  refine ⟨[], _, fun _ => same80_fn (addC (cvTo l l.length) e).1 (addC (cvTo l l.length) e).1 (by omega) (by omega) hk1 hk1, ?_⟩
  refine Or.inr (Or.inl ⟨⟨⟨rfl, by simp⟩, trivial⟩, ?_⟩)
  refine Or.inr (Or.inr ?_)
  refine ⟨true, [12, 13, 14, 15, 16], rfl, Unit, _, _, _, _, all_fn (cvTo l l.length) hF.ok, fun _ _ => ?_⟩
  repeat refine Or.inl ?_
  refine ⟨[], _, fun _ => same80_fn (cvTo l l.length) (cvTo l l.length) (by omega) (by omega) hkF hkF, ?_⟩
  repeat refine Or.inl ?_
  refine ⟨fun h1 => ?_, fun _ => ?_⟩
  · exfalso
    simp at h1
  repeat refine Or.inl ?_
  refine ⟨fun h1 => RetIs.b rfl, fun h1 => ?_⟩
  have h1 : (((cvTo l l.length).length : Int) == 0) = false := h1
  rw [beq_eq_false_iff_ne] at h1
  have hk := kO_lt (n := (cvTo l l.length).length) x3 (by omega)
  have hwk : IntKind.i64.wrap (((cvTo l l.length).length : Int) - 1) = ((cvTo l l.length).length : Int) - 1 := wr (by omega) (by omega)
  refine ⟨⟨rfl, by rw [hwk]; rfl⟩, ?_⟩
  have hwk1 : IntKind.i64.wrap (kO (cvTo l l.length).length x3 + 1) = kO (cvTo l l.length).length x3 + 1 := wr (by omega) (by omega)
  repeat refine Or.inl ?_
  refine ⟨⟨by omega, by omega, by omega⟩, ?_⟩
  refine ⟨fits (by omega), ?_⟩
  refine ⟨⟨by omega, by omega, by omega⟩, ?_⟩
  refine ⟨fits (by omega), ?_⟩
  have hll := lessE_len (E := cvTo l l.length) (k := (kO (cvTo l l.length).length x3).toNat) (by omega)
  have htw := live_twice hlv (k := (kO (cvTo l l.length).length x3).toNat) (by omega)
  have hko := lessE_ok hkF (kO (cvTo l l.length).length x3).toNat
  have hks := snocE_ok hkF (k := (kO (cvTo l l.length).length x3).toNat) (by omega)
  have hsl : ((cvTo l l.length) ++ [(cvTo l l.length).getD (kO (cvTo l l.length).length x3).toNat dE]).length < 2^62 := by rw [List.length_append, List.length_singleton]; omega
  refine Or.inl ?_
  by_cases h0 : openS (lessE (cvTo l l.length) (kO (cvTo l l.length).length x3).toNat) = 0
  · refine ⟨_, _, Ctr.of_eq (args := [.rs 12 (lessE (cvTo l l.length) (kO (cvTo l l.length).length x3).toNat).length (rE (lessE (cvTo l l.length) (kO (cvTo l l.length).length x3).toNat))]) (lessE_av hk.1 hk.2 hwk1 _) (open_ctr _ (by omega) hko h0), ?_⟩
    repeat refine Or.inl ?_
    refine ⟨fits (by omega), ?_⟩
    refine ⟨⟨by omega, by omega⟩, ?_⟩
    refine ⟨fits (by omega), ?_⟩
    refine Or.inl ?_
    refine ⟨_, _, Ctr.of_eq (args := [.rs 12 ((cvTo l l.length) ++ [(cvTo l l.length).getD (kO (cvTo l l.length).length x3).toNat dE]).length (rE ((cvTo l l.length) ++ [(cvTo l l.length).getD (kO (cvTo l l.length).length x3).toNat dE]))]) (snocE_av _ _ _) (open_ctr_no _ hsl hks htw (by decide)), ?_⟩
    repeat refine Or.inl ?_
    refine ⟨[], _, fun _ => len_fnU _ _ _ _, ?_⟩
    refine RetIs.b ?_
    have hl3 : (((lessE (cvTo l l.length) (kO (cvTo l l.length).length x3).toNat).length : Int) == IntKind.i64.wrap (((cvTo l l.length).length : Int) - 1)) = true := by
      rw [hwk, beq_iff_eq]
      omega
    rw [hl3]
    rfl
  · have h147 : (true && (true == (openS (lessE (cvTo l l.length) (kO (cvTo l l.length).length x3).toNat) != 0))) = true := by
      rw [show (openS (lessE (cvTo l l.length) (kO (cvTo l l.length).length x3).toNat) != 0) = true from by rw [bne_iff_ne]; exact h0]
      rfl
    refine ⟨_, _, Ctr.of_eq (args := [.rs 12 (lessE (cvTo l l.length) (kO (cvTo l l.length).length x3).toNat).length (rE (lessE (cvTo l l.length) (kO (cvTo l l.length).length x3).toNat))]) (lessE_av hk.1 hk.2 hwk1 _) (open_ctr_no _ (by omega) hko rfl h0), ?_⟩
    repeat refine Or.inl ?_
    refine ⟨fits (by omega), ?_⟩
    refine ⟨⟨by omega, by omega⟩, ?_⟩
    refine ⟨fits (by omega), ?_⟩
    refine Or.inl ?_
    refine ⟨_, _, Ctr.of_eq (args := [.rs 12 ((cvTo l l.length) ++ [(cvTo l l.length).getD (kO (cvTo l l.length).length x3).toNat dE]).length (rE ((cvTo l l.length) ++ [(cvTo l l.length).getD (kO (cvTo l l.length).length x3).toNat dE]))]) (snocE_av _ _ _) (open_ctr_no _ hsl hks htw (by decide)), ?_⟩
    refine Or.inr (Or.inr ⟨⟨⟨rfl, rfl⟩, ⟨⟨rfl, h147⟩, trivial⟩⟩, .i .i64 0, ?_⟩)
    refine RetIs.b ?_
    rw [h147, Bool.true_or]
    rfl
end Go.Proofs.Ytnookbebiacaeaa
end
