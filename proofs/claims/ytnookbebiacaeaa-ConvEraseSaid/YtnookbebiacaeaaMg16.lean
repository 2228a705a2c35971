/-
  Several texts in one: Cvg, Cvh, Cvk.
-/
import Derived.Test.YtnookbebiacaeaaMg15

section
/-
  Conversations: a message that is erased, and one that was bare from the beginning (plain law of Erase).
-/
namespace Go.Proofs.Ytnookbebiacaeaa
open Go.Eng

theorem fields_bare (e : Ev) : fieldsE (bareE e) = fieldsE e := by
  unfold bareE
  split <;> rfl
theorem right_bare {e : Ev} (hr : rightE e = true) : rightE (bareE e) = true := by
  have hb := (right_rt hr).bare.sp
  have hf := fields_bare e
  unfold rightE at hr ⊢
  simp only [Bool.and_eq_true, decide_eq_true_eq] at hr ⊢
  refine ⟨?_, ⟨⟨⟨⟨?_, ?_⟩, ?_⟩, ?_⟩, ?_⟩, hb⟩
  · rw [bareE_cs]; exact hr.1
  · have : whoB (bareE e) = whoB e := by unfold bareE; split <;> rfl
    rw [this]; exact hr.2.1.1.1.1.1
  · rw [bareE_cs]; exact hr.2.1.1.1.1.2
  · rw [hf]; exact hr.2.1.1.1.2
  · unfold bareE
    split
    · show ((noB.size : Nat) : Int) ≤ 4000
      decide
    · exact hr.2.1.1.2
  · unfold bareE
    split
    · rfl
    · exact hr.2.1.2
theorem bareE_g (e : Ev) : (bareE e).g = e.g := by unfold bareE; split <;> rfl
theorem bareE_q (e : Ev) : (bareE e).q = e.q := by unfold bareE; split <;> rfl
theorem bareE_s (e : Ev) : (bareE e).s = e.s := by unfold bareE; split <;> rfl
theorem getD_mapI {β : Type} (f : Ev → β) (E : List Ev) (j : Nat) : f (E.getD j dE) = (E.map f).getD j (f dE) := by
  by_cases h : j < E.length
  · rw [gdI h, gdI (by rw [List.length_map]; exact h), List.getElem_map]
  · have h1 : E.length ≤ j := by omega
    simp [List.getD, h1]
theorem delB_congr {E F : List Ev} (h : F.map (fun e => (e.k, e.t)) = E.map (fun e => (e.k, e.t))) (t : Int) : delB F t = delB E t := by
  have key : ∀ G : List Ev, delB G t = (G.map fun e => (e.k, e.t)).any fun p => (p.1 == 2) && (p.2 == t) := fun G => by
    unfold delB
    rw [List.any_map]
    rfl
  rw [key, key, h]
/-- Two conversations that are the same but for what erasing takes away do the same with an event. -/
theorem add_sim {E F : List Ev} {z z' : Ev} (hb : F.map bareE = E.map bareE) (hz : bareE z' = bareE z) (hr : rightE z' = rightE z) :
    (addC F z').2 = (addC E z).2 ∧ (((addC E z).1 = E ∧ (addC F z').1 = F) ∨ ((addC E z) = (E ++ [z], ((E.length : Int), 0)) ∧ (addC F z').1 = F ++ [z'])) := by
  have mp : ∀ {β : Type} (f : Ev → β), (∀ e, f (bareE e) = f e) → F.map f = E.map f := fun {β} f hf => by
    have h1 : ∀ G : List Ev, G.map f = (G.map bareE).map f := fun G => by
      rw [List.map_map]
      exact List.map_congr_left fun e _ => (hf e).symm
    rw [h1, h1 E, hb]
  have mz : ∀ {β : Type} (f : Ev → β), (∀ e, f (bareE e) = f e) → f z' = f z := fun {β} f hf => by rw [← hf z', ← hf z, hz]
  have hl : F.length = E.length := by have := congrArg List.length hb; rwa [List.length_map, List.length_map] at this
  have ha := mz Ev.a bareE_a
  have hs := mz Ev.s bareE_s
  have ht := mz Ev.t bareE_t
  have hq := mz Ev.q bareE_q
  have hg := mz Ev.g bareE_g
  have hc := mz Ev.cs bareE_cs
  have hids : ∀ a, idsOf F a = idsOf E a := idsOf_congr (mp Ev.a bareE_a)
  have hdel : ∀ t, delB F t = delB E t := delB_congr (mp (fun e => (e.k, e.t)) fun e => by rw [bareE_k, bareE_t])
  have hmiss : missE F z' = missE E z := by unfold missE; rw [ht, hq, hc, hl]
  have hk : ∀ j, (F.getD j dE).k = (E.getD j dE).k := fun j => by rw [getD_mapI Ev.k, getD_mapI Ev.k E, mp Ev.k bareE_k]
  have hgg : ∀ j, (F.getD j dE).g = (E.getD j dE).g := fun j => by rw [getD_mapI Ev.g, getD_mapI Ev.g E, mp Ev.g bareE_g]
  have hbad : ∀ x, badM F z' x = badM E z x := fun x => by unfold badM; rw [hk, hgg, hg]
  have hal : ∀ j, alikeE (F.getD j dE) z' = alikeE (E.getD j dE) z := fun j => by
    unfold alikeE
    rw [hz, getD_mapI bareE, getD_mapI bareE E, hb]
  unfold addC
  rw [hr]
  by_cases h1 : rightE z = false
  · rw [if_pos h1, if_pos h1]; exact ⟨rfl, .inl ⟨rfl, rfl⟩⟩
  rw [if_neg h1, if_neg h1, hs, ha, hids]
  by_cases h2 : z.s < (idsOf E z.a).length
  · rw [if_pos h2, if_pos h2, hal]
    split
    · exact ⟨rfl, .inl ⟨rfl, rfl⟩⟩
    · exact ⟨rfl, .inl ⟨rfl, rfl⟩⟩
  rw [if_neg h2, if_neg h2, hmiss]
  by_cases h3 : (decide (z.s > (idsOf E z.a).length) || missE E z) = true
  · rw [if_pos h3, if_pos h3]; exact ⟨rfl, .inl ⟨rfl, rfl⟩⟩
  rw [if_neg h3, if_neg h3, ht, hq, hbad, hbad]
  by_cases h4 : (badM E z z.t || badM E z z.q) = true
  · rw [if_pos h4, if_pos h4]; exact ⟨rfl, .inl ⟨rfl, rfl⟩⟩
  rw [if_neg h4, if_neg h4, hdel, hdel]
  by_cases h5 : (delB E z.t || delB E z.q) = true
  · rw [if_pos h5, if_pos h5]; exact ⟨rfl, .inl ⟨rfl, rfl⟩⟩
  rw [if_neg h5, if_neg h5, hl]
  by_cases h6 : E.length ≥ 100000
  · rw [if_pos h6, if_pos h6]; exact ⟨rfl, .inl ⟨rfl, rfl⟩⟩
  rw [if_neg h6, if_neg h6]
  exact ⟨rfl, .inr ⟨rfl, rfl⟩⟩
theorem eraseTo_bare (E : List Ev) (i : Int) (k : Nat) : (eraseTo E i k).map bareE = E.map bareE := eraseTo_map bareE bare_bare E i k
theorem eraseTo_snoc (E : List Ev) (z : Ev) (i : Int) : eraseTo (E ++ [z]) i (E ++ [z]).length = eraseTo E i E.length ++ [if goesB i E.length z = true then bareE z else z] := by
  refine List.ext_getElem (by simp [eraseTo]) fun j h1 h2 => ?_
  have hj : j < (E ++ [z]).length := by rw [eraseTo_len] at h1; exact h1
  rw [← gdI (d := dE) h1, ← gdI (d := dE) h2, eraseTo_getD _ _ _ _ hj, getD_snoc, getD_snoc, eraseTo_len, decide_eq_true hj, Bool.true_and]
  rw [List.length_append, List.length_singleton] at hj
  by_cases h : j < E.length
  · rw [if_pos h, if_pos h, eraseTo_getD _ _ _ _ h, decide_eq_true h, Bool.true_and]
  · have h3 : j = E.length := by omega
    subst h3
    rw [if_neg h, if_pos rfl, if_neg h, if_pos rfl]
/-- Is the event z the message that goes, or an edit of it? -/
def ownB (g : Ev) (id : Int) (z : Ev) : Bool := (((z.a == g.a) && (z.s == g.s)) || ((z.k == 1) && (z.t == id)))
/-- The event that the other conversation gets instead of the i-th one. -/
def inst (l : List Ev) (id : Int) (cut i : Nat) (z : Ev) : Ev :=
  if (((decide ((i : Int) < cut) && ((eraseC (cvTo l cut) id).2 == 0)) && (((((getC (cvTo l cut) id).2 && (z.a == (getC (cvTo l cut) id).1.a)) && (z.s == (getC (cvTo l cut) id).1.s)) || ((z.k == 1) && (z.t == id))))) && rightE z) = true then bareE z else z
def othL (l : List Ev) (id : Int) (cut : Nat) : List Ev := l.mapIdx fun i z => inst l id cut i z
theorem oth_len (l : List Ev) (id : Int) (cut : Nat) : (othL l id cut).length = l.length := by simp [othL]
theorem oth_getD (l : List Ev) (id : Int) (cut : Nat) {i : Nat} (hi : i < l.length) : (othL l id cut).getD i dE = inst l id cut i (l.getD i dE) := by
  rw [gdI (by rw [oth_len]; exact hi), gdI hi]
  simp [othL]
theorem oth_snoc (l : List Ev) (id : Int) (cut : Nat) {i : Nat} (hi : i < l.length) : cvTo (othL l id cut) (i + 1) = (addC (cvTo (othL l id cut) i) (inst l id cut i (l.getD i dE))).1 := by
  rw [cvTo_snoc (by rw [oth_len]; exact hi), oth_getD l id cut hi]
theorem inst_late {l : List Ev} {id : Int} {cut i : Nat} (h : cut ≤ i) (z : Ev) : inst l id cut i z = z := by
  unfold inst
  rw [if_neg (by rw [decide_eq_false (by omega : ¬ (i : Int) < cut)]; simp)]
theorem cvTo_pre (l : List Ev) {i k : Nat} (h : i ≤ k) : cvTo l i <+: cvTo l k := by
  induction k with
  | zero => have : i = 0 := by omega
            subst this; exact List.prefix_refl _
  | succ k ih =>
    by_cases e : i = k + 1
    · subst e; exact List.prefix_refl _
    · refine (ih (by omega)).trans ?_
      by_cases hk : k < l.length
      · rw [cvTo_snoc hk]
        rcases addC_shape (E := cvTo l k) (e := l.getD k dE) with h' | ⟨h', _⟩
        · rw [h']; exact List.prefix_refl _
        · rw [h']; exact List.prefix_append _ _
      · have : cvTo l (k + 1) = cvTo l k := by unfold cvTo; rw [List.take_of_length_le (by omega), List.take_of_length_le (by omega)]
        rw [this]; exact List.prefix_refl _
theorem pre_getD {E F : List Ev} (h : E <+: F) {j : Nat} (hj : j < E.length) : F.getD j dE = E.getD j dE := by
  obtain ⟨R, rfl⟩ := h
  rw [gdI hj, gdI (by rw [List.length_append]; omega), List.getElem_append_left hj]
theorem erase_st (E : List Ev) (id : Int) : ((eraseC E id).2 = 0 ↔ (zP E id = false ∧ (E.getD id.toNat dE).k = 0)) ∧ ((eraseC E id).2 ≠ 0 → (eraseC E id).1 = E) ∧ ((eraseC E id).2 = 0 → (eraseC E id).1 = eraseTo E id E.length) := by
  unfold eraseC
  split
  · rename_i h
    rw [Bool.or_eq_true, bne_iff_ne] at h
    refine ⟨⟨fun h => (by cases h), fun ⟨h1, h2⟩ => ?_⟩, fun _ => rfl, fun h => (by cases h)⟩
    rcases h with h | h
    · rw [h1] at h; cases h
    · exact absurd h2 h
  · rename_i h
    have h := Bool.eq_false_iff.2 h
    rw [Bool.or_eq_false_iff] at h
    exact ⟨⟨fun _ => ⟨h.1, by have := h.2; rw [bne_eq_false_iff_eq] at this; exact this⟩, fun _ => rfl⟩, fun h => absurd rfl h, fun _ => rfl⟩
/-- Two events of one author have different numbers. -/
theorem wf_uni {E : List Ev} (hw : Wf E) {i j : Nat} (hi : i < E.length) (hj : j < E.length) (ha : (E.getD i dE).a = (E.getD j dE).a) (hs : (E.getD i dE).s = (E.getD j dE).s) : i = j := by
  have key : ∀ i j, i < j → j < E.length → (E.getD i dE).a = (E.getD j dE).a → (E.getD i dE).s < (E.getD j dE).s := by
    intro i j hij hj ha
    have h1 := (hw i (by omega)).s
    have h2 := (hw j hj).s
    rw [h1, h2, ← ha]
    have h3 := idsOf_pre (E.take j) (E.getD i dE).a (i + 1)
    rw [List.take_take, Nat.min_eq_left (by omega), List.take_succ_eq_append_getElem (show i < E.length by omega), ← gdI (d := dE) (show i < E.length by omega), idsOf_snoc, if_pos rfl] at h3
    have := h3.length_le
    rw [List.length_append, List.length_singleton] at this
    omega
  rcases Nat.lt_trichotomy i j with h | h | h
  · have := key i j h hj ha; omega
  · exact h
  · have := key j i h hi ha.symm; omega
theorem oth_cut (l : List Ev) (id : Int) (cut : Nat) (hcut : cut ≤ l.length) : ∀ i, i ≤ cut →
    cvTo (othL l id cut) i = if (eraseC (cvTo l cut) id).2 = 0 then eraseTo (cvTo l i) id (cvTo l i).length else cvTo l i := by
  intro i
  induction i with
  | zero => intro _; split <;> rfl
  | succ i ih =>
    intro hi
    have hil : i < l.length := by omega
    rw [oth_snoc l id cut hil, ih (by omega), cvTo_snoc hil]
    by_cases h0 : (eraseC (cvTo l cut) id).2 = 0
    · rw [if_pos h0, if_pos h0]
      obtain ⟨hz, hk⟩ := (erase_st (cvTo l cut) id).1.1 h0
      have hg := get_of hz
      unfold inst
      rw [h0, hg]
      by_cases hr : rightE (l.getD i dE) = true
      · have hb : ∀ b : Bool, bareE (if b = true then bareE (l.getD i dE) else l.getD i dE) = bareE (l.getD i dE) := fun b => by
          split
          · exact bare_bare _
          · rfl
        have hr2 : ∀ b : Bool, rightE (if b = true then bareE (l.getD i dE) else l.getD i dE) = rightE (l.getD i dE) := fun b => by
          split
          · rw [right_bare hr, hr]
          · rfl
        obtain ⟨_, h3⟩ := add_sim (eraseTo_bare (cvTo l i) id (cvTo l i).length) (hb _) (hr2 _)
        rcases h3 with ⟨h3, h4⟩ | ⟨h3, h4⟩
        · rw [h4, h3]
        · rw [h4, h3]
          show _ = eraseTo (cvTo l i ++ [l.getD i dE]) id (cvTo l i ++ [l.getD i dE]).length
          rw [eraseTo_snoc]
          rw [decide_eq_true (by omega : (i : Int) < cut), hr, Bool.and_true]
          have hcond : ((true && ((0 : Int) == 0)) && ((((true && ((l.getD i dE).a == ((cvTo l cut).getD id.toNat dE).a)) && ((l.getD i dE).s == ((cvTo l cut).getD id.toNat dE).s)) || (((l.getD i dE).k == 1) && ((l.getD i dE).t == id))))) = goesB id (cvTo l i).length (l.getD i dE) := by
            have hcond2 : (true && ((l.getD i dE).a == ((cvTo l cut).getD id.toNat dE).a) && ((l.getD i dE).s == ((cvTo l cut).getD id.toNat dE).s)) = (((cvTo l i).length : Int) == id) := by
              rw [Bool.true_and]
              have hpre := cvTo_pre l (show i + 1 ≤ cut by omega)
              rw [cvTo_snoc hil, h3] at hpre
              have hlen : (cvTo l i).length < (cvTo l cut).length := by
                have := hpre.length_le
                rw [List.length_append, List.length_singleton] at this
                omega
              have hat : (cvTo l cut).getD (cvTo l i).length dE = l.getD i dE := by
                rw [pre_getD hpre (by rw [List.length_append, List.length_singleton]; omega), getD_snoc, if_neg (Nat.lt_irrefl _), if_pos rfl]
              unfold zP at hz
              rw [Bool.or_eq_false_iff, decide_eq_false_iff_not, decide_eq_false_iff_not] at hz
              rw [Bool.eq_iff_iff, Bool.and_eq_true, beq_iff_eq, beq_iff_eq, beq_iff_eq, ← hat]
              constructor
              · rintro ⟨h5, h6⟩
                have := wf_uni (cvTo_cok l cut).wf hlen (show id.toNat < _ by omega) h5 h6
                omega
              · intro h5
                have : id.toNat = (cvTo l i).length := by omega
                rw [this]
                exact ⟨rfl, rfl⟩
            unfold goesB
            rw [hcond2]
            rfl
          rw [hcond]
      · have hr : rightE (l.getD i dE) = false := Bool.eq_false_iff.2 hr
        rw [hr, Bool.and_false, if_neg (by decide)]
        have h1 : addC (eraseTo (cvTo l i) id (cvTo l i).length) (l.getD i dE) = (eraseTo (cvTo l i) id (cvTo l i).length, (0, 2)) := by unfold addC; rw [if_pos hr]
        have h2 : addC (cvTo l i) (l.getD i dE) = (cvTo l i, (0, 2)) := by unfold addC; rw [if_pos hr]
        rw [h1, h2]
    · rw [if_neg h0, if_neg h0]
      unfold inst
      have : ((eraseC (cvTo l cut) id).2 == 0) = false := by rw [beq_eq_false_iff_ne]; exact h0
      rw [this, Bool.and_false, Bool.false_and, Bool.false_and, if_neg (by decide)]
/-- At the cut both conversations are the same. -/
theorem oth_same (l : List Ev) (id : Int) (cut : Nat) (hcut : cut ≤ l.length) : cvTo (othL l id cut) cut = (eraseC (cvTo l cut) id).1 := by
  rw [oth_cut l id cut hcut cut (Nat.le_refl _)]
  split
  · rename_i h; exact ((erase_st _ _).2.2 h).symm
  · rename_i h; exact ((erase_st _ _).2.1 h).symm
end Go.Proofs.Ytnookbebiacaeaa
end

section
/-
  Conversations: what an event knows (plain law of Past).
-/
namespace Go.Proofs.Ytnookbebiacaeaa
open Go.Eng

end Go.Proofs.Ytnookbebiacaeaa
end

section
/-
  Conversations: the law Erase.
-/
namespace Go.Proofs.Ytnookbebiacaeaa
open Go.Eng

def cutN (l : List Ev) (x : Int) : Nat := (min (max x 0) (l.length : Int)).toNat
theorem cutN_eq (l : List Ev) (x : Int) : (cutN l x : Int) = min (max x 0) (l.length : Int) ∧ cutN l x ≤ l.length := by
  unfold cutN
  omega
theorem erase_get (E : List Ev) (id : Int) : ((eraseC E id).2 == 0) = ((getC E id).2 && ((getC E id).1.k == 0)) := by
  have h := (erase_st E id).1
  by_cases h0 : (eraseC E id).2 = 0
  · obtain ⟨hz, hk⟩ := h.1 h0
    rw [get_of hz, h0]
    show true = (true && _)
    rw [Bool.true_and, eq_comm, beq_iff_eq]
    exact hk
  · have e1 : ((eraseC E id).2 == 0) = false := by rw [beq_eq_false_iff_ne]; exact h0
    rw [e1, eq_comm]
    cases hz : zP E id
    · rw [get_of hz]
      show (true && _) = false
      rw [Bool.true_and, beq_eq_false_iff_ne]
      exact fun hk => h0 (h.2 ⟨hz, hk⟩)
    · unfold getC
      rw [hz]
      rfl
/-- Where the first conversation stands when the other has got i events. -/
def fst16 (l : List Ev) (id : Int) (cut i : Nat) : List Ev := cvTo (othL l id cut) (max i cut)
theorem fst16_early {l : List Ev} {id : Int} {cut i : Nat} (h : i ≤ cut) : fst16 l id cut i = cvTo (othL l id cut) cut := by
  unfold fst16
  rw [Nat.max_eq_right h]
theorem fst16_late {l : List Ev} {id : Int} {cut i : Nat} (h : cut ≤ i) : fst16 l id cut i = cvTo (othL l id cut) i := by
  unfold fst16
  rw [Nat.max_eq_left h]
theorem inst_cs (l : List Ev) (id : Int) (cut i : Nat) (z : Ev) : (inst l id cut i z).cs = z.cs ∧ (inst l id cut i z).fs.length ≤ z.fs.length := by
  unfold inst
  split
  · exact ⟨bareE_cs z, bareE_fs z⟩
  · exact ⟨rfl, Nat.le_refl _⟩
set_option maxRecDepth 20000 in
set_option maxHeartbeats 64000000 in
theorem convErase_fn (l : List Ev) (hl : l.length < 2^63) (id x2 : Int) : Ctr Try.prog 16 [.rs 12 l.length (rE l), .i .i64 id, .i .i64 x2] [] (.b true) := by
  refine fn_of_exec tabOk Try.func16 (by kernel_rfl) rfl (N := Try.f16.ntmps) rfl (res := [.tmp 6]) rfl rfl [] ?_
  repeat refine Or.inl ?_
  refine ⟨[], _, small71_fn, ?_⟩
  repeat refine Or.inl ?_
  refine ⟨[], _, fewAll_fn l hl 20, ?_⟩
  refine ⟨fun h => RetIs.b rfl, fun h => ?_⟩
  have h : (!fewAll l 20) = false := h
  rw [Bool.not_eq_false'] at h
  obtain ⟨hn, hfe⟩ := fewAll_of h
  have hev : ∀ k, k < l.length → (l.getD k dE).cs.length ≤ 10 ∧ (l.getD k dE).fs.length ≤ 10 ∧ (l.getD k dE).x.size ≤ 300 := fun k hk => few_ev (hfe _ (getD_memE hk))
  have aoD0 : AOEq (delO []) (delO []) := AOEq.refl _
  obtain ⟨hcut, hcl⟩ := cutN_eq l x2
  refine Or.inr (Or.inr ?_)
  refine ⟨true, [], rfl, Unit, _, _, _, _, new_fn, fun _ _ => ?_⟩
  refine Or.inr (Or.inr ?_)
  refine ⟨true, [], rfl, Unit, _, _, _, _, new_fn, fun _ _ => ?_⟩
  repeat refine Or.inl ?_
  refine ⟨fun h => (by cases h), fun _ => ?_⟩
  repeat refine Or.inl ?_
  refine ⟨[], Nat, fun j => j ≤ cutN l x2, fun j => [⟨11, [], .i .i64 j⟩],
    fun j => [⟨0, [], .cells 182 [.so 1, .mo 2, .mo 4]⟩, ⟨1, [], rowO (cvTo l j)⟩, ⟨2, [], ownO (cvTo l j) 3⟩, ⟨3, [], .dead⟩, ⟨4, [], delO (cvTo l j)⟩], fun j => l.length - j,
    ⟨0, [], Nat.zero_le _, rfl, rfl, rfl, rfl, rfl, ⟨rfl, rfl⟩, ⟨AOEq.refl _, AOEq.refl _, AOEq.own _ _, AOEq.refl _, aoD0⟩⟩, ?_⟩
  intro j hj
  have hj : j ≤ cutN l x2 := hj
  have hF := cvTo_cok l j
  refine .inl ⟨fun hc => ?_, fun hc => ?_⟩
  · have hc : decide ((j : Int) < min (max x2 0) (l.length : Int)) = true := hc
    rw [decide_eq_true_eq, ← hcut] at hc
    have ej : (j : Int).toNat = j := Int.toNat_natCast j
    have he := hev (j : Int).toNat (by omega)
    repeat refine Or.inl ?_
    refine ⟨⟨by omega, by omega⟩, ?_⟩
    refine Or.inr (Or.inr ?_)
    refine ⟨true, [0, 1, 2, 3, 4], rfl, Unit, _, _, _, _, add_fn (cvTo l j) hF.ok (l.getD (j : Int).toNat dE) (by omega) (by omega), fun _ _ => ?_⟩
    have hsn : cvTo l (j + 1) = (addC (cvTo l j) (l.getD (j : Int).toNat dE)).1 := by rw [ej]; exact cvTo_snoc (by omega)
    have aoR : AOEq (rowO (cvTo l (j + 1))) (rowO (addC (cvTo l j) (l.getD (j : Int).toNat dE)).1) := by rw [hsn]; exact AOEq.refl _
    have aoO : AOEq (ownO (cvTo l (j + 1)) 11) (ownO (addC (cvTo l j) (l.getD (j : Int).toNat dE)).1 11) := by rw [hsn]; exact AOEq.own _ _
    have aoD : AOEq (delO (cvTo l (j + 1))) (delO (addC (cvTo l j) (l.getD (j : Int).toNat dE)).1) := by rw [hsn]; exact AOEq.refl _
    refine ⟨j + 1, [(1, 10), (3, 11)], (by show j + 1 ≤ cutN l x2; omega), by dsimp only; omega, rfl, rfl, rfl, rfl, rfl, ⟨rfl, wr (by omega) (by omega)⟩, ⟨AOEq.refl _, aoR, aoO, AOEq.refl _, aoD⟩⟩
  · have hc : decide ((j : Int) < min (max x2 0) (l.length : Int)) = false := hc
    rw [decide_eq_false_iff_not, ← hcut] at hc
    have hje : j = cutN l x2 := by omega
    subst hje
    have hE := eraseC_cok hF id
    refine Or.inr (Or.inr ?_)
    refine ⟨true, [0, 1, 2, 3, 4], rfl, Unit, _, _, _, _, get_fn (cvTo l (cutN l x2)) hF.ok id, fun _ _ => ?_⟩
    refine Or.inr (Or.inr ?_)
    refine ⟨true, [0, 1, 2, 3, 4], rfl, Unit, _, _, _, _, erase_fn (cvTo l (cutN l x2)) hF.ok id, fun _ _ => ?_⟩
    repeat refine Or.inl ?_
    refine ⟨fun h => ?_, fun _ => ?_⟩
    · exfalso
      have h : (((eraseC (cvTo l (cutN l x2)) id).2 == 0) != ((getC (cvTo l (cutN l x2)) id).2 && ((getC (cvTo l (cutN l x2)) id).1.k == 0))) = true := h
      rw [erase_get] at h
      simp at h
    have hcut2 := oth_same l id (cutN l x2) hcl
    have aoR0 : AOEq (rowO (fst16 l id (cutN l x2) 0)) (rowO (eraseC (cvTo l (cutN l x2)) id).1) := by rw [fst16_early (Nat.zero_le _), hcut2]; exact AOEq.refl _
    have aoO0 : AOEq (ownO (fst16 l id (cutN l x2) 0) 3) (ownO (eraseC (cvTo l (cutN l x2)) id).1 3) := by rw [fst16_early (Nat.zero_le _), hcut2]; exact AOEq.own _ _
    have aoE0 : AOEq (delO (fst16 l id (cutN l x2) 0)) (delO (eraseC (cvTo l (cutN l x2)) id).1) := by rw [fst16_early (Nat.zero_le _), hcut2]; exact AOEq.refl _
    repeat refine Or.inl ?_
    refine ⟨[], Nat, fun i => i ≤ l.length, fun i => [⟨15, [], .i .i64 i⟩],
      fun i => [⟨0, [], .cells 182 [.so 1, .mo 2, .mo 4]⟩, ⟨1, [], rowO (fst16 l id (cutN l x2) i)⟩, ⟨2, [], ownO (fst16 l id (cutN l x2) i) 3⟩, ⟨3, [], .dead⟩, ⟨4, [], delO (fst16 l id (cutN l x2) i)⟩,
        ⟨5, [], .cells 182 [.so 6, .mo 7, .mo 9]⟩, ⟨6, [], rowO (cvTo (othL l id (cutN l x2)) i)⟩, ⟨7, [], ownO (cvTo (othL l id (cutN l x2)) i) 8⟩, ⟨8, [], .dead⟩, ⟨9, [], delO (cvTo (othL l id (cutN l x2)) i)⟩], fun i => l.length - i,
      ⟨0, [], Nat.zero_le _, rfl, rfl, rfl, rfl, rfl, ⟨rfl, rfl⟩, ⟨AOEq.refl _, aoR0, aoO0, AOEq.refl _, aoE0, AOEq.refl _, AOEq.refl _, AOEq.own [] _, AOEq.refl _, aoD0⟩⟩, ?_⟩
    intro i hi
    have hi : i ≤ l.length := hi
    refine .inl ⟨fun hc => ?_, fun hc => ?_⟩
    · have hc := dlt hc
      have hc : (i : Int) < l.length := hc
      have ei : (i : Int).toNat = i := Int.toNat_natCast i
      have he := hev (i : Int).toNat (by omega)
      repeat refine Or.inl ?_
      refine ⟨⟨by omega, by omega⟩, ?_⟩
      have hin := inst_cs l id (cutN l x2) i (l.getD (i : Int).toNat dE)
      have hy := (cvTo_cok (othL l id (cutN l x2)) i).ok
      have hx := (cvTo_cok (othL l id (cutN l x2)) (max i (cutN l x2))).ok
      have hys : cvTo (othL l id (cutN l x2)) (i + 1) = (addC (cvTo (othL l id (cutN l x2)) i) (inst l id (cutN l x2) i (l.getD (i : Int).toNat dE))).1 := by rw [ei]; exact oth_snoc l id (cutN l x2) (by omega)
      refine Or.inr ⟨[], Unit, fun _ => True, fun _ => [], fun _ => [⟨11, [], .cells 96 (inst l id (cutN l x2) i (l.getD (i : Int).toNat dE)).av⟩], ?_, fun _ _ => ?_⟩
      · repeat refine Or.inl ?_
        refine ⟨[], _, fun _ => right_fn (l.getD (i : Int).toNat dE) (by omega) (by omega), ?_⟩
        repeat refine Or.inl ?_
        refine ⟨fun hb => ?_, fun hb => ?_⟩
        · have hb : (((decide ((i : Int) < min (max x2 0) (l.length : Int)) && ((eraseC (cvTo l (cutN l x2)) id).2 == 0)) && (((((getC (cvTo l (cutN l x2)) id).2 && ((l.getD (i : Int).toNat dE).a == (getC (cvTo l (cutN l x2)) id).1.a)) && ((l.getD (i : Int).toNat dE).s == (getC (cvTo l (cutN l x2)) id).1.s)) || (((l.getD (i : Int).toNat dE).k == 1) && ((l.getD (i : Int).toNat dE).t == id))))) && rightE (l.getD (i : Int).toNat dE)) = true := hb
          rw [← hcut] at hb
          have hie : (inst l id (cutN l x2) i (l.getD (i : Int).toNat dE)) = bareE (l.getD (i : Int).toNat dE) := by unfold inst; rw [if_pos hb]
          have aoI : AOEq (.cells 96 (inst l id (cutN l x2) i (l.getD (i : Int).toNat dE)).av) (.cells 96 (bareE (l.getD (i : Int).toNat dE)).av) := by rw [hie]; exact AOEq.refl _
          refine Or.inr (Or.inl ?_)
          refine ⟨_, bare_fn (l.getD (i : Int).toNat dE) (by omega) (by omega), ?_⟩
          exact ⟨(), [], trivial, rfl, rfl, rfl, rfl, rfl, trivial, aoI⟩
        · have hb : (((decide ((i : Int) < min (max x2 0) (l.length : Int)) && ((eraseC (cvTo l (cutN l x2)) id).2 == 0)) && (((((getC (cvTo l (cutN l x2)) id).2 && ((l.getD (i : Int).toNat dE).a == (getC (cvTo l (cutN l x2)) id).1.a)) && ((l.getD (i : Int).toNat dE).s == (getC (cvTo l (cutN l x2)) id).1.s)) || (((l.getD (i : Int).toNat dE).k == 1) && ((l.getD (i : Int).toNat dE).t == id))))) && rightE (l.getD (i : Int).toNat dE)) = false := hb
          rw [← hcut] at hb
          have hie : (inst l id (cutN l x2) i (l.getD (i : Int).toNat dE)) = l.getD (i : Int).toNat dE := by unfold inst; rw [hb, if_neg (by decide)]
          have aoI : AOEq (.cells 96 (inst l id (cutN l x2) i (l.getD (i : Int).toNat dE)).av) (.cells 96 (l.getD (i : Int).toNat dE).av) := by rw [hie]; exact AOEq.refl _
          exact ⟨(), [], trivial, rfl, rfl, rfl, rfl, rfl, trivial, aoI⟩
      · have aoYR : AOEq (rowO (cvTo (othL l id (cutN l x2)) (i + 1))) (rowO (addC (cvTo (othL l id (cutN l x2)) i) (inst l id (cutN l x2) i (l.getD (i : Int).toNat dE))).1) := by rw [hys]; exact AOEq.refl _
        have aoYO : AOEq (ownO (cvTo (othL l id (cutN l x2)) (i + 1)) 13) (ownO (addC (cvTo (othL l id (cutN l x2)) i) (inst l id (cutN l x2) i (l.getD (i : Int).toNat dE))).1 13) := by rw [hys]; exact AOEq.own _ _
        have aoYD : AOEq (delO (cvTo (othL l id (cutN l x2)) (i + 1))) (delO (addC (cvTo (othL l id (cutN l x2)) i) (inst l id (cutN l x2) i (l.getD (i : Int).toNat dE))).1) := by rw [hys]; exact AOEq.refl _
        refine Or.inr (Or.inr ?_)
        refine ⟨true, [5, 6, 7, 8, 9], rfl, Unit, _, _, _, _, add_fn (cvTo (othL l id (cutN l x2)) i) hy (inst l id (cutN l x2) i (l.getD (i : Int).toNat dE)) (by rw [hin.1]; omega) (by omega), fun _ _ => ?_⟩
        repeat refine Or.inl ?_
        refine ⟨fun hlt => ?_, fun hge => ?_⟩
        · have hlt : decide ((i : Int) < min (max x2 0) (l.length : Int)) = true := hlt
          rw [decide_eq_true_eq, ← hcut] at hlt
          have hxs : fst16 l id (cutN l x2) (i + 1) = fst16 l id (cutN l x2) i := by rw [fst16_early (by omega), fst16_early (by omega)]
          have aoXR : AOEq (rowO (fst16 l id (cutN l x2) (i + 1))) (rowO (fst16 l id (cutN l x2) i)) := by rw [hxs]; exact AOEq.refl _
          have aoXO : AOEq (ownO (fst16 l id (cutN l x2) (i + 1)) 3) (ownO (fst16 l id (cutN l x2) i) 3) := by rw [hxs]; exact AOEq.own _ _
          have aoXD : AOEq (delO (fst16 l id (cutN l x2) (i + 1))) (delO (fst16 l id (cutN l x2) i)) := by rw [hxs]; exact AOEq.refl _
          refine ⟨i + 1, [(6, 12), (8, 13)], (by show i + 1 ≤ l.length; omega), by dsimp only; omega, rfl, rfl, rfl, rfl, rfl, ⟨rfl, wr (by omega) (by omega)⟩, ⟨AOEq.refl _, aoXR, aoXO, AOEq.refl _, aoXD, AOEq.refl _, aoYR, aoYO, AOEq.refl _, aoYD⟩⟩
        · have hge : decide ((i : Int) < min (max x2 0) (l.length : Int)) = false := hge
          rw [decide_eq_false_iff_not, ← hcut] at hge
          have hxy : fst16 l id (cutN l x2) i = cvTo (othL l id (cutN l x2)) i := fst16_late (by omega)
          have hie : (inst l id (cutN l x2) i (l.getD (i : Int).toNat dE)) = l.getD (i : Int).toNat dE := inst_late (by omega) _
          have hab : (addC (fst16 l id (cutN l x2) i) (l.getD (i : Int).toNat dE)) = (addC (cvTo (othL l id (cutN l x2)) i) (inst l id (cutN l x2) i (l.getD (i : Int).toNat dE))) := by rw [hxy, hie]
          have hxs : fst16 l id (cutN l x2) (i + 1) = (addC (fst16 l id (cutN l x2) i) (l.getD (i : Int).toNat dE)).1 := by rw [fst16_late (by omega), hys, hab]
          have aoXR : AOEq (rowO (fst16 l id (cutN l x2) (i + 1))) (rowO (addC (fst16 l id (cutN l x2) i) (l.getD (i : Int).toNat dE)).1) := by rw [hxs]; exact AOEq.refl _
          have aoXO : AOEq (ownO (fst16 l id (cutN l x2) (i + 1)) 15) (ownO (addC (fst16 l id (cutN l x2) i) (l.getD (i : Int).toNat dE)).1 15) := by rw [hxs]; exact AOEq.own _ _
          have aoXD : AOEq (delO (fst16 l id (cutN l x2) (i + 1))) (delO (addC (fst16 l id (cutN l x2) i) (l.getD (i : Int).toNat dE)).1) := by rw [hxs]; exact AOEq.refl _
          repeat refine Or.inl ?_
          refine ⟨⟨by omega, by omega⟩, ?_⟩
          refine Or.inr (Or.inr ?_)
          refine ⟨true, [0, 1, 2, 3, 4], rfl, Unit, _, _, _, _, add_fn (fst16 l id (cutN l x2) i) hx (l.getD (i : Int).toNat dE) (by omega) (by omega), fun _ _ => ?_⟩
          repeat refine Or.inl ?_
          refine ⟨fun hn => ?_, fun _ => ?_⟩
          · exfalso
            have hn : (((addC (fst16 l id (cutN l x2) i) (l.getD (i : Int).toNat dE)).2.1 != (addC (cvTo (othL l id (cutN l x2)) i) (inst l id (cutN l x2) i (l.getD (i : Int).toNat dE))).2.1) || ((addC (cvTo (othL l id (cutN l x2)) i) (inst l id (cutN l x2) i (l.getD (i : Int).toNat dE))).2.2 != (addC (fst16 l id (cutN l x2) i) (l.getD (i : Int).toNat dE)).2.2)) = true := hn
            rw [hab] at hn
            simp at hn
          refine ⟨i + 1, [(6, 12), (8, 13), (1, 14), (3, 15)], (by show i + 1 ≤ l.length; omega), by dsimp only; omega, rfl, rfl, rfl, rfl, rfl, ⟨rfl, wr (by omega) (by omega)⟩, ⟨AOEq.refl _, aoXR, aoXO, AOEq.refl _, aoXD, AOEq.refl _, aoYR, aoYO, AOEq.refl _, aoYD⟩⟩
    · have hc := dnlt hc
      have hie : i = l.length := by
        have hc : (l.length : Int) ≤ i := hc
        omega
      have hxy : fst16 l id (cutN l x2) i = cvTo (othL l id (cutN l x2)) i := fst16_late (by omega)
      have hCx := cvTo_cok (othL l id (cutN l x2)) (max i (cutN l x2))
      have hCx : Cok (fst16 l id (cutN l x2) i) := hCx
      have hCy := cvTo_cok (othL l id (cutN l x2)) i
      have hlx := hCx.ok.1
      have hly := hCy.ok.1
      repeat refine Or.inl ?_
      refine ⟨[], _, len_fn (fst16 l id (cutN l x2) i), ?_⟩
      repeat refine Or.inl ?_
      refine ⟨[], _, len_fn (cvTo (othL l id (cutN l x2)) i), ?_⟩
      have hll : (cvTo (othL l id (cutN l x2)) i).length = (fst16 l id (cutN l x2) i).length := by rw [hxy]
      have hkx := okE_L hCx.ok
      have hky := okE_L hCy.ok
      refine Or.inr (Or.inl ⟨⟨⟨rfl, by rw [hll]; simp⟩, trivial⟩, ?_⟩)
      refine Or.inr (Or.inr ?_)
      refine ⟨true, [0, 1, 2, 3, 4], rfl, Unit, _, _, _, _, all_fn (fst16 l id (cutN l x2) i) hCx.ok, fun _ _ => ?_⟩
      refine Or.inr (Or.inl ⟨⟨⟨rfl, by rw [hll]; simp⟩, trivial⟩, ?_⟩)
      refine Or.inr (Or.inr ?_)
      refine ⟨true, [5, 6, 7, 8, 9], rfl, Unit, _, _, _, _, all_fn (cvTo (othL l id (cutN l x2)) i) hCy.ok, fun _ _ => ?_⟩
      repeat refine Or.inl ?_
      refine ⟨[], _, fun _ => same80_fn (fst16 l id (cutN l x2) i) (cvTo (othL l id (cutN l x2)) i) (by omega) (by omega) hkx hky, ?_⟩
      repeat refine Or.inl ?_
      refine ⟨fun hn => ?_, fun _ => ?_⟩
      · exfalso
        have hn : ((((cvTo (othL l id (cutN l x2)) i).length : Int) != ((fst16 l id (cutN l x2) i).length : Int)) || !decide (fst16 l id (cutN l x2) i = cvTo (othL l id (cutN l x2)) i)) = true := hn
        rw [hll, decide_eq_true hxy] at hn
        simp at hn
      repeat refine Or.inl ?_
      refine ⟨[], Nat, fun k => k ≤ (fst16 l id (cutN l x2) i).length, fun k => [⟨23, [], .i .i64 k⟩], fun _ => [], fun k => (fst16 l id (cutN l x2) i).length - k,
        ⟨0, [], Nat.zero_le _, rfl, rfl, rfl, rfl, rfl, ⟨rfl, rfl⟩, trivial⟩, ?_⟩
      intro k hk
      have hk : k ≤ (fst16 l id (cutN l x2) i).length := hk
      refine .inl ⟨fun hc3 => ?_, fun _ => RetIs.b rfl⟩
      have hc3 := dlt hc3
      have hc3 : (k : Int) < (fst16 l id (cutN l x2) i).length := hc3
      have hp1 := past_len hCx (k : Int)
      have hp2 := past_len hCy (k : Int)
      repeat refine Or.inl ?_
      refine ⟨_, _, past_fn (fst16 l id (cutN l x2) i) hCx (k : Int), ?_⟩
      repeat refine Or.inl ?_
      refine ⟨_, _, past_fn (cvTo (othL l id (cutN l x2)) i) hCy (k : Int), ?_⟩
      repeat refine Or.inl ?_
      refine ⟨[], _, ints82_fn (pastL (fst16 l id (cutN l x2) i) k) (pastL (cvTo (othL l id (cutN l x2)) i) k) (by omega) (by omega), ?_⟩
      repeat refine Or.inl ?_
      refine ⟨fun hn => ?_, fun _ => ?_⟩
      · exfalso
        have hn : (!decide (pastL (fst16 l id (cutN l x2) i) k = pastL (cvTo (othL l id (cutN l x2)) i) k)) = true := hn
        rw [hxy, decide_eq_true rfl] at hn
        cases hn
      exact ⟨k + 1, [], (by show k + 1 ≤ (fst16 l id (cutN l x2) i).length; omega), by dsimp only; omega, rfl, rfl, rfl, rfl, rfl, ⟨rfl, wr (by omega) (by omega)⟩, trivial⟩
end Go.Proofs.Ytnookbebiacaeaa
end
