/-
  Holds: what lifting does.
-/
import Derived.Test.YtklmfkejgjhneaaH12
namespace Go.Proofs.Ytklmfkejgjhneaa
open Go.Eng

theorem RightH_iff (l : List Hld) : RightH l = true ↔ ∀ j, j < l.length → okH l j = true := by
  unfold RightH
  rw [List.all_eq_true]
  exact ⟨fun h j hj => h j (List.mem_range.2 hj), fun h j hj => h j (List.mem_range.1 hj)⟩
theorem okH_iff (l : List Hld) (j : Nat) (hj : j < l.length) : okH l j = true ↔ badA (l.getD j dH) = false ∧ badC (l.getD j dH) = false ∧ ∀ i, i < j → (l.getD i dH).id ≠ (l.getD j dH).id := by
  unfold okH badB
  simp only [Bool.and_eq_true, Bool.not_eq_true', Bool.or_eq_false_iff]
  have e : ((l.take j).any fun x => x.id == (l.getD j dH).id) = false ↔ ∀ i, i < j → (l.getD i dH).id ≠ (l.getD j dH).id := by
    rw [List.any_eq_false]
    constructor
    · intro h i hi he
      refine h (l.getD i dH) ?_ (by simpa using he)
      rw [List.mem_take_iff_getElem]
      exact ⟨i, by omega, by simp [List.getD, show i < l.length by omega]⟩
    · intro h x hx
      rw [List.mem_take_iff_getElem] at hx
      obtain ⟨i, hi, rfl⟩ := hx
      have := h i (by omega)
      simpa [List.getD, show i < l.length by omega] using this
  rw [e]
  constructor
  · rintro ⟨⟨h1, h2⟩, h3⟩; exact ⟨h1, h3, h2⟩
  · rintro ⟨h1, h2, h3⟩; exact ⟨⟨h1, h3⟩, h2⟩
theorem set_getD (l : List Hld) (k : Nat) (v : Hld) (hk : k < l.length) (j : Nat) : (l.set k v).getD j dH = if j = k then v else l.getD j dH := by
  by_cases h : j = k
  · subst h; simp [List.getD, hk]
  · rw [if_neg h]; simp [List.getD, Ne.symm h]
theorem set_id (l : List Hld) (k : Nat) (now : Int) (hk : k < l.length) (j : Nat) : ((l.set k ((l.getD k dH).lift now)).getD j dH).id = (l.getD j dH).id := by
  rw [set_getD l k _ hk]
  split
  · rename_i h; subst h; rfl
  · rfl
theorem Lift_err {l : List Hld} {id now : Int} (h : (Lift l id now).2 ≠ 0) : (Lift l id now).1 = l := by
  unfold Lift at *
  split
  · rfl
  · rename_i h1
    rw [if_neg h1] at h
    split
    · rfl
    · rename_i k hk
      rw [hk] at h
      dsimp only at h
      unfold liftK at *
      split
      · rfl
      · rename_i h2
        rw [if_neg h2] at h
        split
        · rfl
        · rename_i h3
          rw [if_neg h3] at h
          exact (h rfl).elim
/-- What is so where a hold was lifted. -/
theorem Lift_ok {l : List Hld} {id now : Int} (h : (Lift l id now).2 = 0) : ∃ k, k < l.length ∧ (Lift l id now).1 = l.set k ((l.getD k dH).lift now) ∧ (l.getD k dH).id = id ∧ 0 ≤ now ∧ now ≤ 1073741824 ∧ (l.getD k dH).fr ≤ now ∧
    ((l.getD k dH).to = -1 ∨ now < (l.getD k dH).to) ∧ RightH l = true ∧ l.findIdx? (fun x => x.id == id) = some k := by
  unfold Lift at *
  split at h
  · cases h
  rename_i h1
  rw [if_neg h1]
  have h1 : (!RightH l || !stepB now) = false := by simpa using h1
  simp only [Bool.or_eq_false_iff, Bool.not_eq_false'] at h1
  have hb := h1.2
  unfold stepB at hb
  simp only [Bool.and_eq_true, decide_eq_true_eq] at hb
  split at h
  · cases h
  rename_i k hk
  rw [hk]
  have hk2 := List.findIdx?_eq_some_iff_getElem.1 hk
  obtain ⟨hkl, hp, _⟩ := hk2
  have hid : (l.getD k dH).id = id := by rw [gdH hkl]; simpa using hp
  unfold liftK at *
  split at h
  · cases h
  rename_i h2
  rw [if_neg h2]
  split at h
  · cases h
  rename_i h3
  rw [if_neg h3]
  refine ⟨k, hkl, rfl, hid, hb.1, hb.2, by omega, ?_, h1.1, rfl⟩
  have h3 : ((l.getD k dH).to != -1 && decide ((l.getD k dH).to ≤ now)) = false := by simpa using h3
  by_cases he : (l.getD k dH).to = -1
  · exact .inl he
  · right
    rw [Bool.and_eq_false_iff] at h3
    rcases h3 with h3 | h3
    · rw [bne_eq_false_iff_eq] at h3; exact (he h3).elim
    · rw [decide_eq_false_iff_not] at h3; omega
theorem lift_right {l : List Hld} {now : Int} {k : Nat} (hk : k < l.length) (h0 : 0 ≤ now) (h1 : now ≤ 1073741824) (hf : (l.getD k dH).fr ≤ now) (hr : RightH l = true) : RightH (l.set k ((l.getD k dH).lift now)) = true := by
  rw [RightH_iff] at hr ⊢
  intro j hj
  rw [List.length_set] at hj
  have h2 := (okH_iff l j hj).1 (hr j hj)
  rw [okH_iff _ j (by rw [List.length_set]; exact hj)]
  refine ⟨?_, ?_, fun i hi => by rw [set_id l k now hk, set_id l k now hk]; exact h2.2.2 i hi⟩
  · rw [set_getD l k _ hk]
    split
    · rename_i e; subst e; exact h2.1
    · exact h2.1
  · rw [set_getD l k _ hk]
    split
    · rename_i e
      subst e
      unfold badC Hld.lift
      dsimp only
      rw [decide_eq_false (by omega), decide_eq_true h0, decide_eq_true h1]
      simp
    · exact h2.2.1
theorem lift_again {l : List Hld} {id now : Int} {k : Nat} (hk : k < l.length) (h0 : 0 ≤ now) (h1 : now ≤ 1073741824) (hf : (l.getD k dH).fr ≤ now) (hr : RightH l = true) (hi : l.findIdx? (fun x => x.id == id) = some k) :
    (Lift (l.set k ((l.getD k dH).lift now)) id now).2 = 16 := by
  have hr2 := lift_right hk h0 h1 hf hr
  have hs : (l.set k ((l.getD k dH).lift now)).findIdx? (fun x => x.id == id) = some k := by
    rw [List.findIdx?_eq_some_iff_getElem] at hi
    obtain ⟨_, hp, hno⟩ := hi
    refine find_some (by rw [List.length_set]; exact hk) ?_ fun j hj => ?_
    · rw [set_id l k now hk, gdH hk]; exact hp
    · rw [set_id l k now hk, gdH (by omega)]; simpa using hno j hj
  unfold Lift
  rw [hr2, if_neg (by unfold stepB; rw [decide_eq_true h0, decide_eq_true h1]; decide), hs]
  dsimp only
  unfold liftK
  rw [set_getD l k _ hk, if_pos rfl]
  have e1 : ((l.getD k dH).lift now).fr = (l.getD k dH).fr := rfl
  have e2 : ((l.getD k dH).lift now).to = now := rfl
  rw [e1, e2, if_neg (by omega), if_pos (by
    rw [Bool.and_eq_true]
    exact ⟨by rw [bne_iff_ne]; omega, decide_eq_true (by omega)⟩)]
theorem any_getD {l : List Hld} {p : Hld → Bool} : l.any p = true ↔ ∃ j, j < l.length ∧ p (l.getD j dH) = true := by
  rw [List.any_eq_true]
  constructor
  · rintro ⟨x, hx, hp⟩
    obtain ⟨j, hj, rfl⟩ := List.getElem_of_mem hx
    exact ⟨j, hj, by rw [gdH hj]; exact hp⟩
  · rintro ⟨j, hj, hp⟩
    rw [gdH hj] at hp
    exact ⟨_, List.getElem_mem hj, hp⟩
theorem ids_ne {l : List Hld} (hr : RightH l = true) {i j : Nat} (hi : i < l.length) (hj : j < l.length) (hij : i ≠ j) : (l.getD i dH).id ≠ (l.getD j dH).id := by
  rw [RightH_iff] at hr
  by_cases h : i < j
  · exact ((okH_iff l j hj).1 (hr j hj)).2.2 i h
  · exact Ne.symm (((okH_iff l i hi).1 (hr i hi)).2.2 j (by omega))
theorem held_late {l : List Hld} {id now : Int} {k : Nat} (hk : k < l.length) (hid : (l.getD k dH).id = id) (h0 : 0 ≤ now) (hr : RightH l = true) {ev then_ : Int} (ht : now ≤ then_) :
    Held (l.set k ((l.getD k dH).lift now)) ev then_ = Held (l.filter fun x => x.id != id) ev then_ := by
  rw [Bool.eq_iff_iff]
  unfold Held
  constructor
  · intro h
    obtain ⟨j, hj, hp⟩ := any_getD.1 h
    rw [List.length_set] at hj
    rw [set_getD l k _ hk] at hp
    by_cases hjk : j = k
    · rw [if_pos hjk] at hp
      unfold heldBy Hld.lift at hp
      simp only [Bool.and_eq_true, Bool.or_eq_true, beq_iff_eq, decide_eq_true_eq] at hp
      omega
    · rw [if_neg hjk] at hp
      rw [List.any_eq_true]
      refine ⟨l.getD j dH, ?_, hp⟩
      rw [List.mem_filter]
      refine ⟨by rw [gdH hj]; exact List.getElem_mem hj, ?_⟩
      rw [bne_iff_ne, ← hid]
      exact ids_ne hr hj hk hjk
  · intro h
    rw [List.any_eq_true] at h
    obtain ⟨x, hx, hp⟩ := h
    rw [List.mem_filter] at hx
    obtain ⟨j, hj, rfl⟩ := List.getElem_of_mem hx.1
    refine any_getD.2 ⟨j, by rw [List.length_set]; exact hj, ?_⟩
    rw [set_getD l k _ hk, if_neg, gdH hj]
    · exact hp
    · rintro rfl
      have := hx.2
      rw [gdH hj] at hid
      rw [hid] at this
      simp at this
theorem held_early {l : List Hld} {now : Int} {k : Nat} (hk : k < l.length) (hto : (l.getD k dH).to = -1 ∨ now < (l.getD k dH).to) {ev then_ : Int} (ht : then_ < now) :
    Held (l.set k ((l.getD k dH).lift now)) ev then_ = Held l ev then_ := by
  have e : ∀ j, heldBy ev then_ ((l.set k ((l.getD k dH).lift now)).getD j dH) = heldBy ev then_ (l.getD j dH) := by
    intro j
    rw [set_getD l k _ hk]
    split
    · rename_i h
      subst h
      unfold heldBy Hld.lift
      rw [Bool.eq_iff_iff]
      simp only [Bool.and_eq_true, Bool.or_eq_true, beq_iff_eq, decide_eq_true_eq]
      omega
    · rfl
  rw [Bool.eq_iff_iff]
  unfold Held
  rw [any_getD, any_getD, List.length_set]
  constructor
  · rintro ⟨j, hj, hp⟩
    exact ⟨j, hj, by rw [← e]; exact hp⟩
  · rintro ⟨j, hj, hp⟩
    exact ⟨j, hj, by rw [e]; exact hp⟩

theorem row_stepH (p : Hld → Bool) (l : List Hld) (k : Nat) (h : k < l.length) :
    (p (l.getD k dH) = true → AOEq (.row 70 4 ((l.take (k + 1)).filter p).length (rowsH ((l.take (k + 1)).filter p))) (.row 70 4 (((l.take k).filter p).length + 1) (catG ((l.take k).filter p).length (rowsH ((l.take k).filter p)) (rowOf 4 (l.getD (k : Int).toNat dH).av)))) ∧
    (p (l.getD k dH) = false → AOEq (.row 70 4 ((l.take (k + 1)).filter p).length (rowsH ((l.take (k + 1)).filter p))) (.row 70 4 ((l.take k).filter p).length (rowsH ((l.take k).filter p)))) := by
  have hf := filter_take p dH l k h
  constructor
  · intro hp
    rw [hf, if_pos hp, Int.toNat_natCast]
    refine ⟨rfl, rfl, by simp, fun j hj => ?_⟩
    rw [← snocH _ _ j hj, Nat.zero_add]
    unfold catG
    simp
  · intro hp
    rw [hf, if_neg (by rw [hp]; simp)]
    exact AOEq.refl _

set_option maxRecDepth 20000 in
set_option maxHeartbeats 2000000 in
theorem holdLifts_fn (h : List Hld) (id now then_ : Int) :
    Ctr Try.prog 14 [.rs 4 h.length (rowsH h), .i .i64 id, .i .i64 now, .i .i64 then_] [] (.b true) := by
  refine fn_of_exec tabOk Try.func14 (by kernel_rfl) rfl (N := Try.f14.ntmps) rfl (res := [.tmp 8]) rfl rfl [] ?_
  refine .inl ⟨[], _, smallH_fn, ?_⟩
  have hg20 : decide ((h.length : Int) > 20) = false → h.length ≤ 20 := fun hg => by
    rw [decide_eq_false_iff_not] at hg
    omega
  repeat refine Or.inl ?_
  refine ⟨[], _, fun hg => RightH_fn h (by have := hg20 hg.1; omega), ⟨fun hf => RetIs.b rfl, fun hf => ?_⟩⟩
  have hf : (decide ((h.length : Int) > 20) || !RightH h) = false := hf
  simp only [Bool.or_eq_false_iff, Bool.not_eq_false'] at hf
  have h20 := hg20 hf.1
  have hh : h.length < 2 ^ 62 := by omega
  have hr := hf.2
  have hl := Lift_len h id now
  have hfl : (h.filter fun x => x.id != id).length ≤ h.length := List.length_filter_le _ _
  refine .inl ⟨_, _, Lift_fn h (le47 (by omega)) id now, ?_⟩
  repeat refine Or.inl ?_
  refine ⟨fun he => ?_, fun he => ?_⟩
  · have he : ((Lift h id now).2 != 0) = true := he
    have he : (Lift h id now).2 ≠ 0 := by simpa using he
    refine .inl ⟨[], _, fun _ => sameH_fn (Lift h id now).1 h (by omega) hh, ?_⟩
    refine RetIs.b ?_
    rw [Lift_err he]
    simp
  have he : ((Lift h id now).2 != 0) = false := he
  have he : (Lift h id now).2 = 0 := by simpa using he
  obtain ⟨k, hk, h1, hid, h0, hmx, hfr, hto, _, hfi⟩ := Lift_ok he
  have hr2 : RightH (Lift h id now).1 = true := by rw [h1]; exact lift_right hk h0 hmx hfr hr
  have hag : (Lift (Lift h id now).1 id now).2 = 16 := by rw [h1]; exact lift_again hk h0 hmx hfr hr hfi
  have hL : ∀ ev, now ≤ then_ → Held (Lift h id now).1 ev then_ = Held (h.filter fun x => x.id != id) ev then_ := fun ev ht => by rw [h1]; exact held_late hk hid h0 hr ht
  have hE : ∀ ev, then_ < now → Held (Lift h id now).1 ev then_ = Held h ev then_ := fun ev ht => by rw [h1]; exact held_early hk hto ht
  clear h1 he hfi hto hfr hk hid
  generalize (Lift h id now).1 = L at *
  repeat refine Or.inl ?_
  refine ⟨[], _, RightH_fn L (by omega), ⟨fun h2 => ?_, fun _ => ?_⟩⟩
  · exfalso
    have h2 : (!RightH L || ((L.length : Int) != h.length)) = true := h2
    rw [hr2, hl] at h2
    simp at h2
  refine .inl ⟨_, _, Lift_fn L (le47 (by omega)) id now, ?_⟩
  repeat refine Or.inl ?_
  refine ⟨fun h2 => ?_, fun _ => ?_⟩
  · exfalso
    have h2 : ((Lift L id now).2 != 16) = true := h2
    rw [hag] at h2
    cases h2
  let pO : Hld → Bool := fun x => x.id != id
  refine .inl ⟨[(14, 70, 4)], Nat, fun k => k ≤ h.length, fun k => [⟨15, [], .i .i64 k⟩, ⟨14, [], .so 2⟩], fun k => [⟨2, [], .row 70 4 ((h.take k).filter pO).length (rowsH ((h.take k).filter pO))⟩], fun k => h.length - k,
    ⟨0, [], Nat.zero_le _, rfl, rfl, rfl, rfl, rfl, ⟨⟨rfl, rfl⟩, rfl⟩, ⟨rfl, rfl, rfl, fun j hj => by simp at hj⟩⟩, ?_⟩
  intro k hk
  have lO := filter_take_len pO h k
  refine .inl ⟨fun hc => ?_, fun hc => ?_⟩
  · have hc := dlt hc
    have rO := row_stepH pO h k (by omega)
    have ek : (k : Int).toNat = k := Int.toNat_natCast k
    have w : IntKind.i64.wrap ((k : Int) + 1) = ((k + 1 : Nat) : Int) := wr (by omega) (by omega)
    repeat refine Or.inl ?_
    refine ⟨⟨by omega, by omega⟩, ⟨fun h2 => ?_, fun h2 => ?_⟩⟩
    · have h2 : ((h.getD (k : Int).toNat dH).id != id) = true := h2
      rw [ek] at h2
      refine ⟨⟨by omega, by omega⟩, le47 (by omega), ?_⟩
      exact ⟨k + 1, [(2, 4)], by dsimp only; omega, by dsimp only; omega, rfl, rfl, rfl, rfl, rfl, ⟨⟨rfl, w⟩, rfl⟩, rO.1 h2⟩
    · have h2 : ((h.getD (k : Int).toNat dH).id != id) = false := h2
      rw [ek] at h2
      exact ⟨k + 1, [], by dsimp only; omega, by dsimp only; omega, rfl, rfl, rfl, rfl, rfl, ⟨⟨rfl, w⟩, rfl⟩, rO.2 h2⟩
  · have hc := dnlt hc
    have hk2 : h.take k = h := List.take_of_length_le (by omega)
    rw [hk2]
    refine .inl ⟨[], Nat, fun q => q ≤ h.length, fun q => [⟨16, [], .i .i64 q⟩], fun _ => [], fun q => h.length - q,
      ⟨0, [], Nat.zero_le _, rfl, rfl, rfl, rfl, rfl, ⟨rfl, rfl⟩, trivial⟩, ?_⟩
    intro q hq
    refine .inl ⟨fun hc => ?_, fun hc => ?_⟩
    · have hc := dlt hc
      repeat refine Or.inl ?_
      refine ⟨⟨by omega, by omega⟩, ?_⟩
      repeat refine Or.inl ?_
      refine ⟨[], _, fun _ => Held_fn L (by omega) _ then_, ?_⟩
      repeat refine Or.inl ?_
      refine ⟨[], _, fun _ => Held_fn (h.filter pO) (by have : (h.filter pO).length ≤ h.length := hfl; omega) _ then_, ?_⟩
      repeat refine Or.inl ?_
      refine ⟨[], _, fun _ => Held_fn L (by omega) _ then_, ?_⟩
      repeat refine Or.inl ?_
      refine ⟨[], _, fun _ => Held_fn h hh _ then_, ⟨fun h2 => ?_, fun h2 => ?_⟩⟩
      · exfalso
        have h2 : ((decide (then_ ≥ now) && (Held L (h.getD (q : Int).toNat dH).ev then_ != Held (h.filter pO) (h.getD (q : Int).toNat dH).ev then_)) || (decide (then_ < now) && (Held L (h.getD (q : Int).toNat dH).ev then_ != Held h (h.getD (q : Int).toNat dH).ev then_))) = true := h2
        generalize (h.getD (q : Int).toNat dH).ev = ev at h2
        simp only [Bool.or_eq_true, Bool.and_eq_true, decide_eq_true_eq, bne_iff_ne] at h2
        rcases h2 with ⟨h3, h4⟩ | ⟨h3, h4⟩
        · exact h4 (hL ev (by omega))
        · exact h4 (hE ev h3)
      · exact ⟨q + 1, [], by dsimp only; omega, by dsimp only; omega, rfl, rfl, rfl, rfl, rfl, ⟨rfl, wr (by omega) (by omega)⟩, trivial⟩
    · exact RetIs.b rfl
end Go.Proofs.Ytklmfkejgjhneaa
