/-
  The engine: a region that draws its order, first part: names, and an effect at a place of its own.
-/
import Derived.Test.YtklmfkejgjhneaaEng9c
import Derived.Test.YtklmfkejgjhneaaEng11
namespace Go.Eng
open Go.RowKit

mutual
def AV.all (f : Nat → Bool) : AV → Bool
  | .p id _ => f id
  | .so id => f id
  | .pe id _ _ _ => f id
  | .mo id => f id
  | .sv id _ _ _ => f id
  | .fn _ cs => AV.alls f cs
  | .ag cs => AV.alls f cs
  | .tup cs => AV.alls f cs
  | _ => true
def AV.alls (f : Nat → Bool) : List AV → Bool
  | [] => true
  | c :: r => match AV.all f c with
    | true => AV.alls f r
    | false => false
end
def AO.all (f : Nat → Bool) : AO → Bool
  | .cells _ cs => AV.alls f cs
  | .it mid _ _ => f mid
  | _ => true

theorem AV.alls_get {f : Nat → Bool} : ∀ {l : List AV}, AV.alls f l = true → ∀ (j : Nat) (h : j < l.length), AV.all f l[j] = true
  | [], _, j, h => by simp at h
  | c :: r, hl, j, h => by
    unfold AV.alls at hl
    split at hl
    · rename_i hc
      cases j with
      | zero => exact hc
      | succ j => exact AV.alls_get hl j (by simpa using h)
    · cases hl

mutual
theorem AV.all_of_lt {m : Nat} {f : Nat → Bool} (hf : ∀ id, id < m → f id = true) : ∀ a : AV, a.lt m = true → a.all f = true
  | .p id _, h => by simpa [AV.all] using hf id (blt_lt (by simpa [AV.lt] using h))
  | .so id, h => by simpa [AV.all] using hf id (blt_lt (by simpa [AV.lt] using h))
  | .pe id _ _ _, h => by simpa [AV.all] using hf id (blt_lt (by simpa [AV.lt] using h))
  | .mo id, h => by simpa [AV.all] using hf id (blt_lt (by simpa [AV.lt] using h))
  | .sv id _ _ _, h => by simpa [AV.all] using hf id (blt_lt (by simpa [AV.lt] using h))
  | .fn _ cs, h => by simpa [AV.all] using AV.alls_of_lts hf cs (by simpa [AV.lt] using h)
  | .ag cs, h => by simpa [AV.all] using AV.alls_of_lts hf cs (by simpa [AV.lt] using h)
  | .tup cs, h => by simpa [AV.all] using AV.alls_of_lts hf cs (by simpa [AV.lt] using h)
  | .b _, _ => by simp [AV.all]
  | .i _ _, _ => by simp [AV.all]
  | .s _, _ => by simp [AV.all]
  | .val _, _ => by simp [AV.all]
  | .u, _ => by simp [AV.all]
  | .rs _ _ _, _ => by simp [AV.all]
  | .rp _, _ => by simp [AV.all]
  | .rm _ _ _, _ => by simp [AV.all]
theorem AV.alls_of_lts {m : Nat} {f : Nat → Bool} (hf : ∀ id, id < m → f id = true) : ∀ l : List AV, AV.lts m l = true → AV.alls f l = true
  | [], _ => by simp [AV.alls]
  | c :: r, h => by
    unfold AV.lts at h
    split at h
    · rename_i hc
      have h1 := AV.all_of_lt hf c hc
      have h2 := AV.alls_of_lts hf r h
      simp [AV.alls, h1, h2]
    · cases h
end

mutual
theorem AV.all_of_all {f f' : Nat → Bool} (hf : ∀ id, f' id = true → f id = true) : ∀ a : AV, a.all f' = true → a.all f = true
  | .p id _, h => by simpa [AV.all] using hf id (by simpa [AV.all] using h)
  | .so id, h => by simpa [AV.all] using hf id (by simpa [AV.all] using h)
  | .pe id _ _ _, h => by simpa [AV.all] using hf id (by simpa [AV.all] using h)
  | .mo id, h => by simpa [AV.all] using hf id (by simpa [AV.all] using h)
  | .sv id _ _ _, h => by simpa [AV.all] using hf id (by simpa [AV.all] using h)
  | .fn _ cs, h => by simpa [AV.all] using AV.alls_of_alls hf cs (by simpa [AV.all] using h)
  | .ag cs, h => by simpa [AV.all] using AV.alls_of_alls hf cs (by simpa [AV.all] using h)
  | .tup cs, h => by simpa [AV.all] using AV.alls_of_alls hf cs (by simpa [AV.all] using h)
  | .b _, _ => by simp [AV.all]
  | .i _ _, _ => by simp [AV.all]
  | .s _, _ => by simp [AV.all]
  | .val _, _ => by simp [AV.all]
  | .u, _ => by simp [AV.all]
  | .rs _ _ _, _ => by simp [AV.all]
  | .rp _, _ => by simp [AV.all]
  | .rm _ _ _, _ => by simp [AV.all]
theorem AV.alls_of_alls {f f' : Nat → Bool} (hf : ∀ id, f' id = true → f id = true) : ∀ l : List AV, AV.alls f' l = true → AV.alls f l = true
  | [], _ => by simp [AV.alls]
  | c :: r, h => by
    unfold AV.alls at h
    split at h
    · rename_i hc
      have h1 := AV.all_of_all hf c hc
      have h2 := AV.alls_of_alls hf r h
      simp [AV.alls, h1, h2]
    · cases h
end

theorem Rep.onf {β β' : Bd} {n m : Nat} {F : Nat → Prop} {w : World} {a : AV} {v : Value} {f : Nat → Bool} (h : Rep β n F w a v) (hl : a.all f = true)
    (hb : ∀ id, id < n → f id = true → id < m ∧ β'.blk id = β.blk id ∧ β'.val id = β.val id) : Rep β' m F w a v := by
  induction h with
  | pure a v h => exact .pure a v h
  | p id off hi => obtain ⟨h1, h2, _⟩ := hb id hi (by simpa [AV.all] using hl); rw [← h2]; exact .p id off h1
  | so id hi h1 => obtain ⟨h2, _, h3⟩ := hb id hi (by simpa [AV.all] using hl); rw [← h3] at h1 ⊢; exact .so id h2 h1
  | pe id sz idx off g o k c hi h => obtain ⟨h2, _, h3⟩ := hb id hi (by simpa [AV.all] using hl); exact .pe id sz idx off g o k c h2 (h3.trans h)
  | sv id sz lo k v hi h => obtain ⟨h2, _, h3⟩ := hb id hi (by simpa [AV.all] using hl); exact .sv id sz lo k v h2 (by rw [h3]; exact h)
  | mo id hi => obtain ⟨h1, h2, _⟩ := hb id hi (by simpa [AV.all] using hl); rw [← h2]; exact .mo id h1
  | fn g caps vs hl' h ih => exact .fn g caps vs hl' fun j h1 h2 => ih j h1 h2 (AV.alls_get (by simpa [AV.all] using hl) j h1)
  | ag cs vs hl' h ih => exact .ag cs vs hl' fun j h1 h2 => ih j h1 h2 (AV.alls_get (by simpa [AV.all] using hl) j h1)
  | tup cs vs hl' h ih => exact .tup cs vs hl' fun j h1 h2 => ih j h1 h2 (AV.alls_get (by simpa [AV.all] using hl) j h1)

theorem ObjOk.onf {β β' : Bd} {n m : Nat} {F : Nat → Prop} {w : World} {id : Nat} {o : AO} {f : Nat → Bool} (h : ObjOk β n F w id o) (hl : o.all f = true)
    (hi : β'.blk id = β.blk id ∧ β'.val id = β.val id)
    (hb : ∀ id, id < n → f id = true → id < m ∧ β'.blk id = β.blk id ∧ β'.val id = β.val id) : ObjOk β' m F w id o := by
  cases o with
  | cells e cs =>
    obtain ⟨vs, hh, hlen, hc⟩ := h
    refine ⟨vs, by rw [hi.1]; exact hh, hlen, fun j h1 h2 => ⟨(hc j h1 h2).1.onf (AV.alls_get (by simpa [AO.all] using hl) j h1) hb, (hc j h1 h2).2⟩⟩
  | row e sz k get =>
    obtain ⟨xs, hx, hlen, hc⟩ := h
    exact ⟨xs, by rw [hi.2]; exact hx, hlen, hc⟩
  | mp k key val born clock =>
    obtain ⟨es, hh, hrest⟩ := h
    exact ⟨es, by rw [hi.1]; exact hh, hrest⟩
  | it mid since seen =>
    obtain ⟨hm, hh⟩ := h
    obtain ⟨h1, h2, _⟩ := hb mid hm (by simpa [AO.all] using hl)
    exact ⟨h1, by rw [hi.1, h2]; exact hh⟩
  | ir k key val seen last =>
    obtain ⟨g, es, clock, sn, hh, hrest⟩ := h
    exact ⟨g, es, clock, sn, by rw [hi.1]; exact hh, hrest⟩
  | dead => trivial
theorem ownB_on {β β' : Bd} {id : Nat} {o : AO} (hi : β'.blk id = β.blk id ∧ β'.val id = β.val id) : ownB β' id o = ownB β id o := by
  cases o <;> simp [ownB, hi.1, hi.2]

def effNew : Eff → List AO
  | .ext os _ => os
  | .set _ _ _ => []
  | .app _ o _ => [o]
def effKill : Eff → Option Nat
  | .app i _ _ => some i
  | _ => none
def notSet : Eff → Bool
  | .set _ _ _ => false
  | _ => true
theorem effN_eq (n : Nat) (eff : Eff) : effN n eff = n + (effNew eff).length := by cases eff <;> simp [effN, effNew]

/-- What the objects are behind an operation whose new objects have a place of their own. -/
def upO (tg : Tags) (n : Nat) (O : OF) : Eff → OF
  | .ext os _ => fun id => if n ≤ id ∧ id < n + os.length then (os[id - n]?).map fun o => (tg, o) else O id
  | .set i o' _ => fun id => if id = i then (O i).map fun p => (p.1, o') else O id
  | .app i o' _ => fun id => if id = n then some (tg, o') else if id = i then (O i).map fun p => (p.1, .dead) else O id

/-- β' in the place of the new ones, β elsewhere. -/
def Bd.patch (β β' : Bd) (n m : Nat) : Bd := ⟨fun id => if n ≤ id ∧ id < m then β'.blk id else β.blk id, fun id => if n ≤ id ∧ id < m then β'.val id else β.val id⟩
theorem patch_in {β β' : Bd} {n m id : Nat} (h : n ≤ id ∧ id < m) : (β.patch β' n m).blk id = β'.blk id ∧ (β.patch β' n m).val id = β'.val id := by simp [Bd.patch, h]
theorem patch_out {β β' : Bd} {n m id : Nat} (h : ¬ (n ≤ id ∧ id < m)) : (β.patch β' n m).blk id = β.blk id ∧ (β.patch β' n m).val id = β.val id := by simp [Bd.patch, h]
theorem patch_lt {β β' : Bd} {n m id : Nat} (hag : agree n β β') (h : id < m) : (β.patch β' n m).blk id = β'.blk id ∧ (β.patch β' n m).val id = β'.val id := by
  by_cases hn : n ≤ id
  · exact patch_in ⟨hn, h⟩
  · have := hag id (by omega)
    have h2 := patch_out (β := β) (β' := β') (n := n) (m := m) (id := id) (by omega)
    exact ⟨h2.1.trans this.1.symm, h2.2.trans this.2.symm⟩

section
variable {Al G : Nat → Prop} {w0 w : World} {N : Nat} {K : KF} {O : OF} {NID : Nat} {β : Bd} {a : Act}

theorem SimF.effD (S : SimF Al G w0 N K O NID β a w) {lk : Nat → Option AO} (hlk : ∀ id o, lk id = some o → ∃ g, O id = some (g, o) ∧ sat g a) {tg : Tags} (hsat : sat tg a) {eff : Eff} {β' : Bd} {w' : World} {v : Value} {n : Nat} {f : Nat → Bool}
    (hset : notSet eff = true) (h : EffPost β β' n (FO G O β a) lk w w' v eff) (hN : effN n eff ≤ NID) (hkn : ∀ q, effKill eff = some q → q < n)
    (hf : ∀ id, f id = true → ¬ (n ≤ id ∧ id < effN n eff))
    (hout : ∀ id g o, O id = some (g, o) → ¬ (n ≤ id ∧ id < effN n eff)) (hK : ∀ s g av, K s = some (g, av) → av.all f = true) (hO : ∀ id g o, O id = some (g, o) → o.all f = true) :
    SimF Al G w0 N K (upO tg n O eff) NID (β.patch β' n (effN n eff)) a w' ∧ Rep (β.patch β' n (effN n eff)) NID (FO G (upO tg n O eff) (β.patch β' n (effN n eff)) a) w' (effR eff) v := by
  generalize hβ : β.patch β' n (effN n eff) = β2
  have hb2 : ∀ id, id < NID → f id = true → id < NID ∧ β2.blk id = β.blk id ∧ β2.val id = β.val id := fun id h1 h2 => by
    subst hβ
    exact ⟨h1, patch_out (hf id h2)⟩
  have hown : ∀ id g o, O id = some (g, o) → ownB β2 id o = ownB β id o := fun id g o ho => by
    subst hβ
    exact ownB_on (patch_out (hout id g o ho))
  cases eff with
  | ext os r =>
    obtain ⟨hb, hag, ⟨hn1, hnB, hn2⟩, hr⟩ := h
    have hnew : ∀ j o, os[j]? = some o → ownB β2 (n + j) o = ownB β' (n + j) o := fun j o hj => by
      subst hβ
      have := (List.getElem?_eq_some_iff.1 hj).1
      exact ownB_on (patch_in ⟨by omega, by simp only [effN]; omega⟩)
    have hlt2 : ∀ id, id < n + os.length → β2.blk id = β'.blk id ∧ β2.val id = β'.val id := fun id hid => by
      subst hβ
      exact patch_lt hag (by simpa [effN] using hid)
    have hget : ∀ id g o, upO tg n O (.ext os r) id = some (g, o) → (∃ j, id = n + j ∧ os[j]? = some o ∧ g = tg) ∨ (O id = some (g, o)) := by
      intro id g o ho
      simp only [upO] at ho
      split at ho
      · rename_i hr
        obtain ⟨h1, h2⟩ := getElem?_map_some ho
        exact .inl ⟨id - n, by omega, h2, h1⟩
      · exact .inr ho
    have hFO : ∀ b, FO G (upO tg n O (.ext os r)) β2 a b ↔ FX (FO G O β a) β' n os b := by
      intro b
      constructor
      · rintro (hg | ⟨id, g, o, ho, hs, hbb⟩)
        · exact .inl (.inl hg)
        rcases hget id g o ho with ⟨j, rfl, hj, rfl⟩ | ho
        · exact .inr ⟨j, o, hj, by rw [← hnew j o hj]; exact hbb⟩
        · exact .inl (.inr ⟨id, g, o, ho, hs, by rw [← hown id g o ho]; exact hbb⟩)
      · rintro ((hg | ⟨id, g, o, ho, hs, hbb⟩) | ⟨j, o, hj, hbb⟩)
        · exact .inl hg
        · have hid := hout id g o ho
          simp only [effN] at hid
          exact .inr ⟨id, g, o, by simp only [upO]; rw [if_neg hid]; exact ho, hs, by rw [hown id g o ho]; exact hbb⟩
        · have hjl := (List.getElem?_eq_some_iff.1 hj).1
          exact .inr ⟨n + j, tg, o, by simp only [upO]; rw [if_pos ⟨by omega, by omega⟩, Nat.add_sub_cancel_left, hj]; rfl, hsat, by rw [hnew j o hj]; exact hbb⟩
    have hFOe : FO G (upO tg n O (.ext os r)) β2 a = FX (FO G O β a) β' n os := funext fun b => propext (hFO b)
    have hF : ∀ g, g < w.heap.size → ¬ FO G O β a g → ¬ FX (FO G O β a) β' n os g := by
      rintro g hg hnot (hf | ⟨j, o, hj, ho⟩)
      · exact hnot hf
      · have := hnB j o g hj ho; omega
    have hw : ∀ g, g < w.heap.size → w'.heap[g]? = w.heap[g]? := fun g hg => hb.block g hg
    simp only [effN] at hN
    have hbel : Frame Al w0 w' := ⟨hb.os.trans S.below.os, hb.tape.trans S.below.tape, hb.output.trans S.below.output, Nat.le_trans S.below.size hb.size, fun k hk hA => by
      rw [hw k (Nat.lt_of_lt_of_le hk S.below.size)]
      exact S.below.block k hk hA⟩
    refine ⟨⟨S.gold, hbel, S.tsz, S.dfs, ?_, ?_, ?_, ?_⟩, ?_⟩
    · intro s g av hk
      refine ⟨fun hs => ?_, fun hs => (S.kf s g av hk).2 hs⟩
      rw [hFOe]
      exact (((S.kf s g av hk).1 hs).stable hF (fun g hg _ => hw g hg) hb.size).onf (hK s g av hk) hb2
    · intro id g o ho
      rw [hFOe]
      rcases hget id g o ho with ⟨j, rfl, hj, rfl⟩ | ho
      · have hjl := (List.getElem?_eq_some_iff.1 hj).1
        refine ⟨by omega, fun _ => ?_⟩
        have := hn1 j o hj
        have h2 := this
        exact h2.stable (by omega) hN (fun i hi => hlt2 i hi) (fun _ _ h => h) (fun _ _ _ => rfl) (Nat.le_refl _) (fun _ _ => rfl)
      · have hid := (S.of id g o ho).1
        refine ⟨hid, fun hs => ?_⟩
        have h1 := ((S.of id g o ho).2 hs).stable hid (Nat.le_refl _) (fun _ _ => ⟨rfl, rfl⟩) hF (fun g hg _ => hw g hg) hb.size (fun b hbb => hw b (((S.of id g o ho).2 hs).lt hbb))
        refine h1.onf (hO id g o ho) ?_ hb2
        subst hβ
        exact patch_out (hout id g o ho)
    · intro id g o b ho hs hbb
      rcases hget id g o ho with ⟨j, rfl, hj, rfl⟩ | ho
      · rw [hnew j o hj] at hbb
        exact .inr (Nat.le_trans S.below.size (hnB j o b hj hbb))
      · rw [hown id g o ho] at hbb
        exact S.allow id g o b ho hs hbb
    · intro id id' g g' o o' b ho ho' hs hs' hbb hbb'
      rcases hget id g o ho with ⟨j, rfl, hj, rfl⟩ | h1 <;> rcases hget id' g' o' ho' with ⟨j', rfl, hj', rfl⟩ | h1'
      · have := hn2 _ _ o o' b hj hj' (by rw [← hnew j o hj]; exact hbb) (by rw [← hnew j' o' hj']; exact hbb')
        omega
      · have h3 := hnB _ o _ hj (by rw [← hnew j o hj]; exact hbb)
        rw [hown id' g' o' h1'] at hbb'
        have := ((S.of id' g' o' h1').2 hs').lt hbb'
        omega
      · have h3 := hnB _ o' b hj' (by rw [← hnew j' o' hj']; exact hbb')
        rw [hown id g o h1] at hbb
        have := ((S.of id g o h1).2 hs).lt hbb
        omega
      · rw [hown id g o h1] at hbb
        rw [hown id' g' o' h1'] at hbb'
        exact S.dist id id' g g' o o' b h1 h1' hs hs' hbb hbb'
    · rw [hFOe]
      exact (hr.same fun id hid => hlt2 id hid).more hN
  | set i o1 r => simp [notSet] at hset
  | app i o1 r =>
    obtain ⟨hag, o0, hl, hg, hblk, hobj, hr⟩ := h
    obtain ⟨gi, hoi, hsi⟩ := hlk i o0 hl
    simp only [effN] at hN hf hout
    have hin : i < n := hkn i rfl
    have hnew : ownB β2 n o1 = ownB β' n o1 := by
      subst hβ
      exact ownB_on (patch_in ⟨by omega, by simp only [effN]; omega⟩)
    have hlt2 : ∀ id, id < n + 1 → β2.blk id = β'.blk id ∧ β2.val id = β'.val id := fun id hid => by
      subst hβ
      exact patch_lt hag (by simpa [effN] using hid)
    have hOn : ∀ g o, O n ≠ some (g, o) := fun g o ho => hout n g o ho ⟨by omega, by omega⟩
    have hOi : ∀ b, ownB β i o0 = some b → FO G O β a b := fun b hb => .inr ⟨i, gi, o0, hoi, hsi, hb⟩
    have hget : ∀ id g o, upO tg n O (.app i o1 r) id = some (g, o) → (id = n ∧ o = o1 ∧ g = tg) ∨ (id = i ∧ o = .dead) ∨ (id ≠ n ∧ id ≠ i ∧ O id = some (g, o)) := by
      intro id g o ho
      simp only [upO] at ho
      split at ho
      · rename_i he
        simp at ho
        exact .inl ⟨he, ho.2.symm, ho.1.symm⟩
      · split at ho
        · rename_i he
          subst he
          rw [hoi] at ho
          simp at ho
          exact .inr (.inl ⟨rfl, ho.2.symm⟩)
        · rename_i h1 h2
          exact .inr (.inr ⟨h1, h2, ho⟩)
    have hsub : ∀ b, FO G (upO tg n O (.app i o1 r)) β2 a b → FX (FO G O β a) β' n [o1] b := by
      rintro b (hg | ⟨id, g, o, ho, hs, hbb⟩)
      · exact .inl (.inl hg)
      rcases hget id g o ho with ⟨rfl, rfl, rfl⟩ | ⟨rfl, rfl⟩ | ⟨h1, h2, h3⟩
      · exact .inr ⟨0, o, rfl, by rw [Nat.add_zero, ← hnew]; exact hbb⟩
      · simp [ownB] at hbb
      · exact .inl (.inr ⟨id, g, o, h3, hs, by rw [← hown id g o h3]; exact hbb⟩)
    have hF : ∀ g, g < w.heap.size → ¬ FO G O β a g → ¬ FO G (upO tg n O (.app i o1 r)) β2 a g := by
      intro g hg' hnot hf
      rcases hsub g hf with h | ⟨j, o, hj, ho⟩
      · exact hnot h
      · cases j with
        | succ j => simp at hj
        | zero =>
          simp at hj
          subst hj
          rw [Nat.add_zero] at ho
          rcases hblk with h | h
          · exact hnot (hOi g (by rw [← h]; exact ho))
          · have := h g ho; omega
    have hw : ∀ g, g < w.heap.size → ¬ FO G O β a g → w'.heap[g]? = w.heap[g]? := fun g hg' hn => hg.block g hg' (fun e => hn (hOi g e.symm))
    refine ⟨⟨S.gold, ⟨hg.os.trans S.below.os, hg.tape.trans S.below.tape, hg.output.trans S.below.output, Nat.le_trans S.below.size hg.size, fun k hk hA => ?_⟩, S.tsz, S.dfs, ?_, ?_, ?_, ?_⟩, ?_⟩
    · rw [hg.block k (Nat.lt_of_lt_of_le hk S.below.size) (fun e => by
        rcases S.allow i gi o0 k hoi hsi e.symm with h | h
        · exact hA h
        · omega)]
      exact S.below.block k hk hA
    · intro s g av hk
      refine ⟨fun hs => ?_, fun hs => (S.kf s g av hk).2 hs⟩
      exact (((S.kf s g av hk).1 hs).stable hF hw hg.size).onf (hK s g av hk) hb2
    · intro id g o ho
      rcases hget id g o ho with ⟨rfl, rfl, rfl⟩ | ⟨rfl, rfl⟩ | ⟨h1, h2, h3⟩
      · refine ⟨by omega, fun _ => ?_⟩
        exact hobj.stable (by omega) hN (fun i hi => hlt2 i hi) (fun b _ hn hf => hn (hsub b hf)) (fun _ _ _ => rfl) (Nat.le_refl _) (fun _ _ => rfl)
      · exact ⟨by omega, fun _ => trivial⟩
      · have hid := (S.of id g o h3).1
        refine ⟨hid, fun hs => ?_⟩
        have h4 := ((S.of id g o h3).2 hs).stable hid (Nat.le_refl _) (fun _ _ => ⟨rfl, rfl⟩) hF hw hg.size (fun b hbb => hg.block b (((S.of id g o h3).2 hs).lt hbb) (fun e => h2 (S.dist id i g gi o o0 b h3 hoi hs hsi hbb e.symm)))
        refine h4.onf (hO id g o h3) ?_ hb2
        subst hβ
        exact patch_out (hout id g o h3)
    · intro id g o b ho hs hbb
      rcases hget id g o ho with ⟨rfl, rfl, rfl⟩ | ⟨rfl, rfl⟩ | ⟨h1, h2, h3⟩
      · rw [hnew] at hbb
        rcases hblk with h | h
        · exact S.allow i gi o0 b hoi hsi (by rw [← h]; exact hbb)
        · exact .inr (Nat.le_trans S.below.size (h b hbb))
      · simp [ownB] at hbb
      · rw [hown id g o h3] at hbb
        exact S.allow id g o b h3 hs hbb
    · intro id id' g g' o o' b ho ho' hs hs' hbb hbb'
      have cross : ∀ id g o, id ≠ i → O id = some (g, o) → sat g a → ownB β2 id o = some b → ownB β2 n o1 = some b → False := by
        intro id g o hne ho hs hbb hnb
        rw [hnew] at hnb
        rw [hown id g o ho] at hbb
        rcases hblk with h | h
        · exact hne (S.dist id i g gi o o0 b ho hoi hs hsi hbb (by rw [← h]; exact hnb))
        · have h1 := h b hnb
          have h2 := ((S.of id g o ho).2 hs).lt hbb
          omega
      rcases hget id g o ho with ⟨rfl, rfl, rfl⟩ | ⟨rfl, rfl⟩ | ⟨h1, h2, h3⟩ <;> rcases hget id' g' o' ho' with ⟨rfl, rfl, rfl⟩ | ⟨rfl, rfl⟩ | ⟨h1', h2', h3'⟩ <;>
        first
        | rfl
        | (exfalso; simp [ownB] at hbb; done)
        | (exfalso; simp [ownB] at hbb'; done)
        | (exfalso; exact cross _ _ _ h2' h3' hs' hbb' hbb)
        | (exfalso; exact cross _ _ _ h2 h3 hs hbb hbb')
        | (rw [hown id g o h3] at hbb; rw [hown id' g' o' h3'] at hbb'; exact S.dist id id' g g' o o' b h3 h3' hs hs' hbb hbb')
    · exact ((hr.stable (fun b _ hn hf => hn (hsub b hf)) (fun _ _ _ => rfl) (Nat.le_refl _)).same fun id hid => hlt2 id hid).more hN

theorem SimF.passedD (S : SimF Al G w0 N K O NID β a w) {tg : Tags} (hsat : ¬ sat tg a) {eff : Eff} {n : Nat} (hset : notSet eff = true) (hfit : effFit tg O eff) (hN : effN n eff ≤ NID) (hkn : ∀ q, effKill eff = some q → q < n) :
    SimF Al G w0 N K (upO tg n O eff) NID β a w := by
  have key : ∀ id g o, upO tg n O eff id = some (g, o) → (id < NID) ∧ (sat g a → O id = some (g, o)) := by
    intro id g o ho
    cases eff with
    | ext os r =>
      simp only [upO] at ho
      simp only [effN] at hN
      split at ho
      · obtain ⟨rfl, _⟩ := getElem?_map_some ho
        exact ⟨by omega, fun hs => (hsat hs).elim⟩
      · exact ⟨(S.of id g o ho).1, fun _ => ho⟩
    | set i o1 r => simp [notSet] at hset
    | app i o1 r =>
      simp only [upO] at ho
      simp only [effN] at hN
      split at ho
      · simp at ho
        obtain ⟨rfl, rfl⟩ := ho
        exact ⟨by omega, fun hs => (hsat hs).elim⟩
      · split at ho
        · rename_i he
          subst he
          cases hoi : O id with
          | none => rw [hoi] at ho; cases ho
          | some p =>
            rw [hoi] at ho
            simp at ho
            obtain ⟨rfl, rfl⟩ := ho
            exact ⟨(S.of id p.1 p.2 hoi).1, fun hs => (hsat (subTags_sat (hfit p.1 p.2 hoi) hs)).elim⟩
        · exact ⟨(S.of id g o ho).1, fun _ => ho⟩
  have hsub : ∀ b, FO G (upO tg n O eff) β a b → FO G O β a b := by
    rintro b (hg | ⟨id, g, o, ho, hs, hbb⟩)
    · exact .inl hg
    · exact .inr ⟨id, g, o, (key id g o ho).2 hs, hs, hbb⟩
  have hst : ∀ g, g < w.heap.size → ¬ FO G O β a g → ¬ FO G (upO tg n O eff) β a g := fun b _ hn hf => hn (hsub b hf)
  refine ⟨S.gold, S.below, S.tsz, S.dfs, ?_, ?_, fun id g o b ho hs hbb => S.allow id g o b ((key _ _ _ ho).2 hs) hs hbb, ?_⟩
  · intro s g av hk
    exact ⟨fun hs => ((S.kf s g av hk).1 hs).stable hst (fun _ _ _ => rfl) (Nat.le_refl _), (S.kf s g av hk).2⟩
  · intro id g o ho
    obtain ⟨h1, h2⟩ := key id g o ho
    exact ⟨h1, fun hs => ((S.of id g o (h2 hs)).2 hs).stable h1 (Nat.le_refl _) (fun _ _ => ⟨rfl, rfl⟩) hst (fun _ _ _ => rfl) (Nat.le_refl _) (fun _ _ => rfl)⟩
  · intro id id' g g' o o' b ho ho' hs hs' hbb hbb'
    exact S.dist id id' g g' o o' b ((key _ _ _ ho).2 hs) ((key _ _ _ ho').2 hs') hs hs' hbb hbb'
end
end Go.Eng
