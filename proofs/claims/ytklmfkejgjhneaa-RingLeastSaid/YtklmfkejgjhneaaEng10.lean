/-
  The engine, tenth part: states, and an operation's step from state to state.
-/
import Derived.Test.YtklmfkejgjhneaaEng9
namespace Go.Eng
open Go.RowKit

abbrev Tags := List (Nat × Bool)
def sat (g : Tags) (a : Act) : Prop := ∀ p ∈ g, a.tmps.getD p.1 undef = .bool p.2
theorem sat_nil (a : Act) : sat [] a := fun p hp => by simp at hp

theorem hasTag_mem {t : Nat} {w : Bool} : ∀ {l : Tags}, hasTag t w l = true → (t, w) ∈ l
  | [], h => by simp [hasTag] at h
  | (s, x) :: r, h => by
    unfold hasTag at h
    split at h
    · rename_i hb
      have hb : s = t := by simpa using hb
      subst hb
      split at h
      · simp
      · simp
      · exact List.mem_cons_of_mem _ (hasTag_mem h)
    · exact List.mem_cons_of_mem _ (hasTag_mem h)
theorem subTags_sat : ∀ {g h : Tags} {a : Act}, subTags g h = true → sat h a → sat g a
  | [], _, a, _, _ => sat_nil a
  | (t, w) :: r, l, a, h, hs => by
    unfold subTags at h
    split at h
    · rename_i ht
      intro p hp
      rcases List.mem_cons.1 hp with rfl | hp
      · exact hs _ (hasTag_mem ht)
      · exact subTags_sat h hs p hp
    · cases h
theorem inTags_false {t : Nat} : ∀ {g : Tags}, inTags t g = false → ∀ p ∈ g, p.1 ≠ t
  | [], _, p, hp => by simp at hp
  | (s, x) :: r, h, p, hp => by
    unfold inTags at h
    split at h
    · cases h
    · rename_i hb
      rcases List.mem_cons.1 hp with rfl | hp
      · intro e
        simp only at e
        subst e
        simp at hb
      · exact inTags_false h p hp
theorem sat_put {g : Tags} {a : Act} {d : Nat} {v : Value} (h : inTags d g = false) : sat g (a.put (some d) v) ↔ sat g a := by
  have key : ∀ p ∈ g, (a.put (some d) v).tmps.getD p.1 undef = a.tmps.getD p.1 undef := fun p hp => by
    have hne := inTags_false h p hp
    simp only [Act.put, Array.getD_eq_getD_getElem?, Array.getElem?_setIfInBounds]
    rw [if_neg (Ne.symm hne)]
  constructor
  · intro hs p hp
    rw [← key p hp]
    exact hs p hp
  · intro hs p hp
    rw [key p hp]
    exact hs p hp

abbrev KF := Nat → Option (Tags × AV)
abbrev OF := Nat → Option (Tags × AO)

def FO (G : Nat → Prop) (O : OF) (β : Bd) (a : Act) : Nat → Prop := fun b => G b ∨ ∃ id g o, O id = some (g, o) ∧ sat g a ∧ ownB β id o = some b

/-- But for the blocks of A, what lay there lies there as it did. -/
structure Frame (A : Nat → Prop) (w w' : World) : Prop where
  os : w'.os = w.os
  tape : w'.tape = w.tape
  output : w'.output = w.output
  size : w.heap.size ≤ w'.heap.size
  block : ∀ k, k < w.heap.size → ¬ A k → w'.heap[k]? = w.heap[k]?
theorem Frame.refl (A : Nat → Prop) (w : World) : Frame A w w := ⟨rfl, rfl, rfl, Nat.le_refl _, fun _ _ _ => rfl⟩
theorem Frame.below {A : Nat → Prop} {w w' : World} (h : Frame A w w') (hA : ∀ k, ¬ A k) : Below w.heap.size w w' := ⟨h.os, h.tape, h.output, h.size, fun k hk => h.block k hk (hA k)⟩
structure SimF (A G : Nat → Prop) (w0 : World) (N : Nat) (K : KF) (O : OF) (nid : Nat) (β : Bd) (a : Act) (w : World) : Prop where
  gold : ∀ b, G b → b < w0.heap.size
  below : Frame A w0 w
  tsz : a.tmps.size = N
  dfs : a.defers = []
  kf : ∀ s g av, K s = some (g, av) → (sat g a → Rep β nid (FO G O β a) w av (a.tmps.getD s undef)) ∧ (¬ sat g a → a.tmps.getD s undef = undef)
  of : ∀ id g o, O id = some (g, o) → id < nid ∧ (sat g a → ObjOk β nid (FO G O β a) w id o)
  allow : ∀ id g o b, O id = some (g, o) → sat g a → ownB β id o = some b → A b ∨ w0.heap.size ≤ b
  dist : ∀ id id' g g' o o' b, O id = some (g, o) → O id' = some (g', o') → sat g a → sat g' a → ownB β id o = some b → ownB β id' o' = some b → id = id'

section
variable {A G : Nat → Prop} {w0 w : World} {N : Nat} {K : KF} {O : OF} {nid : Nat} {β : Bd} {a : Act}

theorem SimF.old (S : SimF A G w0 N K O nid β a w) {b : Nat} (h : FO G O β a b) : b < w.heap.size := by
  rcases h with hg | ⟨id, g, o, ho, hs, hb⟩
  · exact Nat.lt_of_lt_of_le (S.gold b hg) S.below.size
  · exact ((S.of id g o ho).2 hs).lt hb

theorem SimF.env (S : SimF A G w0 N K O nid β a w) {lk : Nat → Option AO} (h : ∀ id o, lk id = some o → ∃ g, O id = some (g, o) ∧ sat g a) : Env β nid (FO G O β a) w lk where
  obj := fun id o hl => by
    obtain ⟨g, ho, hs⟩ := h id o hl
    exact ⟨(S.of id g o ho).1, (S.of id g o ho).2 hs⟩
  own := fun id o b hl hb => by
    obtain ⟨g, ho, hs⟩ := h id o hl
    exact .inr ⟨id, g, o, ho, hs, hb⟩
  old := fun b hb => S.old hb

/-- A slot is written that no tag names. -/
theorem SimF.put (S : SimF A G w0 N K O nid β a w) (d : Option Nat) (tg : Tags) (r : AV) (v : Value)
    (hd : ∀ n, d = some n → n < N ∧ inTags n tg = false ∧ (∀ s g av, K s = some (g, av) → inTags n g = false) ∧ (∀ id g o, O id = some (g, o) → inTags n g = false))
    (hr : sat tg a → Rep β nid (FO G O β a) w r v) (hu : ¬ sat tg a → v = undef) :
    SimF A G w0 N (fun s => if d = some s then some (tg, r) else K s) O nid β (a.put d v) w := by
  cases d with
  | none =>
    have e : (fun s => if (none : Option Nat) = some s then some (tg, r) else K s) = K := by funext s; simp
    rw [e]
    exact S
  | some n =>
    obtain ⟨hn, htg, hK, hO⟩ := hd n rfl
    have hFO : FO G O β (a.put (some n) v) = FO G O β a := by
      funext b
      apply propext
      constructor
      · rintro (hg | ⟨id, g, o, ho, hs, hb⟩)
        · exact .inl hg
        · exact .inr ⟨id, g, o, ho, (sat_put (hO id g o ho)).1 hs, hb⟩
      · rintro (hg | ⟨id, g, o, ho, hs, hb⟩)
        · exact .inl hg
        · exact .inr ⟨id, g, o, ho, (sat_put (hO id g o ho)).2 hs, hb⟩
    have hslot : ∀ s, (a.put (some n) v).tmps.getD s undef = if s = n then v else a.tmps.getD s undef := by
      intro s
      simp only [Act.put, Array.getD_eq_getD_getElem?, Array.getElem?_setIfInBounds]
      by_cases h : n = s
      · subst h
        rw [if_pos rfl, if_pos (by rw [S.tsz]; exact hn)]
        simp
      · rw [if_neg h, if_neg (Ne.symm h)]
    refine ⟨S.gold, S.below, ?_, S.dfs, ?_, ?_, fun id g o b h hs hb => S.allow id g o b h ((sat_put (hO id g o h)).1 hs) hb, ?_⟩
    · simp [Act.put, S.tsz]
    · intro s g av h
      rw [hFO, hslot s]
      by_cases hs : s = n
      · subst hs
        rw [if_pos rfl] at h
        simp only [Option.some.injEq, Prod.mk.injEq] at h
        obtain ⟨rfl, rfl⟩ := h
        rw [if_pos rfl]
        exact ⟨fun h => hr ((sat_put htg).1 h), fun h => hu (fun h' => h ((sat_put htg).2 h'))⟩
      · rw [if_neg (by simpa using Ne.symm hs)] at h
        rw [if_neg hs]
        have := S.kf s g av h
        exact ⟨fun h' => this.1 ((sat_put (hK s g av h)).1 h'), fun h' => this.2 (fun h2 => h' ((sat_put (hK s g av h)).2 h2))⟩
    · intro id g o h
      rw [hFO]
      exact ⟨(S.of id g o h).1, fun h' => (S.of id g o h).2 ((sat_put (hO id g o h)).1 h')⟩
    · intro id id' g g' o o' b h h' hs hs' hb hb'
      exact S.dist id id' g g' o o' b h h' ((sat_put (hO id g o h)).1 hs) ((sat_put (hO id' g' o' h')).1 hs') hb hb'

/-- What the objects are behind an operation. -/
def effO (tg : Tags) (nid : Nat) (O : OF) : Eff → OF
  | .ext os _ => fun id => if nid ≤ id then (os[id - nid]?).map fun o => (tg, o) else O id
  | .set i o' _ => fun id => if id = i then (O i).map fun p => (p.1, o') else O id
  | .app i o' _ => fun id => if id = nid then some (tg, o') else if id = i then (O i).map fun p => (p.1, .dead) else O id
def effN (nid : Nat) : Eff → Nat
  | .ext os _ => nid + os.length
  | .set _ _ _ => nid
  | .app _ _ _ => nid + 1
def effR : Eff → AV
  | .ext _ r => r
  | .set _ _ r => r
  | .app _ _ r => r

/-- The object that an operation turns or uses up is there just if the operation is carried out. -/
def effFit (tg : Tags) (O : OF) : Eff → Prop
  | .ext _ _ => True
  | .set i _ _ => ∀ g o, O i = some (g, o) → subTags tg g = true
  | .app i _ _ => ∀ g o, O i = some (g, o) → subTags tg g = true

theorem getElem?_map_some {os : List AO} {j : Nat} {tg g : Tags} {o : AO} (h : (os[j]?).map (fun o => (tg, o)) = some (g, o)) : g = tg ∧ os[j]? = some o := by
  cases hj : os[j]? with
  | none => rw [hj] at h; cases h
  | some o' => rw [hj] at h; simp at h; exact ⟨h.1.symm, by rw [h.2]⟩

/-- Carried out. -/
theorem SimF.eff (S : SimF A G w0 N K O nid β a w) {lk : Nat → Option AO} (hlk : ∀ id o, lk id = some o → ∃ g, O id = some (g, o) ∧ sat g a) {tg : Tags} (hsat : sat tg a) {eff : Eff} {β' : Bd} {w' : World} {v : Value}
    (hfit : effFit tg O eff) (h : EffPost β β' nid (FO G O β a) lk w w' v eff) :
    SimF A G w0 N K (effO tg nid O eff) (effN nid eff) β' a w' ∧ Rep β' (effN nid eff) (FO G (effO tg nid O eff) β' a) w' (effR eff) v := by
  have hlt : ∀ id g o, O id = some (g, o) → id < nid := fun id g o h => (S.of id g o h).1
  cases eff with
  | ext os r =>
    obtain ⟨hb, hag, ⟨hn1, hnB, hn2⟩, hr⟩ := h
    have hown : ∀ id g o, O id = some (g, o) → ownB β' id o = ownB β id o := fun id g o h => by
      have := hag id (hlt id g o h)
      cases o <;> simp [ownB, this.1, this.2]
    have hFO : ∀ b, FO G (effO tg nid O (.ext os r)) β' a b ↔ FX (FO G O β a) β' nid os b := by
      intro b
      constructor
      · rintro (hg | ⟨id, g, o, ho, hs, hbb⟩)
        · exact .inl (.inl hg)
        simp only [effO] at ho
        split at ho
        · rename_i hle
          obtain ⟨_, hj⟩ := getElem?_map_some ho
          exact .inr ⟨id - nid, o, hj, by rw [Nat.add_sub_cancel' hle]; exact hbb⟩
        · exact .inl (.inr ⟨id, g, o, ho, hs, by rw [← hown id g o ho]; exact hbb⟩)
      · rintro ((hg | ⟨id, g, o, ho, hs, hbb⟩) | ⟨j, o, hj, hbb⟩)
        · exact .inl hg
        · have hid := hlt id g o ho
          exact .inr ⟨id, g, o, by simp [effO, Nat.not_le.2 hid, ho], hs, by rw [hown id g o ho]; exact hbb⟩
        · exact .inr ⟨nid + j, tg, o, by simp [effO, hj], hsat, hbb⟩
    have hFOe : FO G (effO tg nid O (.ext os r)) β' a = FX (FO G O β a) β' nid os := funext fun b => propext (hFO b)
    have hF : ∀ g, g < w.heap.size → ¬ FO G O β a g → ¬ FX (FO G O β a) β' nid os g := by
      rintro g hg hnot (hf | ⟨j, o, hj, ho⟩)
      · exact hnot hf
      · have := hnB j o g hj ho; omega
    have hw : ∀ g, g < w.heap.size → w'.heap[g]? = w.heap[g]? := fun g hg => hb.block g hg
    have hbel : Frame A w0 w' := ⟨hb.os.trans S.below.os, hb.tape.trans S.below.tape, hb.output.trans S.below.output, Nat.le_trans S.below.size hb.size, fun k hk hA => by
      rw [hw k (Nat.lt_of_lt_of_le hk S.below.size)]
      exact S.below.block k hk hA⟩
    refine ⟨⟨S.gold, hbel, S.tsz, S.dfs, ?_, ?_, ?_, ?_⟩, ?_⟩
    · intro s g av hk
      refine ⟨fun hs => ?_, fun hs => (S.kf s g av hk).2 hs⟩
      rw [hFOe]
      exact ((((S.kf s g av hk).1 hs).stable hF (fun g hg _ => hw g hg) hb.size).same hag).more (by simp [effN])
    · intro id g o ho
      simp only [effO] at ho
      split at ho
      · rename_i hle
        obtain ⟨rfl, hj⟩ := getElem?_map_some ho
        have hjl := (List.getElem?_eq_some_iff.1 hj).1
        refine ⟨by simp [effN]; omega, fun _ => ?_⟩
        rw [hFOe]
        have := hn1 (id - nid) o hj
        rw [Nat.add_sub_cancel' hle] at this
        exact this
      · have hid := hlt id g o ho
        refine ⟨by simp [effN]; omega, fun hs => ?_⟩
        rw [hFOe]
        exact ((S.of id g o ho).2 hs).stable hid (by simp [effN]) hag hF (fun g hg _ => hw g hg) hb.size (fun b hbb => hw b (((S.of id g o ho).2 hs).lt hbb))
    · intro id g o b ho hs hbb
      simp only [effO] at ho
      split at ho
      · rename_i hle
        obtain ⟨_, hj⟩ := getElem?_map_some ho
        have := hnB (id - nid) o b hj (by rw [Nat.add_sub_cancel' hle]; exact hbb)
        exact .inr (Nat.le_trans S.below.size this)
      · rw [hown id g o ho] at hbb
        exact S.allow id g o b ho hs hbb
    · intro id id' g g' o o' b ho ho' hs hs' hbb hbb'
      simp only [effO] at ho ho'
      split at ho <;> split at ho'
      · rename_i h1 h2
        obtain ⟨_, hj⟩ := getElem?_map_some ho
        obtain ⟨_, hj'⟩ := getElem?_map_some ho'
        have := hn2 _ _ o o' b hj hj' (by rw [Nat.add_sub_cancel' h1]; exact hbb) (by rw [Nat.add_sub_cancel' h2]; exact hbb')
        omega
      · rename_i h1 h2
        obtain ⟨_, hj⟩ := getElem?_map_some ho
        have h3 := hnB _ o b hj (by rw [Nat.add_sub_cancel' h1]; exact hbb)
        rw [hown id' g' o' ho'] at hbb'
        have := ((S.of id' g' o' ho').2 hs').lt hbb'
        omega
      · rename_i h1 h2
        obtain ⟨_, hj⟩ := getElem?_map_some ho'
        have h3 := hnB _ o' b hj (by rw [Nat.add_sub_cancel' h2]; exact hbb')
        rw [hown id g o ho] at hbb
        have := ((S.of id g o ho).2 hs).lt hbb
        omega
      · rw [hown id g o ho] at hbb
        rw [hown id' g' o' ho'] at hbb'
        exact S.dist id id' g g' o o' b ho ho' hs hs' hbb hbb'
    · rw [hFOe]
      exact hr
  | set i o1 r =>
    obtain ⟨rfl, o0, hl, hg, hb1, hobj, hr⟩ := h
    obtain ⟨gi, hoi, hsi⟩ := hlk i o0 hl
    have hFO : ∀ b, FO G (effO tg nid O (.set i o1 r)) β' a b ↔ FO G O β' a b := by
      intro b
      constructor
      · rintro (hg | ⟨id, g, o, ho, hs, hbb⟩)
        · exact .inl hg
        simp only [effO] at ho
        split at ho
        · rename_i he
          subst he
          rw [hoi] at ho
          simp at ho
          obtain ⟨rfl, rfl⟩ := ho
          exact .inr ⟨id, _, o0, hoi, hs, by rw [← hb1]; exact hbb⟩
        · exact .inr ⟨id, g, o, ho, hs, hbb⟩
      · rintro (hg | ⟨id, g, o, ho, hs, hbb⟩)
        · exact .inl hg
        by_cases he : id = i
        · subst he
          rw [hoi] at ho
          simp at ho
          obtain ⟨rfl, rfl⟩ := ho
          exact .inr ⟨id, gi, o1, by simp [effO, hoi], hs, by rw [hb1]; exact hbb⟩
        · exact .inr ⟨id, g, o, by simp [effO, he, ho], hs, hbb⟩
    have hFOe : FO G (effO tg nid O (.set i o1 r)) β' a = FO G O β' a := funext fun b => propext (hFO b)
    have hFb : ∀ b0, ownB β' i o0 = some b0 → FO G O β' a b0 := fun b0 hb0 => .inr ⟨i, gi, o0, hoi, hsi, hb0⟩
    have hw : ∀ g, g < w.heap.size → ¬ FO G O β' a g → w'.heap[g]? = w.heap[g]? := fun g hg' hn => hg.block g hg' (fun e => hn (hFb g e.symm))
    have key : ∀ id g o b, effO tg nid O (.set i o1 r) id = some (g, o) → ownB β' id o = some b → ∃ o2, O id = some (g, o2) ∧ ownB β' id o2 = some b := by
      intro id g o b ho hbb
      simp only [effO] at ho
      split at ho
      · rename_i he
        subst he
        rw [hoi] at ho
        simp at ho
        obtain ⟨rfl, rfl⟩ := ho
        exact ⟨o0, hoi, by rw [← hb1]; exact hbb⟩
      · exact ⟨o, ho, hbb⟩
    refine ⟨⟨S.gold, ⟨hg.os.trans S.below.os, hg.tape.trans S.below.tape, hg.output.trans S.below.output, Nat.le_trans S.below.size hg.size, fun k hk hA => ?_⟩, S.tsz, S.dfs, ?_, ?_, ?_, ?_⟩, ?_⟩
    · rw [hg.block k (Nat.lt_of_lt_of_le hk S.below.size) (fun e => by
        rcases S.allow i gi o0 k hoi hsi e.symm with h | h
        · exact hA h
        · omega)]
      exact S.below.block k hk hA
    · intro s g av hk
      refine ⟨fun hs => ?_, fun hs => (S.kf s g av hk).2 hs⟩
      rw [hFOe]
      exact ((S.kf s g av hk).1 hs).stable (fun _ _ h => h) hw hg.size
    · intro id g o ho
      simp only [effO] at ho
      split at ho
      · rename_i he
        subst he
        rw [hoi] at ho
        simp at ho
        obtain ⟨rfl, rfl⟩ := ho
        refine ⟨hlt _ _ _ hoi, fun _ => ?_⟩
        rw [hFOe]
        exact hobj
      · rename_i he
        refine ⟨hlt _ _ _ ho, fun hs => ?_⟩
        rw [hFOe]
        refine ((S.of id g o ho).2 hs).stable (hlt _ _ _ ho) (Nat.le_refl _) (fun _ _ => ⟨rfl, rfl⟩) (fun _ _ h => h) hw hg.size (fun b hbb => hg.block b (((S.of id g o ho).2 hs).lt hbb) (fun e => he ?_))
        exact S.dist id i g gi o o0 b ho hoi hs hsi hbb e.symm
    · intro id g o b ho hs hbb
      obtain ⟨p, hp, hpb⟩ := key id g o b ho hbb
      exact S.allow id g p b hp hs hpb
    · intro id id' g g' o o' b ho ho' hs hs' hbb hbb'
      obtain ⟨p, hp, hpb⟩ := key id g o b ho hbb
      obtain ⟨p', hp', hpb'⟩ := key id' g' o' b ho' hbb'
      exact S.dist id id' g g' p p' b hp hp' hs hs' hpb hpb'
    · rw [hFOe]
      exact hr
  | app i o1 r =>
    obtain ⟨hag, o0, hl, hg, hblk, hobj, hr⟩ := h
    obtain ⟨gi, hoi, hsi⟩ := hlk i o0 hl
    have hin : i < nid := hlt _ _ _ hoi
    have hown : ∀ id g o, O id = some (g, o) → ownB β' id o = ownB β id o := fun id g o h => by
      have := hag id (hlt id g o h)
      cases o <;> simp [ownB, this.1, this.2]
    have hOi : ∀ b, ownB β i o0 = some b → FO G O β a b := fun b hb => .inr ⟨i, gi, o0, hoi, hsi, hb⟩
    have hsub : ∀ b, FO G (effO tg nid O (.app i o1 r)) β' a b → FX (FO G O β a) β' nid [o1] b := by
      rintro b (hg | ⟨id, g, o, ho, hs, hbb⟩)
      · exact .inl (.inl hg)
      simp only [effO] at ho
      split at ho
      · rename_i he
        simp at ho
        obtain ⟨rfl, rfl⟩ := ho
        exact .inr ⟨0, o1, rfl, by rw [Nat.add_zero, ← he]; exact hbb⟩
      · split at ho
        · rename_i he
          subst he
          rw [hoi] at ho
          simp at ho
          obtain ⟨rfl, rfl⟩ := ho
          simp [ownB] at hbb
        · exact .inl (.inr ⟨id, g, o, ho, hs, by rw [← hown id g o ho]; exact hbb⟩)
    have hF : ∀ g, g < w.heap.size → ¬ FO G O β a g → ¬ FO G (effO tg nid O (.app i o1 r)) β' a g := by
      intro g hg' hnot hf
      rcases hsub g hf with h | ⟨j, o, hj, ho⟩
      · exact hnot h
      · cases j with
        | succ j => simp at hj
        | zero =>
          simp at hj
          subst hj
          rw [Nat.add_zero] at ho
          rcases hblk with h | h
          · exact hnot (hOi g (by rw [← h]; exact ho))
          · have := h g ho; omega
    have hw : ∀ g, g < w.heap.size → ¬ FO G O β a g → w'.heap[g]? = w.heap[g]? := fun g hg' hn => hg.block g hg' (fun e => hn (hOi g e.symm))
    refine ⟨⟨S.gold, ⟨hg.os.trans S.below.os, hg.tape.trans S.below.tape, hg.output.trans S.below.output, Nat.le_trans S.below.size hg.size, fun k hk hA => ?_⟩, S.tsz, S.dfs, ?_, ?_, ?_, ?_⟩, ?_⟩
    · rw [hg.block k (Nat.lt_of_lt_of_le hk S.below.size) (fun e => by
        rcases S.allow i gi o0 k hoi hsi e.symm with h | h
        · exact hA h
        · omega)]
      exact S.below.block k hk hA
    · intro s g av hk
      refine ⟨fun hs => ?_, fun hs => (S.kf s g av hk).2 hs⟩
      exact ((((S.kf s g av hk).1 hs).stable hF hw hg.size).same hag).more (by simp [effN])
    · intro id g o ho
      simp only [effO] at ho
      split at ho
      · rename_i he
        simp at ho
        obtain ⟨rfl, rfl⟩ := ho
        subst he
        refine ⟨by simp [effN], fun _ => ?_⟩
        exact hobj.stable (by omega) (Nat.le_refl _) (fun _ _ => ⟨rfl, rfl⟩) (fun b _ hn hf => hn (hsub b hf)) (fun _ _ _ => rfl) (Nat.le_refl _) (fun _ _ => rfl)
      · rename_i hne
        split at ho
        · rename_i he
          subst he
          rw [hoi] at ho
          simp at ho
          obtain ⟨rfl, rfl⟩ := ho
          exact ⟨by simp [effN]; omega, fun _ => trivial⟩
        · rename_i hne2
          have hid := hlt id g o ho
          refine ⟨by simp [effN]; omega, fun hs => ?_⟩
          refine ((S.of id g o ho).2 hs).stable hid (by simp [effN]) hag hF hw hg.size (fun b hbb => hg.block b (((S.of id g o ho).2 hs).lt hbb) (fun e => hne2 ?_))
          exact S.dist id i g gi o o0 b ho hoi hs hsi hbb e.symm
    · intro id g o b ho hs hbb
      simp only [effO] at ho
      split at ho
      · rename_i he
        simp at ho
        obtain ⟨rfl, rfl⟩ := ho
        subst he
        rcases hblk with h | h
        · exact S.allow i gi o0 b hoi hsi (by rw [← h]; exact hbb)
        · exact .inr (Nat.le_trans S.below.size (h b hbb))
      · split at ho
        · rename_i he
          subst he
          rw [hoi] at ho
          simp at ho
          obtain ⟨rfl, rfl⟩ := ho
          simp [ownB] at hbb
        · rw [hown id g o ho] at hbb
          exact S.allow id g o b ho hs hbb
    · intro id id' g g' o o' b ho ho' hs hs' hbb hbb'
      have key : ∀ id g o, effO tg nid O (.app i o1 r) id = some (g, o) → sat g a → ownB β' id o = some b → (id = nid ∧ ownB β' nid o1 = some b) ∨ (id ≠ i ∧ O id = some (g, o) ∧ ownB β id o = some b) := by
        intro id g o ho hs hbb
        simp only [effO] at ho
        split at ho
        · rename_i he
          simp at ho
          obtain ⟨rfl, rfl⟩ := ho
          exact .inl ⟨he, by rw [← he]; exact hbb⟩
        · split at ho
          · rename_i he
            subst he
            rw [hoi] at ho
            simp at ho
            obtain ⟨rfl, rfl⟩ := ho
            simp [ownB] at hbb
          · rename_i hne
            exact .inr ⟨hne, ho, by rw [← hown id g o ho]; exact hbb⟩
      have cross : ∀ id g o, id ≠ i → O id = some (g, o) → sat g a → ownB β id o = some b → ownB β' nid o1 = some b → False := by
        intro id g o hne ho hs hbb hnb
        rcases hblk with h | h
        · exact hne (S.dist id i g gi o o0 b ho hoi hs hsi hbb (by rw [← h]; exact hnb))
        · have h1 := h b hnb
          have h2 := ((S.of id g o ho).2 hs).lt hbb
          omega
      rcases key id g o ho hs hbb with ⟨rfl, h1⟩ | ⟨h1, h2, h3⟩ <;> rcases key id' g' o' ho' hs' hbb' with ⟨rfl, h1'⟩ | ⟨h1', h2', h3'⟩
      · rfl
      · exact (cross id' g' o' h1' h2' hs' h3' h1).elim
      · exact (cross id g o h1 h2 hs h3 h1').elim
      · exact S.dist id id' g g' o o' b h2 h2' hs hs' h3 h3'
    · exact hr.stable (fun b _ hn hf => hn (hsub b hf)) (fun _ _ _ => rfl) (Nat.le_refl _)

/-- Passed over. -/
theorem SimF.passed (S : SimF A G w0 N K O nid β a w) {tg : Tags} (hsat : ¬ sat tg a) {eff : Eff} (hfit : effFit tg O eff) : SimF A G w0 N K (effO tg nid O eff) (effN nid eff) β a w := by
  have hlt : ∀ id g o, O id = some (g, o) → id < nid := fun id g o h => (S.of id g o h).1
  have key : ∀ id g o, effO tg nid O eff id = some (g, o) → sat g a → O id = some (g, o) := by
    intro id g o ho hs
    cases eff with
    | ext os r =>
      simp only [effO] at ho
      split at ho
      · obtain ⟨rfl, _⟩ := getElem?_map_some ho
        exact (hsat hs).elim
      · exact ho
    | set i o1 r =>
      simp only [effO] at ho
      split at ho
      · rename_i he
        subst he
        cases hoi : O id with
        | none => rw [hoi] at ho; cases ho
        | some p =>
          rw [hoi] at ho
          simp at ho
          obtain ⟨rfl, rfl⟩ := ho
          exact (hsat (subTags_sat (hfit p.1 p.2 hoi) hs)).elim
      · exact ho
    | app i o1 r =>
      simp only [effO] at ho
      split at ho
      · simp at ho
        obtain ⟨rfl, rfl⟩ := ho
        exact (hsat hs).elim
      · split at ho
        · rename_i he
          subst he
          cases hoi : O id with
          | none => rw [hoi] at ho; cases ho
          | some p =>
            rw [hoi] at ho
            simp at ho
            obtain ⟨rfl, rfl⟩ := ho
            exact (hsat (subTags_sat (hfit p.1 p.2 hoi) hs)).elim
        · exact ho
  have hsub : ∀ b, FO G (effO tg nid O eff) β a b → FO G O β a b := by
    rintro b (hg | ⟨id, g, o, ho, hs, hbb⟩)
    · exact .inl hg
    · exact .inr ⟨id, g, o, key id g o ho hs, hs, hbb⟩
  have hN : nid ≤ effN nid eff := by cases eff <;> simp [effN]
  have hstab : ∀ {av v}, Rep β nid (FO G O β a) w av v → Rep β (effN nid eff) (FO G (effO tg nid O eff) β a) w av v := fun h => (h.stable (fun b _ hn hf => hn (hsub b hf)) (fun _ _ _ => rfl) (Nat.le_refl _)).more hN
  have hids : ∀ id g o, effO tg nid O eff id = some (g, o) → id < effN nid eff := by
    intro id g o ho
    cases eff with
    | ext os r =>
      simp only [effO] at ho
      split at ho
      · obtain ⟨_, hj⟩ := getElem?_map_some ho
        have := (List.getElem?_eq_some_iff.1 hj).1
        simp only [effN]; omega
      · have := hlt _ _ _ ho; simp only [effN]; omega
    | set i o1 r =>
      simp only [effO] at ho
      split at ho
      · rename_i he
        subst he
        cases hoi : O id with
        | none => rw [hoi] at ho; cases ho
        | some p => exact hlt id p.1 p.2 hoi
      · exact hlt _ _ _ ho
    | app i o1 r =>
      simp only [effO] at ho
      split at ho
      · rename_i he; subst he; simp [effN]
      · split at ho
        · rename_i he
          subst he
          cases hoi : O id with
          | none => rw [hoi] at ho; cases ho
          | some p => have := hlt id p.1 p.2 hoi; simp only [effN]; omega
        · have := hlt _ _ _ ho; simp only [effN]; omega
  refine ⟨S.gold, S.below, S.tsz, S.dfs, ?_, ?_, fun id g o b ho hs hbb => S.allow id g o b (key id g o ho hs) hs hbb, ?_⟩
  · intro s g av hk
    exact ⟨fun hs => hstab ((S.kf s g av hk).1 hs), (S.kf s g av hk).2⟩
  · intro id g o ho
    refine ⟨hids id g o ho, fun hs => ?_⟩
    have ho' := key id g o ho hs
    exact ((S.of id g o ho').2 hs).stable (hlt _ _ _ ho') hN (fun _ _ => ⟨rfl, rfl⟩) (fun b _ hn hf => hn (hsub b hf)) (fun _ _ _ => rfl) (Nat.le_refl _) (fun _ _ => rfl)
  · intro id id' g g' o o' b ho ho' hs hs' hbb hbb'
    exact S.dist id id' g g' o o' b (key _ _ _ ho hs) (key _ _ _ ho' hs') hs hs' hbb hbb'
end
end Go.Eng
