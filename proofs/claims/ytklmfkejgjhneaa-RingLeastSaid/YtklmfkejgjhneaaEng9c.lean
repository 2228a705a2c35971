/-
  The engine: a step goes on in one way.
-/
import Derived.Test.YtklmfkejgjhneaaEng9b
namespace Go.Eng
open Go.RowKit

structure Shot {α : Type} (f : (α → Prop) → Prop) : Prop where
  mono : ∀ k k' : α → Prop, (∀ x, k x → k' x) → f k → f k'
  shot : ∀ k, f k → ∃ x, k x ∧ f (fun y => y = x)

theorem Shot.pure {α : Type} (x : α) : Shot (fun k : α → Prop => k x) := ⟨fun _ _ h hk => h x hk, fun _ h => ⟨x, h, rfl⟩⟩
theorem Shot.none {α : Type} : Shot (fun _ : α → Prop => False) := ⟨fun _ _ _ h => h, fun _ h => h.elim⟩
theorem Shot.ob {α : Type} {f : (α → Prop) → Prop} (gc : Option Prop) (p : Prop) (h : Shot f) : Shot (fun k => Go.Eng.ob gc p (f k)) := by
  cases gc with
  | none => exact ⟨fun k k' hk hf => ⟨hf.1, h.mono k k' hk hf.2⟩, fun k hf => by obtain ⟨x, h1, h2⟩ := h.shot k hf.2; exact ⟨x, h1, hf.1, h2⟩⟩
  | some c => exact ⟨fun k k' hk hf => ⟨hf.1, h.mono k k' hk hf.2⟩, fun k hf => by obtain ⟨x, h1, h2⟩ := h.shot k hf.2; exact ⟨x, h1, hf.1, h2⟩⟩
theorem Shot.ex {α ι : Type} {f : ι → (α → Prop) → Prop} (h : ∀ i, Shot (f i)) : Shot (fun k => ∃ i, f i k) :=
  ⟨fun k k' hk ⟨i, hf⟩ => ⟨i, (h i).mono k k' hk hf⟩, fun k ⟨i, hf⟩ => by obtain ⟨x, h1, h2⟩ := (h i).shot k hf; exact ⟨x, h1, i, h2⟩⟩
theorem Shot.or {α : Type} {f g : (α → Prop) → Prop} (hf : Shot f) (hg : Shot g) : Shot (fun k => f k ∨ g k) :=
  ⟨fun k k' hk h => h.imp (hf.mono k k' hk) (hg.mono k k' hk), fun k h => by
    rcases h with h | h
    · obtain ⟨x, h1, h2⟩ := hf.shot k h; exact ⟨x, h1, .inl h2⟩
    · obtain ⟨x, h1, h2⟩ := hg.shot k h; exact ⟨x, h1, .inr h2⟩⟩
theorem Shot.bind {α γ : Type} {f : (γ → Prop) → Prop} {g : γ → (α → Prop) → Prop} (hf : Shot f) (hg : ∀ y, Shot (g y)) : Shot (fun k => f fun y => g y k) :=
  ⟨fun k k' hk h => hf.mono _ _ (fun y => (hg y).mono k k' hk) h, fun k h => by
    obtain ⟨y, h1, h2⟩ := hf.shot _ h
    obtain ⟨x, h3, h4⟩ := (hg y).shot k h1
    exact ⟨x, h3, hf.mono _ _ (fun y' e => by subst e; exact h4) h2⟩⟩

theorem takeK_shot : ∀ (n : Nat) (l : List AV), Shot (takeK n l)
  | 0, _ => Shot.pure []
  | n + 1, a :: r => show Shot (fun k => takeK n r fun l => k (a :: l)) from Shot.bind (f := takeK n r) (g := fun l k => k (a :: l)) (takeK_shot n r) fun l => Shot.pure (a :: l)
  | _ + 1, [] => Shot.none
theorem dropTakeK_shot : ∀ (off n : Nat) (l : List AV), Shot (dropTakeK off n l)
  | 0, n, l => takeK_shot n l
  | off + 1, n, _ :: r => dropTakeK_shot off n r
  | _ + 1, _, [] => Shot.none
theorem dropK_shot : ∀ (off : Nat) (l : List AV), Shot (dropK off l)
  | 0, l => Shot.pure l
  | off + 1, _ :: r => dropK_shot off r
  | _ + 1, [] => Shot.none
theorem overK_shot : ∀ (off : Nat) (cs l : List AV), Shot (overK off cs l)
  | off, [], l => by
    have : overK off [] l = fun k => k l := by funext k; unfold overK; rfl
    rw [this]
    exact Shot.pure l
  | 0, c :: cs, _ :: r => show Shot (fun k => overK 0 cs r fun l => k (c :: l)) from Shot.bind (f := overK 0 cs r) (g := fun l k => k (c :: l)) (overK_shot 0 cs r) fun l => Shot.pure (c :: l)
  | off + 1, c :: cs, a :: r => show Shot (fun k => overK off (c :: cs) r fun l => k (a :: l)) from Shot.bind (f := overK off (c :: cs) r) (g := fun l k => k (a :: l)) (overK_shot off (c :: cs) r) fun l => Shot.pure (a :: l)
  | 0, _ :: _, [] => Shot.none
  | _ + 1, _ :: _, [] => Shot.none
theorem repK_shot (z : List AV) : ∀ n : Nat, Shot (repK z n)
  | 0 => Shot.pure []
  | n + 1 => show Shot (fun k => repK z n fun l => k (appL z l)) from Shot.bind (f := repK z n) (g := fun l k => k (appL z l)) (repK_shot z n) fun l => Shot.pure (appL z l)
theorem nthK_shot : ∀ (n : Nat) (l : List AV), Shot (nthK n l)
  | _, [] => by
    rename_i n
    have : nthK n [] = fun _ => False := by funext k; simp [nthK]
    rw [this]
    exact Shot.none
  | 0, a :: _ => Shot.pure a
  | n + 1, _ :: r => nthK_shot n r
theorem cellsK_shot (a : AV) : Shot (cellsK a) := by
  unfold cellsK
  cases a <;> simp only <;> first
    | (split <;> first | exact Shot.pure _ | exact Shot.none)
theorem packK_shot (agg : Bool) (l : List AV) : Shot (packK agg l) := by
  unfold packK
  cases agg with
  | true => exact Shot.pure _
  | false =>
    match l with
    | [] => exact Shot.none
    | [a] => exact Shot.pure a
    | _ :: _ :: _ => exact Shot.none
theorem extR (r : AV) : Shot (fun k : Eff → Prop => k (.ext [] r)) := Shot.pure _

section
variable {P : Program} {nid : Nat} {lk : Nat → Option AO} {gc : Option Prop} {T : List (Nat × TI)}

theorem packR_shot (agg : Bool) (l : List AV) : Shot (fun k : Eff → Prop => packK agg l fun r => k (.ext [] r)) := Shot.bind (packK_shot agg l) fun r => extR r
theorem loadA_shot (ti : TI) (a : AV) : Shot (loadA gc lk ti a) := by
  unfold loadA
  cases a <;> simp only <;> try exact Shot.none
  · rename_i id off
    cases lk id with
    | none => exact Shot.none
    | some o => cases o <;> first | exact Shot.none | exact Shot.bind (dropTakeK_shot _ _ _) fun l => packR_shot _ l
  · rename_i id sz idx off
    cases lk id with
    | none => exact Shot.none
    | some o =>
      cases o <;> simp only <;> try exact Shot.none
      split
      · exact Shot.ob _ _ (Shot.bind (dropTakeK_shot _ _ _) fun l => packR_shot _ l)
      · exact Shot.none
  · exact Shot.bind (dropTakeK_shot _ _ _) fun l => packR_shot _ l
theorem storeA_shot (ti : TI) (a b : AV) : Shot (storeA gc lk ti a b) := by
  unfold storeA
  refine Shot.bind (cellsK_shot b) fun cs => ?_
  split
  · exact Shot.none
  · cases a <;> simp only <;> try exact Shot.none
    · rename_i id off
      cases lk id with
      | none => exact Shot.none
      | some o => cases o <;> first | exact Shot.none | exact Shot.bind (overK_shot _ _ _) fun l => Shot.pure _
    · rename_i id sz idx off
      cases lk id with
      | none => exact Shot.none
      | some o =>
        cases o <;> simp only <;> try exact Shot.none
        split
        · exact Shot.ob _ _ (Shot.pure _)
        · exact Shot.none
theorem allocA_shot (e : TypeId) (a : AV) : Shot (allocA nid e a) :=
  show Shot (fun k => cellsK a fun cs => k (Eff.ext [.cells e cs] (.p nid 0))) from Shot.bind (f := cellsK a) (g := fun cs k => k (Eff.ext [.cells e cs] (.p nid 0))) (cellsK_shot a) fun _ => Shot.pure _
theorem fieldAddrA_shot (s f : Nat) (a : AV) : Shot (fieldAddrA T s f a) := by
  unfold fieldAddrA
  split
  · split
    · split
      · split
        · exact Shot.none
        · cases a <;> simp only <;> first | exact Shot.none | exact Shot.pure _ | exact Shot.bind (dropK_shot _ _) fun l => Shot.pure _
      · exact Shot.none
    · exact Shot.none
  · exact Shot.none
theorem fieldA_shot (s f : Nat) (a : AV) : Shot (fieldA T s f a) := by
  unfold fieldA
  split
  · split
    · split
      · exact Shot.bind (dropTakeK_shot _ _ _) fun l => packR_shot _ l
      · exact Shot.none
    · exact Shot.none
  · exact Shot.none
theorem indexAddrA_shot (t : Nat) (a b : AV) : Shot (indexAddrA gc T lk t a b) := by
  unfold indexAddrA
  repeat' (first | exact Shot.none | exact Shot.ob _ _ (Shot.pure _) | split)
theorem extractA_shot (j : Nat) (a : AV) : Shot (extractA j a) := by
  unfold extractA
  split
  · exact Shot.bind (nthK_shot _ _) fun r => extR r
  · exact Shot.none
theorem binA_shot (op : BinOp) (t : Nat) (a b : AV) : Shot (binA gc T lk op t a b) := by
  unfold binA
  repeat' (first | exact Shot.none | exact Shot.pure _ | exact Shot.ob _ _ (Shot.pure _) | split)
theorem unA_shot (op : UnOp) (a : AV) : Shot (unA op a) := by
  unfold unA
  repeat' (first | exact Shot.none | exact Shot.pure _ | split)
theorem convA_shot (s d : Nat) (a : AV) : Shot (convA T s d a) := by
  unfold convA
  repeat' (first | exact Shot.none | exact Shot.pure _ | split)
theorem nilCheckA_shot (a : AV) : Shot (nilCheckA a) := by
  unfold nilCheckA
  repeat' (first | exact Shot.none | exact Shot.pure _ | split)
theorem lenA_shot (t : Nat) (a : AV) : Shot (lenA T lk t a) := by
  unfold lenA
  repeat' (first | exact Shot.none | exact Shot.pure _ | split)
theorem maxA_shot (a b : AV) : Shot (maxA a b) := by
  unfold maxA
  repeat' (first | exact Shot.none | exact Shot.pure _ | split)
theorem minA_shot (a b : AV) : Shot (minA a b) := by
  unfold minA
  repeat' (first | exact Shot.none | exact Shot.pure _ | split)
theorem fillK_shot (pl : Nat → Option (Nat × Nat)) : ∀ (parts : List (Nat × AV)) (flat : List AV), Shot (fillK pl parts flat)
  | [], flat => Shot.pure flat
  | (i, a) :: r, flat => by
    have e : fillK pl ((i, a) :: r) flat = fun k => match pl i with
        | none => False
        | some (off, sz) => cellsK a fun cs => match cs with
          | [] => False
          | c :: cs => (match Nat.beq (c :: cs).length sz with
            | true => overK off (c :: cs) flat fun flat' => fillK pl r flat' k
            | false => False) := rfl
    rw [e]
    cases pl i with
    | none => exact Shot.none
    | some p =>
      obtain ⟨off, sz⟩ := p
      refine Shot.bind (f := cellsK a) (g := fun cs k => match cs with
          | [] => False
          | c :: cs => (match Nat.beq (c :: cs).length sz with
            | true => overK off (c :: cs) flat fun flat' => fillK pl r flat' k
            | false => False)) (cellsK_shot a) fun cs => ?_
      cases cs with
      | nil => exact Shot.none
      | cons c cs =>
        cases hb : Nat.beq (c :: cs).length sz with
        | false => simp only [hb]; exact Shot.none
        | true => simp only [hb]; exact Shot.bind (f := overK off (c :: cs) flat) (g := fun flat' k => fillK pl r flat' k) (overK_shot _ _ _) fun l => fillK_shot pl r l
theorem buildSliceA_shot (t n : Nat) (parts : List (Nat × AV)) : Shot (buildSliceA T nid t n parts) := by
  unfold buildSliceA
  split
  · split
    · split
      · split
        · refine Shot.bind (repK_shot _ _) fun z => Shot.bind (fillK_shot _ _ _) fun flat => ?_
          split
          · exact Shot.pure _
          · exact Shot.none
        · exact Shot.none
      · exact Shot.none
    · exact Shot.none
  · exact Shot.none
theorem buildA_shot (t : Nat) (parts : List (Nat × AV)) : Shot (buildA T t parts) := by
  unfold buildA
  split
  · split
    · exact Shot.bind (fillK_shot _ _ _) fun flat => Shot.pure _
    · exact Shot.none
  · exact Shot.none
theorem makeSliceA_shot (t : Nat) (a b : AV) : Shot (makeSliceA gc T nid t a b) := by
  unfold makeSliceA
  repeat' (first | exact Shot.none | exact Shot.ob _ _ (Shot.pure _) | split)
theorem srcK_shot (x : AV) (sz : Nat) : Shot (fun k : Nat × (Nat → List AV) → Prop => srcK lk x sz fun n g => k (n, g)) := by
  unfold srcK
  repeat' (first | exact Shot.none | exact Shot.pure _ | split)
theorem srcB {x : AV} {sz : Nat} {c : Nat → (Nat → List AV) → Prop} {e : Nat → (Nat → List AV) → Eff} : Shot (fun k : Eff → Prop => srcK lk x sz fun m g => ob gc (c m g) (k (e m g))) :=
  show Shot (fun k : Eff → Prop => srcK lk x sz fun m g => (fun (p : Nat × (Nat → List AV)) (k : Eff → Prop) => ob gc (c p.1 p.2) (k (e p.1 p.2))) (m, g) k) from
    Shot.bind (f := fun k : Nat × (Nat → List AV) → Prop => srcK lk x sz fun n g => k (n, g)) (g := fun p k => ob gc (c p.1 p.2) (k (e p.1 p.2))) (srcK_shot x sz) fun _ => Shot.ob _ _ (Shot.pure _)
theorem appendA_shot (t : Nat) (a b : AV) : Shot (appendA gc T lk nid t a b) := by
  unfold appendA
  split
  · split
    · split
      · split
        · split
          · split
            · split
              · exact srcB (c := fun m _ => _) (e := fun m g => _)
              · exact Shot.none
            · exact Shot.none
          · split
            · split
              · exact srcB (c := fun m _ => _) (e := fun m g => _)
              · exact Shot.none
            · exact Shot.none
          · split
            · exact srcB (c := fun m _ => _) (e := fun m g => _)
            · exact Shot.none
          · exact Shot.none
        · exact Shot.none
      · exact Shot.none
    · exact Shot.none
  · exact Shot.none
theorem subA_shot (t : Nat) (a : AV) (lo hi : Option AV) : Shot (subA gc T lk t a lo hi) := by
  unfold subA
  repeat' (first | exact Shot.none | exact Shot.ob _ _ (Shot.pure _) | split)
theorem views_shot : ∀ n : Nat, (∀ a : AV, Shot (viewK lk n a)) ∧ (∀ l : List AV, Shot (viewsK lk n l)) := by
  intro n
  induction n with
  | zero =>
    refine ⟨fun a => ?_, fun l => ?_⟩
    · cases a <;> simp only [viewK] <;> first | exact Shot.none | exact Shot.pure _
    · cases l with
      | nil => simp only [viewsK]; exact Shot.pure _
      | cons a r => simp only [viewsK]; exact Shot.none
  | succ n ih =>
    refine ⟨fun a => ?_, fun l => ?_⟩
    · cases a <;> simp only [viewK] <;> first
        | exact Shot.none
        | exact Shot.pure _
        | exact Shot.bind (ih.2 _) fun l => Shot.pure _
        | (rename_i id
           cases lk id with
           | none => exact Shot.none
           | some o => cases o <;> first | exact Shot.none | exact Shot.pure _)
        | (rename_i id _ _ _
           cases lk id with
           | none => exact Shot.none
           | some o =>
             cases o <;> simp only <;> first
               | exact Shot.none
               | (split
                  · exact Shot.pure _
                  · exact Shot.none))
        | (rename_i id off
           cases lk id with
           | none => exact Shot.none
           | some o => cases o <;> first | exact Shot.none | exact Shot.bind (ih.2 _) fun l => Shot.bind (dropK_shot _ _) fun l' => Shot.pure _)
    · cases l with
      | nil => simp only [viewsK]; exact Shot.pure _
      | cons a r =>
        simp only [viewsK]
        exact Shot.bind (ih.1 _) fun b => Shot.bind (ih.2 _) fun l => Shot.pure _
theorem mapK_shot (a : AV) : Shot (fun k : Nat × (Nat → AV) × (Nat → AV) → Prop => mapK lk a fun n x y => k (n, x, y)) := by
  unfold mapK
  repeat' (first | exact Shot.none | exact Shot.pure _ | split)
theorem mapB {a : AV} {f : Nat → (Nat → AV) → (Nat → AV) → (Eff → Prop) → Prop} (h : ∀ n x y, Shot (f n x y)) : Shot (fun k : Eff → Prop => mapK lk a fun n x y => f n x y k) :=
  show Shot (fun k : Eff → Prop => mapK lk a fun n x y => (fun (p : Nat × (Nat → AV) × (Nat → AV)) (k : Eff → Prop) => f p.1 p.2.1 p.2.2 k) (n, x, y) k) from
    Shot.bind (f := fun k : Nat × (Nat → AV) × (Nat → AV) → Prop => mapK lk a fun n x y => k (n, x, y)) (g := fun p k => f p.1 p.2.1 p.2.2 k) (mapK_shot a) fun p => h p.1 p.2.1 p.2.2
theorem lookupA_shot (t : Nat) (a b : AV) (ok : Bool) : Shot (lookupA gc T lk t a b ok) := by
  unfold lookupA
  split
  · split
    · split
      · refine mapB fun n x y => Shot.ex fun c => Shot.ex fun v => Shot.ob _ _ ?_
        cases ok <;> exact Shot.pure _
      · exact Shot.none
    · exact Shot.none
  · exact Shot.none
theorem updateA_shot (t : Nat) (a b c : AV) : Shot (updateA gc T lk t a b c) := by
  unfold updateA
  split
  · split
    · split
      · exact Shot.ex fun _ => Shot.ex fun _ => Shot.ex fun _ => Shot.ex fun _ => Shot.ex fun _ => Shot.ob _ _ (Shot.pure _)
      · exact Shot.none
    · exact Shot.none
  · exact Shot.none
theorem deleteA_shot (t : Nat) (a b : AV) : Shot (deleteA gc T lk t a b) := by
  unfold deleteA
  split
  · split
    · exact Shot.ex fun _ => Shot.ex fun _ => Shot.ex fun _ => Shot.ex fun _ => Shot.ob _ _ (Shot.pure _)
    · exact Shot.none
  · exact Shot.none
theorem rangeA_shot (t : Nat) (a : AV) : Shot (rangeA T lk nid t a) := by
  unfold rangeA
  repeat' (first | exact Shot.none | exact Shot.pure _ | split)
theorem entryA_shot (a : AV) : Shot (entryA gc lk a) := by
  unfold entryA
  split
  · split
    · exact Shot.pure _
    · split
      · exact Shot.ex fun _ => Shot.ob _ _ (Shot.pure _)
      · exact Shot.none
    · exact Shot.none
  · exact Shot.none
theorem clearA_shot (t : Nat) (a : AV) : Shot (clearA T lk t a) := by
  unfold clearA
  repeat' (first | exact Shot.none | exact Shot.pure _ | split)
theorem callA_shot (f : AV) (args : List AV) : Shot (callA P gc lk nid f args) := by
  unfold callA
  split
  · refine Shot.or (Shot.bind ((views_shot 60).2 _) fun vs => Shot.ex fun os => Shot.ex fun r => Shot.ob _ _ (Shot.pure _)) ?_
    split
    · exact Shot.ex fun r => Shot.ob _ _ (Shot.pure _)
    · exact Shot.none
  · exact Shot.none
theorem withA_shot (x : Option AV) : Shot (withA x) := by
  cases x with
  | none => exact Shot.none
  | some r => exact Shot.pure r
theorem evsK_shot (ev : Operand → Option AV) : ∀ l : List Operand, Shot (evsK ev l)
  | [] => Shot.pure []
  | x :: r => show Shot (fun k => withA (ev x) fun a => evsK ev r fun l => k (a :: l)) from
      Shot.bind (f := withA (ev x)) (g := fun a k => evsK ev r fun l => k (a :: l)) (withA_shot _) fun a => Shot.bind (f := evsK ev r) (g := fun l k => k (a :: l)) (evsK_shot ev r) fun l => Shot.pure (a :: l)
theorem evpK_shot (ev : Operand → Option AV) : ∀ l : List (Nat × Operand), Shot (evpK ev l)
  | [] => Shot.pure []
  | (i, x) :: r => show Shot (fun k => withA (ev x) fun a => evpK ev r fun l => k ((i, a) :: l)) from
      Shot.bind (f := withA (ev x)) (g := fun a k => evpK ev r fun l => k ((i, a) :: l)) (withA_shot _) fun a => Shot.bind (f := evpK ev r) (g := fun l k => k ((i, a) :: l)) (evpK_shot ev r) fun l => Shot.pure ((i, a) :: l)
theorem evoK_shot (ev : Operand → Option AV) (x : Option Operand) : Shot (evoK ev x) := by
  cases x with
  | none => exact Shot.pure _
  | some x => exact (show Shot (fun k => withA (ev x) fun a => k (some a)) from Shot.bind (f := withA (ev x)) (g := fun a k => k (some a)) (withA_shot _) fun a => Shot.pure _)
theorem pickA_shot (ev : Operand → Option AV) (evx : Nat → Bool → Operand → Option AV) (t : Nat) (x y : Operand) : Shot (pickA ev evx t x y) := by
  unfold pickA
  repeat' (first | exact Shot.none | exact Shot.pure _ | split)

theorem stepA_shot (ev : Operand → Option AV) (evx : Nat → Bool → Operand → Option AV) (op : Op) : Shot (stepA P T gc ev evx lk nid op) := by
  unfold stepA
  split
  · exact Shot.bind (withA_shot _) fun a => extR a
  · exact Shot.bind (withA_shot _) fun a => extR a
  · exact pickA_shot _ _ _ _ _
  · split
    · exact allocA_shot _ _
    · exact Shot.none
  · exact Shot.bind (withA_shot _) fun a => allocA_shot _ _
  · refine Shot.bind (withA_shot _) fun a => ?_
    split
    · exact loadA_shot _ _
    · exact Shot.none
  · refine Shot.bind (withA_shot _) fun a => Shot.bind (withA_shot _) fun b => ?_
    split
    · exact storeA_shot _ _ _
    · exact Shot.none
  · exact Shot.bind (withA_shot _) fun a => nilCheckA_shot _
  · exact Shot.bind (withA_shot _) fun a => Shot.bind (withA_shot _) fun b => binA_shot _ _ _ _
  · exact Shot.bind (withA_shot _) fun a => unA_shot _ _
  · exact Shot.bind (withA_shot _) fun a => convA_shot _ _ _
  · exact Shot.bind (withA_shot _) fun a => fieldAddrA_shot _ _ _
  · exact Shot.bind (withA_shot _) fun a => fieldA_shot _ _ _
  · exact Shot.bind (withA_shot _) fun a => Shot.bind (withA_shot _) fun b => indexAddrA_shot _ _ _
  · exact Shot.bind (withA_shot _) fun a => extractA_shot _ _
  · exact Shot.bind (evsK_shot _ _) fun l => extR _
  · exact Shot.bind (withA_shot _) fun a => Shot.bind (withA_shot _) fun b => makeSliceA_shot _ _ _
  · exact Shot.bind (withA_shot _) fun a => Shot.bind (evoK_shot _ _) fun l => Shot.bind (evoK_shot _ _) fun h => subA_shot _ _ _ _
  · exact Shot.bind (evpK_shot _ _) fun l => buildA_shot _ _
  · exact Shot.bind (evpK_shot _ _) fun l => buildSliceA_shot _ _ _
  · exact Shot.bind (withA_shot _) fun a => Shot.bind (evsK_shot _ _) fun l => callA_shot _ _
  · exact Shot.bind (withA_shot _) fun a => lenA_shot _ _
  · exact Shot.bind (withA_shot _) fun a => Shot.bind (withA_shot _) fun b => maxA_shot _ _
  · exact Shot.bind (withA_shot _) fun a => Shot.bind (withA_shot _) fun b => minA_shot _ _
  · split
    · exact Shot.bind (withA_shot _) fun a => Shot.bind (withA_shot _) fun b => appendA_shot _ _ _
    · exact Shot.none
  · exact Shot.pure _
  · exact Shot.bind (withA_shot _) fun a => Shot.bind (withA_shot _) fun b => lookupA_shot _ _ _ _
  · exact Shot.bind (withA_shot _) fun a => Shot.bind (withA_shot _) fun b => Shot.bind (withA_shot _) fun c => updateA_shot _ _ _ _
  · exact Shot.bind (withA_shot _) fun a => Shot.bind (withA_shot _) fun b => Shot.bind (withA_shot _) fun c => updateA_shot _ _ _ _
  · exact Shot.bind (withA_shot _) fun a => rangeA_shot _ _
  · exact Shot.bind (withA_shot _) fun a => entryA_shot _
  · exact Shot.bind (withA_shot _) fun a => Shot.bind (withA_shot _) fun b => deleteA_shot _ _ _
  · exact Shot.bind (withA_shot _) fun a => clearA_shot _ _
  · exact Shot.none
end
end Go.Eng
