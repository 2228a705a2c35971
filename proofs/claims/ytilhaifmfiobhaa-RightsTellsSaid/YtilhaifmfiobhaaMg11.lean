/-
  Several texts in one: Eng14, EngO, X1, X2, X3, X4, X5, X6, X8.
-/
import Derived.ProofKit
import Derived.Deep.Slices
import Derived.Deep.Fields
import Derived.ChangeSame
import Derived.Test.YtilhaifmfiobhaaMg10

section
/-
  The engine: from a function's walk to what its row says, where the law's result is true and nothing that was there is written.
-/
namespace Go.Eng
open Go.ChangeShapes Go.WideShapes Go.ChangeAt Go.RowKit Go.Deep

section
variable {H : Type} {enc : TypeId × Value → H} {P : Program}

theorem trodAll_below (hl : laidOutB P = true) {W W' : World} {sp : Nat → Bool} (hb : Below W.heap.size W W') : ∀ {ts : List TypeId} {vs : List Value} {ds : List (DataW H)} {ps : List MemPlace},
    ts.all (fun t => P.readableRec t && decide (t < P.types.size)) = true → DataW.TrodAll enc P W 0 (fun _ => true) true ts vs ds ps → (∀ x ∈ ps, sp x.block = true) → (∀ x ∈ ps, x.block < W.heap.size) →
    DataW.TrodAll enc P W' 0 sp true ts vs ds ps
  | [], vs, ds, ps, _, h, _, _ => by
    cases vs <;> cases ds <;> first | exact h | exact h.elim
  | t :: ts, vs, ds, ps, hts, h, hsp, hlt => by
    cases vs with
    | nil => cases ds <;> exact h.elim
    | cons v vs =>
      cases ds with
      | nil => exact h.elim
      | cons d ds =>
        obtain ⟨p, q, h1, h2, rfl⟩ := h
        simp only [List.all_cons, Bool.and_eq_true, decide_eq_true_eq] at hts
        exact ⟨p, q, WideElems.Trod_stays hl hts.1.1 hts.1.2 h1 (fun x hx => hb.same (hlt x (by simp [hx]))) (fun x hx => hsp x (by simp [hx])),
          trodAll_below hl hb (by simpa using hts.2) h2 (fun x hx => hsp x (by simp [hx])) (fun x hx => hlt x (by simp [hx])), rfl⟩

theorem post_true {f : Func} {s : ChangeSpec} {apart fresh handsOn : Bool} {W W' : World} {args : Array Value} {ds gs : List (DataW H)} {before : List MemPlace} {tb : TypeId}
    (hl : laidOutB P = true) (hts : f.params.toList.all (fun t => P.readableRec t && decide (t < P.types.size)) = true)
    (hW : DataW.Whole enc P f.params.toList s.vars apart W args.toList ds gs before) (hvars : s.vars = [])
    (hs : s.fn H (ds ++ gs) = { results := [.lit (.bool true)], args := ds }) (hres : f.resultTypes = #[tb]) (htb : P.underlying tb = some .bool) (hb : Below W.heap.size W W') :
    s.post enc P f apart fresh handsOn false W args (.bool true) W' := by
  have hlt : ∀ x ∈ before, x.block < W.heap.size := fun x hx => by simpa using hW.lt x hx
  have hW2 := hW
  obtain ⟨p, q, hA, hV, rfl, hfz, hnd⟩ := hW
  have hV0 := hV
  rw [hvars] at hV0
  obtain ⟨rfl, rfl⟩ := trodVars_none hV0
  have hargs : DataW.TrodAll enc P W' 0 (fun b => decide (b < W.heap.size)) true f.params.toList args.toList (s.fn H (ds ++ [])).args p := by
    rw [hs]
    exact trodAll_below hl hb hts hA (fun x hx => by simpa using hlt x (by simp [hx])) (fun x hx => hlt x (by simp [hx]))
  refine ⟨ds, [], p ++ [], [], p, [], hW2, ?_, hargs, ?_, Below.frame hb _, fun h => by cases h⟩
  · rw [hs, hres]
    exact trodAll_mk1 (shut_bool htb true)
  · rw [hs, hvars]
    exact rfl
end
end Go.Eng
end

section
/-
  The engine: a law's arguments, opened by their shape.
-/
namespace Go.Eng
open Go.ChangeShapes Go.WideShapes Go.ChangeAt Go.RowKit Go.Deep

/-- The shape of a type of numbers, truth values, texts, structs, and slices. -/
inductive Sh where
  | ki (k : IntKind)
  | kb
  | ks
  | kst (fs : List Sh)
  | ksl (e : Sh)

mutual
def Sh.sz : Sh → Nat
  | .kst fs => Sh.szs fs
  | _ => 1
def Sh.szs : List Sh → Nat
  | [] => 0
  | f :: r => Sh.sz f + Sh.szs r
end
mutual
def Sh.Val : Sh → Type
  | .ki _ => Int
  | .kb => Bool
  | .ks => ByteArray
  | .kst fs => Sh.Vals fs
  | .ksl e => List (Sh.Val e)
def Sh.Vals : List Sh → Type
  | [] => Unit
  | f :: r => Sh.Val f × Sh.Vals r
end
mutual
def Sh.dv : (s : Sh) → s.Val
  | .ki _ => (0 : Int)
  | .kb => false
  | .ks => ByteArray.empty
  | .kst fs => Sh.dvs fs
  | .ksl _ => []
def Sh.dvs : (l : List Sh) → Sh.Vals l
  | [] => ()
  | f :: r => (Sh.dv f, Sh.dvs r)
end
mutual
def Sh.av : (s : Sh) → s.Val → List AV
  | .ki k, n => [.i k n]
  | .kb, c => [.b c]
  | .ks, x => [.s x]
  | .kst fs, v => Sh.avs fs v
  | .ksl e, l => [.rs e.sz (List.length l) fun k => Sh.av e (List.getD l k e.dv)]
def Sh.avs : (l : List Sh) → Sh.Vals l → List AV
  | [], _ => []
  | f :: r, v => Sh.av f v.1 ++ Sh.avs r v.2
end
mutual
def Sh.wf : (s : Sh) → s.Val → Prop
  | .ki k, n => (Lit.int k n).wf = true
  | .kb, _ => True
  | .ks, x => ByteArray.size x ≤ maxLen
  | .kst fs, v => Sh.wfs fs v
  | .ksl e, l => List.length l ≤ maxLen ∧ ∀ x : Sh.Val e, List.Mem x l → Sh.wf e x
def Sh.wfs : (l : List Sh) → Sh.Vals l → Prop
  | [], _ => True
  | f :: r, v => Sh.wf f v.1 ∧ Sh.wfs r v.2
end
mutual
/-- The type t has this shape. -/
def ShOk (P : Program) : Sh → TypeId → Prop
  | .ki k, t => P.underlying t = some (.int k)
  | .kb, t => P.underlying t = some .bool
  | .ks, t => P.underlying t = some .string
  | .kst fs, t => ∃ fl : Array Field, P.underlying t = some (.struct fl) ∧ P.cellsOf t = Sh.szs fs ∧ ShOks P fs 0 fl.toList
  | .ksl e, t => ∃ te, P.underlying t = some (.slice te) ∧ P.cellsOf te = e.sz ∧ 0 < e.sz ∧ ShOk P e te
def ShOks (P : Program) : List Sh → Nat → List Field → Prop
  | [], _, [] => True
  | s :: r, off, f :: fr => f.offset = off ∧ P.cellsOf f.type = s.sz ∧ ShOk P s f.type ∧ ShOks P r (off + s.sz) fr
  | _, _, _ => False
end
mutual
def shB (P : Program) : Sh → TypeId → Bool
  | .ki k, t => (match P.underlying t with
    | some (.int k') => decide (k' = k)
    | _ => false)
  | .kb, t => (match P.underlying t with
    | some .bool => true
    | _ => false)
  | .ks, t => (match P.underlying t with
    | some .string => true
    | _ => false)
  | .kst fs, t => (match P.underlying t with
    | some (.struct fl) => Nat.beq (P.cellsOf t) (Sh.szs fs) && shBs P fs 0 fl.toList
    | _ => false)
  | .ksl e, t => (match P.underlying t with
    | some (.slice te) => Nat.beq (P.cellsOf te) e.sz && Nat.blt 0 e.sz && shB P e te
    | _ => false)
def shBs (P : Program) : List Sh → Nat → List Field → Bool
  | [], _, [] => true
  | s :: r, off, f :: fr => Nat.beq f.offset off && Nat.beq (P.cellsOf f.type) s.sz && shB P s f.type && shBs P r (off + s.sz) fr
  | _, _, _ => false
end

section
variable {P : Program}
mutual
theorem shB_ok : ∀ {s : Sh} {t : TypeId}, shB P s t = true → ShOk P s t
  | .ki k, t, h => by
    simp only [shB] at h
    split at h
    · rename_i e; simp only [ShOk]; rw [e]; rw [of_decide_eq_true h]
    · cases h
  | .kb, t, h => by
    simp only [shB] at h
    split at h
    · rename_i e; simp only [ShOk]; rw [e]
    · cases h
  | .ks, t, h => by
    simp only [shB] at h
    split at h
    · rename_i e; simp only [ShOk]; rw [e]
    · cases h
  | .kst fs, t, h => by
    simp only [shB] at h
    split at h
    · rename_i fl e
      simp only [Bool.and_eq_true] at h
      exact ⟨fl, e, Nat.eq_of_beq_eq_true h.1, shBs_ok h.2⟩
    · cases h
  | .ksl e, t, h => by
    simp only [shB] at h
    split at h
    · rename_i te he
      simp only [Bool.and_eq_true] at h
      exact ⟨te, he, Nat.eq_of_beq_eq_true h.1.1, by simpa [Nat.blt_eq] using h.1.2, shB_ok h.2⟩
    · cases h
theorem shBs_ok : ∀ {l : List Sh} {off : Nat} {fl : List Field}, shBs P l off fl = true → ShOks P l off fl
  | [], _, [], _ => trivial
  | s :: r, off, f :: fr, h => by
    simp only [shBs, Bool.and_eq_true] at h
    exact ⟨Nat.eq_of_beq_eq_true h.1.1.1, Nat.eq_of_beq_eq_true h.1.1.2, shB_ok h.1.2, shBs_ok h.2⟩
  | [], _, _ :: _, h => by simp [shBs] at h
  | _ :: _, _, [], h => by simp [shBs] at h
end

mutual
theorem Sh.av_length : ∀ (s : Sh) (v : s.Val), (Sh.av s v).length = s.sz
  | .ki k, n => rfl
  | .kb, c => rfl
  | .ks, x => rfl
  | .kst fs, v => by simp only [Sh.av, Sh.sz]; exact Sh.avs_length fs v
  | .ksl e, l => rfl
theorem Sh.avs_length : ∀ (l : List Sh) (v : Sh.Vals l), (Sh.avs l v).length = Sh.szs l
  | [], _ => rfl
  | f :: r, v => by simp only [Sh.avs, Sh.szs, List.length_append, Sh.av_length f v.1, Sh.avs_length r v.2]
end
/-- Cells as the shape has them. -/
def CellsAre (W : World) (as : List AV) (cs : List Value) : Prop := as.length = cs.length ∧ ∀ (j : Nat) a u, as[j]? = some a → cs[j]? = some u → Rep0 (fun _ => False) W a u ∧ u.oneCell' = true
theorem CellsAre.one {W : World} {a : AV} {u : Value} (h : Rep0 (fun _ => False) W a u) (h1 : u.oneCell' = true) : CellsAre W [a] [u] := by
  refine ⟨rfl, fun j a' u' ha hu => ?_⟩
  match j with
  | 0 => simp at ha hu; subst ha hu; exact ⟨h, h1⟩
  | j + 1 => simp at ha
theorem CellsAre.append {W : World} {as bs : List AV} {cs ds : List Value} (h : CellsAre W as cs) (g : CellsAre W bs ds) : CellsAre W (as ++ bs) (cs ++ ds) := by
  refine ⟨by simp [h.1, g.1], fun j a u ha hu => ?_⟩
  by_cases hj : j < as.length
  · rw [List.getElem?_append_left hj] at ha
    rw [List.getElem?_append_left (by rw [← h.1]; exact hj)] at hu
    exact h.2 j a u ha hu
  · rw [List.getElem?_append_right (by omega)] at ha
    rw [List.getElem?_append_right (by rw [← h.1]; omega), ← h.1] at hu
    exact g.2 _ a u ha hu

variable {H : Type} {enc : TypeId × Value → H} {W : World}

theorem cell_lt {a : Addr} {v : Value} (h : W.cell? a = some v) : a.block < W.heap.size := by
  unfold World.cell? at h
  split at h
  · rename_i hh; exact (Array.getElem?_eq_some_iff.1 hh).1
  · cases h

/-- A slice opened, where its elements can be. -/
theorem open_sl {e : Sh} {t te : TypeId} {fuel : Nat} {cs : List Value} {x : DataW H × List MemPlace} (ht : P.underlying t = some (.slice te)) (hc : P.cellsOf te = e.sz) (h0 : 0 < e.sz)
    (he : ∀ n cs y, DataW.trod enc P W 0 (fun _ => true) true n te cs = some y → ∃ v : e.Val, e.wf v ∧ CellsAre W (e.av v) cs)
    (h : DataW.trod enc P W 0 (fun _ => true) true fuel t cs = some x) :
    ∃ l : List e.Val, (l.length ≤ maxLen ∧ ∀ z ∈ l, e.wf z) ∧ CellsAre W [.rs e.sz l.length fun k => e.av (l.getD k e.dv)] cs ∧ (l = [] ∨ ∃ el sp, x.1 = .slice el sp ∧ l.length = el.length) := by
  rcases open_slice ht h with ⟨rfl, rfl⟩ | ⟨a, len, cap, m, n, D, Pl, rfl, _, hl, hm, hmm, rfl, hi⟩
  · exact ⟨[], ⟨Nat.zero_le _, fun z hz => by cases hz⟩, CellsAre.one (.rsnil _ _) rfl, .inl rfl⟩
  · simp only [if_true] at hmm
    have hmm := hmm.symm
    subst hmm
    by_cases hcap : cap = 0
    · subst hcap
      obtain rfl : len = 0 := by omega
      exact ⟨[], ⟨Nat.zero_le _, fun z hz => by cases hz⟩, CellsAre.one (.rsz _ _ a) rfl, .inl rfl⟩
    obtain ⟨ab, ao, asp⟩ := a
    have hplain : asp = none ∧ ab < W.heap.size := by
      obtain ⟨cs', hcs, _⟩ := hi 0 (by omega)
      rw [hc] at hcs
      obtain ⟨_, hcl, hat⟩ := World.cells?_some hcs
      have h1 := hat 0 h0
      have h2 : (cs'[0]?) = some (cs'[0]'(by omega)) := List.getElem?_eq_getElem _
      rw [h2] at h1
      have h3 := World.cell?_spot h1
      have h4 := cell_lt h1
      simp [Addr.add] at h3 h4
      exact ⟨h3, h4⟩
    obtain ⟨rfl, hlt⟩ := hplain
    have hex : ∀ i, i < len → ∃ v : e.Val, e.wf v ∧ ∀ j, j < e.sz → ∃ u, W.cell? ⟨ab, ao + i * e.sz + j, none⟩ = some u ∧ u.oneCell' = true ∧ ∀ a, (e.av v)[j]? = some a → Rep0 (fun _ => False) W a u := by
      intro i hil
      obtain ⟨cs', hcs, htr⟩ := hi i (by omega)
      rw [hc] at hcs
      obtain ⟨_, hcl, hat⟩ := World.cells?_some hcs
      obtain ⟨v, hw, hca⟩ := he _ _ _ htr
      refine ⟨v, hw, fun j hj => ?_⟩
      have h1 := hat j hj
      have h2 : (cs'[j]?) = some (cs'[j]'(by omega)) := List.getElem?_eq_getElem _
      have hj' : j < (e.av v).length := by rw [hca.1]; omega
      have h5 := hca.2 j _ _ (List.getElem?_eq_getElem hj') h2
      refine ⟨cs'[j]'(by omega), ?_, h5.2, fun a ha => ?_⟩
      · rw [h2, Go.Deep.add_add] at h1
        rw [← h1]
        congr 1
        unfold Addr.add
        split
        · rename_i h0
          have h1 : i * e.sz = 0 := by omega
          have h2 : j = 0 := by omega
          rw [h1, h2]
          rfl
        · simp [Nat.add_assoc]
      · rw [List.getElem?_eq_getElem hj'] at ha
        obtain rfl := Option.some.inj ha
        exact h5.1
    let F : Nat → e.Val := fun i => if hi : i < len then Classical.choose (hex i hi) else e.dv
    have hF : ∀ i, i < len → e.wf (F i) ∧ ∀ j, j < e.sz → ∃ u, W.cell? ⟨ab, ao + i * e.sz + j, none⟩ = some u ∧ u.oneCell' = true ∧ ∀ a, (e.av (F i))[j]? = some a → Rep0 (fun _ => False) W a u := by
      intro i hi
      have : F i = Classical.choose (hex i hi) := by simp only [F, dif_pos hi]
      rw [this]
      exact Classical.choose_spec (hex i hi)
    have hlen : ((List.range len).map F).length = len := by simp
    have hget : ∀ k, k < len → ((List.range len).map F).getD k e.dv = F k := fun k hk => by
      simp [List.getD, hk]
    refine ⟨(List.range len).map F, ⟨by rw [hlen]; omega, fun z hz => ?_⟩, CellsAre.one ?_ rfl, .inr ⟨_, _, rfl, by simp⟩⟩
    · simp only [List.mem_map, List.mem_range] at hz
      obtain ⟨i, hi, rfl⟩ := hz
      exact (hF i hi).1
    rw [hlen]
    refine .rs e.sz len _ ab ao cap (fun k j => (W.cell? ⟨ab, ao + k * e.sz + j, none⟩).getD (.bool false)) hl hm (fun h => h) hlt (fun k _ => Sh.av_length _ _) (fun k j hk hj => ?_) (fun k j hk hj => ?_) (fun k j hk hj => ?_)
    · obtain ⟨u, hu, _⟩ := (hF k hk).2 j hj
      rw [hu]; rfl
    · obtain ⟨u, hu, h1, _⟩ := (hF k hk).2 j hj
      rw [hu]; exact h1
    · have hj' : j < e.sz := by rw [Sh.av_length] at hj; exact hj
      obtain ⟨u, hu, _, h1⟩ := (hF k hk).2 j hj'
      rw [hu]
      refine h1 _ ?_
      rw [← hget k hk]
      exact List.getElem?_eq_getElem hj

mutual
theorem open_sh : ∀ {s : Sh} {t : TypeId}, ShOk P s t → ∀ {fuel : Nat} {cs : List Value} {x : DataW H × List MemPlace}, DataW.trod enc P W 0 (fun _ => true) true fuel t cs = some x → ∃ v : s.Val, s.wf v ∧ CellsAre W (s.av v) cs
  | .ki k, t, ht, fuel, cs, x, h => by
    obtain ⟨z, rfl, _, hw⟩ := DataW.trod_int ht h
    exact ⟨z, hw, CellsAre.one (.i _ _) rfl⟩
  | .kb, t, ht, fuel, cs, x, h => by
    obtain ⟨z, rfl, _⟩ := DataW.trod_bool ht h
    exact ⟨z, trivial, CellsAre.one (.b _) rfl⟩
  | .ks, t, ht, fuel, cs, x, h => by
    obtain ⟨z, rfl, _, hw⟩ := DataW.trod_string ht h
    exact ⟨z, hw, CellsAre.one (.s _) rfl⟩
  | .kst fs, t, ⟨fl, ht, hsz, hfs⟩, fuel, cs, x, h => by
    obtain ⟨ys, n, _, _, hl, hlen, hg⟩ := DataW.trod_struct ht h
    have hall : ∀ f ∈ fl.toList, ∃ y, DataW.trod enc P W 0 (fun _ => true) true n f.type ((cs.drop f.offset).take (P.cellsOf f.type)) = some y := by
      intro f hf
      obtain ⟨i, hi, rfl⟩ := List.getElem_of_mem hf
      have hi2 : i < fl.size := by simpa using hi
      have h1 := hg i fl[i] (Array.getElem?_eq_getElem hi2)
      rw [List.getElem?_eq_getElem (by omega)] at h1
      exact ⟨_, h1⟩
    obtain ⟨v, hw, hc⟩ := open_shs hfs hall (by rw [hl, hsz]; simp)
    refine ⟨v, hw, ?_⟩
    have e : (cs.drop 0).take (Sh.szs fs) = cs := by
      rw [← hsz, ← hl]
      simp
    rw [e] at hc
    exact hc
  | .ksl e, t, ⟨te, ht, hc, h0, hte⟩, fuel, cs, x, h => by
    obtain ⟨l, hw, hca, _⟩ := open_sl ht hc h0 (fun n cs y hy => open_sh hte hy) h
    exact ⟨l, hw, hca⟩
theorem open_shs : ∀ {l : List Sh} {off : Nat} {fl : List Field}, ShOks P l off fl → ∀ {n : Nat} {cs : List Value},
    (∀ f ∈ fl, ∃ y, DataW.trod enc P W 0 (fun _ => true) true n f.type ((cs.drop f.offset).take (P.cellsOf f.type)) = some y) → off + Sh.szs l ≤ cs.length →
    ∃ v : Sh.Vals l, Sh.wfs l v ∧ CellsAre W (Sh.avs l v) ((cs.drop off).take (Sh.szs l))
  | [], off, [], _, n, cs, _, _ => ⟨(), trivial, by simp only [Sh.avs, Sh.szs, List.take_zero]; exact ⟨rfl, fun j a u ha => by simp at ha⟩⟩
  | s :: r, off, f :: fr, ⟨ho, hc, hs, hr⟩, n, cs, hall, hle => by
    simp only [Sh.szs] at hle
    obtain ⟨y, hy⟩ := hall f (by simp)
    rw [ho, hc] at hy
    obtain ⟨v1, hw1, hc1⟩ := open_sh hs hy
    obtain ⟨v2, hw2, hc2⟩ := open_shs hr (fun f hf => hall f (by simp [hf])) (by omega)
    refine ⟨(v1, v2), ⟨hw1, hw2⟩, ?_⟩
    have e : (cs.drop off).take (Sh.szs (s :: r)) = (cs.drop off).take s.sz ++ (cs.drop (off + s.sz)).take (Sh.szs r) := by
      simp only [Sh.szs]
      rw [List.take_add, List.drop_drop]
    rw [e]
    exact hc1.append hc2
  | [], _, _ :: _, h, _, _, _, _ => h.elim
  | _ :: _, _, [], h, _, _, _, _ => h.elim
end

/-! ### a law's arguments, all at once -/
def Sh.top : (s : Sh) → s.Val → AV
  | .ki k, n => .i k n
  | .kb, c => .b c
  | .ks, x => .s x
  | .kst fs, v => .ag (Sh.avs fs v)
  | .ksl e, l => .rs e.sz (List.length l) fun k => Sh.av e (List.getD l k e.dv)
def Sh.tops : (l : List Sh) → Sh.Vals l → List AV
  | [], _ => []
  | f :: r, v => Sh.top f v.1 :: Sh.tops r v.2
def ShAll (P : Program) : List Sh → List TypeId → Prop
  | [], [] => True
  | s :: r, t :: tr => ShOk P s t ∧ ShAll P r tr
  | _, _ => False
def shAllB (P : Program) : List Sh → List TypeId → Bool
  | [], [] => true
  | s :: r, t :: tr => shB P s t && shAllB P r tr
  | _, _ => false
theorem shAll_ok : ∀ {l : List Sh} {ts : List TypeId}, shAllB P l ts = true → ShAll P l ts
  | [], [], _ => trivial
  | s :: r, t :: tr, h => by
    simp only [shAllB, Bool.and_eq_true] at h
    exact ⟨shB_ok h.1, shAll_ok h.2⟩
  | [], _ :: _, h => by simp [shAllB] at h
  | _ :: _, [], h => by simp [shAllB] at h

theorem single_cells {v : Value} {u : Value} (h : v.cells.toList = [u]) (hn : ∀ cs, v ≠ .agg cs) : v = u := by
  cases v <;> simp [Value.cells] at h <;> first | exact h | exact (hn _ rfl).elim

def flatD : TypeDesc → Bool
  | .int _ => true
  | .bool => true
  | .string => true
  | .slice _ => true
  | _ => false
theorem not_agg {t : TypeId} {td : TypeDesc} {base : Nat} {v : Value} (ht : P.underlying t = some td) (hd : flatD td = true) (hv : Value.okWide P W .any base t v) : ∀ cs, v ≠ .agg cs := by
  rintro cs rfl
  unfold Value.okWide at hv
  rw [ht] at hv
  cases td <;> first
    | (cases hd; done)
    | (dsimp only at hv
       unfold Cell.okWide at hv
       rw [ht] at hv
       dsimp only at hv
       unfold Cell.ok at hv
       rw [ht] at hv
       exact hv)

theorem open_top {s : Sh} {t : TypeId} {base : Nat} {v : Value} {d : DataW H} {p : List MemPlace} (ht : ShOk P s t) (hv : Value.okWide P W .any base t v) (h : DataW.Trod enc P W 0 (fun _ => true) true t v d p) :
    ∃ x : s.Val, s.wf x ∧ Rep0 (fun _ => False) W (s.top x) v := by
  obtain ⟨fuel, h⟩ := h
  obtain ⟨x, hw, hc⟩ := open_sh ht h
  refine ⟨x, hw, ?_⟩
  have one : ∀ {a : AV}, CellsAre W [a] v.cells.toList → (∀ cs, v ≠ .agg cs) → Rep0 (fun _ => False) W a v := by
    intro a hca hn
    obtain ⟨u, hu⟩ : ∃ u, v.cells.toList = [u] := by
      have := hca.1
      generalize v.cells.toList = l at this
      match l, this with
      | [u], _ => exact ⟨u, rfl⟩
    rw [single_cells hu hn]
    exact (hca.2 0 a u rfl (by rw [hu]; rfl)).1
  cases s with
  | ki k => exact one hc (not_agg (show P.underlying t = some _ from ht) rfl hv)
  | kb => exact one hc (not_agg (show P.underlying t = some _ from ht) rfl hv)
  | ks => exact one hc (not_agg (show P.underlying t = some _ from ht) rfl hv)
  | ksl e =>
    obtain ⟨te, ht, _⟩ := ht
    exact one hc (not_agg ht rfl hv)
  | kst fs =>
    obtain ⟨fl, ht, hsz, hfs⟩ := ht
    unfold Value.okWide at hv
    rw [ht] at hv
    obtain ⟨cs, rfl, _⟩ := hv
    have hc' : CellsAre W (Sh.avs fs x) cs.toList := hc
    have e : Value.agg cs = .agg cs.toList.toArray := by simp
    rw [e]
    exact .ag _ cs.toList hc'.1 fun j h1 h2 => (hc'.2 j _ _ (List.getElem?_eq_getElem h1) (List.getElem?_eq_getElem h2)).1

theorem open_all : ∀ {l : List Sh} {ts : List TypeId} {vs : List Value} {ds : List (DataW H)} {p : List MemPlace} {base : Nat}, ShAll P l ts → (∀ (j : Nat) t v, ts[j]? = some t → vs[j]? = some v → Value.okWide P W .any base t v) →
    DataW.TrodAll enc P W 0 (fun _ => true) true ts vs ds p →
    ∃ x : Sh.Vals l, Sh.wfs l x ∧ ds.length = l.length ∧ (Sh.tops l x).length = vs.length ∧ ∀ (j : Nat) (h1 : j < (Sh.tops l x).length) (h2 : j < vs.length), Rep0 (fun _ => False) W (Sh.tops l x)[j] vs[j]
  | [], [], vs, ds, p, base, _, _, h => by
    obtain ⟨rfl, rfl, rfl⟩ := trodAll_nil h
    exact ⟨(), trivial, rfl, rfl, fun j h1 => by simp [Sh.tops] at h1⟩
  | s :: r, t :: tr, vs, ds, p, base, ⟨hs, hr⟩, hv, h => by
    obtain ⟨v0, vs0, d0, ds0, p0, q0, rfl, rfl, rfl, h0, hA⟩ := trodAll_cons h
    obtain ⟨x0, hw0, hr0⟩ := open_top hs (hv 0 t v0 rfl rfl) h0
    obtain ⟨x1, hw1, hd1, hl1, hr1⟩ := open_all hr (fun j t v h1 h2 => hv (j + 1) t v (by simpa using h1) (by simpa using h2)) hA
    refine ⟨(x0, x1), ⟨hw0, hw1⟩, by simp [hd1], by simp [Sh.tops, hl1], fun j h1 h2 => ?_⟩
    cases j with
    | zero => exact hr0
    | succ j => exact hr1 j (by simpa [Sh.tops] using h1) (by simpa using h2)
  | [], _ :: _, _, _, _, _, h, _, _ => h.elim
  | _ :: _, [], _, _, _, _, h, _, _ => h.elim
end

/-- The slice of a shape's values, in words of one's own. -/
theorem map_rs (e : Sh) {α : Type} (of : e.Val → α) (rows : α → List AV) (d : α) (h : ∀ v, rows (of v) = e.av v) (l : List e.Val) {n : Nat} (hn : n = (l.map of).length) :
    AVEq (.rs e.sz n fun k => rows ((l.map of).getD k d)) (.rs e.sz l.length fun k => e.av (l.getD k e.dv)) := by
  subst hn
  refine ⟨rfl, by simp, fun k hk => ?_⟩
  have hk' : k < l.length := by simpa using hk
  have e1 : (l.map of).getD k d = of (l.getD k e.dv) := by simp [List.getD, hk']
  show e.av (l.getD k e.dv) = rows ((l.map of).getD k d)
  rw [e1, h]
end Go.Eng
end

section
/-
  Clauses of two literals: what they imply, closed sets, and the first assignment; plain Lean, no program in sight.
-/
namespace Go.Proofs.Ytilhaifmfiobhaa

structure Cl where
  a : Int
  b : Int
def dC : Cl := ⟨0, 0⟩
def opp (x : Int) : Int := x + 1 - 2 * (x % 2)
theorem opp_opp (x : Int) : opp (opp x) = x := by unfold opp; omega
theorem opp_in {x n : Int} (h : 0 ≤ x ∧ x < 2 * n) : 0 ≤ opp x ∧ opp x < 2 * n := by unfold opp; omega
theorem opp_even (v : Int) : opp (2 * v) = 2 * v + 1 := by unfold opp; omega
theorem opp_odd (v : Int) : opp (2 * v + 1) = 2 * v := by unfold opp; omega

/-- The truth of a literal. -/
def tv (vals : List Bool) (x : Int) : Bool := vals.getD (x / 2).toNat false == decide (x % 2 = 0)
theorem tv_opp (vals : List Bool) (x : Int) : tv vals (opp x) = !tv vals x := by
  have h1 : opp x / 2 = x / 2 := by unfold opp; omega
  have h2 : decide (opp x % 2 = 0) = !decide (x % 2 = 0) := by
    by_cases h : x % 2 = 0
    · rw [decide_eq_true h, decide_eq_false (by unfold opp; omega)]; rfl
    · rw [decide_eq_false h, decide_eq_true (by unfold opp; omega)]; rfl
  unfold tv
  rw [h1, h2]
  generalize vals.getD (x / 2).toNat false = p
  generalize decide (x % 2 = 0) = q
  cases p <;> cases q <;> rfl
theorem tv_even (vals : List Bool) (v : Nat) : tv vals (2 * (v : Int)) = vals.getD v false := by
  unfold tv
  have h1 : ((2 * (v : Int)) / 2).toNat = v := by omega
  rw [h1, decide_eq_true (by omega)]
  cases vals.getD v false <;> rfl
theorem tv_odd (vals : List Bool) (v : Nat) : tv vals (2 * (v : Int) + 1) = !vals.getD v false := by
  rw [← opp_even, tv_opp, tv_even]

def SatV (l : List Cl) (vals : List Bool) : Prop := ∀ c ∈ l, tv vals c.a = true ∨ tv vals c.b = true
def RightC (n : Int) (l : List Cl) : Prop := ∀ c ∈ l, (0 ≤ c.a ∧ c.a < 2 * n) ∧ (0 ≤ c.b ∧ c.b < 2 * n)

/-- What a literal implies, in the order in which the clauses say it. -/
def succL (l : List Cl) (x : Int) : List Int := l.flatMap fun c => (if opp c.a = x then [c.b] else []) ++ (if opp c.b = x then [c.a] else [])
def Ed (l : List Cl) (x y : Int) : Prop := y ∈ succL l x
theorem Ed_iff {l : List Cl} {x y : Int} : Ed l x y ↔ ∃ c ∈ l, (opp c.a = x ∧ y = c.b) ∨ (opp c.b = x ∧ y = c.a) := by
  unfold Ed succL
  rw [List.mem_flatMap]
  constructor
  · rintro ⟨c, hc, h⟩
    refine ⟨c, hc, ?_⟩
    rcases List.mem_append.1 h with h | h
    · split at h
      · rename_i e; exact .inl ⟨e, by simpa using h⟩
      · simp at h
    · split at h
      · rename_i e; exact .inr ⟨e, by simpa using h⟩
      · simp at h
  · rintro ⟨c, hc, ⟨e, rfl⟩ | ⟨e, rfl⟩⟩
    · exact ⟨c, hc, List.mem_append.2 (.inl (by rw [if_pos e]; simp))⟩
    · exact ⟨c, hc, List.mem_append.2 (.inr (by rw [if_pos e]; simp))⟩
theorem Ed.contra {l : List Cl} {x y : Int} (h : Ed l x y) : Ed l (opp y) (opp x) := by
  obtain ⟨c, hc, ⟨e, rfl⟩ | ⟨e, rfl⟩⟩ := Ed_iff.1 h
  · exact Ed_iff.2 ⟨c, hc, .inr ⟨rfl, by rw [← e, opp_opp]⟩⟩
  · exact Ed_iff.2 ⟨c, hc, .inl ⟨rfl, by rw [← e, opp_opp]⟩⟩
theorem Ed.ok {n : Int} {l : List Cl} (hl : RightC n l) {x y : Int} (h : Ed l x y) : (0 ≤ x ∧ x < 2 * n) ∧ (0 ≤ y ∧ y < 2 * n) := by
  obtain ⟨c, hc, ⟨rfl, rfl⟩ | ⟨rfl, rfl⟩⟩ := Ed_iff.1 h
  · exact ⟨opp_in (hl c hc).1, (hl c hc).2⟩
  · exact ⟨opp_in (hl c hc).2, (hl c hc).1⟩
theorem Ed.tru {l : List Cl} {vals : List Bool} (hs : SatV l vals) {x y : Int} (h : Ed l x y) (hx : tv vals x = true) : tv vals y = true := by
  obtain ⟨c, hc, ⟨rfl, rfl⟩ | ⟨rfl, rfl⟩⟩ := Ed_iff.1 h
  · rw [tv_opp] at hx
    rcases hs c hc with h | h
    · rw [h] at hx; cases hx
    · exact h
  · rw [tv_opp] at hx
    rcases hs c hc with h | h
    · exact h
    · rw [h] at hx; cases hx
/-- Each clause is one if what it implies is kept. -/
theorem SatV.of_ed {l : List Cl} {vals : List Bool} (h : ∀ x y, Ed l x y → tv vals x = true → tv vals y = true) : SatV l vals := by
  intro c hc
  cases ha : tv vals c.a with
  | true => exact .inl rfl
  | false => exact .inr (h (opp c.a) c.b (Ed_iff.2 ⟨c, hc, .inl ⟨rfl, rfl⟩⟩) (by rw [tv_opp, ha]; rfl))

inductive Rc (l : List Cl) : Int → Int → Prop
  | refl (x : Int) : Rc l x x
  | step {x y z : Int} (h : Rc l x y) (e : Ed l y z) : Rc l x z
theorem Rc.trans {l : List Cl} {x y z : Int} (h1 : Rc l x y) (h2 : Rc l y z) : Rc l x z := by
  induction h2 with
  | refl => exact h1
  | step _ e ih => exact .step ih e
theorem Rc.contra {l : List Cl} {x y : Int} (h : Rc l x y) : Rc l (opp y) (opp x) := by
  induction h with
  | refl => exact .refl _
  | step _ e ih => exact Rc.trans (.step (.refl _) e.contra) ih
theorem Rc.tru {l : List Cl} {vals : List Bool} (hs : SatV l vals) {x y : Int} (h : Rc l x y) (hx : tv vals x = true) : tv vals y = true := by
  induction h with
  | refl => exact hx
  | step _ e ih => exact e.tru hs ih

/-! ### closed sets -/
def Clo (l : List Cl) (S : List Int) : Prop := ∀ x ∈ S, ∀ y, Ed l x y → y ∈ S
def Con (S : List Int) : Prop := ∀ x ∈ S, opp x ∉ S
theorem Clo.rc {l : List Cl} {S : List Int} (h : Clo l S) {x y : Int} (hr : Rc l x y) (hx : x ∈ S) : y ∈ S := by
  induction hr with
  | refl => exact hx
  | step _ e ih => exact h _ ih _ e
/-- T is S with all that the roots imply. -/
structure Adds (l : List Cl) (S T roots : List Int) : Prop where
  sub : ∀ x ∈ S, x ∈ T
  root : ∀ x ∈ roots, x ∈ T
  cl : ∀ x ∈ T, x ∉ S → ∀ y, Ed l x y → y ∈ T
  fr : ∀ x ∈ T, x ∉ S → ∃ r ∈ roots, Rc l r x
/-- Something new is there with its opposite. -/
def Clash (S T : List Int) : Prop := ∃ x ∈ T, x ∉ S ∧ opp x ∈ T
theorem Adds.refl (l : List Cl) (S : List Int) : Adds l S S [] := ⟨fun _ h => h, fun x h => by simp at h, fun x h hn => absurd h hn, fun x h hn => absurd h hn⟩
theorem not_clash_self (S : List Int) : ¬ Clash S S := fun ⟨_, h, hn, _⟩ => hn h
theorem Adds.trans {l : List Cl} {S T U r1 r2 : List Int} (h1 : Adds l S T r1) (h2 : Adds l T U r2) : Adds l S U (r1 ++ r2) := by
  refine ⟨fun x h => h2.sub x (h1.sub x h), fun x h => ?_, fun x hx hn y e => ?_, fun x hx hn => ?_⟩
  · rcases List.mem_append.1 h with h | h
    · exact h2.sub x (h1.root x h)
    · exact h2.root x h
  · by_cases hT : x ∈ T
    · exact h2.sub y (h1.cl x hT hn y e)
    · exact h2.cl x hx hT y e
  · by_cases hT : x ∈ T
    · obtain ⟨r, hr, h⟩ := h1.fr x hT hn
      exact ⟨r, List.mem_append.2 (.inl hr), h⟩
    · obtain ⟨r, hr, h⟩ := h2.fr x hx hT
      exact ⟨r, List.mem_append.2 (.inr hr), h⟩
theorem clash_trans {S T U : List Int} (h1 : ∀ x ∈ S, x ∈ T) (h2 : ∀ x ∈ T, x ∈ U) : Clash S U ↔ Clash S T ∨ Clash T U := by
  constructor
  · rintro ⟨x, hx, hn, ho⟩
    by_cases hT : x ∈ T
    · by_cases hoT : opp x ∈ T
      · exact .inl ⟨x, hT, hn, hoT⟩
      · exact .inr ⟨opp x, ho, hoT, by rw [opp_opp]; exact hx⟩
    · exact .inr ⟨x, hx, hT, ho⟩
  · rintro (⟨x, hx, hn, ho⟩ | ⟨x, hx, hn, ho⟩)
    · exact ⟨x, h2 x hx, hn, h2 _ ho⟩
    · exact ⟨x, hx, fun h => hn (h1 x h), ho⟩
theorem Adds.clo {l : List Cl} {S T r : List Int} (h : Adds l S T r) (hS : Clo l S) : Clo l T := by
  intro x hx y e
  by_cases hn : x ∈ S
  · exact h.sub y (hS x hn y e)
  · exact h.cl x hx hn y e
theorem Adds.con {l : List Cl} {S T r : List Int} (_h : Adds l S T r) (hS : Con S) (hc : ¬ Clash S T) : Con T := by
  intro x hx ho
  by_cases hn : x ∈ S
  · by_cases hno : opp x ∈ S
    · exact hS x hn hno
    · exact hc ⟨opp x, ho, hno, by rw [opp_opp]; exact hx⟩
  · exact hc ⟨x, hx, hn, ho⟩
theorem Adds.tru {l : List Cl} {S T r : List Int} (h : Adds l S T r) {vals : List Bool} (hs : SatV l vals) (hS : ∀ x ∈ S, tv vals x = true) (hr : ∀ x ∈ r, tv vals x = true) : ∀ x ∈ T, tv vals x = true := by
  intro x hx
  by_cases hn : x ∈ S
  · exact hS x hn
  · obtain ⟨q, hq, hrc⟩ := h.fr x hx hn
    exact hrc.tru hs (hr q hq)
theorem Adds.no {l : List Cl} {S T r : List Int} (h : Adds l S T r) (hc : Clash S T) {vals : List Bool} (hs : SatV l vals) (hS : ∀ x ∈ S, tv vals x = true) (hr : ∀ x ∈ r, tv vals x = true) : False := by
  obtain ⟨x, hx, _, ho⟩ := hc
  have h1 := h.tru hs hS hr x hx
  have h2 := h.tru hs hS hr _ ho
  rw [tv_opp, h1] at h2
  cases h2
/-- Where one literal more makes a closed set clash, the literal leads to its opposite. -/
theorem Adds.back {l : List Cl} {S T : List Int} {r : Int} (h : Adds l S T [r]) (hc : Clash S T) (hS : Clo l S) (hn : opp r ∉ S) : Rc l r (opp r) := by
  obtain ⟨x, hx, hxn, ho⟩ := hc
  obtain ⟨q0, hq0, h1⟩ := h.fr x hx hxn
  have hq0 : q0 = r := by simpa using hq0
  subst hq0
  by_cases hos : opp x ∈ S
  · have := h1.contra
    exact absurd (hS.rc this hos) hn
  · obtain ⟨q, hq, h2⟩ := h.fr _ ho hos
    have hq2 : q = q0 := by simpa using hq
    subst hq2
    have := h2.contra
    rw [opp_opp] at this
    exact h1.trans this

/-! ### the first assignment -/
/-- An assignment that satisfies the clauses, and makes the literals true. -/
structure Good (l : List Cl) (n : Nat) (lits : List Int) (vals : List Bool) : Prop where
  len : vals.length = n
  sat : SatV l vals
  lit : ∀ x ∈ lits, tv vals x = true
/-- The values of the first variables, and the set of what is true: nothing was chosen that had to be otherwise. -/
structure FirstInv (l : List Cl) (n : Nat) (lits : List Int) (S : List Int) (vs : List Bool) : Prop where
  clo : Clo l S
  con : Con S
  lit : ∀ x ∈ lits, x ∈ S
  has : ∀ u : Nat, u < vs.length → if vs.getD u false = true then 2 * (u : Int) ∈ S else 2 * (u : Int) + 1 ∈ S
  tr : ∀ vals, Good l n lits vals → (∀ u, u < vs.length → vals.getD u false = vs.getD u false) → ∀ x ∈ S, tv vals x = true
  least : ∀ u, u < vs.length → vs.getD u false = true → ∀ vals, Good l n lits vals → (∀ w, w < u → vals.getD w false = vs.getD w false) → vals.getD u false = true

theorem getD_snoc' (L : List Bool) (x d : Bool) (j : Nat) : (L ++ [x]).getD j d = if j < L.length then L.getD j d else if j = L.length then x else d := by
  simp only [List.getD]
  by_cases h : j < L.length
  · rw [if_pos h, List.getElem?_append_left h]
  · rw [if_neg h, List.getElem?_append_right (by omega)]
    by_cases h2 : j = L.length
    · rw [if_pos h2, h2]; simp
    · rw [if_neg h2, List.getElem?_eq_none (by simp; omega)]; rfl

theorem FirstInv.start {l : List Cl} {n : Nat} {lits S : List Int} (h : Adds l [] S lits) (hc : ¬ Clash [] S) : FirstInv l n lits S [] := by
  refine ⟨h.clo (fun x hx => by simp at hx), h.con (fun x hx => by simp at hx) hc, h.root, fun u hu => by simp at hu, fun vals g _ => h.tru g.sat (fun x hx => by simp at hx) g.lit, fun u hu => by simp at hu⟩
theorem first_fail0 {l : List Cl} {n : Nat} {lits S : List Int} (h : Adds l [] S lits) (hc : Clash [] S) : ¬ ∃ vals, Good l n lits vals := by
  rintro ⟨vals, g⟩
  exact h.no hc g.sat (fun x hx => by simp at hx) g.lit

section
variable {l : List Cl} {n : Nat} {lits S T : List Int} {vs : List Bool}
/-- One step: the set grows by literals that are true wherever the values agree. -/
theorem FirstInv.next (h : FirstInv l n lits S vs) {x : Bool} {r : List Int} (ha : Adds l S T r) (hc : ¬ Clash S T)
    (hr : ∀ vals, Good l n lits vals → (∀ u, u < vs.length → vals.getD u false = vs.getD u false) → vals.getD vs.length false = x → ∀ y ∈ r, tv vals y = true)
    (hx : if x = true then 2 * (vs.length : Int) ∈ T else 2 * (vs.length : Int) + 1 ∈ T)
    (hl : x = true → ∀ vals, Good l n lits vals → (∀ w, w < vs.length → vals.getD w false = vs.getD w false) → vals.getD vs.length false = true) : FirstInv l n lits T (vs ++ [x]) := by
  have key : ∀ u, u < vs.length → (vs ++ [x]).getD u false = vs.getD u false := fun u hu => by rw [getD_snoc', if_pos hu]
  have last : (vs ++ [x]).getD vs.length false = x := by rw [getD_snoc', if_neg (by omega), if_pos rfl]
  refine ⟨ha.clo h.clo, ha.con h.con hc, fun y hy => ha.sub y (h.lit y hy), fun u hu => ?_, fun vals g hag => ?_, fun u hu hv vals g hag => ?_⟩
  · simp only [List.length_append, List.length_cons, List.length_nil] at hu
    by_cases hu2 : u < vs.length
    · rw [key u hu2]
      have := h.has u hu2
      split
      · rename_i e; rw [if_pos e] at this; exact ha.sub _ this
      · rename_i e; rw [if_neg e] at this; exact ha.sub _ this
    · obtain rfl : u = vs.length := by omega
      rw [last]
      exact hx
  · have hag' : ∀ u, u < vs.length → vals.getD u false = vs.getD u false := fun u hu => by rw [hag u (by simp; omega), key u hu]
    have hlast : vals.getD vs.length false = x := by rw [hag vs.length (by simp), last]
    exact ha.tru g.sat (h.tr vals g hag') (hr vals g hag' hlast)
  · simp only [List.length_append, List.length_cons, List.length_nil] at hu
    by_cases hu2 : u < vs.length
    · rw [key u hu2] at hv
      exact h.least u hu2 hv vals g fun w hw => by rw [hag w hw, key w (by omega)]
    · obtain rfl : u = vs.length := by omega
      rw [last] at hv
      exact hl hv vals g fun w hw => by rw [hag w hw, key w hw]
/-- The variable has its value already. -/
theorem FirstInv.known (h : FirstInv l n lits S vs) (hk : 2 * (vs.length : Int) ∈ S ∨ 2 * (vs.length : Int) + 1 ∈ S) : FirstInv l n lits S (vs ++ [decide (2 * (vs.length : Int) ∈ S)]) := by
  refine h.next (Adds.refl l S) (not_clash_self S) (fun vals g hag _ y hy => by simp at hy) ?_ fun hx vals g hag => ?_
  · by_cases hm : 2 * (vs.length : Int) ∈ S
    · rw [decide_eq_true hm, if_pos rfl]; exact hm
    · rw [decide_eq_false hm, if_neg (by decide)]; exact hk.resolve_left hm
  · rw [decide_eq_true_eq] at hx
    rw [← tv_even]
    exact h.tr vals g hag _ hx
theorem FirstInv.no (h : FirstInv l n lits S vs) (ha : Adds l S T [2 * (vs.length : Int) + 1]) (hc : ¬ Clash S T) : FirstInv l n lits T (vs ++ [false]) := by
  refine h.next ha hc (fun vals g hag hv y hy => ?_) (by rw [if_neg (by decide)]; exact ha.root _ (by simp)) fun hx => by cases hx
  have : y = 2 * (vs.length : Int) + 1 := by simpa using hy
  rw [this, tv_odd, hv]
  rfl
theorem FirstInv.yes (h : FirstInv l n lits S vs) {T1 : List Int} (h1 : Adds l S T1 [2 * (vs.length : Int) + 1]) (hc1 : Clash S T1) (ha : Adds l S T [2 * (vs.length : Int)]) (hc : ¬ Clash S T) : FirstInv l n lits T (vs ++ [true]) := by
  refine h.next ha hc (fun vals g hag hv y hy => ?_) (by rw [if_pos rfl]; exact ha.root _ (by simp)) fun _ vals g hag => ?_
  · have : y = 2 * (vs.length : Int) := by simpa using hy
    rw [this, tv_even, hv]
  · cases hv : vals.getD vs.length false with
    | true => rfl
    | false =>
      exact (h1.no hc1 g.sat (h.tr vals g hag) fun y hy => by
        have : y = 2 * (vs.length : Int) + 1 := by simpa using hy
        rw [this, tv_odd, hv]
        rfl).elim
/-- The values of S laid over an assignment. -/
def over (S : List Int) (n : Nat) (vals : List Bool) : List Bool := (List.range n).map fun u : Nat => decide (2 * (u : Int) ∈ S) || (!decide (2 * (u : Int) + 1 ∈ S) && vals.getD u false)
theorem over_at {S : List Int} {n : Nat} {vals : List Bool} {u : Nat} (hu : u < n) : (over S n vals).getD u false = (decide (2 * (u : Int) ∈ S) || (!decide (2 * (u : Int) + 1 ∈ S) && vals.getD u false)) := by
  unfold over
  simp [List.getD, hu]
theorem over_tv (hS : Con S) {vals : List Bool} {x : Int} (hx : 0 ≤ x ∧ x < 2 * n) : tv (over S n vals) x = (decide (x ∈ S) || (!decide (opp x ∈ S) && tv vals x)) := by
  obtain ⟨u, hu⟩ : ∃ u : Nat, u < n ∧ (x = 2 * (u : Int) ∨ x = 2 * (u : Int) + 1) := ⟨(x / 2).toNat, by omega, by omega⟩
  rcases hu with ⟨hu, rfl | rfl⟩
  · rw [tv_even, tv_even, over_at hu, opp_even]
  · rw [tv_odd, tv_odd, over_at hu, opp_odd]
    by_cases h1 : 2 * (u : Int) ∈ S
    · have : 2 * (u : Int) + 1 ∉ S := by have := hS _ h1; rwa [opp_even] at this
      simp [h1, this]
    · by_cases h2 : 2 * (u : Int) + 1 ∈ S
      · simp [h1, h2]
      · simp [h1, h2]
theorem over_good (hl : RightC n l) (hS : Clo l S) (hcon : Con S) (hlit : ∀ x ∈ lits, x ∈ S) (hr : ∀ x ∈ S, 0 ≤ x ∧ x < 2 * (n : Int)) {vals : List Bool} (g : Good l n lits vals) : Good l n lits (over S n vals) ∧ ∀ x ∈ S, tv (over S n vals) x = true := by
  have hin : ∀ x ∈ S, tv (over S n vals) x = true := fun x hx => by rw [over_tv hcon (hr x hx), decide_eq_true hx]; rfl
  refine ⟨⟨by simp [over], SatV.of_ed fun x y e hx => ?_, fun x hx => hin x (hlit x hx)⟩, hin⟩
  obtain ⟨h1, h2⟩ := e.ok hl
  rw [over_tv hcon h1] at hx
  rw [over_tv hcon h2]
  by_cases hxs : x ∈ S
  · rw [decide_eq_true (hS x hxs y e)]; rfl
  · rw [decide_eq_false hxs, Bool.false_or, Bool.and_eq_true, Bool.not_eq_true', decide_eq_false_iff_not] at hx
    have hys : opp y ∉ S := fun h => hx.1 (hS _ h _ e.contra)
    rw [decide_eq_false hys, e.tru g.sat hx.2]
    simp
/-- Where both values clash, there is no assignment. -/
theorem FirstInv.fail (h : FirstInv l n lits S vs) (hl : RightC n l) (hr : ∀ x ∈ S, 0 ≤ x ∧ x < 2 * (n : Int)) {T1 : List Int} (h1 : Adds l S T1 [2 * (vs.length : Int) + 1]) (hc1 : Clash S T1) (ha : Adds l S T [2 * (vs.length : Int)]) (hc : Clash S T) : ¬ ∃ vals, Good l n lits vals := by
  rintro ⟨vals, g⟩
  obtain ⟨g2, hin⟩ := over_good hl h.clo h.con h.lit hr g
  cases hv : (over S n vals).getD vs.length false with
  | true =>
    refine ha.no hc g2.sat hin fun y hy => ?_
    have : y = 2 * (vs.length : Int) := by simpa using hy
    rw [this, tv_even, hv]
  | false =>
    refine h1.no hc1 g2.sat hin fun y hy => ?_
    have : y = 2 * (vs.length : Int) + 1 := by simpa using hy
    rw [this, tv_odd, hv]
    rfl
/-- At the end the values satisfy the clauses. -/
theorem FirstInv.good (h : FirstInv l n lits S vs) (hl : RightC n l) (hlen : vs.length = n) (hlit : ∀ x ∈ lits, 0 ≤ x ∧ x < 2 * (n : Int)) : Good l n lits vs := by
  have key : ∀ x, 0 ≤ x ∧ x < 2 * (n : Int) → (tv vs x = true ↔ x ∈ S) := by
    intro x hx
    obtain ⟨u, hu⟩ : ∃ u : Nat, u < n ∧ (x = 2 * (u : Int) ∨ x = 2 * (u : Int) + 1) := ⟨(x / 2).toNat, by omega, by omega⟩
    have hh := h.has u (by omega)
    rcases hu with ⟨hu, rfl | rfl⟩
    · rw [tv_even]
      cases hv : vs.getD u false with
      | true => rw [hv, if_pos rfl] at hh; simp [hh]
      | false =>
        rw [hv, if_neg (by decide)] at hh
        have := h.con _ hh
        rw [opp_odd] at this
        simp [this]
    · rw [tv_odd]
      cases hv : vs.getD u false with
      | true =>
        rw [hv, if_pos rfl] at hh
        have := h.con _ hh
        rw [opp_even] at this
        simp [this]
      | false => rw [hv, if_neg (by decide)] at hh; simp [hh]
  refine ⟨hlen, SatV.of_ed fun x y e hx => ?_, fun x hx => (key x (hlit x hx)).2 (h.lit x hx)⟩
  obtain ⟨h1, h2⟩ := e.ok hl
  exact (key y h2).2 (h.clo x ((key x h1).1 hx) y e)
end

/-- The first assignment of those that satisfy the clauses, and make the literals true. -/
structure IsFirst (l : List Cl) (n : Nat) (lits : List Int) (vs : List Bool) : Prop where
  good : Good l n lits vs
  least : ∀ u, u < n → vs.getD u false = true → ∀ vals, Good l n lits vals → (∀ w, w < u → vals.getD w false = vs.getD w false) → vals.getD u false = true
theorem FirstInv.isFirst {l : List Cl} {n : Nat} {lits S : List Int} {vs : List Bool} (h : FirstInv l n lits S vs) (hl : RightC n l) (hlen : vs.length = n) (hlit : ∀ x ∈ lits, 0 ≤ x ∧ x < 2 * (n : Int)) : IsFirst l n lits vs :=
  ⟨h.good hl hlen hlit, fun u hu => h.least u (by omega)⟩
theorem IsFirst.unique {l : List Cl} {n : Nat} {lits : List Int} {a b : List Bool} (ha : IsFirst l n lits a) (hb : IsFirst l n lits b) : a = b := by
  have key : ∀ u, u < n → (∀ w, w < u → a.getD w false = b.getD w false) → a.getD u false = b.getD u false := by
    intro u hu hw
    cases h1 : a.getD u false with
    | true => exact (ha.least u hu h1 b hb.good fun w hlt => (hw w hlt).symm).symm
    | false =>
      cases h2 : b.getD u false with
      | false => rfl
      | true => rw [hb.least u hu h2 a ha.good hw] at h1; cases h1
  have all : ∀ u, u < n → a.getD u false = b.getD u false := by
    intro u
    induction u using Nat.strongRecOn with
    | _ u ih => exact fun hu => key u hu fun w hw => ih w hw (by omega)
  refine List.ext_getElem (ha.good.len.trans hb.good.len.symm) fun u h1 h2 => ?_
  have := all u (by rw [← ha.good.len]; exact h1)
  simpa [List.getD, h1, h2] using this
end Go.Proofs.Ytilhaifmfiobhaa
end

section
/-
  Clauses of two literals: refutations, and shortest ways from literal to literal; plain Lean, no program in sight.
-/
namespace Go.Proofs.Ytilhaifmfiobhaa

theorem nodup_lenX : ∀ {m : Nat} {l : List Int}, l.Nodup → (∀ x ∈ l, 0 ≤ x ∧ x < m) → l.length ≤ m
  | 0, l, _, hr => by
    cases l with
    | nil => simp
    | cons a r => have := hr a (by simp); omega
  | m + 1, l, h, hr => by
    by_cases hm : (m : Int) ∈ l
    · have h1 := nodup_lenX (m := m) (h.erase (m : Int)) fun x hx => by
        have h2 := (List.Nodup.mem_erase_iff h).1 hx
        have := hr x h2.2
        omega
      rw [List.length_erase_of_mem hm] at h1
      omega
    · have := nodup_lenX (m := m) h fun x hx => by
        have := hr x hx
        have : x ≠ m := fun e => hm (e ▸ hx)
        omega
      omega
theorem getD_memX {l : List Int} {k : Nat} (h : k < l.length) : l.getD k 0 ∈ l := by simp [List.getD, h]
theorem getD_injX {l : List Int} (h : l.Nodup) {i j : Nat} (hi : i < l.length) (hj : j < l.length) (e : l.getD i 0 = l.getD j 0) : i = j := by
  simp only [List.getD, List.getElem?_eq_getElem hi, List.getElem?_eq_getElem hj, Option.getD_some] at e
  exact (List.getElem_inj h).1 e
theorem mem_getDX {l : List Int} {x : Int} (h : x ∈ l) : ∃ k, k < l.length ∧ l.getD k 0 = x := by
  obtain ⟨k, hk, e⟩ := List.getElem_of_mem h
  exact ⟨k, hk, by simp [List.getD, hk, e]⟩

/-! ### refutations -/
def stepB (l : List Cl) (n : Int) (c : List Int) (i : Nat) : Bool := (decide (0 ≤ c.getD i 0) && decide (c.getD i 0 < 2 * n)) && decide (c.getD ((i + 1) % c.length) 0 ∈ succL l (c.getD i 0))
/-- What a refutation is. -/
def refB (l : List Cl) (n : Int) (c : List Int) : Bool :=
  (decide (1 ≤ c.length) && decide ((c.length : Int) ≤ 4 * n)) && ((List.range c.length).all (stepB l n c) && (List.range c.length).any fun i => decide (opp (c.getD i 0) ∈ c))
structure RefP (l : List Cl) (n : Int) (c : List Int) : Prop where
  one : 1 ≤ c.length
  len : (c.length : Int) ≤ 4 * n
  rng : ∀ i, i < c.length → 0 ≤ c.getD i 0 ∧ c.getD i 0 < 2 * n
  ed : ∀ i, i < c.length → Ed l (c.getD i 0) (c.getD ((i + 1) % c.length) 0)
  both : ∃ i, i < c.length ∧ opp (c.getD i 0) ∈ c
theorem refB_iff {l : List Cl} {n : Int} {c : List Int} : refB l n c = true ↔ RefP l n c := by
  unfold refB stepB
  simp only [Bool.and_eq_true, decide_eq_true_eq, List.all_eq_true, List.any_eq_true, List.mem_range]
  constructor
  · rintro ⟨⟨h1, h2⟩, h3, h4⟩
    exact ⟨h1, h2, fun i hi => (h3 i hi).1, fun i hi => (h3 i hi).2, h4⟩
  · rintro ⟨h1, h2, h3, h4, h5⟩
    exact ⟨⟨h1, h2⟩, fun i hi => ⟨h3 i hi, h4 i hi⟩, h5⟩
theorem RefP.around {l : List Cl} {n : Int} {c : List Int} (h : RefP l n c) {vals : List Bool} (hs : SatV l vals) {i : Nat} (hi : i < c.length) (ht : tv vals (c.getD i 0) = true) : ∀ d, tv vals (c.getD ((i + d) % c.length) 0) = true
  | 0 => by rw [Nat.add_zero, Nat.mod_eq_of_lt hi]; exact ht
  | d + 1 => by
    have h1 := h.around hs hi ht d
    have h2 := (h.ed ((i + d) % c.length) (Nat.mod_lt _ (by omega))).tru hs h1
    rwa [Nat.mod_add_mod] at h2
theorem RefP.all {l : List Cl} {n : Int} {c : List Int} (h : RefP l n c) {vals : List Bool} (hs : SatV l vals) {i : Nat} (hi : i < c.length) (ht : tv vals (c.getD i 0) = true) {x : Int} (hx : x ∈ c) : tv vals x = true := by
  obtain ⟨k, hk, rfl⟩ := mem_getDX hx
  have := h.around hs hi ht (c.length - i + k)
  have e : (i + (c.length - i + k)) % c.length = k := by
    have : i + (c.length - i + k) = c.length + k := by omega
    rw [this, Nat.add_mod_left, Nat.mod_eq_of_lt hk]
  rwa [e] at this
/-- What is refuted has no assignment. -/
theorem RefP.no {l : List Cl} {n : Int} {c : List Int} (h : RefP l n c) (vals : List Bool) : ¬ SatV l vals := by
  intro hs
  obtain ⟨i, hi, ho⟩ := h.both
  cases ht : tv vals (c.getD i 0) with
  | true =>
    have := h.all hs hi ht ho
    rw [tv_opp, ht] at this
    cases this
  | false =>
    obtain ⟨k, hk, e⟩ := mem_getDX ho
    have h1 : tv vals (c.getD k 0) = true := by rw [e, tv_opp, ht]; rfl
    have := h.all hs hk h1 (getD_memX hi)
    rw [ht] at this
    cases this

/-- Literals that lead from a to b, the last one aside. -/
structure PathOk (l : List Cl) (a b : Int) (p : List Int) : Prop where
  pos : 0 < p.length
  head : p.getD 0 0 = a
  ed : ∀ i, i + 1 < p.length → Ed l (p.getD i 0) (p.getD (i + 1) 0)
  last : Ed l (p.getD (p.length - 1) 0) b
  nodup : p.Nodup
theorem PathOk.src {l : List Cl} {a b : Int} {p : List Int} (h : PathOk l a b p) {i : Nat} (hi : i < p.length) : ∃ y, Ed l (p.getD i 0) y := by
  by_cases h1 : i + 1 < p.length
  · exact ⟨_, h.ed i h1⟩
  · have : i = p.length - 1 := by omega
    subst this
    exact ⟨_, h.last⟩
theorem PathOk.rng {l : List Cl} {a b n : Int} {p : List Int} (hl : RightC n l) (h : PathOk l a b p) {i : Nat} (hi : i < p.length) : 0 ≤ p.getD i 0 ∧ p.getD i 0 < 2 * n := by
  obtain ⟨y, e⟩ := h.src hi
  exact (e.ok hl).1
theorem PathOk.len {l : List Cl} {a b : Int} {n : Nat} {p : List Int} (hl : RightC n l) (h : PathOk l a b p) : p.length ≤ 2 * n := by
  refine nodup_lenX (m := 2 * n) h.nodup fun x hx => ?_
  obtain ⟨k, hk, rfl⟩ := mem_getDX hx
  have := h.rng hl hk
  omega
theorem getD_appX (p q : List Int) (i : Nat) : (p ++ q).getD i 0 = if i < p.length then p.getD i 0 else q.getD (i - p.length) 0 := by
  simp only [List.getD]
  split
  · rename_i h; rw [List.getElem?_append_left h]
  · rename_i h; rw [List.getElem?_append_right (by omega)]
theorem Rc.last {l : List Cl} {a b : Int} (h : Rc l a b) (hne : a ≠ b) : ∃ x, Rc l a x ∧ Ed l x b := by
  cases h with
  | refl => exact absurd rfl hne
  | step h e => exact ⟨_, h, e⟩
/-- What the way's function returns. -/
def PathR (l : List Cl) (a b : Int) : Option (List Int) → Prop
  | some p => PathOk l a b p
  | none => ∀ x, Rc l a x → ¬ Ed l x b

/-- Where an assignment cannot be completed, some variable leads to its opposite, and back. -/
theorem FirstInv.both {l : List Cl} {n : Nat} {lits S T T1 : List Int} {vs : List Bool} (h : FirstInv l n lits S vs) (h1 : Adds l S T1 [2 * (vs.length : Int) + 1]) (hc1 : Clash S T1) (ha : Adds l S T [2 * (vs.length : Int)]) (hc : Clash S T)
    (hn : ¬ (2 * (vs.length : Int) ∈ S ∨ 2 * (vs.length : Int) + 1 ∈ S)) : Rc l (2 * (vs.length : Int)) (2 * (vs.length : Int) + 1) ∧ Rc l (2 * (vs.length : Int) + 1) (2 * (vs.length : Int)) := by
  have e1 := ha.back hc h.clo (by rw [opp_even]; exact fun h => hn (.inr h))
  have e2 := h1.back hc1 h.clo (by rw [opp_odd]; exact fun h => hn (.inl h))
  rw [opp_even] at e1
  rw [opp_odd] at e2
  exact ⟨e1, e2⟩

/-! ### the shortest way -/
abbrev LI := List (Int × Int)
def nodeL (L : LI) (j : Nat) : Int := (L.getD j (0, 0)).1
def edgeL (L : LI) (j : Nat) : Int := (L.getD j (0, 0)).2
def keysX (L : LI) : List Int := L.map (·.1)
theorem keysX_len (L : LI) : (keysX L).length = L.length := by simp [keysX]
theorem keysX_getD (L : LI) (j : Nat) (h : j < L.length) : (keysX L).getD j 0 = nodeL L j := by
  unfold keysX nodeL
  simp [List.getD, h]
theorem node_mem {L : LI} {j : Nat} (h : j < L.length) : nodeL L j ∈ keysX L := by
  rw [← keysX_getD L j h]
  exact getD_memX (by rw [keysX_len]; exact h)
theorem node_inj {L : LI} (hn : (keysX L).Nodup) {i j : Nat} (hi : i < L.length) (hj : j < L.length) (h : nodeL L i = nodeL L j) : i = j := by
  rw [← keysX_getD L i hi, ← keysX_getD L j hj] at h
  exact getD_injX hn (by rw [keysX_len]; exact hi) (by rw [keysX_len]; exact hj) h
theorem mem_node {L : LI} {v : Int} (h : v ∈ keysX L) : ∃ j, j < L.length ∧ nodeL L j = v := by
  obtain ⟨j, hj, e⟩ := mem_getDX h
  rw [keysX_len] at hj
  exact ⟨j, hj, by rw [← keysX_getD L j hj, e]⟩
theorem node_app {L : LI} {x : Int × Int} {j : Nat} (h : j < L.length) : nodeL (L ++ [x]) j = nodeL L j ∧ edgeL (L ++ [x]) j = edgeL L j := by
  unfold nodeL edgeL
  simp [List.getD, List.getElem?_append_left h]
theorem node_new {L : LI} {x : Int × Int} : nodeL (L ++ [x]) L.length = x.1 ∧ edgeL (L ++ [x]) L.length = x.2 := by
  unfold nodeL edgeL
  simp [List.getD]
theorem keys_app {L : LI} {x : Int × Int} : keysX (L ++ [x]) = keysX L ++ [x.1] := by simp [keysX]
/-- What is found so far: p of the literals have been looked at. -/
structure Bf (l : List Cl) (a b : Int) (L : LI) (p : Nat) : Prop where
  nodup : (keysX L).Nodup
  pos : 0 < L.length
  head : nodeL L 0 = a
  par : ∀ j, 0 < j → j < L.length → ∃ q, q < j ∧ nodeL L q = edgeL L j ∧ Ed l (edgeL L j) (nodeL L j)
  done : ∀ q, q < p → ∀ y, Ed l (nodeL L q) y → y ∈ keysX L ∧ y ≠ b
  le : p ≤ L.length
theorem Bf.init (l : List Cl) (a b : Int) : Bf l a b [(a, a)] 0 :=
  ⟨by simp [keysX], by simp, rfl, fun j h1 h2 => by simp at h2; omega, fun q h => by omega, by omega⟩
/-- While the literal with number p is looked at: k of what it implies has been. -/
structure BfJ (l : List Cl) (a b : Int) (p : Nat) (x : Int) (L : LI) (k : Nat) : Prop where
  bf : Bf l a b L p
  lt : p < L.length
  here : nodeL L p = x
  part : ∀ y ∈ (succL l x).take k, y ∈ keysX L ∧ y ≠ b
section
variable {l : List Cl} {a b x : Int} {p k : Nat} {L : LI}
theorem take_memX {o : List Int} {i : Int} (hk : k < o.length) (h : i ∈ o.take (k + 1)) : i ∈ o.take k ∨ i = o.getD k 0 := by
  rw [List.take_succ_eq_append_getElem hk, List.mem_append, List.mem_singleton] at h
  rcases h with h | h
  · exact .inl h
  · right; rw [h]; simp [List.getD, hk]
theorem BfJ.skip (h : BfJ l a b p x L k) (hk : k < (succL l x).length) (hb : (succL l x).getD k 0 ≠ b) (hn : (succL l x).getD k 0 ∈ keysX L) : BfJ l a b p x L (k + 1) :=
  ⟨h.bf, h.lt, h.here, fun i hi => by
    rcases take_memX hk hi with hi | rfl
    · exact h.part i hi
    · exact ⟨hn, hb⟩⟩
theorem BfJ.add (h : BfJ l a b p x L k) (hk : k < (succL l x).length) (hb : (succL l x).getD k 0 ≠ b) (hn : (succL l x).getD k 0 ∉ keysX L) : BfJ l a b p x (L ++ [((succL l x).getD k 0, x)]) (k + 1) := by
  have hbf := h.bf
  have hl : (L ++ [((succL l x).getD k 0, x)]).length = L.length + 1 := by simp
  refine ⟨⟨?_, by omega, ?_, fun j h1 h2 => ?_, fun q hq y e => ?_, by have := hbf.le; omega⟩, by have := h.lt; omega, ?_, fun i hi => ?_⟩
  · rw [keys_app, List.nodup_append]
    refine ⟨hbf.nodup, by simp, ?_⟩
    intro u hu y hy
    simp at hy
    subst hy
    rintro rfl
    exact hn hu
  · rw [(node_app hbf.pos).1, hbf.head]
  · by_cases hj : j < L.length
    · rw [(node_app hj).1, (node_app hj).2]
      obtain ⟨q, g1, g2, g3⟩ := hbf.par j h1 hj
      exact ⟨q, g1, by rw [(node_app (by omega)).1]; exact g2, g3⟩
    · have hj2 : j = L.length := by omega
      subst hj2
      rw [node_new.1, node_new.2]
      refine ⟨p, h.lt, by rw [(node_app h.lt).1, h.here], getD_memX hk⟩
  · have hl2 := hbf.le
    rw [(node_app (by omega)).1] at e
    rw [keys_app]
    exact ⟨List.mem_append_left _ (hbf.done q hq y e).1, (hbf.done q hq y e).2⟩
  · rw [(node_app h.lt).1, h.here]
  · rw [keys_app]
    rcases take_memX hk hi with hi | rfl
    · exact ⟨List.mem_append_left _ (h.part i hi).1, (h.part i hi).2⟩
    · exact ⟨by simp, hb⟩
theorem Bf.start (h : Bf l a b L p) (hp : p < L.length) : BfJ l a b p (nodeL L p) L 0 := ⟨h, hp, rfl, fun i hi => by simp at hi⟩
theorem BfJ.fin (h : BfJ l a b p x L (succL l x).length) : Bf l a b L (p + 1) := by
  have hbf := h.bf
  refine ⟨hbf.nodup, hbf.pos, hbf.head, hbf.par, fun q hq y e => ?_, h.lt⟩
  by_cases hq2 : q < p
  · exact hbf.done q hq2 y e
  · obtain rfl : q = p := by omega
    rw [h.here] at e
    exact h.part y (by rw [List.take_length]; exact e)
/-- Nothing is left: there is no way. -/
theorem Bf.none (h : Bf l a b L L.length) : PathR l a b none := by
  have all : ∀ x, Rc l a x → x ∈ keysX L := by
    intro x hx
    induction hx with
    | refl =>
      have := node_mem h.pos
      rwa [h.head] at this
    | step _ e ih =>
      obtain ⟨j, hj, rfl⟩ := mem_node ih
      exact (h.done j hj _ e).1
  intro x hx e
  obtain ⟨j, hj, rfl⟩ := mem_node (all x hx)
  exact (h.done j hj _ e).2 rfl
/-- The way back, as far as it is written down: it has come to the literal with number j. -/
structure Bk (l : List Cl) (a b : Int) (L : LI) (out : List Int) (j : Nat) : Prop where
  lt : j < L.length
  pos : 0 < out.length
  last : out.getD (out.length - 1) 0 = nodeL L j
  head : Ed l (out.getD 0 0) b
  ed : ∀ i, i + 1 < out.length → Ed l (out.getD (i + 1) 0) (out.getD i 0)
  nd : out.Nodup
  ix : ∀ y ∈ out, ∃ i, j ≤ i ∧ i < L.length ∧ nodeL L i = y
theorem Bk.init (hx : p < L.length) (e : Ed l (nodeL L p) b) : Bk l a b L [nodeL L p] p :=
  ⟨hx, by simp, rfl, e, fun i hi => by simp at hi, by simp, fun y hy => ⟨p, Nat.le_refl _, hx, (List.mem_singleton.1 hy).symm⟩⟩
theorem Bk.next {q j : Nat} {out : List Int} (hb : Bf l a b L q) (h : Bk l a b L out j) (hne : nodeL L j ≠ a) : ∃ j', j' < j ∧ nodeL L j' = edgeL L j ∧ Bk l a b L (out ++ [edgeL L j]) j' := by
  have hj0 : 0 < j := by
    rcases Nat.eq_zero_or_pos j with rfl | h0
    · exact absurd hb.head hne
    · exact h0
  obtain ⟨j', h1, h2, h3⟩ := hb.par j hj0 h.lt
  have hjl := h.lt
  have hpos := h.pos
  refine ⟨j', h1, h2, by omega, by simp, ?_, ?_, fun i hi => ?_, ?_, fun y hy => ?_⟩
  · rw [getD_appX]
    simp [h2]
  · rw [getD_appX, if_pos hpos]
    exact h.head
  · simp only [List.length_append, List.length_cons, List.length_nil] at hi
    rw [getD_appX, getD_appX]
    by_cases h4 : i + 1 < out.length
    · rw [if_pos h4, if_pos (by omega)]
      exact h.ed i h4
    · have : i = out.length - 1 := by omega
      subst this
      rw [if_neg h4, if_pos (by omega), h.last]
      have e : out.length - 1 + 1 - out.length = 0 := by omega
      rw [e]
      exact h3
  · rw [List.nodup_append]
    refine ⟨h.nd, by simp, ?_⟩
    intro u hu y hy
    simp at hy
    subst hy
    rintro rfl
    obtain ⟨i, g1, g2, g3⟩ := h.ix _ hu
    have := node_inj hb.nodup g2 (by omega) (g3.trans h2.symm)
    omega
  · rcases List.mem_append.1 hy with hy | hy
    · obtain ⟨i, g1, g2, g3⟩ := h.ix y hy
      exact ⟨i, by omega, g2, g3⟩
    · exact ⟨j', Nat.le_refl _, by omega, by rw [h2]; exact (List.mem_singleton.1 hy).symm⟩
theorem getD_revX {o : List Int} {i : Nat} (hi : i < o.length) : o.reverse.getD i 0 = o.getD (o.length - 1 - i) 0 := by
  have h2 : o.length - 1 - i < o.length := by omega
  simp [List.getD, List.getElem?_reverse hi, h2]
theorem Bk.fin {j : Nat} {out : List Int} (h : Bk l a b L out j) (he : nodeL L j = a) : PathR l a b (some out.reverse) := by
  have hpos := h.pos
  refine ⟨by simpa using hpos, ?_, fun i hi => ?_, ?_, List.pairwise_reverse.2 (h.nd.imp fun h => Ne.symm h)⟩
  · rw [getD_revX hpos, Nat.sub_zero, h.last, he]
  · rw [List.length_reverse] at hi
    rw [getD_revX (by omega), getD_revX hi]
    have := h.ed (out.length - 1 - (i + 1)) (by omega)
    have e : out.length - 1 - (i + 1) + 1 = out.length - 1 - i := by omega
    rwa [e] at this
  · rw [List.length_reverse, getD_revX (by omega)]
    have e : out.length - 1 - (out.length - 1) = 0 := by omega
    rw [e]
    exact h.head
end
end Go.Proofs.Ytilhaifmfiobhaa
end

section
/-
  Clauses of two literals: what each function returns, said by assignments; plain Lean, no program in sight.
-/
namespace Go.Proofs.Ytilhaifmfiobhaa

def clB (n : Int) (c : Cl) : Bool := (decide (0 ≤ c.a) && decide (c.a < 2 * n)) && (decide (0 ≤ c.b) && decide (c.b < 2 * n))
/-- What is right. -/
def rightB (l : List Cl) (n : Int) : Bool := ((decide (0 ≤ n) && decide (n ≤ 400)) && decide (l.length ≤ 4000)) && l.all (clB n)
structure RightP (l : List Cl) (n : Int) : Prop where
  lo : 0 ≤ n
  hi : n ≤ 400
  len : l.length ≤ 4000
  cl : RightC n l
theorem rightB_iff {l : List Cl} {n : Int} : rightB l n = true ↔ RightP l n := by
  unfold rightB clB
  simp only [Bool.and_eq_true, decide_eq_true_eq, List.all_eq_true]
  constructor
  · rintro ⟨⟨⟨h1, h2⟩, h3⟩, h4⟩
    exact ⟨h1, h2, h3, h4⟩
  · rintro ⟨h1, h2, h3, h4⟩
    exact ⟨⟨⟨h1, h2⟩, h3⟩, h4⟩
/-! ### all assignments, one after the other -/
/-- The assignment with a number: the first variable has the greatest weight. -/
def after : Nat → Nat → List Bool
  | 0, _ => []
  | n + 1, k => after n (k / 2) ++ [decide (k % 2 = 1)]
theorem after_len : ∀ n k, (after n k).length = n
  | 0, _ => rfl
  | n + 1, k => by simp [after, after_len n]
/-- The number of an assignment. -/
def numOf (vs : List Bool) : Nat := vs.foldl (fun k b => 2 * k + (if b then 1 else 0)) 0
theorem numOf_snoc (vs : List Bool) (b : Bool) : numOf (vs ++ [b]) = 2 * numOf vs + (if b then 1 else 0) := by
  unfold numOf
  rw [List.foldl_append]
  rfl
theorem snoc_of {vs : List Bool} {n : Nat} (h : vs.length = n + 1) : ∃ us b, vs = us ++ [b] ∧ us.length = n := by
  refine ⟨vs.dropLast, vs.getLast (by intro e; rw [e] at h; cases h), (List.dropLast_concat_getLast _).symm, by rw [List.length_dropLast, h]; rfl⟩
theorem after_num : ∀ (n : Nat) (vs : List Bool), vs.length = n → after n (numOf vs) = vs ∧ numOf vs < 2 ^ n
  | 0, vs, h => by
    obtain rfl := List.eq_nil_of_length_eq_zero h
    exact ⟨rfl, by decide⟩
  | n + 1, vs, h => by
    obtain ⟨us, b, rfl, hu⟩ := snoc_of h
    obtain ⟨h1, h2⟩ := after_num n us hu
    rw [numOf_snoc]
    unfold after
    have hp : 2 ^ (n + 1) = 2 * 2 ^ n := by rw [Nat.pow_succ, Nat.mul_comm]
    cases b with
    | true =>
      have e : (2 * numOf us + 1) / 2 = numOf us := by omega
      simp only [if_true, e, h1]
      refine ⟨by congr 2; simp, by omega⟩
    | false =>
      have e : (2 * numOf us + 0) / 2 = numOf us := by omega
      simp only [Bool.false_eq_true, if_false, e, h1]
      refine ⟨by simp, by omega⟩
theorem num_after : ∀ (n k : Nat), k < 2 ^ n → numOf (after n k) = k
  | 0, k, h => by
    have : k = 0 := by simpa using h
    rw [this]; rfl
  | n + 1, k, h => by
    have hp : 2 ^ (n + 1) = 2 * 2 ^ n := by rw [Nat.pow_succ, Nat.mul_comm]
    unfold after
    rw [numOf_snoc, num_after n (k / 2) (by omega)]
    by_cases hk : k % 2 = 1
    · rw [decide_eq_true hk, if_pos rfl]; omega
    · rw [decide_eq_false hk, if_neg (by decide)]; omega
/-- Equal before a variable, and false there, true here: the lesser number. -/
theorem numOf_lt : ∀ (n : Nat) (a b : List Bool), a.length = n → b.length = n → ∀ u, u < n → (∀ w, w < u → a.getD w false = b.getD w false) → a.getD u false = false → b.getD u false = true → numOf a < numOf b
  | 0, _, _, _, _, u, hu, _, _, _ => by omega
  | n + 1, a, b, ha, hb, u, hu, he, h1, h2 => by
    obtain ⟨as, x, rfl, hal⟩ := snoc_of ha
    obtain ⟨bs, y, rfl, hbl⟩ := snoc_of hb
    rw [numOf_snoc, numOf_snoc]
    have key : ∀ (c : List Bool) (z : Bool), c.length = n → ∀ w, w < n → (c ++ [z]).getD w false = c.getD w false := fun c z hc w hw => by rw [getD_snoc', if_pos (by omega)]
    by_cases hun : u < n
    · have := numOf_lt n as bs hal hbl u hun (fun w hw => by
        have := he w hw
        rwa [key as x hal w (by omega), key bs y hbl w (by omega)] at this) (by rwa [key as x hal u hun] at h1) (by rwa [key bs y hbl u hun] at h2)
      split <;> split <;> omega
    · obtain rfl : u = n := by omega
      have hab : as = bs := by
        refine List.ext_getElem (hal.trans hbl.symm) fun w h3 h4 => ?_
        have := he w (by omega)
        rw [key as x hal w (by omega), key bs y hbl w (by omega)] at this
        simpa [List.getD, h3, h4] using this
      rw [getD_snoc', if_neg (by omega), if_pos hal.symm] at h1
      rw [getD_snoc', if_neg (by omega), if_pos hbl.symm] at h2
      subst h1 h2 hab
      simp
def goodB (l : List Cl) (n : Nat) (lits : List Int) (vals : List Bool) : Bool := (decide (vals.length = n) && l.all fun c => tv vals c.a || tv vals c.b) && lits.all (tv vals)
theorem goodB_iff {l : List Cl} {n : Nat} {lits : List Int} {vals : List Bool} : goodB l n lits vals = true ↔ Good l n lits vals := by
  unfold goodB
  simp only [Bool.and_eq_true, decide_eq_true_eq, List.all_eq_true, Bool.or_eq_true]
  exact ⟨fun h => ⟨h.1.1, h.1.2, h.2⟩, fun h => ⟨⟨h.1, h.2⟩, h.3⟩⟩
theorem find_range {α : Type} (f : Nat → α) (p : α → Bool) : ∀ m : Nat, (∃ k, k < m ∧ p (f k) = true ∧ (∀ j, j < k → p (f j) = false) ∧ ((List.range m).map f).find? p = some (f k)) ∨ ((∀ j, j < m → p (f j) = false) ∧ ((List.range m).map f).find? p = none)
  | 0 => .inr ⟨fun j h => by omega, rfl⟩
  | m + 1 => by
    rw [List.range_succ, List.map_append, List.find?_append]
    rcases find_range f p m with ⟨k, h1, h2, h3, h4⟩ | ⟨h1, h2⟩
    · exact .inl ⟨k, by omega, h2, h3, by rw [h4]; rfl⟩
    · rw [h2]
      cases hp : p (f m) with
      | true => exact .inl ⟨m, by omega, hp, h1, by simp [hp]⟩
      | false =>
        refine .inr ⟨fun j hj => ?_, by simp [hp]⟩
        by_cases h : j < m
        · exact h1 j h
        · obtain rfl : j = m := by omega
          exact hp
/-- The first assignment that satisfies the clauses, and makes some literals true. -/
def firstL (l : List Cl) (n : Nat) (lits : List Int) : Option (List Bool) := ((List.range (2 ^ n)).map (after n)).find? (goodB l n lits)
theorem firstL_or (l : List Cl) (n : Nat) (lits : List Int) : (∃ vs, firstL l n lits = some vs ∧ IsFirst l n lits vs) ∨ (firstL l n lits = none ∧ ¬ ∃ vals, Good l n lits vals) := by
  rcases find_range (after n) (goodB l n lits) (2 ^ n) with ⟨k, h1, h2, h3, h4⟩ | ⟨h1, h2⟩
  · refine .inl ⟨after n k, h4, goodB_iff.1 h2, fun u hu ht vals g he => ?_⟩
    cases hv : vals.getD u false with
    | true => rfl
    | false =>
      obtain ⟨e1, e2⟩ := after_num n vals g.len
      have := numOf_lt n vals (after n k) g.len (after_len n k) u hu he hv ht
      rw [num_after n k h1] at this
      have := h3 _ this
      rw [e1, goodB_iff.2 g] at this
      cases this
  · refine .inr ⟨h2, fun ⟨vals, g⟩ => ?_⟩
    obtain ⟨e1, e2⟩ := after_num n vals g.len
    have := h1 _ e2
    rw [e1, goodB_iff.2 g] at this
    cases this
theorem firstL_some {l : List Cl} {n : Nat} {lits : List Int} {vs : List Bool} : firstL l n lits = some vs ↔ IsFirst l n lits vs := by
  rcases firstL_or l n lits with ⟨v, h1, h2⟩ | ⟨h1, h2⟩
  · rw [h1]
    exact ⟨fun e => by rw [← Option.some.inj e]; exact h2, fun h => by rw [h2.unique h]⟩
  · rw [h1]
    exact ⟨fun e => (by cases e), fun h => absurd ⟨vs, h.good⟩ h2⟩
theorem firstL_none {l : List Cl} {n : Nat} {lits : List Int} : firstL l n lits = none ↔ ¬ ∃ vals, Good l n lits vals := by
  constructor
  · intro e
    rcases firstL_or l n lits with ⟨v, h1, h2⟩ | ⟨h1, h2⟩
    · rw [h1] at e; cases e
    · exact h2
  · intro h
    cases e : firstL l n lits with
    | none => rfl
    | some vs => exact absurd ⟨vs, (firstL_some.1 e).good⟩ h
/-- The same clauses, and the same literals, have the same first assignment. -/
theorem firstL_congr {l l' : List Cl} {n : Nat} {lits lits' : List Int} (h : ∀ vals : List Bool, vals.length = n → (Good l n lits vals ↔ Good l' n lits' vals)) : firstL l n lits = firstL l' n lits' := by
  cases e : firstL l' n lits' with
  | none => exact firstL_none.2 fun ⟨v, g⟩ => firstL_none.1 e ⟨v, (h v g.len).1 g⟩
  | some vs =>
    have hf := firstL_some.1 e
    refine firstL_some.2 ⟨(h vs hf.good.len).2 hf.good, fun u hu ht vals g => hf.least u hu ht vals ((h vals g.len).1 g)⟩

theorem good_lits {l : List Cl} {n : Nat} {lits : List Int} {vals : List Bool} : Good l n lits vals ↔ Good (l ++ lits.map fun x => ⟨x, x⟩) n [] vals := by
  constructor
  · rintro ⟨h1, h2, h3⟩
    refine ⟨h1, fun c hc => ?_, fun x hx => by simp at hx⟩
    rcases List.mem_append.1 hc with hc | hc
    · exact h2 c hc
    · obtain ⟨x, hx, rfl⟩ := List.mem_map.1 hc
      exact .inl (h3 x hx)
  · rintro ⟨h1, h2, _⟩
    refine ⟨h1, fun c hc => h2 c (List.mem_append_left _ hc), fun x hx => ?_⟩
    have := h2 ⟨x, x⟩ (List.mem_append_right _ (List.mem_map.2 ⟨x, hx, rfl⟩))
    exact this.elim id id

/-! ### the functions -/
def okLits (n : Int) (lits : List Int) : Bool := lits.all fun x => decide (0 ≤ x) && decide (x < 2 * n)
theorem okLits_iff {n : Int} {lits : List Int} : okLits n lits = true ↔ ∀ x ∈ lits, 0 ≤ x ∧ x < 2 * n := by
  unfold okLits
  simp only [List.all_eq_true, Bool.and_eq_true, decide_eq_true_eq]
/-- Whether one of the literals is true in every assignment. -/
def followsB (l : List Cl) (n : Int) (lits : List Int) : Bool := rightB l n && (okLits n lits && (firstL l n.toNat (lits.map opp)).isNone)
/-- Whether an assignment is one. -/
def checkB (l : List Cl) (n : Int) (vals : List Bool) : Bool := (rightB l n && decide ((vals.length : Int) = n)) && l.all fun c => tv vals c.a || tv vals c.b
theorem checkB_iff {l : List Cl} {n : Int} {vals : List Bool} : checkB l n vals = true ↔ RightP l n ∧ Good l n.toNat [] vals := by
  unfold checkB
  simp only [Bool.and_eq_true, rightB_iff, decide_eq_true_eq, List.all_eq_true, Bool.or_eq_true]
  constructor
  · rintro ⟨⟨h1, h2⟩, h3⟩
    exact ⟨h1, by omega, h3, fun x hx => by simp at hx⟩
  · rintro ⟨h1, h2, h3, _⟩
    have := h1.lo
    exact ⟨⟨h1, by omega⟩, h3⟩
def satB (l : List Cl) (n : Nat) : Prop := ∃ vals, Good l n [] vals
theorem followsB_iff {l : List Cl} {n : Int} {lits : List Int} : followsB l n lits = true ↔ RightP l n ∧ (∀ x ∈ lits, 0 ≤ x ∧ x < 2 * n) ∧ ∀ vals, Good l n.toNat [] vals → ∃ x ∈ lits, tv vals x = true := by
  unfold followsB
  simp only [Bool.and_eq_true, rightB_iff, okLits_iff, Option.isNone_iff_eq_none, firstL_none]
  constructor
  · rintro ⟨h1, h2, h3⟩
    refine ⟨h1, h2, fun vals g => Classical.byContradiction fun hno => h3 ⟨vals, g.len, g.sat, fun y hy => ?_⟩⟩
    obtain ⟨x, hx, rfl⟩ := List.mem_map.1 hy
    rw [tv_opp]
    cases ht : tv vals x with
    | true => exact absurd ⟨x, hx, ht⟩ hno
    | false => rfl
  · rintro ⟨h1, h2, h3⟩
    refine ⟨h1, h2, fun ⟨vals, g⟩ => ?_⟩
    obtain ⟨x, hx, ht⟩ := h3 vals ⟨g.len, g.sat, fun y hy => by simp at hy⟩
    have := g.lit (opp x) (List.mem_map.2 ⟨x, hx, rfl⟩)
    rw [tv_opp, ht] at this
    cases this

/-- What Solve returns: values, a refutation, an error; which refutation, is left open. -/
structure SolveY where
  vals : List Bool
  cyc : List Int
  err : Int
structure SolveS (l : List Cl) (n : Int) (y : SolveY) : Prop where
  bad : rightB l n = false → y = ⟨[], [], 1⟩
  sat : ∀ vs, rightB l n = true → firstL l n.toNat [] = some vs → y = ⟨vs, [], 0⟩
  uns : rightB l n = true → firstL l n.toNat [] = none → y.vals = [] ∧ y.err = 17 ∧ refB l n y.cyc = true
theorem SolveS.ok {l : List Cl} {n : Int} {y : SolveY} (h : SolveS l n y) (hr : rightB l n = true) : (y.err = 0 ↔ satB l n.toNat) ∧ (y.err = 17 ↔ ¬ satB l n.toNat) := by
  unfold satB
  cases e : firstL l n.toNat [] with
  | none =>
    obtain ⟨_, h2, _⟩ := h.uns hr e
    have := firstL_none.1 e
    rw [h2]
    exact ⟨⟨fun h => (by omega), fun h => absurd h this⟩, ⟨fun _ => this, fun _ => rfl⟩⟩
  | some vs =>
    have hv := h.sat vs hr e
    have := (firstL_some.1 e).good
    rw [hv]
    exact ⟨⟨fun _ => ⟨vs, this⟩, fun _ => rfl⟩, ⟨fun h => (by cases h), fun h => absurd ⟨vs, this⟩ h⟩⟩

end Go.Proofs.Ytilhaifmfiobhaa
end

section
/-
  Clauses of two literals: the plain laws of the statements; no program in sight.
-/
namespace Go.Proofs.Ytilhaifmfiobhaa

theorem RightP.append {l m : List Cl} {n : Int} (h : RightP l n) (hm : RightC n m) (hlen : l.length + m.length ≤ 4000) : RightP (l ++ m) n :=
  ⟨h.lo, h.hi, by rw [List.length_append]; exact hlen, fun c hc => (List.mem_append.1 hc).elim (h.cl c) (hm c)⟩
/-! ### what is forced -/
section
variable {l : List Cl} {n : Int} {vs : List Bool} {v : Nat}
end
/-- The first number whose assignment is one is that of the first assignment. -/
theorem first_of_least {l : List Cl} {n k : Nat} (hk : k < 2 ^ n) (hg : Good l n [] (after n k)) (hl : ∀ j, j < k → ¬ Good l n [] (after n j)) : firstL l n [] = some (after n k) := by
  refine firstL_some.2 ⟨hg, fun u hu ht vals g he => ?_⟩
  cases hv : vals.getD u false with
  | true => rfl
  | false =>
    obtain ⟨h1, h2⟩ := after_num n vals g.len
    have := numOf_lt n vals (after n k) g.len (after_len n k) u hu he hv ht
    rw [num_after n k hk] at this
    exact absurd (by rw [h1]; exact g) (hl _ this)
theorem none_of_all {l : List Cl} {n : Nat} {lits : List Int} (hl : ∀ j, j < 2 ^ n → ¬ Good l n lits (after n j)) : firstL l n lits = none := by
  refine firstL_none.2 fun ⟨vals, g⟩ => ?_
  obtain ⟨h1, h2⟩ := after_num n vals g.len
  exact hl _ h2 (by rw [h1]; exact g)
end Go.Proofs.Ytilhaifmfiobhaa
end

section
/-
  Claims and proofs: what they say as clauses, and the conflict; plain Lean, no program in sight.
-/
namespace Go.Proofs.Ytilhaifmfiobhaa

structure Cm where
  acc : Int
  per : Int
structure Pf where
  kind : Int
  a : Int
  b : Int
def dCm : Cm := ⟨0, 0⟩
def dPf : Pf := ⟨0, 0, 0⟩
theorem Cm.ext' {c d : Cm} (h1 : c.acc = d.acc) (h2 : c.per = d.per) : c = d := by
  cases c; cases d; simp at h1 h2; rw [h1, h2]
def cmB (c : Cm) : Bool := (decide (0 ≤ c.acc) && decide (c.acc < 2000)) && (decide (0 ≤ c.per) && decide (c.per < 2000))
def cmEq (c d : Cm) : Bool := decide (c.acc = d.acc) && decide (c.per = d.per)
theorem cmEq_iff {c d : Cm} : cmEq c d = true ↔ c = d := by
  unfold cmEq
  rw [Bool.and_eq_true, decide_eq_true_eq, decide_eq_true_eq]
  exact ⟨fun h => Cm.ext' h.1 h.2, fun h => by rw [h]; exact ⟨rfl, rfl⟩⟩
/-- Whether one of the first k claims is this one. -/
def seenB (C : List Cm) (c : Cm) (k : Nat) : Bool := (List.range k).any fun i => cmEq (C.getD i dCm) c
def pfB (n : Nat) (p : Pf) : Bool := ((decide (0 ≤ p.kind) && decide (p.kind < 5)) && (decide (0 ≤ p.a) && decide (p.a < n))) && ((decide (0 ≤ p.b) && decide (p.b < n)) && (!(decide (p.kind = 0) || decide (p.kind = 1)) || decide (p.b = 0)))
def rightCP (C : List Cm) (P : List Pf) : Bool := ((decide (C.length ≤ 200) && decide (P.length ≤ 400)) && (List.range C.length).all fun k => cmB (C.getD k dCm) && !seenB C (C.getD k dCm) k) && P.all (pfB C.length)
structure RightCP (C : List Cm) (P : List Pf) : Prop where
  lc : C.length ≤ 200
  lp : P.length ≤ 400
  cm : ∀ k, k < C.length → (0 ≤ (C.getD k dCm).acc ∧ (C.getD k dCm).acc < 2000) ∧ (0 ≤ (C.getD k dCm).per ∧ (C.getD k dCm).per < 2000)
  nd : ∀ k i, k < C.length → i < k → C.getD i dCm ≠ C.getD k dCm
  pf : ∀ p ∈ P, ((0 ≤ p.kind ∧ p.kind < 5) ∧ (0 ≤ p.a ∧ p.a < C.length)) ∧ ((0 ≤ p.b ∧ p.b < C.length) ∧ (p.kind = 0 ∨ p.kind = 1 → p.b = 0))
theorem pfB_iff {n : Nat} {p : Pf} : pfB n p = true ↔ ((0 ≤ p.kind ∧ p.kind < 5) ∧ (0 ≤ p.a ∧ p.a < n)) ∧ ((0 ≤ p.b ∧ p.b < n) ∧ (p.kind = 0 ∨ p.kind = 1 → p.b = 0)) := by
  unfold pfB
  simp only [Bool.and_eq_true, decide_eq_true_eq, Bool.or_eq_true, Bool.not_eq_true', Bool.or_eq_false_iff, decide_eq_false_iff_not]
  constructor
  · rintro ⟨⟨h1, h2⟩, h3, h4⟩
    exact ⟨⟨h1, h2⟩, h3, fun h => h4.resolve_left fun hn => h.elim hn.1 hn.2⟩
  · rintro ⟨⟨h1, h2⟩, h3, h4⟩
    refine ⟨⟨h1, h2⟩, h3, ?_⟩
    by_cases h5 : p.kind = 0 ∨ p.kind = 1
    · exact .inr (h4 h5)
    · exact .inl ⟨fun h => h5 (.inl h), fun h => h5 (.inr h)⟩
theorem rightCP_iff {C : List Cm} {P : List Pf} : rightCP C P = true ↔ RightCP C P := by
  unfold rightCP cmB seenB
  simp only [Bool.and_eq_true, decide_eq_true_eq, List.all_eq_true, List.mem_range, Bool.not_eq_true', List.any_eq_false, cmEq_iff, pfB_iff]
  constructor
  · rintro ⟨⟨⟨h1, h2⟩, h3⟩, h4⟩
    exact ⟨h1, h2, fun k hk => (h3 k hk).1, fun k i hk hi => (h3 k hk).2 i hi, h4⟩
  · rintro ⟨h1, h2, h3, h4, h5⟩
    exact ⟨⟨⟨h1, h2⟩, fun k hk => ⟨h3 k hk, fun i hi => h4 k i hk hi⟩⟩, h5⟩

/-- The clause of a proof. -/
def clauseOf (p : Pf) : Cl :=
  if p.kind = 0 then ⟨2 * p.a, 2 * p.a⟩ else if p.kind = 1 then ⟨2 * p.a + 1, 2 * p.a + 1⟩ else if p.kind = 2 then ⟨2 * p.a, 2 * p.b⟩ else if p.kind = 3 then ⟨2 * p.a + 1, 2 * p.b + 1⟩ else ⟨2 * p.a + 1, 2 * p.b⟩
/-- The clauses of two claims about one account: for the claim with number k those of the first m. -/
def pairsL (C : List Cm) (k m : Nat) : List Cl := (List.range m).flatMap fun i => if (C.getD k dCm).acc = (C.getD i dCm).acc then [⟨2 * (i : Int) + 1, 2 * (k : Int) + 1⟩] else []
def baseL (C : List Cm) (n : Nat) : List Cl := (List.range n).flatMap fun k => pairsL C k k
theorem pairsL_succ (C : List Cm) (k m : Nat) : pairsL C k (m + 1) = pairsL C k m ++ (if (C.getD k dCm).acc = (C.getD m dCm).acc then [⟨2 * (m : Int) + 1, 2 * (k : Int) + 1⟩] else []) := by
  unfold pairsL
  rw [List.range_succ, List.flatMap_append]
  simp
theorem baseL_succ (C : List Cm) (n : Nat) : baseL C (n + 1) = baseL C n ++ pairsL C n n := by
  unfold baseL
  rw [List.range_succ, List.flatMap_append]
  simp
theorem mem_pairsL {C : List Cm} {k m : Nat} {c : Cl} : c ∈ pairsL C k m ↔ ∃ i, i < m ∧ (C.getD k dCm).acc = (C.getD i dCm).acc ∧ c = ⟨2 * (i : Int) + 1, 2 * (k : Int) + 1⟩ := by
  unfold pairsL
  simp only [List.mem_flatMap, List.mem_range]
  constructor
  · rintro ⟨i, hi, h⟩
    split at h
    · rename_i e; exact ⟨i, hi, e, by simpa using h⟩
    · simp at h
  · rintro ⟨i, hi, e, rfl⟩
    exact ⟨i, hi, by rw [if_pos e]; simp⟩
theorem mem_baseL {C : List Cm} {n : Nat} {c : Cl} : c ∈ baseL C n ↔ ∃ k i, k < n ∧ i < k ∧ (C.getD k dCm).acc = (C.getD i dCm).acc ∧ c = ⟨2 * (i : Int) + 1, 2 * (k : Int) + 1⟩ := by
  unfold baseL
  simp only [List.mem_flatMap, List.mem_range, mem_pairsL]
  constructor
  · rintro ⟨k, hk, i, hi, h1, h2⟩; exact ⟨k, i, hk, hi, h1, h2⟩
  · rintro ⟨k, i, hk, hi, h1, h2⟩; exact ⟨k, hk, i, hi, h1, h2⟩
theorem pairsL_len (C : List Cm) (k : Nat) : ∀ m, (pairsL C k m).length ≤ m
  | 0 => by simp [pairsL]
  | m + 1 => by
    have := pairsL_len C k m
    rw [pairsL_succ, List.length_append]
    split <;> simp <;> omega
theorem baseL_len (C : List Cm) (b : Nat) : ∀ n, n ≤ b → (baseL C n).length ≤ n * b
  | 0, _ => by simp [baseL]
  | n + 1, h => by
    have := baseL_len C b n (by omega)
    have := pairsL_len C n n
    rw [baseL_succ, List.length_append, Nat.add_mul]
    omega
theorem baseL_right (C : List Cm) (n : Nat) : RightC (n : Int) (baseL C n) := by
  intro c hc
  obtain ⟨k, i, hk, hi, _, rfl⟩ := mem_baseL.1 hc
  constructor <;> constructor <;> dsimp only <;> omega
theorem clauseOf_right {n : Nat} {p : Pf} (h : ((0 ≤ p.kind ∧ p.kind < 5) ∧ (0 ≤ p.a ∧ p.a < (n : Int))) ∧ ((0 ≤ p.b ∧ p.b < (n : Int)) ∧ (p.kind = 0 ∨ p.kind = 1 → p.b = 0))) : (0 ≤ (clauseOf p).a ∧ (clauseOf p).a < 2 * (n : Int)) ∧ 0 ≤ (clauseOf p).b ∧ (clauseOf p).b < 2 * (n : Int) := by
  obtain ⟨⟨_, h1⟩, h2, _⟩ := h
  unfold clauseOf
  repeat' split
  all_goals (dsimp only; omega)
def clausesL (C : List Cm) (P : List Pf) : List Cl := baseL C C.length ++ P.map clauseOf
/-- What Clauses returns. -/
def clausesY (C : List Cm) (P : List Pf) : List Cl × Int := if rightCP C P = true then (if 4000 < (clausesL C P).length then ([], 6) else (clausesL C P, 0)) else ([], 1)
theorem clausesL_right {C : List Cm} {P : List Pf} (h : RightCP C P) (hl : (clausesL C P).length ≤ 4000) : RightP (clausesL C P) C.length := by
  have := h.lc
  refine ⟨by omega, by omega, hl, fun c hc => ?_⟩
  rcases List.mem_append.1 hc with hc | hc
  · exact baseL_right C _ c hc
  · obtain ⟨p, hp, rfl⟩ := List.mem_map.1 hc
    exact clauseOf_right (h.pf p hp)
section
variable {U : List Int → Bool}
/-- The conflict: what contradicts, and of which nothing can be left out. -/
structure ConfS (U : List Int → Bool) (n : Nat) (c : List Int) : Prop where
  rng : ∀ x ∈ c, 0 ≤ x ∧ x < n
  asc : c.Pairwise (· < ·)
  u : U c
  min : ∀ x ∈ c, ¬ U (c.filter fun q => decide (q ≠ x))
end
end Go.Proofs.Ytilhaifmfiobhaa
end

section
/-
  Persons: to whom accounts belong; plain Lean, no program in sight.
-/
namespace Go.Proofs.Ytilhaifmfiobhaa

/-- An assignment that agrees with claims and proofs. -/
def Wd (C : List Cm) (P : List Pf) (vals : List Bool) : Prop := Good (clausesL C P) C.length [] vals
/-- The persons of the claims about an account, ascending. -/
structure IsPers (C : List Cm) (a : Int) (L : List Int) : Prop where
  asc : L.Pairwise (· < ·)
  mem : ∀ p, p ∈ L ↔ ∃ i, i < C.length ∧ (C.getD i dCm).acc = a ∧ (C.getD i dCm).per = p
def okCP (C : List Cm) (P : List Pf) : Bool := decide ((clausesY C P).2 = 0)
theorem okCP_iff {C : List Cm} {P : List Pf} : okCP C P = true ↔ RightCP C P ∧ (clausesL C P).length ≤ 4000 := by
  unfold okCP clausesY
  rw [decide_eq_true_eq]
  by_cases h : rightCP C P = true
  · rw [if_pos h]
    by_cases h2 : 4000 < (clausesL C P).length
    · rw [if_pos h2]
      exact ⟨fun h => (by cases h), fun h3 => (by omega)⟩
    · rw [if_neg h2]
      exact ⟨fun _ => ⟨rightCP_iff.1 h, by omega⟩, fun _ => rfl⟩
  · rw [if_neg h]
    exact ⟨fun h => (by cases h), fun h3 => absurd (rightCP_iff.2 h3.1) h⟩
theorem okCP_cl {C : List Cm} {P : List Pf} (h : okCP C P = true) : clausesY C P = (clausesL C P, 0) := by
  obtain ⟨h1, h2⟩ := okCP_iff.1 h
  unfold clausesY
  rw [if_pos (rightCP_iff.2 h1), if_neg (by omega)]
theorem not_okCP_cl {C : List Cm} {P : List Pf} (h : okCP C P = false) : (clausesY C P).1 = [] ∧ (clausesY C P).2 ≠ 0 := by
  unfold okCP at h
  rw [decide_eq_false_iff_not] at h
  refine ⟨?_, h⟩
  unfold clausesY at h ⊢
  split
  · rename_i h1
    rw [if_pos h1] at h
    split
    · rfl
    · rename_i h2; rw [if_neg h2] at h; exact absurd rfl h
  · rfl
/-! ### the laws -/
section
variable {C : List Cm} {P : List Pf} {La Lb Lc : List Int} {a b c : Int}
end
section
variable {C : List Cm} {P : List Pf} {q : Pf} {La : List Int} {a b : Int}
end
end Go.Proofs.Ytilhaifmfiobhaa
end

section
/-
  Where there is no assignment, some variable leads to its opposite and back.
-/
namespace Go.Proofs.Ytilhaifmfiobhaa

end Go.Proofs.Ytilhaifmfiobhaa
end
