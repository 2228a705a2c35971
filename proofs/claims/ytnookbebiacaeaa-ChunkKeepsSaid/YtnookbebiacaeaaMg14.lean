/-
  Several texts in one: Eng14, EngO, EngQ, EngW, EngU.
-/
import Derived.ProofKit
import Derived.Deep.Slices
import Derived.Deep.Fields
import Derived.ChangeSame
import Derived.Test.YtnookbebiacaeaaMg13

section
namespace Go.Eng
open Go.ChangeShapes Go.WideShapes Go.ChangeAt Go.RowKit Go.Deep
section
variable {H : Type} {enc : TypeId × Value → H} {P : Program}
theorem trodAll_below (hl : laidOutB P = true) {W W' : World} {sp : Nat → Bool} (hb : Below W.heap.size W W') : ∀ {ts : List TypeId} {vs : List Value} {ds : List (DataW H)} {ps : List MemPlace},
  ts.all (fun t => P.readableRec t && decide (t < P.types.size)) = true → DataW.TrodAll enc P W 0 (fun _ => true) true ts vs ds ps → (∀ x ∈ ps, sp x.block = true) → (∀ x ∈ ps, x.block < W.heap.size) →
  DataW.TrodAll enc P W' 0 sp true ts vs ds ps
 | [], vs, ds, ps, _, h, _, _ => by
  cases vs <;> cases ds <;> first | exact h | exact h.elim
 | t :: ts, vs, ds, ps, hts, h, hsp, hlt => by
  cases vs with
  | nil => cases ds <;> exact h.elim
  | cons v vs =>
   cases ds with
   | nil => exact h.elim
   | cons d ds =>
    obtain ⟨p, q, h1, h2, rfl⟩ := h
    simp only [List.all_cons, Bool.and_eq_true, decide_eq_true_eq] at hts
    exact ⟨p, q, WideElems.Trod_stays hl hts.1.1 hts.1.2 h1 (fun x hx => hb.same (hlt x (by simp [hx]))) (fun x hx => hsp x (by simp [hx])),
     trodAll_below hl hb (by simpa using hts.2) h2 (fun x hx => hsp x (by simp [hx])) (fun x hx => hlt x (by simp [hx])), rfl⟩
theorem post_true {f : Func} {s : ChangeSpec} {apart fresh handsOn : Bool} {W W' : World} {args : Array Value} {ds gs : List (DataW H)} {before : List MemPlace} {tb : TypeId}
  (hl : laidOutB P = true) (hts : f.params.toList.all (fun t => P.readableRec t && decide (t < P.types.size)) = true)
  (hW : DataW.Whole enc P f.params.toList s.vars apart W args.toList ds gs before) (hvars : s.vars = [])
  (hs : s.fn H (ds ++ gs) = { results := [.lit (.bool true)], args := ds }) (hres : f.resultTypes = #[tb]) (htb : P.underlying tb = some .bool) (hb : Below W.heap.size W W') :
  s.post enc P f apart fresh handsOn false W args (.bool true) W' := by
 have hlt : ∀ x ∈ before, x.block < W.heap.size := fun x hx => by simpa using hW.lt x hx
 have hW2 := hW
 obtain ⟨p, q, hA, hV, rfl, hfz, hnd⟩ := hW
 have hV0 := hV
 rw [hvars] at hV0
 obtain ⟨rfl, rfl⟩ := trodVars_none hV0
 have hargs : DataW.TrodAll enc P W' 0 (fun b => decide (b < W.heap.size)) true f.params.toList args.toList (s.fn H (ds ++ [])).args p := by
  rw [hs]
  exact trodAll_below hl hb hts hA (fun x hx => by simpa using hlt x (by simp [hx])) (fun x hx => hlt x (by simp [hx]))
 refine ⟨ds, [], p ++ [], [], p, [], hW2, ?_, hargs, ?_, Go.RowKit.Below.frame hb.toBelow _, fun h => by cases h⟩
 ·rw [hs, hres]
  exact trodAll_mk1 (shut_bool htb true)
 ·rw [hs, hvars]
  exact rfl
end
end Go.Eng
end

section
namespace Go.Eng
open Go.ChangeShapes Go.WideShapes Go.ChangeAt Go.RowKit Go.Deep
inductive Sh where
 | ki (k : IntKind)
 | kb
 | ks
 | kst (fs : List Sh)
 | ksl (e : Sh)
 | kx
mutual
def Sh.sz : Sh → Nat
 | .kst fs => Sh.szs fs
 | _ => 1
def Sh.szs : List Sh → Nat
 | [] => 0
 | f :: r => Sh.sz f + Sh.szs r
end
mutual
def Sh.Val : Sh → Type
 | .ki _ => Int
 | .kb => Bool
 | .ks => ByteArray
 | .kst fs => Sh.Vals fs
 | .ksl e => List (Sh.Val e)
 | .kx => Unit
def Sh.Vals : List Sh → Type
 | [] => Unit
 | f :: r => Sh.Val f × Sh.Vals r
end
mutual
def Sh.dv : (s : Sh) → s.Val
 | .ki _ => (0 : Int)
 | .kb => false
 | .ks => ByteArray.empty
 | .kst fs => Sh.dvs fs
 | .ksl _ => []
 | .kx => ()
def Sh.dvs : (l : List Sh) → Sh.Vals l
 | [] => ()
 | f :: r => (Sh.dv f, Sh.dvs r)
end
mutual
def Sh.av : (s : Sh) → s.Val → List AV
 | .ki k, n => [.i k n]
 | .kb, c => [.b c]
 | .ks, x => [.s x]
 | .kst fs, v => Sh.avs fs v
 | .ksl e, l => [.rs e.sz (List.length l) fun k => Sh.av e (List.getD l k e.dv)]
 | .kx, _ => [.u]
def Sh.avs : (l : List Sh) → Sh.Vals l → List AV
 | [], _ => []
 | f :: r, v => Sh.av f v.1 ++ Sh.avs r v.2
end
mutual
def Sh.wf : (s : Sh) → s.Val → Prop
 | .ki k, n => (Lit.int k n).wf = true
 | .kb, _ => True
 | .ks, x => ByteArray.size x ≤ maxLen
 | .kst fs, v => Sh.wfs fs v
 | .ksl e, l => List.length l ≤ maxLen ∧ ∀ x : Sh.Val e, List.Mem x l → Sh.wf e x
 | .kx, _ => True
def Sh.wfs : (l : List Sh) → Sh.Vals l → Prop
 | [], _ => True
 | f :: r, v => Sh.wf f v.1 ∧ Sh.wfs r v.2
end
mutual
def ShOk (P : Program) : Sh → TypeId → Prop
 | .ki k, t => P.underlying t = some (.int k)
 | .kb, t => P.underlying t = some .bool
 | .ks, t => P.underlying t = some .string
 | .kst fs, t => ∃ fl : Array Field, P.underlying t = some (.struct fl) ∧ P.cellsOf t = Sh.szs fs ∧ ShOks P fs 0 fl.toList
 | .ksl e, t => ∃ te, P.underlying t = some (.slice te) ∧ P.cellsOf te = e.sz ∧ 0 < e.sz ∧ ShOk P e te
 | .kx, t => ∃ te, P.underlying t = some (.slice te)
def ShOks (P : Program) : List Sh → Nat → List Field → Prop
 | [], _, [] => True
 | s :: r, off, f :: fr => f.offset = off ∧ P.cellsOf f.type = s.sz ∧ ShOk P s f.type ∧ ShOks P r (off + s.sz) fr
 | _, _, _ => False
end
mutual
def shB (P : Program) : Sh → TypeId → Bool
 | .ki k, t => (match P.underlying t with
  | some (.int k') => decide (k' = k)
  | _ => false)
 | .kb, t => (match P.underlying t with
  | some .bool => true
  | _ => false)
 | .ks, t => (match P.underlying t with
  | some .string => true
  | _ => false)
 | .kst fs, t => (match P.underlying t with
  | some (.struct fl) => Nat.beq (P.cellsOf t) (Sh.szs fs) && shBs P fs 0 fl.toList
  | _ => false)
 | .ksl e, t => (match P.underlying t with
  | some (.slice te) => Nat.beq (P.cellsOf te) e.sz && Nat.blt 0 e.sz && shB P e te
  | _ => false)
 | .kx, t => (match P.underlying t with
  | some (.slice _) => true
  | _ => false)
def shBs (P : Program) : List Sh → Nat → List Field → Bool
 | [], _, [] => true
 | s :: r, off, f :: fr => Nat.beq f.offset off && Nat.beq (P.cellsOf f.type) s.sz && shB P s f.type && shBs P r (off + s.sz) fr
 | _, _, _ => false
end
section
variable {P : Program}
mutual
theorem shB_ok : ∀ {s : Sh} {t : TypeId}, shB P s t = true → ShOk P s t
 | .ki k, t, h => by
  simp only [shB] at h
  split at h
  ·rename_i e; simp only [ShOk]; rw [e]; rw [of_decide_eq_true h]
  ·cases h
 | .kb, t, h => by
  simp only [shB] at h
  split at h
  ·rename_i e; simp only [ShOk]; rw [e]
  ·cases h
 | .ks, t, h => by
  simp only [shB] at h
  split at h
  ·rename_i e; simp only [ShOk]; rw [e]
  ·cases h
 | .kst fs, t, h => by
  simp only [shB] at h
  split at h
  ·rename_i fl e
   simp only [Bool.and_eq_true] at h
   exact ⟨fl, e, Nat.eq_of_beq_eq_true h.1, shBs_ok h.2⟩
  ·cases h
 | .ksl e, t, h => by
  simp only [shB] at h
  split at h
  ·rename_i te he
   simp only [Bool.and_eq_true] at h
   exact ⟨te, he, Nat.eq_of_beq_eq_true h.1.1, by simpa [Nat.blt_eq] using h.1.2, shB_ok h.2⟩
  ·cases h
 | .kx, t, h => by
  simp only [shB] at h
  split at h
  ·rename_i te he
   exact ⟨te, he⟩
  ·cases h
theorem shBs_ok : ∀ {l : List Sh} {off : Nat} {fl : List Field}, shBs P l off fl = true → ShOks P l off fl
 | [], _, [], _ => trivial
 | s :: r, off, f :: fr, h => by
  simp only [shBs, Bool.and_eq_true] at h
  exact ⟨Nat.eq_of_beq_eq_true h.1.1.1, Nat.eq_of_beq_eq_true h.1.1.2, shB_ok h.1.2, shBs_ok h.2⟩
 | [], _, _ :: _, h => by simp [shBs] at h
 | _ :: _, _, [], h => by simp [shBs] at h
end
mutual
theorem Sh.av_length : ∀ (s : Sh) (v : s.Val), (Sh.av s v).length = s.sz
 | .ki k, n => rfl
 | .kb, c => rfl
 | .ks, x => rfl
 | .kst fs, v => by simp only [Sh.av, Sh.sz]; exact Sh.avs_length fs v
 | .ksl e, l => rfl
 | .kx, l => rfl
theorem Sh.avs_length : ∀ (l : List Sh) (v : Sh.Vals l), (Sh.avs l v).length = Sh.szs l
 | [], _ => rfl
 | f :: r, v => by simp only [Sh.avs, Sh.szs, List.length_append, Sh.av_length f v.1, Sh.avs_length r v.2]
end
def CellsAre (W : World) (as : List AV) (cs : List Value) : Prop := as.length = cs.length ∧ ∀ (j : Nat) a u, as[j]? = some a → cs[j]? = some u → Rep0 (fun _ => False) W a u ∧ u.oneCell' = true
theorem CellsAre.one {W : World} {a : AV} {u : Value} (h : Rep0 (fun _ => False) W a u) (h1 : u.oneCell' = true) : CellsAre W [a] [u] := by
 refine ⟨rfl, fun j a' u' ha hu => ?_⟩
 match j with
 | 0 => simp at ha hu; subst ha hu; exact ⟨h, h1⟩
 | j + 1 => simp at ha
theorem CellsAre.append {W : World} {as bs : List AV} {cs ds : List Value} (h : CellsAre W as cs) (g : CellsAre W bs ds) : CellsAre W (as ++ bs) (cs ++ ds) := by
 refine ⟨by simp [h.1, g.1], fun j a u ha hu => ?_⟩
 by_cases hj : j < as.length
 ·rw [List.getElem?_append_left hj] at ha
  rw [List.getElem?_append_left (by rw [← h.1]; exact hj)] at hu
  exact h.2 j a u ha hu
 ·rw [List.getElem?_append_right (by omega)] at ha
  rw [List.getElem?_append_right (by rw [← h.1]; omega), ← h.1] at hu
  exact g.2 _ a u ha hu
variable {H : Type} {enc : TypeId × Value → H} {W : World}
theorem cell_lt {a : Addr} {v : Value} (h : W.cell? a = some v) : a.block < W.heap.size := by
 unfold World.cell? at h
 split at h
 ·rename_i hh; exact (Array.getElem?_eq_some_iff.1 hh).1
 ·cases h
theorem open_sl {e : Sh} {t te : TypeId} {fuel : Nat} {cs : List Value} {x : DataW H × List MemPlace} (ht : P.underlying t = some (.slice te)) (hc : P.cellsOf te = e.sz) (h0 : 0 < e.sz)
  (he : ∀ n cs y, DataW.trod enc P W 0 (fun _ => true) true n te cs = some y → ∃ v : e.Val, e.wf v ∧ CellsAre W (e.av v) cs)
  (h : DataW.trod enc P W 0 (fun _ => true) true fuel t cs = some x) :
  ∃ l : List e.Val, (l.length ≤ maxLen ∧ ∀ z ∈ l, e.wf z) ∧ CellsAre W [.rs e.sz l.length fun k => e.av (l.getD k e.dv)] cs ∧ (l = [] ∨ ∃ el sp, x.1 = .slice el sp ∧ l.length = el.length) := by
 rcases open_slice ht h with ⟨rfl, rfl⟩ | ⟨a, len, cap, m, n, D, Pl, rfl, _, hl, hm, hmm, rfl, hi⟩
 ·exact ⟨[], ⟨Nat.zero_le _, fun z hz => by cases hz⟩, CellsAre.one (.rsnil _ _) rfl, .inl rfl⟩
 ·simp only [if_true] at hmm
  have hmm := hmm.symm
  subst hmm
  by_cases hcap : cap = 0
  ·subst hcap
   obtain rfl : len = 0 := by omega
   exact ⟨[], ⟨Nat.zero_le _, fun z hz => by cases hz⟩, CellsAre.one (.rsz _ _ a) rfl, .inl rfl⟩
  obtain ⟨ab, ao, asp⟩ := a
  have hplain : asp = none ∧ ab < W.heap.size := by
   obtain ⟨cs', hcs, _⟩ := hi 0 (by omega)
   rw [hc] at hcs
   obtain ⟨_, hcl, hat⟩ := World.cells?_some hcs
   have h1 := hat 0 h0
   have h2 : (cs'[0]?) = some (cs'[0]'(by omega)) := List.getElem?_eq_getElem _
   rw [h2] at h1
   have h3 := World.cell?_spot h1
   have h4 := cell_lt h1
   simp [Addr.add] at h3 h4
   exact ⟨h3, h4⟩
  obtain ⟨rfl, hlt⟩ := hplain
  have hex : ∀ i, i < len → ∃ v : e.Val, e.wf v ∧ ∀ j, j < e.sz → ∃ u, W.cell? ⟨ab, ao + i * e.sz + j, none⟩ = some u ∧ u.oneCell' = true ∧ ∀ a, (e.av v)[j]? = some a → Rep0 (fun _ => False) W a u := by
   intro i hil
   obtain ⟨cs', hcs, htr⟩ := hi i (by omega)
   rw [hc] at hcs
   obtain ⟨_, hcl, hat⟩ := World.cells?_some hcs
   obtain ⟨v, hw, hca⟩ := he _ _ _ htr
   refine ⟨v, hw, fun j hj => ?_⟩
   have h1 := hat j hj
   have h2 : (cs'[j]?) = some (cs'[j]'(by omega)) := List.getElem?_eq_getElem _
   have hj' : j < (e.av v).length := by rw [hca.1]; omega
   have h5 := hca.2 j _ _ (List.getElem?_eq_getElem hj') h2
   refine ⟨cs'[j]'(by omega), ?_, h5.2, fun a ha => ?_⟩
   ·rw [h2, Go.Deep.add_add] at h1
    rw [← h1]
    congr 1
    unfold Addr.add
    split
    ·rename_i h0
     have h1 : i * e.sz = 0 := by omega
     have h2 : j = 0 := by omega
     rw [h1, h2]
     rfl
    ·simp [Nat.add_assoc]
   ·rw [List.getElem?_eq_getElem hj'] at ha
    obtain rfl := Option.some.inj ha
    exact h5.1
  let F : Nat → e.Val := fun i => if hi : i < len then Classical.choose (hex i hi) else e.dv
  have hF : ∀ i, i < len → e.wf (F i) ∧ ∀ j, j < e.sz → ∃ u, W.cell? ⟨ab, ao + i * e.sz + j, none⟩ = some u ∧ u.oneCell' = true ∧ ∀ a, (e.av (F i))[j]? = some a → Rep0 (fun _ => False) W a u := by
   intro i hi
   have : F i = Classical.choose (hex i hi) := by simp only [F, dif_pos hi]
   rw [this]
   exact Classical.choose_spec (hex i hi)
  have hlen : ((List.range len).map F).length = len := by simp
  have hget : ∀ k, k < len → ((List.range len).map F).getD k e.dv = F k := fun k hk => by
   simp [List.getD, hk]
  refine ⟨(List.range len).map F, ⟨by rw [hlen]; omega, fun z hz => ?_⟩, CellsAre.one ?_ rfl, .inr ⟨_, _, rfl, by simp⟩⟩
  ·simp only [List.mem_map, List.mem_range] at hz
   obtain ⟨i, hi, rfl⟩ := hz
   exact (hF i hi).1
  rw [hlen]
  refine .rs e.sz len _ ab ao cap (fun k j => (W.cell? ⟨ab, ao + k * e.sz + j, none⟩).getD (.bool false)) hl hm (fun h => h) hlt (fun k _ => Sh.av_length _ _) (fun k j hk hj => ?_) (fun k j hk hj => ?_) (fun k j hk hj => ?_)
  ·obtain ⟨u, hu, _⟩ := (hF k hk).2 j hj
   rw [hu]; rfl
  ·obtain ⟨u, hu, h1, _⟩ := (hF k hk).2 j hj
   rw [hu]; exact h1
  ·have hj' : j < e.sz := by rw [Sh.av_length] at hj; exact hj
   obtain ⟨u, hu, _, h1⟩ := (hF k hk).2 j hj'
   rw [hu]
   refine h1 _ ?_
   rw [← hget k hk]
   exact List.getElem?_eq_getElem hj
mutual
theorem open_sh : ∀ {s : Sh} {t : TypeId}, ShOk P s t → ∀ {fuel : Nat} {cs : List Value} {x : DataW H × List MemPlace}, DataW.trod enc P W 0 (fun _ => true) true fuel t cs = some x → ∃ v : s.Val, s.wf v ∧ CellsAre W (s.av v) cs
 | .ki k, t, ht, fuel, cs, x, h => by
  obtain ⟨z, rfl, _, hw⟩ := DataW.trod_int ht h
  exact ⟨z, hw, CellsAre.one (.i _ _) rfl⟩
 | .kb, t, ht, fuel, cs, x, h => by
  obtain ⟨z, rfl, _⟩ := DataW.trod_bool ht h
  exact ⟨z, trivial, CellsAre.one (.b _) rfl⟩
 | .ks, t, ht, fuel, cs, x, h => by
  obtain ⟨z, rfl, _, hw⟩ := DataW.trod_string ht h
  exact ⟨z, hw, CellsAre.one (.s _) rfl⟩
 | .kst fs, t, ⟨fl, ht, hsz, hfs⟩, fuel, cs, x, h => by
  obtain ⟨ys, n, _, _, hl, hlen, hg⟩ := DataW.trod_struct ht h
  have hall : ∀ f ∈ fl.toList, ∃ y, DataW.trod enc P W 0 (fun _ => true) true n f.type ((cs.drop f.offset).take (P.cellsOf f.type)) = some y := by
   intro f hf
   obtain ⟨i, hi, rfl⟩ := List.getElem_of_mem hf
   have hi2 : i < fl.size := by simpa using hi
   have h1 := hg i fl[i] (Array.getElem?_eq_getElem hi2)
   rw [List.getElem?_eq_getElem (by omega)] at h1
   exact ⟨_, h1⟩
  obtain ⟨v, hw, hc⟩ := open_shs hfs hall (by rw [hl, hsz]; simp)
  refine ⟨v, hw, ?_⟩
  have e : (cs.drop 0).take (Sh.szs fs) = cs := by
   rw [← hsz, ← hl]
   simp
  rw [e] at hc
  exact hc
 | .ksl e, t, ⟨te, ht, hc, h0, hte⟩, fuel, cs, x, h => by
  obtain ⟨l, hw, hca, _⟩ := open_sl ht hc h0 (fun n cs y hy => open_sh hte hy) h
  exact ⟨l, hw, hca⟩
 | .kx, t, ⟨te, ht⟩, fuel, cs, x, h => by
  rcases open_slice ht h with ⟨rfl, rfl⟩ | ⟨a, len, cap, m, n, D, Pl, rfl, _⟩
  ·exact ⟨(), trivial, CellsAre.one (.u _) rfl⟩
  ·exact ⟨(), trivial, CellsAre.one (.u _) rfl⟩
theorem open_shs : ∀ {l : List Sh} {off : Nat} {fl : List Field}, ShOks P l off fl → ∀ {n : Nat} {cs : List Value},
  (∀ f ∈ fl, ∃ y, DataW.trod enc P W 0 (fun _ => true) true n f.type ((cs.drop f.offset).take (P.cellsOf f.type)) = some y) → off + Sh.szs l ≤ cs.length →
  ∃ v : Sh.Vals l, Sh.wfs l v ∧ CellsAre W (Sh.avs l v) ((cs.drop off).take (Sh.szs l))
 | [], off, [], _, n, cs, _, _ => ⟨(), trivial, by simp only [Sh.avs, Sh.szs, List.take_zero]; exact ⟨rfl, fun j a u ha => by simp at ha⟩⟩
 | s :: r, off, f :: fr, ⟨ho, hc, hs, hr⟩, n, cs, hall, hle => by
  simp only [Sh.szs] at hle
  obtain ⟨y, hy⟩ := hall f (by simp)
  rw [ho, hc] at hy
  obtain ⟨v1, hw1, hc1⟩ := open_sh hs hy
  obtain ⟨v2, hw2, hc2⟩ := open_shs hr (fun f hf => hall f (by simp [hf])) (by omega)
  refine ⟨(v1, v2), ⟨hw1, hw2⟩, ?_⟩
  have e : (cs.drop off).take (Sh.szs (s :: r)) = (cs.drop off).take s.sz ++ (cs.drop (off + s.sz)).take (Sh.szs r) := by
   simp only [Sh.szs]
   rw [List.take_add, List.drop_drop]
  rw [e]
  exact hc1.append hc2
 | [], _, _ :: _, h, _, _, _, _ => h.elim
 | _ :: _, _, [], h, _, _, _, _ => h.elim
end
def Sh.top : (s : Sh) → s.Val → AV
 | .ki k, n => .i k n
 | .kb, c => .b c
 | .ks, x => .s x
 | .kst fs, v => .ag (Sh.avs fs v)
 | .ksl e, l => .rs e.sz (List.length l) fun k => Sh.av e (List.getD l k e.dv)
 | .kx, _ => .u
def Sh.tops : (l : List Sh) → Sh.Vals l → List AV
 | [], _ => []
 | f :: r, v => Sh.top f v.1 :: Sh.tops r v.2
def ShAll (P : Program) : List Sh → List TypeId → Prop
 | [], [] => True
 | s :: r, t :: tr => ShOk P s t ∧ ShAll P r tr
 | _, _ => False
def shAllB (P : Program) : List Sh → List TypeId → Bool
 | [], [] => true
 | s :: r, t :: tr => shB P s t && shAllB P r tr
 | _, _ => false
theorem shAll_ok : ∀ {l : List Sh} {ts : List TypeId}, shAllB P l ts = true → ShAll P l ts
 | [], [], _ => trivial
 | s :: r, t :: tr, h => by
  simp only [shAllB, Bool.and_eq_true] at h
  exact ⟨shB_ok h.1, shAll_ok h.2⟩
 | [], _ :: _, h => by simp [shAllB] at h
 | _ :: _, [], h => by simp [shAllB] at h
theorem single_cells {v : Value} {u : Value} (h : v.cells.toList = [u]) (hn : ∀ cs, v ≠ .agg cs) : v = u := by
 cases v <;> simp [Value.cells] at h <;> first | exact h | exact (hn _ rfl).elim
def flatD : TypeDesc → Bool
 | .int _ => true
 | .bool => true
 | .string => true
 | .slice _ => true
 | _ => false
theorem not_agg {t : TypeId} {td : TypeDesc} {base : Nat} {v : Value} (ht : P.underlying t = some td) (hd : flatD td = true) (hv : Value.okWide P W .any base t v) : ∀ cs, v ≠ .agg cs := by
  rintro cs rfl
  unfold Value.okWide at hv
  rw [ht] at hv
  cases td <;> first
    | (cases hd; done)
    | (dsimp only at hv
       unfold Cell.okWide at hv
       rw [ht] at hv
       dsimp only at hv
       unfold Cell.ok at hv
       rw [ht] at hv
       exact hv)
theorem open_top {s : Sh} {t : TypeId} {base : Nat} {v : Value} {d : DataW H} {p : List MemPlace} (ht : ShOk P s t) (hv : Value.okWide P W .any base t v) (h : DataW.Trod enc P W 0 (fun _ => true) true t v d p) :
  ∃ x : s.Val, s.wf x ∧ Rep0 (fun _ => False) W (s.top x) v := by
 obtain ⟨fuel, h⟩ := h
 obtain ⟨x, hw, hc⟩ := open_sh ht h
 refine ⟨x, hw, ?_⟩
 have one : ∀ {a : AV}, CellsAre W [a] v.cells.toList → (∀ cs, v ≠ .agg cs) → Rep0 (fun _ => False) W a v := by
  intro a hca hn
  obtain ⟨u, hu⟩ : ∃ u, v.cells.toList = [u] := by
   have := hca.1
   generalize v.cells.toList = l at this
   match l, this with
   | [u], _ => exact ⟨u, rfl⟩
  rw [single_cells hu hn]
  exact (hca.2 0 a u rfl (by rw [hu]; rfl)).1
 cases s with
 | ki k => exact one hc (not_agg (show P.underlying t = some _ from ht) rfl hv)
 | kb => exact one hc (not_agg (show P.underlying t = some _ from ht) rfl hv)
 | ks => exact one hc (not_agg (show P.underlying t = some _ from ht) rfl hv)
 | ksl e =>
  obtain ⟨te, ht, _⟩ := ht
  exact one hc (not_agg ht rfl hv)
 | kx =>
  obtain ⟨te, ht⟩ := ht
  exact one hc (not_agg ht rfl hv)
 | kst fs =>
  obtain ⟨fl, ht, hsz, hfs⟩ := ht
  unfold Value.okWide at hv
  rw [ht] at hv
  obtain ⟨cs, rfl, _⟩ := hv
  have hc' : CellsAre W (Sh.avs fs x) cs.toList := hc
  have e : Value.agg cs = .agg cs.toList.toArray := by simp
  rw [e]
  exact .ag _ cs.toList hc'.1 fun j h1 h2 => (hc'.2 j _ _ (List.getElem?_eq_getElem h1) (List.getElem?_eq_getElem h2)).1
theorem open_all : ∀ {l : List Sh} {ts : List TypeId} {vs : List Value} {ds : List (DataW H)} {p : List MemPlace} {base : Nat}, ShAll P l ts → (∀ (j : Nat) t v, ts[j]? = some t → vs[j]? = some v → Value.okWide P W .any base t v) →
  DataW.TrodAll enc P W 0 (fun _ => true) true ts vs ds p →
  ∃ x : Sh.Vals l, Sh.wfs l x ∧ ds.length = l.length ∧ (Sh.tops l x).length = vs.length ∧ ∀ (j : Nat) (h1 : j < (Sh.tops l x).length) (h2 : j < vs.length), Rep0 (fun _ => False) W (Sh.tops l x)[j] vs[j]
 | [], [], vs, ds, p, base, _, _, h => by
  obtain ⟨rfl, rfl, rfl⟩ := trodAll_nil h
  exact ⟨(), trivial, rfl, rfl, fun j h1 => by simp [Sh.tops] at h1⟩
 | s :: r, t :: tr, vs, ds, p, base, ⟨hs, hr⟩, hv, h => by
  obtain ⟨v0, vs0, d0, ds0, p0, q0, rfl, rfl, rfl, h0, hA⟩ := trodAll_cons h
  obtain ⟨x0, hw0, hr0⟩ := open_top hs (hv 0 t v0 rfl rfl) h0
  obtain ⟨x1, hw1, hd1, hl1, hr1⟩ := open_all hr (fun j t v h1 h2 => hv (j + 1) t v (by simpa using h1) (by simpa using h2)) hA
  refine ⟨(x0, x1), ⟨hw0, hw1⟩, by simp [hd1], by simp [Sh.tops, hl1], fun j h1 h2 => ?_⟩
  cases j with
  | zero => exact hr0
  | succ j => exact hr1 j (by simpa [Sh.tops] using h1) (by simpa using h2)
 | [], _ :: _, _, _, _, _, h, _, _ => h.elim
 | _ :: _, [], _, _, _, _, h, _, _ => h.elim
end
theorem map_rs (e : Sh) {α : Type} (of : e.Val → α) (rows : α → List AV) (d : α) (h : ∀ v, rows (of v) = e.av v) (l : List e.Val) {n : Nat} (hn : n = (l.map of).length) :
  AVEq (.rs e.sz n fun k => rows ((l.map of).getD k d)) (.rs e.sz l.length fun k => e.av (l.getD k e.dv)) := by
 subst hn
 refine ⟨rfl, by simp, fun k hk => ?_⟩
 have hk' : k < l.length := by simpa using hk
 have e1 : (l.map of).getD k d = of (l.getD k e.dv) := by simp [List.getD, hk']
 show e.av (l.getD k e.dv) = rows ((l.map of).getD k d)
 rw [e1, h]
end Go.Eng
end

section
namespace Go.Eng
open Go.RowKit Go.Maps Go.WideElems
section
variable {P : Program}
theorem sorts_ctrA {f it : FuncId} {kt mt : TypeId} (h : SortsKeys P f it kt) (hk : P.underlying kt = some (.int .i64)) (ks : List Int) (key val : Nat → AV) (born : Nat → Nat) (clock : Nat) (hkey : ∀ i, i < ks.length → key i = .i .i64 (ks.getD i 0)) (hwf : ∀ k ∈ ks, (Lit.int .i64 k).wf = true)
  (hbytes : ks.length * 8 ≤ 140737488355328) :
  CtrM P f true [.cells mt [.mo 1], .mp ks.length key val born clock] [.fn it [.p 0 0]] (fun _ : Unit => True) (fun _ => [.cells mt [.mo 1], .mp ks.length key val born clock])
   (fun _ => [.row kt 1 ks.length fun i => [.i .i64 ((sortI ks).getD i 0)]]) (fun _ => .so 2) := by
 refine ⟨h.1, fun F w β vs hOF hFl hFal hobj hdist hl hr => ?_⟩
 obtain ⟨v0, rfl⟩ : ∃ v0, vs = [v0] := by
  match vs, hl with
  | [v0], _ => exact ⟨v0, rfl⟩
 have hv0 := hr 0 (by simp) (by simp)
 simp only [List.getElem_cons_zero] at hv0
 obtain ⟨cvs, rfl, hcl, hcr⟩ := hv0.fn_inv
 obtain ⟨u, rfl⟩ : ∃ u, cvs = [u] := by
  match cvs, hcl with
  | [u], _ => exact ⟨u, rfl⟩
 have hu := hcr 0 (by simp) (by simp)
 simp only [List.getElem_cons_zero] at hu
 obtain ⟨_, rfl⟩ := hu.p_inv
 obtain ⟨cs, hh, hlen, hc⟩ := hobj 0 _ rfl
 obtain ⟨m, rfl⟩ : ∃ m, cs = [m] := by
  match cs, hlen with
  | [m], _ => exact ⟨m, rfl⟩
 have hm := (hc 0 (by simp) (by simp)).1
 simp only [List.getElem_cons_zero] at hm
 obtain ⟨_, rfl⟩ := hm.mo_inv
 obtain ⟨es, hb, hn, ho, hcm⟩ := hobj 1 _ rfl
 have hgl : β.blk 0 < w.heap.size := (Array.getElem?_eq_some_iff.1 hh).1
 have hcell : w.cell? ⟨β.blk 0, 0, none⟩ = some (.map (some (β.blk 1))) := by
  have := cell_of_row w _ 0 _ _ _ hh
  simpa using this
 obtain ⟨D, hown, hperm, hsz⟩ := owns_of_map hk hb (by unfold maxLen; omega) ho (ks := ks) hn.symm (fun i hi => by
  have := (hcm i (by omega) hi).1
  rw [hkey i (by omega)] at this
  generalize es[i].key = kv at this ⊢
  cases this
  rfl) hwf
 refine (h.2 w (β.blk 0) (β.blk 1) es.size D hgl hcell hown (by rw [hsz]; unfold maxLen; omega) (by rw [hsz]; omega)).mono ?_
 rintro e w' ⟨v, ss, rfl, hss, hrow, hbel⟩
 have hsort : ss.mergeSort (fun x y => decide (x ≤ y)) = sortI ks := mergeSort_of_perm_i (hss.trans hperm)
 have hslen : ss.length = ks.length := (hss.trans hperm).length_eq
 rw [hsort, hslen] at hrow
 obtain ⟨hra, hrn⟩ := RowAt.of_owns hrow
 have hval2 : (β.valAt 2 v).val 2 = v := by simp [Bd.valAt]
 have hag : agree 2 β (β.valAt 2 v) := agree_valAt _ _ _
 let outs : List AO := [.cells mt [.mo 1], .mp ks.length key val born clock, .row kt 1 ks.length fun i => [.i .i64 ((sortI ks).getD i 0)]]
 have hown0 : ∀ g, OwnOf (β.valAt 2 v) outs g → OwnOf β [.cells mt [.mo 1], .mp ks.length key val born clock] g ∨ w.heap.size ≤ g := by
  rintro g ⟨j, o, hj, hg⟩
  match j with
  | 0 =>
   simp [outs] at hj
   subst hj
   exact .inl ⟨0, _, rfl, by simpa [ownB, Bd.valAt] using hg⟩
  | 1 =>
   simp [outs] at hj
   subst hj
   exact .inl ⟨1, _, rfl, by simpa [ownB, Bd.valAt] using hg⟩
  | 2 =>
   simp [outs] at hj
   subst hj
   simp only [ownB, hval2] at hg
   exact .inr (hrn g hg)
  | j + 3 => simp [outs] at hj
 have hFF : ∀ g, g < w.heap.size → ¬ F g → ¬ Fres true F w (β.valAt 2 v) outs g := fun g hg hn hf => by
  rcases hf with (⟨h1, _⟩ | h1) | h1
  ·cases h1
  ·exact hn h1
  ·rcases hown0 g h1 with h2 | h2
   ·exact hn (hOF g h2)
   ·omega
 have hFr0 : ∀ g, g < w.heap.size → ¬ F g → w'.heap[g]? = w.heap[g]? := fun g hg _ => hbel.block g hg
 refine ⟨v, β.valAt 2 v, (), rfl, trivial, ⟨hag, ⟨hbel.os, hbel.tape, hbel.output, hbel.size, fun k hk' _ => hbel.block k hk', hbel.drawn⟩, rfl, ?_, hown0, ?_, ?_⟩⟩
 ·intro j o hj
  match j with
  | 0 =>
   simp at hj
   subst hj
   exact (hobj 0 _ rfl).stable (by simp) (by simp) hag hFF hFr0 hbel.size (fun g hg => hbel.block g ((hobj 0 _ rfl).lt hg))
  | 1 =>
   simp at hj
   subst hj
   exact (hobj 1 _ rfl).stable (by simp) (by simp) hag hFF hFr0 hbel.size (fun g hg => hbel.block g ((hobj 1 _ rfl).lt hg))
  | 2 =>
   simp at hj
   subst hj
   refine ⟨(sortI ks).map encZ, by rw [hval2]; exact hra, fun k _ => rfl, fun k i hk' h1 h2 => ?_⟩
   have hi : i = 0 := by simpa using h1
   subst hi
   have hk2 : k < (sortI ks).length := by rw [sortI_length]; exact hk'
   have e1 : ((sortI ks).map encZ)[k * 1 + 0] = .int .i64 ((sortI ks).getD k 0) := by
    simp [List.getD, hk2]
   rw [e1]
   exact ⟨.i _ _, rfl⟩
  | j + 3 => simp at hj
 ·intro j j' o o' g hj hj' hg hg'
  have old : ∀ j o, j < 2 → outs[j]? = some o → ownB (β.valAt 2 v) j o g → g < w.heap.size ∧ [AO.cells mt [.mo 1], .mp ks.length key val born clock][j]? = some o ∧ ownB β j o g := by
   intro j o hj2 hj hg
   match j, hj2 with
   | 0, _ =>
    simp [outs] at hj
    subst hj
    have hg2 : ownB β 0 (.cells mt [.mo 1]) g := by simpa [ownB, Bd.valAt] using hg
    exact ⟨(hobj 0 _ rfl).lt hg2, rfl, hg2⟩
   | 1, _ =>
    simp [outs] at hj
    subst hj
    have hg2 : ownB β 1 (.mp ks.length key val born clock) g := by simpa [ownB, Bd.valAt] using hg
    exact ⟨(hobj 1 _ rfl).lt hg2, rfl, hg2⟩
  have new : ∀ j o, 2 ≤ j → outs[j]? = some o → ownB (β.valAt 2 v) j o g → j = 2 ∧ w.heap.size ≤ g := by
   intro j o hj2 hj hg
   match j, hj2 with
   | 2, _ =>
    simp [outs] at hj
    subst hj
    simp only [ownB, hval2] at hg
    exact ⟨rfl, hrn g hg⟩
   | j + 3, _ => simp [outs] at hj
  rcases Nat.lt_or_ge j 2 with h1 | h1 <;> rcases Nat.lt_or_ge j' 2 with h2 | h2
  ·obtain ⟨_, a1, a2⟩ := old j o h1 hj hg
   obtain ⟨_, b1, b2⟩ := old j' o' h2 hj' hg'
   exact hdist j j' o o' g a1 b1 a2 b2
  ·have := (old j o h1 hj hg).1
   have := (new j' o' h2 hj' hg').2
   omega
  ·have := (new j o h1 hj hg).2
   have := (old j' o' h2 hj' hg').1
   omega
  ·rw [(new j o h1 hj hg).1, (new j' o' h2 hj' hg').1]
 ·have hp := Rep.so (β := β.valAt 2 v) (n := 3) (F := Fres true F w (β.valAt 2 v) outs) (w := w') 2 (by omega) (by rw [hval2]; exact hra.one)
  rw [hval2] at hp
  exact hp
end
end Go.Eng
end

section
namespace Go.Eng
open Go.RowKit
def AVW (a b : AV) : Prop := ∀ (F : Nat → Prop) (w : World) (v : Value), Rep0 F w b v → Rep0 F w a v
theorem AVW.refl (a : AV) : AVW a a := fun _ _ _ h => h
theorem AVW.of_eq {a b : AV} (h : AVEq a b) : AVW a b := fun _ _ _ hr => h.rep0 hr
theorem AVW.u (b : AV) : AVW .u b := fun _ _ v _ => .u v
theorem AVW.nil (sz : Nat) (get : Nat → List AV) : AVW (.rs sz 0 get) (.val (.slice none 0 0)) := fun _ _ v h => by cases h; exact .rsnil _ _
def AVWs : List AV → List AV → Prop
 | [], [] => True
 | a :: r, b :: t => AVW a b ∧ AVWs r t
 | _, _ => False
theorem AVWs.get : ∀ {l m : List AV}, AVWs l m → l.length = m.length ∧ ∀ (j : Nat) (h1 : j < l.length) (h2 : j < m.length), AVW l[j] m[j]
 | [], [], _ => ⟨rfl, fun j h1 => by simp at h1⟩
 | [], _ :: _, h => h.elim
 | _ :: _, [], h => h.elim
 | a :: r, b :: t, h => by
  obtain ⟨h1, h2⟩ := h.2.get
  refine ⟨by simp [h1], fun j h3 h4 => ?_⟩
  cases j with
  | zero => exact h.1
  | succ j => exact h2 j (by simpa using h3) (by simpa using h4)
theorem AVWs.refl : ∀ l : List AV, AVWs l l
 | [] => trivial
 | a :: r => ⟨AVW.refl a, AVWs.refl r⟩
theorem AVW.rs {sz n : Nat} {g g' : Nat → List AV} (h : ∀ k, k < n → AVWs (g k) (g' k)) : AVW (.rs sz n g) (.rs sz n g') := by
 intro F w v hr
 cases hr with
 | rsnil => exact .rsnil _ _
 | rsz _ _ a => exact .rsz _ _ a
 | rs _ _ _ b off cap vs hn hm hF hg hlen hc h1 hh =>
  refine .rs sz n g b off cap vs hn hm hF hg (fun k hk => by rw [(h k hk).get.1]; exact hlen k hk) hc h1 fun k j hk hj => ?_
  have hg' := (h k hk).get
  exact hg'.2 j hj (by rw [← hg'.1]; exact hj) F w _ (hh k j hk (by rw [← hg'.1]; exact hj))
theorem AVW.ag {cs ds : List AV} (h : AVWs cs ds) : AVW (.ag cs) (.ag ds) := by
 intro F w v hr
 cases hr with
 | ag _ vs hl hh =>
  have hg := h.get
  exact .ag cs vs (by rw [hg.1]; exact hl) fun j h1 h2 => hg.2 j h1 (by rw [← hg.1]; exact h1) F w _ (hh j (by rw [← hg.1]; exact h1) h2)
theorem fits {n sz : Nat} (h : n ≤ 1000000) (hs : sz ≤ 1000 := by decide) : n * sz ≤ 140737488355328 := Nat.le_trans (Nat.mul_le_mul h hs) (by decide)
section
variable {α γ : Type} [DecidableEq α]
def mpB (kf : α → AV) (vf : γ → AV) (d : α × γ) (L : List (α × γ)) (born : Nat → Nat) (clock : Nat) : AO := .mp L.length (fun i => kf (L.getD i d).1) (fun i => vf (L.getD i d).2) born clock
def mdel : List (α × γ) → α → List (α × γ)
 | [], _ => []
 | p :: r, k => if p.1 = k then r else p :: mdel r k
theorem mdel_at {L : List (α × γ)} {k : α} (h : (mget L k).isSome = true) (d : α × γ) : ∃ i, i < L.length ∧ (L.getD i d).1 = k ∧ L.length = (mdel L k).length + 1 ∧ ∀ j, j < (mdel L k).length → (mdel L k).getD j d = L.getD (if j < i then j else j + 1) d := by
 induction L with
 | nil => cases h
 | cons p r ih =>
  simp only [mget] at h
  simp only [mdel]
  by_cases he : p.1 = k
  ·rw [if_pos he]
   exact ⟨0, by simp, by simpa using he, by simp, fun j hj => by simp⟩
  ·rw [if_neg he] at h
   rw [if_neg he]
   obtain ⟨i, h1, h2, h3, h4⟩ := ih h
   refine ⟨i + 1, by simpa using h1, by simpa using h2, by simp [h3], fun j hj => ?_⟩
   cases j with
   | zero => simp
   | succ j =>
    have := h4 j (by simpa using hj)
    simp only [List.getD_cons_succ, Nat.add_lt_add_iff_right]
    rw [this]
    split
    ·rw [List.getD_cons_succ]
    ·rw [List.getD_cons_succ]
theorem mget_mem {L : List (α × γ)} {k : α} {v : γ} (h : mget L k = some v) : k ∈ mkeys L := mem_mkeys.2 (by rw [h]; rfl)
theorem mget_mdel {L : List (α × γ)} (hn : (mkeys L).Nodup) (k j : α) : mget (mdel L k) j = if j = k then none else mget L j := by
 induction L with
 | nil => simp [mdel, mget]
 | cons p r ih =>
  simp only [mkeys, List.map_cons, List.nodup_cons] at hn
  have ih := ih hn.2
  simp only [mdel]
  by_cases he : p.1 = k
  ·rw [if_pos he]
   by_cases hj : j = k
   ·rw [if_pos hj]
    have hnot : ¬ (mget r j).isSome = true := fun hs => hn.1 (by rw [he, ← hj]; exact mem_mkeys.2 hs)
    cases hm : mget r j with
    | none => rfl
    | some v => rw [hm] at hnot; exact (hnot rfl).elim
   ·rw [if_neg hj]
    simp only [mget]
    rw [if_neg (by rw [he]; exact Ne.symm hj)]
  ·rw [if_neg he]
   simp only [mget]
   by_cases hj : p.1 = j
   ·rw [if_pos hj, if_pos hj, if_neg (by rw [← hj]; exact he)]
   ·rw [if_neg hj, if_neg hj, ih]
theorem nodup_mdel {L : List (α × γ)} (h : (mkeys L).Nodup) (k : α) : (mkeys (mdel L k)).Nodup := by
 induction L with
 | nil => simp [mdel, mkeys]
 | cons p r ih =>
  simp only [mkeys, List.map_cons, List.nodup_cons] at h
  simp only [mdel]
  by_cases he : p.1 = k
  ·rw [if_pos he]; exact h.2
  ·rw [if_neg he]
   simp only [mkeys, List.map_cons, List.nodup_cons]
   refine ⟨fun hm => h.1 ?_, ih h.2⟩
   have h1 : p.1 ∈ mkeys (mdel r k) := hm
   rw [mem_mkeys, mget_mdel h.2, if_neg he] at h1
   exact mem_mkeys.2 h1
theorem mset_new {L : List (α × γ)} {k : α} (h : mget L k = none) (v : γ) : mset L k v = L ++ [(k, v)] := by
 induction L with
 | nil => rfl
 | cons p r ih =>
  simp only [mget] at h
  by_cases he : p.1 = k
  ·rw [if_pos he] at h; cases h
  ·rw [if_neg he] at h
   simp only [mset, if_neg he, ih h]
   rfl
variable {kf : α → AV} {vf : γ → AV} {d : α × γ} {L : List (α × γ)} {born : Nat → Nat} {clock : Nat}
theorem updOk_new (hk : ∀ a b, kf a = kf b → a = b) {k : α} (h : mget L k = none) (v : γ) :
  UpdOk L.length (fun i => kf (L.getD i d).1) (fun i => vf (L.getD i d).2) born clock (kf k) (vf v) (mset L k v).length (fun i => kf ((mset L k v).getD i d).1) (fun i => vf ((mset L k v).getD i d).2)
   (fun j => if j < L.length then born j else clock) (clock + 1) := by
 rw [mset_new h]
 refine .inr ⟨fun i hi he => mget_none h d i hi (hk _ _ he), by simp, rfl, fun j hj => ?_, ?_, ?_, ?_⟩
 ·simp only [getD_snoc, if_pos hj]
  exact ⟨trivial, trivial, trivial⟩
 ·simp []
 ·simp []
 ·simp
end
theorem getD_memD {α : Type} (d : α) {l : List α} {k : Nat} (h : k < l.length) : l.getD k d ∈ l := by
 simp [List.getD, h]
theorem getD_append_lt {α : Type} (d : α) (l m : List α) (k : Nat) (h : k < l.length) : (l ++ m).getD k d = l.getD k d := by
 simp only [List.getD]
 rw [List.getElem?_append_left h]
theorem getD_append_ge {α : Type} (d : α) (l m : List α) (k : Nat) (h : l.length ≤ k) : (l ++ m).getD k d = m.getD (k - l.length) d := by
 simp only [List.getD]
 rw [List.getElem?_append_right h]
theorem getD_setD {α : Type} (d : α) (l : List α) (k : Nat) (v : α) (hk : k < l.length) (j : Nat) : (l.set k v).getD j d = if j = k then v else l.getD j d := by
 by_cases h : j = k
 ·subst h; simp [List.getD, hk]
 ·rw [if_neg h]; simp [List.getD, Ne.symm h]
end Go.Eng
end

section
namespace Go.Eng
open Go.RowKit Go.Sort
theorem RetM.of {Y : Type} {spec : Y → Prop} {os : Y → List AO} {r : Y → AV} {av : AV} {O : List OE} {nid : Nat} (y : Y) (hy : spec y) (h : RetIs (os y) (r y) av O nid) : RetM false 0 spec (fun _ => []) os r av O nid := by
 obtain ⟨ρ, h1, h2, h3⟩ := h.is
 exact ⟨y, ρ, hy, h1, rfl, fun _ => ⟨h2, h3⟩⟩
section
variable {P : Program}
end
end Go.Eng
end
