/-
  Several texts in one: Gm, Gr, Bt, W1, W2.
-/
import Derived.Maps.OwnRows
import Derived.Test.YtilhaifmfiobhaaMg12

section
/-
  A map of one's own from numbers to slices of one's own: looked up, appended to, set; and read only from then on.
-/
namespace Go.Proofs.Ytilhaifmfiobhaa
open Go.Eng Go.RowKit

def dG : Int × List Int := (0, [])
def vI (l : List Int) : List Value := l.map (Value.int .i64)
/-- Block b is a map with these pairs; each slice is the only one of its row, in a block of its own behind b. -/
structure GM (w : World) (b : Nat) (et : TypeId) (L : List (Int × List Int)) (es : Array MapEntry) (clock : Nat) : Prop where
  hp : w.heap[b]? = some (.map es clock)
  sz : es.size = L.length
  ok : MapOk es clock
  key : ∀ i (h : i < es.size), es[i].key = .int .i64 (L.getD i dG).1
  own : ∀ i (h : i < es.size), w.ownsRow (b + 1) et 1 es[i].val (L.getD i dG).2.length (vI (L.getD i dG).2)
  dist : ∀ i j (h1 : i < es.size) (h2 : j < es.size), i ≠ j → es[i].val.ownBlock = none ∨ es[i].val.ownBlock ≠ es[j].val.ownBlock

section
variable {P : Program} {w : World} {b : Nat} {et mt kt st : TypeId} {L : List (Int × List Int)} {es : Array MapEntry} {clock : Nat}

theorem gm_made (w : World) (et : TypeId) : GM (w.alloc (.map #[] 0)) w.heap.size et [] #[] 0 :=
  ⟨heap_alloc_new w _, rfl, mapOk_empty, fun i h => by simp at h, fun i h => by simp at h, fun i j h => by simp at h⟩
theorem GM.lt (h : GM w b et L es clock) : b < w.heap.size := (Array.getElem?_eq_some_iff.1 h.hp).1
theorem kv_int (hk : P.underlying kt = some (.int .i64)) (x : Int) : KV P kt (.int .i64 x) := .inl ⟨_, hk, rfl⟩
theorem GM.kv (h : GM w b et L es clock) (hk : P.underlying kt = some (.int .i64)) : ∀ x ∈ es.toList, KV P kt x.key := by
  intro x hx
  obtain ⟨j, hj, rfl⟩ := List.getElem_of_mem hx
  have hj' : j < es.size := by simpa using hj
  have := h.key j hj'
  simp only [Array.getElem_toList]
  rw [this]
  exact kv_int hk _
/-- What is found at a key. -/
theorem GM.look (h : GM w b et L es clock) (hk : P.underlying kt = some (.int .i64)) (hm : P.underlying mt = some (.map kt st)) (hz : (zeroValue st).run P w = .ok (.slice none 0 0) w) (x : Int) :
    ∃ v, (Instr.lookup mt (.map (some b)) (.int .i64 x) false).run P w = .ok v w ∧ w.ownsRow (b + 1) et 1 v ((mget L x).getD []).length (vI ((mget L x).getD [])) ∧
      ((v = .slice none 0 0 ∧ mget L x = none ∧ ∀ i (h : i < es.size), es[i].key ≠ .int .i64 x) ∨ ∃ i, ∃ h : i < es.size, es[i].key = .int .i64 x ∧ v = es[i].val ∧ (L.getD i dG).1 = x) := by
  rcases run_find_KV (P := P) (w := w) (kv_int hk x) es.toList (h.kv hk) with ⟨hfind, hno⟩ | ⟨j, e, hfind, he, hek⟩
  · have hno' : ∀ i (h : i < es.size), es[i].key ≠ .int .i64 x := fun i hi => hno _ (by simp)
    have hnone : mget L x = none := by
      cases hg : mget L x with
      | none => rfl
      | some v =>
        obtain ⟨i, h1, h2, _⟩ := mget_some hg dG
        have hi : i < es.size := by rw [h.sz]; exact h1
        exact absurd (by rw [h.key i hi, h2]) (hno' i hi)
    refine ⟨.slice none 0 0, ?_, ?_, .inl ⟨rfl, hnone, hno'⟩⟩
    · simp [Instr.lookup, run_underlying hm, Go.MapKept.run_getObj_map h.hp, run_check_KV es.isEmpty (kv_int hk x), hfind, hz]
    · rw [hnone]
      exact World.ownsRow_nil _ _ _ _
  · have hj : j < es.size := by simpa using (List.getElem?_eq_some_iff.1 he).1
    have hje : es[j] = e := by
      have := (List.getElem?_eq_some_iff.1 he).2
      simpa using this
    have hjx : (L.getD j dG).1 = x := by
      have := h.key j hj
      rw [hje, hek] at this
      simpa using this.symm
    have hget : mget L x = some (L.getD j dG).2 := by
      cases hg : mget L x with
      | none => exact absurd hjx (mget_none hg dG j (by rw [← h.sz]; exact hj))
      | some v =>
        obtain ⟨i, h1, h2, h3⟩ := mget_some hg dG
        have hi : i < es.size := by rw [h.sz]; exact h1
        have hij : i = j := by
          have e1 := h.key i hi
          have e2 := h.key j hj
          rw [h2] at e1
          rw [hjx] at e2
          rcases Nat.lt_trichotomy i j with hlt | heq | hlt
          · exact absurd (e1.trans e2.symm) (h.ok.one i j hlt hi hj)
          · exact heq
          · exact absurd (e2.trans e1.symm) (h.ok.one j i hlt hj hi)
        rw [← hij, h3]
    refine ⟨e.val, ?_, ?_, .inr ⟨j, hj, by rw [hje]; exact hek, by rw [hje], hjx⟩⟩
    · simp [Instr.lookup, run_underlying hm, Go.MapKept.run_getObj_map h.hp, run_check_KV es.isEmpty (kv_int hk x), hfind]
    · rw [hget, ← hje]
      exact h.own j hj

/-- A key's slice is set to one that lies in its row, or in a block that is new. -/
theorem GM.set (h : GM w b et L es clock) (hk : P.underlying kt = some (.int .i64)) (hm : P.underlying mt = some (.map kt st)) {x : Int} {v v' : Value} {zs : List Int} {w1 : World}
    (hv : (v = .slice none 0 0 ∧ mget L x = none ∧ ∀ i (h : i < es.size), es[i].key ≠ .int .i64 x) ∨ ∃ i, ∃ h : i < es.size, es[i].key = .int .i64 x ∧ v = es[i].val ∧ (L.getD i dG).1 = x)
    (hg : w.grownBy w1 v.ownBlock) (hown : w1.ownsRow (b + 1) et 1 v' zs.length (vI zs)) (hloc : v'.ownBlock = v.ownBlock ∨ ∃ g, v'.ownBlock = some g ∧ w.heap.size ≤ g) :
    ∃ w2 es' clock', (Instr.mapUpdate mt (.map (some b)) (.int .i64 x) v').run P w1 = .ok () w2 ∧ GM w2 b et (mset L x zs) es' clock' ∧ w1.grownBy w2 (some b) := by
  have hvb : v.ownBlock ≠ some b := by
    rcases hv with ⟨rfl, _⟩ | ⟨i, hi, _, rfl, _⟩
    · intro e; cases e
    · intro e
      have := (h.own i hi).lt b e
      omega
  have hlt1 : b < w1.heap.size := Nat.lt_of_lt_of_le h.lt hg.size
  have hp1 : w1.heap[b]? = some (.map es clock) := (hg.block b h.lt (fun e => hvb e.symm)).trans h.hp
  -- a slice of another key lies apart from v and v'
  have apart : ∀ i (hi : i < es.size), es[i].key ≠ .int .i64 x → es[i].val.ownBlock = none ∨ es[i].val.ownBlock ≠ v.ownBlock := by
    intro i hi hne
    rcases hv with ⟨rfl, _⟩ | ⟨j, hj, hkj, rfl, _⟩
    · cases hb : es[i].val.ownBlock with
      | none => exact .inl rfl
      | some g => right; simp [Value.ownBlock]
    · exact h.dist i j hi hj fun e => by subst e; exact hne hkj
  have apart' : ∀ i (hi : i < es.size), es[i].key ≠ .int .i64 x → es[i].val.ownBlock = none ∨ es[i].val.ownBlock ≠ v'.ownBlock := by
    intro i hi hne
    rcases hloc with e | ⟨g, e, hge⟩
    · rw [e]; exact apart i hi hne
    · cases hb : es[i].val.ownBlock with
      | none => exact .inl rfl
      | some g' =>
        right
        rw [e]
        have := (h.own i hi).lt g' hb
        simp
        omega
  have kept1 : ∀ i (hi : i < es.size), es[i].key ≠ .int .i64 x → w1.ownsRow (b + 1) et 1 es[i].val (L.getD i dG).2.length (vI (L.getD i dG).2) := fun i hi hne => (h.own i hi).kept hg (apart i hi hne)
  have hgrow : ∀ o : Obj, w1.grownBy { w1 with heap := w1.heap.setIfInBounds b o } (some b) := fun o => ⟨rfl, rfl, rfl, by simp, fun g _ hne => setMap_old w1 _ o g (fun e => hne (by rw [e]))⟩
  have notb : ∀ {u : Value} {n : Nat} {xs : List Value}, w1.ownsRow (b + 1) et 1 u n xs → u.ownBlock = none ∨ u.ownBlock ≠ some b := fun {u n xs} ho => by
    cases hb : u.ownBlock with
    | none => exact .inl rfl
    | some g =>
      right
      have := (ho.lt g hb).1
      simp
      omega
  rcases run_find_KV (P := P) (w := w1) (kv_int hk x) es.toList (h.kv hk) with ⟨hfind, hno⟩ | ⟨j, e, hfind, he, hek⟩
  · have hno' : ∀ i (h : i < es.size), es[i].key ≠ .int .i64 x := fun i hi => hno _ (by simp)
    have hms : mset L x zs = L ++ [(x, zs)] := by
      rcases mset_upd (L := L) (k := x) (v := zs) dG with ⟨i, h1, h2, _⟩ | ⟨_, h2⟩
      · have hi : i < es.size := by rw [h.sz]; exact h1
        exact absurd (by rw [h.key i hi, h2]) (hno' i hi)
      · exact h2
    refine ⟨{ w1 with heap := w1.heap.setIfInBounds b (.map (es.push { key := .int .i64 x, val := v', born := clock }) (clock + 1)) }, es.push { key := .int .i64 x, val := v', born := clock }, clock + 1, ?_, ⟨setMap_new w1 _ _ hlt1, by rw [hms]; simp [h.sz], ?_, ?_, ?_, ?_⟩, hgrow _⟩
    · simp [Instr.mapUpdate, run_underlying hm, Go.MapKept.run_getObj_map hp1, run_check_KV false (kv_int hk x), hfind, Go.MapKept.run_setObj_map _ hp1]
    · refine ⟨fun i j hij h1 h2 => ?_, fun i h1 => ?_, fun i j hij h1 h2 => ?_⟩
      · simp at h1 h2
        by_cases hj : j = es.size
        · subst hj
          have := h.ok.old i hij
          simpa [Array.getElem_push, hij] using this
        · have hj' : j < es.size := by omega
          have := h.ok.asc i j hij (by omega) hj'
          simpa [Array.getElem_push, hj', show i < es.size by omega] using this
      · simp at h1
        by_cases hi : i = es.size
        · subst hi; simp
        · have := h.ok.old i (by omega)
          simp [Array.getElem_push, show i < es.size by omega]
          omega
      · simp at h1 h2
        by_cases hj : j = es.size
        · subst hj
          have := hno' i hij
          simpa [Array.getElem_push, hij] using this
        · have hj' : j < es.size := by omega
          have := h.ok.one i j hij (by omega) hj'
          simpa [Array.getElem_push, hj', show i < es.size by omega] using this
    · intro i hi
      simp at hi
      rw [hms, getD_snoc]
      by_cases hin : i < es.size
      · simp only [Array.getElem_push, hin, dite_true]
        rw [if_pos (by rw [← h.sz]; exact hin)]
        exact h.key i hin
      · have : i = es.size := by omega
        subst this
        simp only [Array.getElem_push, Nat.lt_irrefl, dite_false]
        rw [if_neg (by rw [h.sz]; omega), if_pos h.sz]
    · intro i hi
      simp at hi
      rw [hms, getD_snoc]
      by_cases hin : i < es.size
      · simp only [Array.getElem_push, hin, dite_true]
        rw [if_pos (by rw [← h.sz]; exact hin)]
        exact (kept1 i hin (hno' i hin)).kept (hgrow _) (notb (kept1 i hin (hno' i hin)))
      · have : i = es.size := by omega
        subst this
        simp only [Array.getElem_push, Nat.lt_irrefl, dite_false]
        rw [if_neg (by rw [h.sz]; omega), if_pos h.sz]
        exact hown.kept (hgrow _) (notb hown)
    · intro i j h1 h2 hne
      simp at h1 h2
      by_cases hi : i < es.size
      · simp only [Array.getElem_push, hi, dite_true]
        by_cases hj : j < es.size
        · simp only [hj, dite_true]
          exact h.dist i j hi hj hne
        · simp only [hj, dite_false]
          exact apart' i hi (hno' i hi)
      · have hj : j < es.size := by omega
        simp only [Array.getElem_push, hi, hj, dite_true, dite_false]
        rcases apart' j hj (hno' j hj) with e | e
        · cases hv' : v'.ownBlock with
          | none => exact .inl rfl
          | some g => right; rw [e]; simp
        · exact .inr (Ne.symm e)
  · have hj : j < es.size := by simpa using (List.getElem?_eq_some_iff.1 he).1
    have hje : es[j] = e := by
      have := (List.getElem?_eq_some_iff.1 he).2
      simpa using this
    have hjk : es[j].key = .int .i64 x := by rw [hje]; exact hek
    have others : ∀ i (hi : i < es.size), i ≠ j → es[i].key ≠ .int .i64 x := fun i hi hne e => by
      rcases Nat.lt_or_gt_of_ne hne with hlt | hlt
      · exact h.ok.one i j hlt hi hj (e.trans hjk.symm)
      · exact h.ok.one j i hlt hj hi (hjk.trans e.symm)
    have hjx : (L.getD j dG).1 = x := by
      have := h.key j hj
      rw [hjk] at this
      simpa using this.symm
    have hms : (mset L x zs).length = L.length ∧ ∀ i, i < L.length → ((mset L x zs).getD i dG).1 = (L.getD i dG).1 ∧ ((mset L x zs).getD i dG).2 = if i = j then zs else (L.getD i dG).2 := by
      rcases mset_upd (L := L) (k := x) (v := zs) dG with ⟨i, h1, h2, h3, h4⟩ | ⟨h1, _⟩
      · have hi : i < es.size := by rw [h.sz]; exact h1
        have hij : i = j := by
          by_cases e : i = j
          · exact e
          · exact absurd (by rw [h.key i hi, h2]) (others i hi e)
        subst hij
        exact ⟨h3, h4⟩
      · exact absurd hjx (h1 j (by rw [← h.sz]; exact hj))
    have hsz : (es.setIfInBounds j { es[j] with val := v' }).size = es.size := by simp
    have hat : ∀ i (h1 : i < es.size), (es.setIfInBounds j { es[j] with val := v' })[i]'(by rw [hsz]; exact h1) = if i = j then { es[j] with val := v' } else es[i] := fun i h1 => by
      rw [Array.getElem_setIfInBounds (by simpa using h1)]
      by_cases e : j = i
      · subst e; simp
      · simp [e, Ne.symm e]
    have hkeyi : ∀ i (h1 : i < es.size), ((es.setIfInBounds j { es[j] with val := v' })[i]'(by rw [hsz]; exact h1)).key = es[i].key ∧ ((es.setIfInBounds j { es[j] with val := v' })[i]'(by rw [hsz]; exact h1)).born = es[i].born := fun i h1 => by
      rw [hat i h1]
      by_cases e : i = j
      · subst e; rw [if_pos rfl]; exact ⟨rfl, rfl⟩
      · rw [if_neg e]; exact ⟨rfl, rfl⟩
    refine ⟨{ w1 with heap := w1.heap.setIfInBounds b (.map (es.setIfInBounds j { es[j] with val := v' }) clock) }, es.setIfInBounds j { es[j] with val := v' }, clock, ?_, ⟨setMap_new w1 _ _ hlt1, by rw [hsz, hms.1, h.sz], ?_, ?_, ?_, ?_⟩, hgrow _⟩
    · have hkey : ((es[j]?).map (·.key)).getD (.int .i64 x) = .int .i64 x := by
        rw [Array.getElem?_eq_getElem hj]
        simpa using hjk
      have hmod : es.modify j (fun e => { e with key := .int .i64 x, val := v' }) = es.setIfInBounds j { es[j] with val := v' } := by
        apply Array.ext
        · simp
        · intro i h1 h2
          have h1' : i < es.size := by simpa using h1
          rw [hat i h1', Array.getElem_modify]
          by_cases e : j = i
          · subst e
            simp [hjk]
          · simp [e, Ne.symm e]
      simp [Instr.mapUpdate, run_underlying hm, Go.MapKept.run_getObj_map hp1, run_check_KV false (kv_int hk x), hfind, Go.MapKept.run_setObj_map _ hp1, hkey, Instr.keyThatStays, sameBits_KV (kv_int hk x), hmod]
    · refine ⟨fun i k hik h1 h2 => ?_, fun i h1 => ?_, fun i k hik h1 h2 => ?_⟩
      · rw [hsz] at h1 h2
        rw [(hkeyi i h1).2, (hkeyi k h2).2]
        exact h.ok.asc i k hik h1 h2
      · rw [hsz] at h1
        rw [(hkeyi i h1).2]
        exact h.ok.old i h1
      · rw [hsz] at h1 h2
        rw [(hkeyi i h1).1, (hkeyi k h2).1]
        exact h.ok.one i k hik h1 h2
    · intro i hi
      rw [hsz] at hi
      rw [(hkeyi i hi).1, (hms.2 i (by rw [← h.sz]; exact hi)).1]
      exact h.key i hi
    · intro i hi
      rw [hsz] at hi
      rw [(hms.2 i (by rw [← h.sz]; exact hi)).2, hat i hi]
      by_cases e : i = j
      · rw [if_pos e, if_pos e]
        exact hown.kept (hgrow _) (notb hown)
      · rw [if_neg e, if_neg e]
        exact (kept1 i hi (others i hi e)).kept (hgrow _) (notb (kept1 i hi (others i hi e)))
    · intro i k h1 h2 hne
      rw [hsz] at h1 h2
      rw [hat i h1, hat k h2]
      by_cases e : i = j
      · have hkj : k ≠ j := fun e2 => hne (e.trans e2.symm)
        rw [if_pos e, if_neg hkj]
        rcases apart' k h2 (others k h2 hkj) with e | e
        · rw [e]
          show v'.ownBlock = none ∨ v'.ownBlock ≠ none
          cases hv' : v'.ownBlock with
          | none => exact .inl rfl
          | some g => exact .inr (by simp)
        · exact .inr (Ne.symm e)
      · rw [if_neg e]
        by_cases e2 : k = j
        · rw [if_pos e2]
          exact apart' i h1 (others i h1 e)
        · rw [if_neg e2]
          exact h.dist i k h1 h2 hne

def gKey (L : List (Int × List Int)) (i : Nat) : AV := .i .i64 (L.getD i dG).1
def gVal (L : List (Int × List Int)) (i : Nat) : AV := .rs 1 (L.getD i dG).2.length fun k => [.i .i64 ((L.getD i dG).2.getD k 0)]
/-- From here on it is read only. -/
theorem GM.rm (h : GM w b et L es clock) {F : Nat → Prop} (hF : ∀ g, b ≤ g → ¬ F g) : Rep0 F w (.rm L.length (gKey L) (gVal L)) (.map (some b)) := by
  refine .rm _ _ _ b es clock (hF b (Nat.le_refl _)) h.hp h.sz h.ok (fun i h1 h2 => ?_) fun i h1 h2 => ?_
  · rw [h.key i h2]
    exact .i _ _
  · have ho := h.own i h2
    unfold gVal
    generalize (L.getD i dG).2 = zs at ho
    rcases ho.2 with ⟨e, h0⟩ | ⟨g, cap, cur, e, hbg, hh, hn, hc, hcs, ht⟩
    · rw [e, h0]
      exact .rsnil _ _
    · rw [e] at ho ⊢
      refine .rs 1 zs.length _ g 0 cap (fun k _ => .int .i64 (zs.getD k 0)) hn hc (hF g (by omega)) (Array.getElem?_eq_some_iff.1 hh).1 (fun _ _ => rfl) (fun k j hk hj => ?_) (fun _ _ _ _ => rfl) fun k j hk hj => ?_
      · have hj : j = 0 := by omega
        subst hj
        have := ho.cellAt (g := g) k (by omega)
        rw [show 0 + k * 1 + 0 = k by omega, this]
        unfold vI
        simp [List.getD, hk]
      · have hj : j = 0 := by simpa using hj
        subst hj
        exact .i _ _

/-- What a look-up at x has left. -/
def AtKey (w : World) (b : Nat) (et : TypeId) (L : List (Int × List Int)) (es : Array MapEntry) (x : Int) (v : Value) : Prop :=
  w.ownsRow (b + 1) et 1 v ((mget L x).getD []).length (vI ((mget L x).getD [])) ∧ ((v = .slice none 0 0 ∧ mget L x = none ∧ ∀ i (h : i < es.size), es[i].key ≠ .int .i64 x) ∨ ∃ i, ∃ h : i < es.size, es[i].key = .int .i64 x ∧ v = es[i].val ∧ (L.getD i dG).1 = x)
theorem GM.grow (h : GM w b et L es clock) {w' : World} {row : Option Nat} (hg : w.grownBy w' row) (hr : ∀ g, row = some g → g ≠ b ∧ ∀ i (h : i < es.size), es[i].val.ownBlock ≠ some g) : GM w' b et L es clock := by
  refine ⟨(hg.block b h.lt fun e => (hr b e.symm).1 rfl).trans h.hp, h.sz, h.ok, h.key, fun i hi => (h.own i hi).kept hg ?_, h.dist⟩
  cases hb : es[i].val.ownBlock with
  | none => exact .inl rfl
  | some g =>
    right
    intro e
    exact (hr g e.symm).2 i hi hb
theorem GM.alloc (h : GM w b et L es clock) (o : Obj) : GM (w.alloc o) b et L es clock := h.grow (World.grownBy_alloc w o none) (fun g hg => by cases hg)
theorem GM.drew (h : GM w b et L es clock) : GM w.drew b et L es clock := h.grow (w' := w.drew) (row := none) ⟨rfl, rfl, rfl, Nat.le_refl _, fun _ _ _ => rfl⟩ (fun g hg => by cases hg)
theorem AtKey.alloc {z : Int} {v : Value} (h : AtKey w b et L es z v) (o : Obj) : AtKey (w.alloc o) b et L es z v := ⟨h.1.alloc o, h.2⟩
theorem AtKey.drew {z : Int} {v : Value} (h : AtKey w b et L es z v) : AtKey w.drew b et L es z v := ⟨h.1, h.2⟩
end
end Go.Proofs.Ytilhaifmfiobhaa
end

section
/-
  What literals imply, as a map of slices.
-/
namespace Go.Proofs.Ytilhaifmfiobhaa
open Go.Eng Go.RowKit

def rowsI (l : List Int) (k : Nat) : List AV := [.i .i64 (l.getD k 0)]
def gAdd (L : List (Int × List Int)) (x y : Int) : List (Int × List Int) := mset L x ((mget L x).getD [] ++ [y])
def gStep (L : List (Int × List Int)) (c : Cl) : List (Int × List Int) := gAdd (gAdd L (opp c.a) c.b) (opp c.b) c.a
def groupL (l : List Cl) : List (Int × List Int) := l.foldl gStep []
theorem gAdd_get (L : List (Int × List Int)) (x y z : Int) : (mget (gAdd L x y) z).getD [] = (mget L z).getD [] ++ (if x = z then [y] else []) := by
  unfold gAdd
  rw [mget_mset]
  by_cases h : z = x
  · subst h; simp
  · rw [if_neg h, if_neg (Ne.symm h)]; simp
theorem groupL_from (x : Int) : ∀ (l : List Cl) (L : List (Int × List Int)), (mget (l.foldl gStep L) x).getD [] = (mget L x).getD [] ++ succL l x
  | [], L => by simp [succL]
  | c :: r, L => by
    rw [List.foldl_cons, groupL_from x r]
    unfold gStep
    rw [gAdd_get, gAdd_get]
    simp [succL, List.append_assoc]
theorem groupL_get (l : List Cl) (x : Int) : (mget (groupL l) x).getD [] = succL l x := by
  unfold groupL
  rw [groupL_from]
  rfl
theorem succL_len (l : List Cl) (x : Int) : (succL l x).length ≤ 2 * l.length := by
  induction l with
  | nil => simp [succL]
  | cons c r ih =>
    have : succL (c :: r) x = ((if opp c.a = x then [c.b] else []) ++ (if opp c.b = x then [c.a] else [])) ++ succL r x := by simp [succL]
    rw [this, List.length_append, List.length_append, List.length_cons]
    split <;> split <;> simp <;> omega
theorem groupL_snoc (l : List Cl) (k : Nat) (h : k < l.length) : groupL (l.take (k + 1)) = gStep (groupL (l.take k)) (l.getD k dC) := by
  unfold groupL
  rw [List.take_succ_eq_append_getElem h, List.foldl_append]
  simp [List.getD, h]
/-- The map, read only. -/
def gM (l : List Cl) : AV := .rm (groupL l).length (gKey (groupL l)) (gVal (groupL l))
theorem lookOk_g (l : List Cl) (x : Int) : LookOk (groupL l).length (gKey (groupL l)) (gVal (groupL l)) (.i .i64 x) (.rs 1 (succL l x).length (rowsI (succL l x))) (.val (.slice none 0 0)) (mget (groupL l) x).isSome := by
  have hg := groupL_get l x
  cases h : mget (groupL l) x with
  | none =>
    refine ⟨fun h => (by cases h), fun _ => ⟨fun i hi e => ?_, ?_⟩⟩
    · unfold gKey at e
      exact mget_none h dG i hi (i64_inj _ _ e)
    · rw [h] at hg
      have : succL l x = [] := hg.symm
      rw [this]
      exact ⟨rfl, rfl⟩
  | some zs =>
    obtain ⟨i, h1, h2, h3⟩ := mget_some h dG
    rw [h] at hg
    have hz : zs = succL l x := hg
    refine ⟨fun _ => ⟨i, h1, by unfold gKey; rw [h2], ?_⟩, fun h => (by cases h)⟩
    unfold gVal
    rw [h3, hz]
    exact ⟨rfl, rfl, fun k hk => rfl⟩
end Go.Proofs.Ytilhaifmfiobhaa
end

section
/-
  Bits of small numbers.
-/
namespace Go.Proofs.Ytilhaifmfiobhaa
open Go.Eng

theorem ofInt_small {x : Int} (h0 : 0 ≤ x) (h1 : x < 4611686018427387904) : (BitVec.ofInt 64 x).toNat = x.toNat := by
  rw [BitVec.toNat_ofInt, Int.emod_eq_of_lt h0 (by omega)]
theorem wrap_nat {n : Nat} (h : n < 4611686018427387904) : IntKind.i64.wrap (n : Int) = n := wr (by omega) (by omega)
theorem bits_and {x y : Int} (hx : 0 ≤ x ∧ x < 4611686018427387904) (hy : 0 ≤ y ∧ y < 4611686018427387904) : bitsI .and .i64 x y = ((x.toNat &&& y.toNat : Nat) : Int) := by
  show IntKind.i64.wrap ((BitVec.ofInt 64 x &&& BitVec.ofInt 64 y).toNat : Int) = _
  rw [BitVec.toNat_and, ofInt_small hx.1 hx.2, ofInt_small hy.1 hy.2]
  exact wrap_nat (Nat.lt_of_le_of_lt Nat.and_le_left (by omega))
theorem bits_or {x y : Int} (hx : 0 ≤ x ∧ x < 4611686018427387904) (hy : 0 ≤ y ∧ y < 4611686018427387904) : bitsI .or .i64 x y = ((x.toNat ||| y.toNat : Nat) : Int) := by
  show IntKind.i64.wrap ((BitVec.ofInt 64 x ||| BitVec.ofInt 64 y).toNat : Int) = _
  rw [BitVec.toNat_or, ofInt_small hx.1 hx.2, ofInt_small hy.1 hy.2]
  exact wrap_nat (Nat.or_lt_two_pow (n := 62) (by omega) (by omega))
theorem bits_xor {x y : Int} (hx : 0 ≤ x ∧ x < 4611686018427387904) (hy : 0 ≤ y ∧ y < 4611686018427387904) : bitsI .xor .i64 x y = ((x.toNat ^^^ y.toNat : Nat) : Int) := by
  show IntKind.i64.wrap ((BitVec.ofInt 64 x ^^^ BitVec.ofInt 64 y).toNat : Int) = _
  rw [BitVec.toNat_xor, ofInt_small hx.1 hx.2, ofInt_small hy.1 hy.2]
  exact wrap_nat (Nat.xor_lt_two_pow (n := 62) (by omega) (by omega))
theorem xor_one (n : Nat) : n ^^^ 1 = n + 1 - 2 * (n % 2) := by
  have h1 : (n ^^^ 1) / 2 = n / 2 := by
    have := Nat.xor_div_two_pow (a := n) (b := 1) (n := 1)
    simpa using this
  have h2 : (n ^^^ 1) % 2 = (n % 2) ^^^ 1 := by
    have := Nat.xor_mod_two_pow (a := n) (b := 1) (n := 1)
    simpa using this
  have h3 : n % 2 = 0 ∨ n % 2 = 1 := by omega
  rcases h3 with h3 | h3
  · rw [h3] at h2 ⊢
    have h4 : (n ^^^ 1) % 2 = 1 := h2
    omega
  · rw [h3] at h2 ⊢
    have h4 : (n ^^^ 1) % 2 = 0 := h2
    omega
/-- The opposite, as the program reckons it. -/
theorem bits_opp {x : Int} (h0 : 0 ≤ x) (h1 : x < 4611686018427387903) : bitsI .xor .i64 x 1 = opp x := by
  rw [bits_xor ⟨h0, by omega⟩ ⟨by omega, by omega⟩]
  show ((x.toNat ^^^ 1 : Nat) : Int) = opp x
  rw [xor_one]
  unfold opp
  omega
theorem bits_even {x : Int} (h0 : 0 ≤ x) (h1 : x < 4611686018427387904) : bitsI .and .i64 x 1 = x % 2 := by
  rw [bits_and ⟨h0, h1⟩ ⟨by omega, by omega⟩]
  show ((x.toNat &&& 1 : Nat) : Int) = x % 2
  rw [Nat.and_one_is_mod]
  omega
end Go.Proofs.Ytilhaifmfiobhaa
end

section
/-
  Clauses: rows, looking for, right or not.
-/
namespace Go.Proofs.Ytilhaifmfiobhaa
open Go.Eng

theorem gdX {α : Type} {d : α} {l : List α} {k : Nat} (h : k < l.length) : l.getD k d = l[k] := by simp [List.getD_eq_getElem?_getD, h]
theorem getD_memA {α : Type} (d : α) {l : List α} {k : Nat} (h : k < l.length) : l.getD k d ∈ l := by rw [gdX h]; exact List.getElem_mem h
/-- The first place where p holds, or -1. -/
def idxF {α : Type} (p : α → Bool) (l : List α) : Int := match l.findIdx? p with | some k => k | none => -1
theorem idxF_some {α : Type} (d : α) (p : α → Bool) (l : List α) (k : Nat) (hk : k < l.length) (h1 : ∀ j, j < k → p (l.getD j d) = false) (h2 : p (l.getD k d) = true) : idxF p l = k := by
  have : l.findIdx? p = some k := by
    rw [List.findIdx?_eq_some_iff_getElem]
    refine ⟨hk, ?_, fun j hj => ?_⟩
    · rw [gdX hk] at h2; exact h2
    · have := h1 j hj
      rw [gdX (by omega)] at this
      simp [this]
  simp [idxF, this]
theorem idxF_none {α : Type} (d : α) (p : α → Bool) (l : List α) (h1 : ∀ j, j < l.length → p (l.getD j d) = false) : idxF p l = -1 := by
  have : l.findIdx? p = none := by
    rw [List.findIdx?_eq_none_iff]
    intro x hx
    obtain ⟨j, hj, rfl⟩ := List.getElem_of_mem hx
    have := h1 j hj
    rw [gdX hj] at this
    exact this
  simp [idxF, this]
theorem idxF_any {α : Type} (p : α → Bool) (l : List α) : decide (idxF p l ≥ 0) = l.any p := by
  unfold idxF
  cases h : l.findIdx? p with
  | none =>
    rw [List.findIdx?_eq_none_iff] at h
    have : l.any p = false := by simpa using h
    rw [this]; rfl
  | some k =>
    rw [List.findIdx?_eq_some_iff_getElem] at h
    obtain ⟨hk, hp, _⟩ := h
    have : l.any p = true := by rw [List.any_eq_true]; exact ⟨_, List.getElem_mem hk, hp⟩
    rw [this]
    simp

def Cl.av (c : Cl) : List AV := [.i .i64 c.a, .i .i64 c.b]
def rowsC (l : List Cl) (k : Nat) : List AV := (l.getD k dC).av
def Cm.av (c : Cm) : List AV := [.i .i64 c.acc, .i .i64 c.per]
def rowsM (l : List Cm) (k : Nat) : List AV := (l.getD k dCm).av
def Pf.av (c : Pf) : List AV := [.i .i64 c.kind, .i .i64 c.a, .i .i64 c.b]
def rowsP (l : List Pf) (k : Nat) : List AV := (l.getD k dPf).av
def rowsB (l : List Bool) (k : Nat) : List AV := [.b (l.getD k false)]
structure Gt where
  grp : Int
  per : Int
  rig : Int
def dGt : Gt := ⟨0, 0, 0⟩
def Gt.av (c : Gt) : List AV := [.i .i64 c.grp, .i .i64 c.per, .i .i64 c.rig]
def rowsG (l : List Gt) (k : Nat) : List AV := (l.getD k dGt).av

set_option maxRecDepth 20000 in
theorem indexC1_fn (l : List Cl) (hl : l.length < 2^62) (fid : FuncId) (c1 : List AV) (p : Cl → Bool) (hp : ∀ x ∈ l, Ctr Try.prog fid [.ag x.av, .rp c1] [] (.b (p x))) :
    Ctr Try.prog 117 [.rs 2 l.length (rowsC l), .fn fid [.rp c1]] [] (.i .i64 (idxF p l)) := by
  refine fn_of_exec tabOk Try.func117 (by kernel_rfl) rfl (N := Try.f117.ntmps) rfl (res := [.tmp 4]) rfl rfl [] ?_
  refine .inl ⟨[], Nat, fun k => k ≤ l.length ∧ ∀ j, j < k → p (l.getD j dC) = false, fun k => [⟨8, [], .i .i64 k⟩], fun _ => [], fun k => l.length - k,
    ⟨0, [], ⟨Nat.zero_le _, fun j hj => by omega⟩, rfl, rfl, rfl, rfl, rfl, ⟨rfl, rfl⟩, trivial⟩, ?_⟩
  intro k hk
  obtain ⟨hk, hno⟩ := hk
  refine .inl ⟨fun hc => ?_, fun hc => ?_⟩
  · have hc := dlt hc
    refine .inl ⟨by omega, .inl ⟨[], _, hp (l.getD k dC) (getD_memA dC (by omega)), ⟨fun h => ?_, fun h => ?_⟩⟩⟩
    · refine RetIs.i ?_
      exact (idxF_some dC p l k (by omega) hno h).symm
    · refine ⟨k + 1, [], ⟨by omega, fun j hj => ?_⟩, by dsimp only; omega, rfl, rfl, rfl, rfl, rfl, ⟨rfl, wr (by omega) (by omega)⟩, trivial⟩
      by_cases hjk : j = k
      · subst hjk; exact h
      · exact hno j (by omega)
  · have hc := dnlt hc
    refine RetIs.i ?_
    exact (idxF_none dC p l fun j hj => hno j (by omega)).symm
set_option maxRecDepth 20000 in
theorem containsC1_fn (l : List Cl) (hl : l.length < 2^62) (fid : FuncId) (c1 : List AV) (p : Cl → Bool) (hp : ∀ x ∈ l, Ctr Try.prog fid [.ag x.av, .rp c1] [] (.b (p x))) :
    Ctr Try.prog 74 [.rs 2 l.length (rowsC l), .fn fid [.rp c1]] [] (.b (l.any p)) := by
  refine fn_of_exec tabOk Try.func74 (by kernel_rfl) rfl (N := Try.f74.ntmps) rfl (res := [.tmp 4]) rfl rfl [] ?_
  refine .inl ⟨[], _, indexC1_fn l hl fid c1 p hp, ?_⟩
  exact RetIs.b (idxF_any p l)

set_option maxRecDepth 20000 in
theorem indexP1_fn (l : List Pf) (hl : l.length < 2^62) (fid : FuncId) (c1 : List AV) (p : Pf → Bool) (hp : ∀ x ∈ l, Ctr Try.prog fid [.ag x.av, .rp c1] [] (.b (p x))) :
    Ctr Try.prog 120 [.rs 3 l.length (rowsP l), .fn fid [.rp c1]] [] (.i .i64 (idxF p l)) := by
  refine fn_of_exec tabOk Try.func120 (by kernel_rfl) rfl (N := Try.f120.ntmps) rfl (res := [.tmp 4]) rfl rfl [] ?_
  refine .inl ⟨[], Nat, fun k => k ≤ l.length ∧ ∀ j, j < k → p (l.getD j dPf) = false, fun k => [⟨8, [], .i .i64 k⟩], fun _ => [], fun k => l.length - k,
    ⟨0, [], ⟨Nat.zero_le _, fun j hj => by omega⟩, rfl, rfl, rfl, rfl, rfl, ⟨rfl, rfl⟩, trivial⟩, ?_⟩
  intro k hk
  obtain ⟨hk, hno⟩ := hk
  refine .inl ⟨fun hc => ?_, fun hc => ?_⟩
  · have hc := dlt hc
    refine .inl ⟨by omega, .inl ⟨[], _, hp (l.getD k dPf) (getD_memA dPf (by omega)), ⟨fun h => ?_, fun h => ?_⟩⟩⟩
    · refine RetIs.i ?_
      exact (idxF_some dPf p l k (by omega) hno h).symm
    · refine ⟨k + 1, [], ⟨by omega, fun j hj => ?_⟩, by dsimp only; omega, rfl, rfl, rfl, rfl, rfl, ⟨rfl, wr (by omega) (by omega)⟩, trivial⟩
      by_cases hjk : j = k
      · subst hjk; exact h
      · exact hno j (by omega)
  · have hc := dnlt hc
    refine RetIs.i ?_
    exact (idxF_none dPf p l fun j hj => hno j (by omega)).symm
set_option maxRecDepth 20000 in
theorem containsP1_fn (l : List Pf) (hl : l.length < 2^62) (fid : FuncId) (c1 : List AV) (p : Pf → Bool) (hp : ∀ x ∈ l, Ctr Try.prog fid [.ag x.av, .rp c1] [] (.b (p x))) :
    Ctr Try.prog 87 [.rs 3 l.length (rowsP l), .fn fid [.rp c1]] [] (.b (l.any p)) := by
  refine fn_of_exec tabOk Try.func87 (by kernel_rfl) rfl (N := Try.f87.ntmps) rfl (res := [.tmp 4]) rfl rfl [] ?_
  refine .inl ⟨[], _, indexP1_fn l hl fid c1 p hp, ?_⟩
  exact RetIs.b (idxF_any p l)

set_option maxRecDepth 20000 in
theorem indexG0_fn (l : List Gt) (hl : l.length < 2^62) (fid : FuncId) (p : Gt → Bool) (hp : ∀ x ∈ l, Ctr Try.prog fid [.ag x.av] [] (.b (p x))) :
    Ctr Try.prog 142 [.rs 3 l.length (rowsG l), .fn fid []] [] (.i .i64 (idxF p l)) := by
  refine fn_of_exec tabOk Try.func142 (by kernel_rfl) rfl (N := Try.f142.ntmps) rfl (res := [.tmp 4]) rfl rfl [] ?_
  refine .inl ⟨[], Nat, fun k => k ≤ l.length ∧ ∀ j, j < k → p (l.getD j dGt) = false, fun k => [⟨8, [], .i .i64 k⟩], fun _ => [], fun k => l.length - k,
    ⟨0, [], ⟨Nat.zero_le _, fun j hj => by omega⟩, rfl, rfl, rfl, rfl, rfl, ⟨rfl, rfl⟩, trivial⟩, ?_⟩
  intro k hk
  obtain ⟨hk, hno⟩ := hk
  refine .inl ⟨fun hc => ?_, fun hc => ?_⟩
  · have hc := dlt hc
    refine .inl ⟨by omega, .inl ⟨[], _, hp (l.getD k dGt) (getD_memA dGt (by omega)), ⟨fun h => ?_, fun h => ?_⟩⟩⟩
    · refine RetIs.i ?_
      exact (idxF_some dGt p l k (by omega) hno h).symm
    · refine ⟨k + 1, [], ⟨by omega, fun j hj => ?_⟩, by dsimp only; omega, rfl, rfl, rfl, rfl, rfl, ⟨rfl, wr (by omega) (by omega)⟩, trivial⟩
      by_cases hjk : j = k
      · subst hjk; exact h
      · exact hno j (by omega)
  · have hc := dnlt hc
    refine RetIs.i ?_
    exact (idxF_none dGt p l fun j hj => hno j (by omega)).symm
set_option maxRecDepth 20000 in
theorem containsG0_fn (l : List Gt) (hl : l.length < 2^62) (fid : FuncId) (p : Gt → Bool) (hp : ∀ x ∈ l, Ctr Try.prog fid [.ag x.av] [] (.b (p x))) :
    Ctr Try.prog 129 [.rs 3 l.length (rowsG l), .fn fid []] [] (.b (l.any p)) := by
  refine fn_of_exec tabOk Try.func129 (by kernel_rfl) rfl (N := Try.f129.ntmps) rfl (res := [.tmp 4]) rfl rfl [] ?_
  refine .inl ⟨[], _, indexG0_fn l hl fid p hp, ?_⟩
  exact RetIs.b (idxF_any p l)

def hasN (l : List Int) (n : Int) : Bool := l.any fun x => n == x
theorem hasN_iff {l : List Int} {n : Int} : hasN l n = true ↔ n ∈ l := by simp [hasN]
set_option maxRecDepth 20000 in
theorem indexE_fn (l : List Int) (hl : l.length < 2^62) (n : Int) : Ctr Try.prog 118 [.rs 1 l.length (rowsI l), .i .i64 n] [] (.i .i64 (idxF (fun x => n == x) l)) := by
  refine fn_of_exec tabOk Try.func118 (by kernel_rfl) rfl (N := Try.f118.ntmps) rfl (res := [.tmp 4]) rfl rfl [] ?_
  refine .inl ⟨[], Nat, fun k => k ≤ l.length ∧ ∀ j, j < k → (n == l.getD j 0) = false, fun k => [⟨8, [], .i .i64 k⟩], fun _ => [], fun k => l.length - k,
    ⟨0, [], ⟨Nat.zero_le _, fun j hj => by omega⟩, rfl, rfl, rfl, rfl, rfl, ⟨rfl, rfl⟩, trivial⟩, ?_⟩
  intro k hk
  obtain ⟨hk, hno⟩ := hk
  refine .inl ⟨fun hc => ?_, fun hc => ?_⟩
  · have hc := dlt hc
    have ek : (k : Int).toNat = k := Int.toNat_natCast k
    repeat refine Or.inl ?_
    refine ⟨⟨by omega, by omega⟩, ⟨fun h => ?_, fun h => ?_⟩⟩
    · refine RetIs.i ?_
      have h : (n == l.getD (k : Int).toNat 0) = true := h
      rw [ek] at h
      exact (idxF_some 0 (fun x => n == x) l k (by omega) hno h).symm
    · have h : (n == l.getD (k : Int).toNat 0) = false := h
      rw [ek] at h
      refine ⟨k + 1, [], ⟨by omega, fun j hj => ?_⟩, by dsimp only; omega, rfl, rfl, rfl, rfl, rfl, ⟨rfl, wr (by omega) (by omega)⟩, trivial⟩
      by_cases hjk : j = k
      · subst hjk; exact h
      · exact hno j (by omega)
  · have hc := dnlt hc
    refine RetIs.i ?_
    exact (idxF_none 0 (fun x => n == x) l fun j hj => hno j (by omega)).symm
set_option maxRecDepth 20000 in
theorem contains_fn (l : List Int) (hl : l.length < 2^62) (n : Int) : Ctr Try.prog 79 [.rs 1 l.length (rowsI l), .i .i64 n] [] (.b (hasN l n)) := by
  refine fn_of_exec tabOk Try.func79 (by kernel_rfl) rfl (N := Try.f79.ntmps) rfl (res := [.tmp 4]) rfl rfl [] ?_
  refine .inl ⟨[], _, indexE_fn l hl n, ?_⟩
  exact RetIs.b (idxF_any (fun x => n == x) l)
end Go.Proofs.Ytilhaifmfiobhaa
end

section
/-
  Clauses: Right, Check, and what the reference says of them.
-/
namespace Go.Proofs.Ytilhaifmfiobhaa
open Go.Eng

theorem wrap_two {n : Int} (h : 0 ≤ n ∧ n ≤ 400) : IntKind.i64.wrap (2 * n) = 2 * n := wr (by omega) (by omega)
set_option maxRecDepth 20000 in
theorem right1_fn (n : Int) (hn : 0 ≤ n ∧ n ≤ 400) (c : Cl) : Ctr Try.prog 75 [.ag c.av, .rp [.i .i64 n]] [] (.b (!clB n c)) := by
  refine fn_of_exec tabOk Try.func75 (by kernel_rfl) rfl (N := Try.f75.ntmps) rfl (res := [.tmp 3]) rfl rfl [] ?_
  refine RetIs.b ?_
  show (((decide (c.a < 0) || decide (c.a ≥ IntKind.i64.wrap (2 * n))) || decide (c.b < 0)) || decide (c.b ≥ IntKind.i64.wrap (2 * n))) = !clB n c
  rw [wrap_two hn]
  unfold clB
  rw [Bool.eq_iff_iff]
  simp only [Bool.or_eq_true, decide_eq_true_eq, Bool.not_eq_true', Bool.and_eq_false_iff, decide_eq_false_iff_not]
  omega
theorem rightB_eq (l : List Cl) (n : Int) : rightB l n = (!((decide (n < 0) || decide (n > 400)) || decide (l.length > 4000)) && !l.any fun c => !clB n c) := by
  have e1 : (!(l.any fun c => !clB n c)) = l.all (clB n) := by
    rw [← List.not_all_eq_any_not, Bool.not_not]
  rw [e1]
  unfold rightB
  congr 1
  rw [Bool.eq_iff_iff]
  simp only [Bool.and_eq_true, decide_eq_true_eq, Bool.not_eq_true', Bool.or_eq_false_iff, decide_eq_false_iff_not]
  omega
set_option maxRecDepth 20000 in
theorem Right_fn (l : List Cl) (hl : l.length < 2^62) (n : Int) : Ctr Try.prog 27 [.rs 2 l.length (rowsC l), .i .i64 n] [] (.b (rightB l n)) := by
  refine fn_of_exec tabOk Try.func27 (by kernel_rfl) rfl (N := Try.f27.ntmps) rfl (res := [.tmp 4]) rfl rfl [] ?_
  repeat refine Or.inl ?_
  refine ⟨fun h => RetIs.b ?_, fun h => ?_⟩
  · have h : ((decide (n < 0) || decide (n > 400)) || decide ((l.length : Int) > 4000)) = true := h
    rw [rightB_eq]
    have e : decide (l.length > 4000) = decide ((l.length : Int) > 4000) := by rw [Bool.eq_iff_iff, decide_eq_true_eq, decide_eq_true_eq]; omega
    rw [e, h]
    rfl
  have h : ((decide (n < 0) || decide (n > 400)) || decide ((l.length : Int) > 4000)) = false := h
  have e : decide (l.length > 4000) = decide ((l.length : Int) > 4000) := by rw [Bool.eq_iff_iff, decide_eq_true_eq, decide_eq_true_eq]; omega
  have h2 := h
  simp only [Bool.or_eq_false_iff, decide_eq_false_iff_not] at h2
  repeat refine Or.inl ?_
  refine ⟨[], _, containsC1_fn l hl 75 [.i .i64 n] (fun c => !clB n c) (fun x _ => right1_fn n (by omega) x), ?_⟩
  refine RetIs.b ?_
  rw [rightB_eq, e, h]
  rfl
theorem all_upto {α : Type} (d : α) {p : α → Bool} {l : List α} (h : ∀ j, j < l.length → p (l.getD j d) = true) : l.all p = true := by
  rw [List.all_eq_true]
  intro x hx
  obtain ⟨j, hj, rfl⟩ := List.getElem_of_mem hx
  have := h j hj
  rwa [gdX hj] at this
theorem not_all {α : Type} (d : α) {p : α → Bool} {l : List α} {j : Nat} (hj : j < l.length) (h : p (l.getD j d) = false) : l.all p = false := by
  rw [List.all_eq_false]
  exact ⟨_, getD_memA d hj, by rw [h]; simp⟩
set_option maxRecDepth 20000 in
set_option maxHeartbeats 1000000 in
theorem rRight_fn (l : List Cl) (hl : l.length < 2^62) (n : Int) : Ctr Try.prog 22 [.rs 2 l.length (rowsC l), .i .i64 n] [] (.b (rightB l n)) := by
  refine fn_of_exec tabOk Try.func22 (by kernel_rfl) rfl (N := Try.f22.ntmps) rfl (res := [.tmp 4]) rfl rfl [] ?_
  have e : decide (l.length > 4000) = decide ((l.length : Int) > 4000) := by rw [Bool.eq_iff_iff, decide_eq_true_eq, decide_eq_true_eq]; omega
  repeat refine Or.inl ?_
  refine ⟨fun h => RetIs.b ?_, fun h => ?_⟩
  · have h : ((decide (n < 0) || decide (n > 400)) || decide ((l.length : Int) > 4000)) = true := h
    rw [rightB_eq, e, h]
    rfl
  have h : ((decide (n < 0) || decide (n > 400)) || decide ((l.length : Int) > 4000)) = false := h
  have h2 := h
  simp only [Bool.or_eq_false_iff, decide_eq_false_iff_not] at h2
  have hn : 0 ≤ n ∧ n ≤ 400 := by omega
  repeat refine Or.inl ?_
  refine ⟨[], Nat, fun k => k ≤ l.length ∧ ∀ j, j < k → clB n (l.getD j dC) = true, fun k => [⟨5, [], .i .i64 k⟩], fun _ => [], fun k => l.length - k,
    ⟨0, [], ⟨Nat.zero_le _, fun j hj => by omega⟩, rfl, rfl, rfl, rfl, rfl, ⟨rfl, rfl⟩, trivial⟩, ?_⟩
  rintro k ⟨hk, hno⟩
  refine .inl ⟨fun hc => ?_, fun hc => ?_⟩
  · have hc := dlt hc
    have ek : (k : Int).toNat = k := Int.toNat_natCast k
    have key : ((((decide ((l.getD (k : Int).toNat dC).a < 0) || decide ((l.getD (k : Int).toNat dC).a ≥ IntKind.i64.wrap (2 * n))) || decide ((l.getD (k : Int).toNat dC).b < 0)) || decide ((l.getD (k : Int).toNat dC).b ≥ IntKind.i64.wrap (2 * n))) : Bool) = !clB n (l.getD k dC) := by
      rw [ek, wrap_two hn]
      unfold clB
      rw [Bool.eq_iff_iff]
      simp only [Bool.or_eq_true, decide_eq_true_eq, Bool.not_eq_true', Bool.and_eq_false_iff, decide_eq_false_iff_not]
      omega
    repeat refine Or.inl ?_
    refine ⟨⟨by omega, by omega⟩, fun _ => ⟨by omega, by omega⟩, fun _ => ⟨by omega, by omega⟩, fun _ => ⟨by omega, by omega⟩, ⟨fun h3 => RetIs.b ?_, fun h3 => ?_⟩⟩
    · have h3 := key.symm.trans h3
      rw [rightB_eq, e, h, Bool.not_false, Bool.true_and]
      have h4 : clB n (l.getD k dC) = false := by simpa using h3
      have : (l.any fun c => !clB n c) = true := by
        rw [List.any_eq_true]
        exact ⟨l.getD k dC, getD_memA dC (by omega), by rw [h4]; rfl⟩
      rw [this]
      rfl
    · have h3 := key.symm.trans h3
      refine ⟨k + 1, [], ⟨by omega, fun j hj => ?_⟩, by dsimp only; omega, rfl, rfl, rfl, rfl, rfl, ⟨rfl, wr (by omega) (by omega)⟩, trivial⟩
      by_cases hjk : j = k
      · subst hjk; simpa using h3
      · exact hno j (by omega)
  · have hc := dnlt hc
    obtain rfl : k = l.length := by omega
    refine RetIs.b ?_
    have : rightB l n = true := rightB_iff.2 ⟨hn.1, hn.2, by omega, fun c hc2 => by
      obtain ⟨j, hj, rfl⟩ := List.getElem_of_mem hc2
      have := hno j hj
      rw [gdX hj] at this
      unfold clB at this
      simpa using this⟩
    rw [this]

/-! ### the truth of a literal -/
theorem half {x : Int} (h : 0 ≤ x) (h2 : x < 1000000) : IntKind.i64.wrap (x.tdiv 2) = x / 2 := by
  rw [Int.tdiv_eq_ediv_of_nonneg h]
  exact wr (by omega) (by omega)
set_option maxRecDepth 20000 in
theorem isC_fn (vals : List Bool) (hv : vals.length ≤ 400) (x : Int) (h0 : 0 ≤ x) (h1 : x < 2 * vals.length) : Ctr Try.prog 76 [.i .i64 x, .rp [.rs 1 vals.length (rowsB vals)]] [] (.b (tv vals x)) := by
  refine fn_of_exec tabOk Try.func76 (by kernel_rfl) rfl (N := Try.f76.ntmps) rfl (res := [.tmp 3]) rfl rfl [] ?_
  have e := half h0 (by omega)
  refine ⟨by decide, ⟨by rw [e]; omega, by rw [e]; omega⟩, RetIs.b ?_⟩
  show (vals.getD (IntKind.i64.wrap (x.tdiv 2)).toNat false == (bitsI .and .i64 x 1 == 0)) = tv vals x
  rw [e, bits_even h0 (by omega)]
  rfl
set_option maxRecDepth 20000 in
theorem rTrue_fn (vals : List Bool) (hv : vals.length ≤ 400) (x : Int) (h0 : 0 ≤ x) (h1 : x < 2 * vals.length) : Ctr Try.prog 78 [.rs 1 vals.length (rowsB vals), .i .i64 x] [] (.b (tv vals x)) := by
  refine fn_of_exec tabOk Try.func78 (by kernel_rfl) rfl (N := Try.f78.ntmps) rfl (res := [.tmp 4]) rfl rfl [] ?_
  have e := half h0 (by omega)
  refine ⟨by decide, ⟨by rw [e]; omega, by rw [e]; omega⟩, by decide, RetIs.b ?_⟩
  show (vals.getD (IntKind.i64.wrap (x.tdiv 2)).toNat false == (x.tmod 2 == 0)) = tv vals x
  rw [e, Int.tmod_eq_emod_of_nonneg h0]
  rfl
set_option maxRecDepth 20000 in
theorem check2_fn (vals : List Bool) (hv : vals.length ≤ 400) (c : Cl) (hc : (0 ≤ c.a ∧ c.a < 2 * (vals.length : Int)) ∧ (0 ≤ c.b ∧ c.b < 2 * (vals.length : Int))) :
    Ctr Try.prog 77 [.ag c.av, .rp [.fn 76 [.rp [.rs 1 vals.length (rowsB vals)]]]] [] (.b (!(tv vals c.a || tv vals c.b))) := by
  refine fn_of_exec tabOk Try.func77 (by kernel_rfl) rfl (N := Try.f77.ntmps) rfl (res := [.tmp 3]) rfl rfl [] ?_
  repeat refine Or.inl ?_
  refine ⟨[], _, isC_fn vals hv c.a hc.1.1 hc.1.2, ?_⟩
  repeat refine Or.inl ?_
  refine ⟨[], _, fun _ => isC_fn vals hv c.b hc.2.1 hc.2.2, RetIs.b ?_⟩
  show (!tv vals c.a && !tv vals c.b) = _
  rw [Bool.not_or]
theorem checkB_eq (l : List Cl) (n : Int) (vals : List Bool) : checkB l n vals = (!(!rightB l n || ((vals.length : Int) != n)) && !l.any fun c => !(tv vals c.a || tv vals c.b)) := by
  have e1 : (!(l.any fun c => !(tv vals c.a || tv vals c.b))) = l.all fun c => tv vals c.a || tv vals c.b := by
    rw [← List.not_all_eq_any_not, Bool.not_not]
  rw [e1]
  unfold checkB
  congr 1
  cases rightB l n with
  | false => rfl
  | true => simp [bne]; rfl
set_option maxRecDepth 20000 in
theorem Check_fn (l : List Cl) (hl : l.length < 2^62) (n : Int) (vals : List Bool) (hv : vals.length < 2^62) : Ctr Try.prog 28 [.rs 2 l.length (rowsC l), .i .i64 n, .rs 1 vals.length (rowsB vals)] [] (.b (checkB l n vals)) := by
  refine fn_of_exec tabOk Try.func28 (by kernel_rfl) rfl (N := Try.f28.ntmps) rfl (res := [.tmp 6]) rfl rfl [] ?_
  repeat refine Or.inl ?_
  refine ⟨[], _, Right_fn l hl n, ?_⟩
  repeat refine Or.inl ?_
  refine ⟨fun h => RetIs.b ?_, fun h => ?_⟩
  · have h : (!rightB l n || ((vals.length : Int) != n)) = true := h
    rw [checkB_eq, h]
    rfl
  have h : (!rightB l n || ((vals.length : Int) != n)) = false := h
  have h2 := h
  rw [Bool.or_eq_false_iff, Bool.not_eq_false', rightB_iff] at h2
  obtain ⟨hr, hn⟩ := h2
  have hn : (vals.length : Int) = n := by simpa [bne] using hn
  have hhi := hr.hi
  repeat refine Or.inl ?_
  refine ⟨[], _, containsC1_fn l hl 77 [.fn 76 [.rp [.rs 1 vals.length (rowsB vals)]]] (fun c => !(tv vals c.a || tv vals c.b)) (fun x hx => check2_fn vals (by omega) x (by rw [hn]; exact hr.cl x hx)), ?_⟩
  refine RetIs.b ?_
  rw [checkB_eq, h]
  rfl
set_option maxRecDepth 20000 in
set_option maxHeartbeats 1000000 in
theorem rCheck_fn (l : List Cl) (hl : l.length < 2^62) (n : Int) (vals : List Bool) (hv : vals.length < 2^62) : Ctr Try.prog 29 [.rs 2 l.length (rowsC l), .i .i64 n, .rs 1 vals.length (rowsB vals)] [] (.b (checkB l n vals)) := by
  refine fn_of_exec tabOk Try.func29 (by kernel_rfl) rfl (N := Try.f29.ntmps) rfl (res := [.tmp 6]) rfl rfl [] ?_
  repeat refine Or.inl ?_
  refine ⟨[], _, rRight_fn l hl n, ?_⟩
  repeat refine Or.inl ?_
  refine ⟨fun h => RetIs.b ?_, fun h => ?_⟩
  · have h : (!rightB l n || ((vals.length : Int) != n)) = true := h
    rw [checkB_eq, h]
    rfl
  have h : (!rightB l n || ((vals.length : Int) != n)) = false := h
  have h2 := h
  rw [Bool.or_eq_false_iff, Bool.not_eq_false', rightB_iff] at h2
  obtain ⟨hr, hn⟩ := h2
  have hn : (vals.length : Int) = n := by simpa [bne] using hn
  have hhi := hr.hi
  have hlen := hr.len
  repeat refine Or.inl ?_
  refine ⟨[], Nat, fun k => k ≤ l.length ∧ ∀ j, j < k → (tv vals (l.getD j dC).a || tv vals (l.getD j dC).b) = true, fun k => [⟨7, [], .i .i64 k⟩], fun _ => [], fun k => l.length - k,
    ⟨0, [], ⟨Nat.zero_le _, fun j hj => by omega⟩, rfl, rfl, rfl, rfl, rfl, ⟨rfl, rfl⟩, trivial⟩, ?_⟩
  rintro k ⟨hk, hno⟩
  refine .inl ⟨fun hc => ?_, fun hc => ?_⟩
  · have hc := dlt hc
    have ek : (k : Int).toNat = k := Int.toNat_natCast k
    have hcl := hr.cl _ (getD_memA dC (show k < l.length by omega))
    rw [← hn, ← ek] at hcl
    repeat refine Or.inl ?_
    refine ⟨⟨by omega, by omega⟩, ?_⟩
    repeat refine Or.inl ?_
    refine ⟨[], _, rTrue_fn vals (by omega) _ hcl.1.1 hcl.1.2, fun _ => ⟨by omega, by omega⟩, ?_⟩
    repeat refine Or.inl ?_
    refine ⟨[], _, fun _ => rTrue_fn vals (by omega) _ hcl.2.1 hcl.2.2, ⟨fun h3 => RetIs.b ?_, fun h3 => ?_⟩⟩
    · have h3 : (!tv vals (l.getD (k : Int).toNat dC).a && !tv vals (l.getD (k : Int).toNat dC).b) = true := h3
      rw [ek, ← Bool.not_or] at h3
      rw [checkB_eq, h, Bool.not_false, Bool.true_and]
      have : (l.any fun c => !(tv vals c.a || tv vals c.b)) = true := by
        rw [List.any_eq_true]
        exact ⟨l.getD k dC, getD_memA dC (by omega), h3⟩
      rw [this]
      rfl
    · have h3 : (!tv vals (l.getD (k : Int).toNat dC).a && !tv vals (l.getD (k : Int).toNat dC).b) = false := h3
      rw [ek, ← Bool.not_or] at h3
      refine ⟨k + 1, [], ⟨by omega, fun j hj => ?_⟩, by dsimp only; omega, rfl, rfl, rfl, rfl, rfl, ⟨rfl, wr (by omega) (by omega)⟩, trivial⟩
      by_cases hjk : j = k
      · subst hjk; rwa [Bool.not_eq_false'] at h3
      · exact hno j (by omega)
  · have hc := dnlt hc
    obtain rfl : k = l.length := by omega
    refine RetIs.b ?_
    rw [checkB_eq, h, Bool.not_false, Bool.true_and]
    have : (l.any fun c => !(tv vals c.a || tv vals c.b)) = false := by
      rw [List.any_eq_false]
      intro x hx
      obtain ⟨j, hj, rfl⟩ := List.getElem_of_mem hx
      have := hno j hj
      rw [gdX hj] at this
      rw [this]
      simp
    rw [this]
    rfl
end Go.Proofs.Ytilhaifmfiobhaa
end
