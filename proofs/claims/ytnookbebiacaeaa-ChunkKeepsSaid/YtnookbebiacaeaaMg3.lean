/-
  Several texts in one: Eng7.
-/
import Derived.Test.YtnookbebiacaeaaMg2

section
namespace Go.Eng
open Go.RowKit
section
variable {P : Program} {β : Bd} {nid : Nat} {F : Nat → Prop} {w : World} {lk : Nat → Option AO} {k : Eff → Prop}
def catG (n : Nat) (g h : Nat → List AV) : Nat → List AV := fun q => if q < n then g q else h (q - n)
def srcK (lk : Nat → Option AO) (x : AV) (sz : Nat) (k : Nat → (Nat → List AV) → Prop) : Prop :=
 match x with
 | .rs sz' n get => (match Nat.beq sz' sz with
  | true => k n get
  | false => False)
 | .so id => (match lk id with
  | some (.row _ sz' n get) => (match Nat.beq sz' sz with
   | true => k n get
   | false => False)
  | _ => False)
 | .sv id sz' lo n => (match lk id with
  | some (.row _ sz2 _ get) => (match Nat.beq sz' sz, Nat.beq sz2 sz with
   | true, true => k n (fun q => get (lo + q))
   | _, _ => False)
  | _ => False)
 | .val v => (match nilSlice v with
  | true => k 0 (fun _ => [])
  | false => False)
 | _ => False
structure Src (F : Nat → Prop) (w : World) (v : Value) (sz n : Nat) (get : Nat → List AV) (news : List Value) : Prop where
 len : news.length = n * sz
 one : ∀ u ∈ news, u.oneCell' = true
 glen : ∀ k, k < n → (get k).length = sz
 rep : ∀ (k j : Nat) (_ : k < n) (h1 : j < (get k).length) (h2 : k * sz + j < news.length), Rep0 F w (get k)[j] news[k * sz + j]
 val : (v = .slice none 0 0 ∧ n = 0) ∨ ∃ a c, v = .slice (some a) n c ∧ n ≤ maxLen ∧ ∀ j u, news[j]? = some u → w.cell? (a.add j) = some u
theorem src_val {e : TypeId} {sz : Nat} {v : Value} {n : Nat} {xs : List Value} (hx : RowAt w e sz v n xs) :
  (v = .slice none 0 0 ∧ n = 0) ∨ ∃ a c, v = .slice (some a) n c ∧ n ≤ maxLen ∧ ∀ j u, xs[j]? = some u → w.cell? (a.add j) = some u := by
 rcases hx.2 with h | ⟨a, h1, h0⟩ | ⟨g, o, cap, cur, h1, hh, hnc, hcm, hcs, htake⟩
 ·exact .inl h
 ·subst h0
  exact .inr ⟨a, 0, h1, Nat.zero_le _, fun j u hu => by have h2 := hx.1; have := (List.getElem?_eq_some_iff.1 hu).1; omega⟩
 ·refine .inr ⟨_, _, h1, by omega, fun j u hu => ?_⟩
  have hpos : 0 < xs.length := by have := (List.getElem?_eq_some_iff.1 hu).1; omega
  obtain ⟨g2, o2, cap2, cur2, h2, _, _, _, _, _, hcells⟩ := hx.cells hpos
  rw [h1] at h2
  simp only [Value.slice.injEq, Option.some.injEq, Addr.mk.injEq] at h2
  obtain ⟨⟨rfl, rfl, _⟩, _⟩ := h2
  rw [Addr.add_lit]
  exact hcells _ _ hu
theorem srcK_sound (E : Env β nid F w lk) {x : AV} {v : Value} {sz : Nat} {q : Nat → (Nat → List AV) → Prop} (hsz : 0 < sz) (hv : Rep β nid F w x v) (h : srcK lk x sz q) :
  ∃ n get news, q n get ∧ Src F w v sz n get news := by
 unfold srcK at h
 split at h
 ·rename_i sz' n get
  split at h
  ·rename_i hs
   have hs : sz' = sz := by simpa using hs
   subst hs
   have hv0 := hv.rs_inv
   cases hv0 with
   | rsnil => exact ⟨0, get, [], h, by simp, by simp, fun k hk => by omega, fun k j hk => by omega, .inl ⟨rfl, rfl⟩⟩
   | rsz _ _ a => exact ⟨0, get, [], h, by simp, by simp, fun k hk => by omega, fun k j hk => by omega, .inr ⟨a, 0, rfl, Nat.zero_le _, fun j u hu => by simp at hu⟩⟩
   | rs _ _ _ g o c vs hn hm hF hg hlen hc h1 hr =>
    have key : ∀ j, j < n * sz' → j / sz' < n ∧ j % sz' < sz' ∧ j / sz' * sz' + j % sz' = j := fun j hj =>
     ⟨Nat.div_lt_of_lt_mul (by rwa [Nat.mul_comm]), Nat.mod_lt _ hsz, by rw [Nat.mul_comm]; exact Nat.div_add_mod _ _⟩
    refine ⟨n, get, (List.range (n * sz')).map fun j => vs (j / sz') (j % sz'), h, by simp, ?_, hlen, ?_, .inr ⟨⟨g, o, none⟩, c, rfl, Nat.le_trans hn hm, ?_⟩⟩
    ·intro u hu
     obtain ⟨j, hj, rfl⟩ := List.mem_map.1 hu
     have := key j (by simpa using hj)
     exact h1 _ _ this.1 this.2.1
    ·intro k j hk h1' h2'
     have hj : j < sz' := by rw [← hlen k hk]; exact h1'
     have e1 : (k * sz' + j) / sz' = k := by
      rw [Nat.mul_comm, Nat.mul_add_div hsz, Nat.div_eq_of_lt hj, Nat.add_zero]
     have e2 : (k * sz' + j) % sz' = j := by
      rw [Nat.mul_comm, Nat.mul_add_mod]
      exact Nat.mod_eq_of_lt hj
     simp only [List.getElem_map, List.getElem_range, e1, e2]
     exact hr k j hk h1'
    ·intro j u hu
     obtain ⟨hj, hu⟩ := List.getElem?_eq_some_iff.1 hu
     simp at hj
     obtain ⟨k1, k2, k3⟩ := key j hj
     simp only [List.getElem_map, List.getElem_range] at hu
     rw [Addr.add_lit, ← hu, ← hc _ _ k1 k2, Nat.add_assoc, k3]
  ·exact h.elim
 ·rename_i id
  split at h
  ·rename_i e sz' n get hlk
   split at h
   ·rename_i hs
    have hs : sz' = sz := by simpa using hs
    subst hs
    obtain ⟨hid, rfl⟩ := hv.so_inv
    obtain ⟨_, xs, hx, hlen, hc⟩ := E.obj id _ hlk
    refine ⟨n, get, xs, h, hx.1, ?_, hlen, fun k j hk h1 h2 => (hc k j hk h1 h2).1, ?_⟩
    ·intro u hu
     obtain ⟨j, hj, rfl⟩ := List.getElem_of_mem hu
     have hj' : j < n * sz' := by rw [← hx.1]; exact hj
     have k1 : j / sz' < n := Nat.div_lt_of_lt_mul (by rwa [Nat.mul_comm])
     have k2 : j % sz' < sz' := Nat.mod_lt _ hsz
     have k3 : j / sz' * sz' + j % sz' = j := by rw [Nat.mul_comm]; exact Nat.div_add_mod _ _
     have := (hc (j / sz') (j % sz') k1 (by rw [hlen _ k1]; exact k2) (by rw [k3]; exact hj)).2
     simpa only [k3] using this
    ·exact src_val hx
   ·exact h.elim
  ·exact h.elim
 ·rename_i id sz' lo n
  split at h
  ·rename_i e sz2 N get hlk
   split at h
   ·rename_i hs hs2
    have hs : sz' = sz := by simpa using hs
    have hs2 : sz2 = sz := by simpa using hs2
    subst hs
    subst hs2
    obtain ⟨hid, hsv⟩ := hv.sv_inv
    obtain ⟨_, xs, hx, hlen, hc⟩ := E.obj id _ hlk
    have hN : lo + n ≤ N ∨ n = 0 := by
     rcases hsv with ⟨_, hn0, _⟩ | ⟨_, _, hn0, _⟩ | ⟨g, o, m, c, hval, hlo, hlm, _⟩
     ·exact .inr hn0
     ·exact .inr hn0
     ·rcases hx.2 with ⟨h1, _⟩ | ⟨a, h1, h0⟩ | ⟨g', o', cap, cur, h1, _⟩
      ·rw [hval] at h1; cases h1
      ·rw [hval] at h1
       simp only [Value.slice.injEq] at h1
       left; omega
      ·rw [hval] at h1
       simp only [Value.slice.injEq] at h1
       left; omega
    rcases hN with hN | hn0
    ·have hsub : ∀ k, k < n → (lo + k) * sz2 + sz2 ≤ xs.length := fun k hk => by
      rw [hx.1, ← Nat.succ_mul]
      exact Nat.mul_le_mul_right _ (by omega)
     have hnl : ((xs.drop (lo * sz2)).take (n * sz2)).length = n * sz2 := by
      have : (lo + n) * sz2 ≤ N * sz2 := Nat.mul_le_mul_right _ hN
      rw [Nat.add_mul] at this
      have := hx.1
      simp
      omega
     refine ⟨n, _, (xs.drop (lo * sz2)).take (n * sz2), h, hnl, ?_, fun k hk => hlen (lo + k) (by omega), ?_, ?_⟩
     ·intro u hu
      have hu : u ∈ xs := List.mem_of_mem_drop (List.mem_of_mem_take hu)
      obtain ⟨j, hj, rfl⟩ := List.getElem_of_mem hu
      have hj' : j < N * sz2 := by rw [← hx.1]; exact hj
      have k1 : j / sz2 < N := Nat.div_lt_of_lt_mul (by rwa [Nat.mul_comm])
      have k2 : j % sz2 < sz2 := Nat.mod_lt _ hsz
      have k3 : j / sz2 * sz2 + j % sz2 = j := by rw [Nat.mul_comm]; exact Nat.div_add_mod _ _
      have := (hc (j / sz2) (j % sz2) k1 (by rw [hlen _ k1]; exact k2) (by rw [k3]; exact hj)).2
      simpa only [k3] using this
     ·intro k j hk h1 h2
      have hj : j < sz2 := by rw [hlen _ (show lo + k < N by omega)] at h1; exact h1
      have := hsub k hk
      have := (hc (lo + k) j (by omega) h1 (by omega)).1
      have e : ((xs.drop (lo * sz2)).take (n * sz2))[k * sz2 + j] = xs[(lo + k) * sz2 + j]'(by have := hsub k hk; omega) := by
       simp only [List.getElem_take, List.getElem_drop]
       congr 1
       rw [Nat.add_mul]
       omega
      rw [e]
      exact this
     ·rcases hsv with ⟨hv0, hn0, _⟩ | ⟨a, hv0, hn0, _⟩ | ⟨g, o, m, c, hval, hlo, hlm, hv0⟩
      ·exact .inl ⟨hv0, hn0⟩
      ·obtain ⟨ab, ao, asp⟩ := a
       subst hn0
       exact .inr ⟨_, 0, hv0, Nat.zero_le _, fun j u hu => by simp at hu⟩
      ·rcases hx.2 with ⟨h1, _⟩ | ⟨a, h1, h0⟩ | ⟨g', o', cap, cur, h1, hh, hnc, hcm, hcs, htake⟩
       ·rw [hval] at h1; cases h1
       ·rw [hval] at h1
        simp only [Value.slice.injEq] at h1
        omega
       ·rw [hval] at h1
        simp only [Value.slice.injEq, Option.some.injEq, Addr.mk.injEq] at h1
        obtain ⟨⟨rfl, rfl, _⟩, rfl, rfl⟩ := h1
        refine .inr ⟨_, _, hv0, by omega, fun j u hu => ?_⟩
        have hxl : j < n * sz2 := by
         have := (List.getElem?_eq_some_iff.1 hu).1
         rw [hnl] at this
         exact this
        rw [List.getElem?_take, if_pos hxl, List.getElem?_drop] at hu
        have hpos : 0 < xs.length := by have := (List.getElem?_eq_some_iff.1 hu).1; omega
        obtain ⟨g2, o2, cap2, cur2, h2, _, _, _, _, _, hcells⟩ := hx.cells hpos
        rw [hval] at h2
        simp only [Value.slice.injEq, Option.some.injEq, Addr.mk.injEq] at h2
        obtain ⟨⟨rfl, rfl, _⟩, _⟩ := h2
        have := hcells _ _ hu
        rw [Addr.add_lit, Nat.add_assoc]
        exact this
    ·subst hn0
     refine ⟨0, _, [], h, by simp, by simp, fun k hk => by omega, fun k j hk => by omega, ?_⟩
     rcases hsv with ⟨hv0, _, _⟩ | ⟨a, hv0, _, _⟩ | ⟨g, o, m, c, hval, hlo, hlm, hv0⟩
     ·exact .inl ⟨hv0, rfl⟩
     ·exact .inr ⟨a, 0, hv0, Nat.zero_le _, fun j u hu => by simp at hu⟩
     ·exact .inr ⟨_, _, hv0, Nat.zero_le _, fun j u hu => by simp at hu⟩
   ·exact h.elim
  ·exact h.elim
 ·rename_i v'
  obtain rfl := hv.val_inv
  split at h
  ·rename_i hn
   exact ⟨0, _, [], h, by simp, by simp, fun k hk => by omega, fun k j hk => by omega, .inl ⟨nilSlice_iff hn, rfl⟩⟩
  ·exact h.elim
 ·exact h.elim
theorem append_none_run {t e : TypeId} (ty : TypeId) {i : TypeInfo} (ht : P.underlying t = some (.slice e)) (hi : P.info? e = some i) (b : Option Addr) (n c : Nat) (hnc : n ≤ c) :
  (Builtin.append_ #[t, t] ty #[.slice b n c, .slice none 0 0]).run P w = .ok (.slice b n c) w := by
 cases b <;> simp [Builtin.append_, run_underlying ht, sizeOf, typeInfo, hi, Builtin.lenOf, Builtin.firstCells, hnc, storeCells]
theorem append_zero_run {t e : TypeId} (ty : TypeId) {i : TypeInfo} (ht : P.underlying t = some (.slice e)) (hi : P.info? e = some i) (b : Option Addr) (n c : Nat) (hnc : n ≤ c) (a : Addr) (c' : Nat) :
  (Builtin.append_ #[t, t] ty #[.slice b n c, .slice (some a) 0 c']).run P w = .ok (.slice b n c) w := by
 have hfc := run_firstCells_some (P := P) w i.size 0 a 0 c' [] (by simp) (fun j u hu => by simp at hu)
 cases b <;> simp [Builtin.append_, run_underlying ht, sizeOf, typeInfo, hi, Builtin.lenOf, hnc, hfc, storeCells]
theorem append_room_run {t e : TypeId} (ty : TypeId) {i : TypeInfo} (ht : P.underlying t = some (.slice e)) (hi : P.info? e = some i) {g off n c m c' : Nat} {a : Addr} {news : List Value} {cur : Array Value}
  (hg : w.heap[g]? = some (.cells cur e (0, 0))) (hl : news.length = m * i.size) (hc : ∀ j u, news[j]? = some u → w.cell? (a.add j) = some u) (h1 : ∀ u ∈ news, u.oneCell' = true) (hroom : n + m ≤ c) (hfit : off + n * i.size + news.length ≤ cur.size) :
  (Builtin.append_ #[t, t] ty #[.slice (some ⟨g, off, none⟩) n c, .slice (some a) m c']).run P w =
   .ok (.slice (some ⟨g, off, none⟩) (n + m) c) (w.setRow g (cur.toList.take (off + n * i.size) ++ news ++ cur.toList.drop (off + n * i.size + news.length)).toArray) := by
 have hfc := run_firstCells_some (P := P) w i.size m a m c' news hl hc
 have hst := run_storeCells_at P g (off + n * i.size) e news 0 cur w hg (by simpa using hfit) h1
 simp only [Nat.add_zero] at hst
 simp [Builtin.append_, run_underlying ht, sizeOf, typeInfo, hi, Builtin.lenOf, hroom, hfc, Addr.add_lit, hst]
theorem append_own {t e : TypeId} (ty : TypeId) {i : TypeInfo} {z : Value} (ht : P.underlying t = some (.slice e)) (hi : P.info? e = some i) (hz : i.zero = some z) (hzs : z.cells.size = i.size) (hsz : 0 < i.size) (hb1 : 0 < i.bytes)
  {v : Value} {n : Nat} {xs : List Value} (hown : RowAt w e i.size v n xs) {x : Value} {m : Nat} {get : Nat → List AV} {news : List Value} (hs : Src F w x i.size m get news)
  (hbytes : (n + m) * i.bytes ≤ 140737488355328) :
  ∃ v' w', (Builtin.append_ #[t, t] ty #[v, x]).run P w = .ok v' w' ∧ RowAt w' e i.size v' (n + m) (xs ++ news) ∧ GrownBy w w' (blkOf v) ∧
   (blkOf v' = blkOf v ∨ ∀ g, blkOf v' = some g → w.heap.size ≤ g) := by
 have hle : n + m ≤ (n + m) * i.bytes := Nat.le_mul_of_pos_right _ hb1
 have same : (∃ b c, v = .slice b n c ∧ n ≤ c) := by
  rcases hown.2 with ⟨rfl, rfl⟩ | ⟨a, rfl, rfl⟩ | ⟨g, o, cap, cur, rfl, _, hnc, _⟩
  ·exact ⟨_, _, rfl, Nat.le_refl _⟩
  ·exact ⟨_, _, rfl, Nat.le_refl _⟩
  ·exact ⟨_, _, rfl, hnc⟩
 have refl : ∀ o, GrownBy w w o := fun o => ⟨⟨rfl, rfl, rfl, Nat.le_refl _, fun _ _ _ => rfl⟩, Nat.le_refl _⟩
 have none' : m = 0 → news = [] := fun h => List.eq_nil_of_length_eq_zero (by rw [hs.len, h]; simp)
 by_cases hm : m = 0
 ·have hn0 := none' hm
  subst hm
  subst hn0
  obtain ⟨b, c, rfl, hnc⟩ := same
  rcases hs.val with ⟨rfl, _⟩ | ⟨a, c', rfl, _, _⟩
  ·exact ⟨_, w, append_none_run ty ht hi b n c hnc, by simpa using hown, refl _, .inl rfl⟩
  ·exact ⟨_, w, append_zero_run ty ht hi b n c hnc a c', by simpa using hown, refl _, .inl rfl⟩
 ·rcases hs.val with ⟨_, h0⟩ | ⟨a, c, rfl, _, hcells⟩
  ·exact absurd h0 hm
  ·have grows : ∀ (b : Addr) (cap : Nat), v = .slice (some b) n cap → cap < n + m → (∀ j u, xs[j]? = some u → w.cell? (b.add j) = some u) → ∃ v' w', (Builtin.append_ #[t, t] ty #[v, .slice (some a) m c]).run P w = .ok v' w' ∧
     RowAt w' e i.size v' (n + m) (xs ++ news) ∧ GrownBy w w' (blkOf v) ∧ (blkOf v' = blkOf v ∨ ∀ g, blkOf v' = some g → w.heap.size ≤ g) := by
    rintro b cap rfl hcap holds
    obtain ⟨v', w', hrun, hown', hg⟩ := run_append_arg_grows (P := P) w t ty e i z i.size i.bytes ht hi hz rfl rfl hzs hsz b n cap xs hown.1 holds a m c news hs.len hcells hcap (by simp only [maxLen]; omega) hbytes
    obtain ⟨h1, h2⟩ := RowAt.of_owns hown'
    exact ⟨v', w', hrun, h1, ⟨⟨hg.os, hg.tape, hg.output, hg.size, fun k hk _ => hg.block k hk (by simp)⟩, run_drawn _ hrun⟩, .inr h2⟩
   rcases hown.2 with ⟨rfl, rfl⟩ | ⟨b, rfl, rfl⟩ | ⟨g, o, cap, cur, rfl, hh, hnc, hcm, hcs, htake⟩
   ·have hxs : xs = [] := List.eq_nil_of_length_eq_zero (by rw [hown.1]; simp)
    subst hxs
    obtain ⟨v', w', hrun, hown', hg, _⟩ := run_append_own (P := P) w w.heap.size t ty e i z i.size i.bytes ht hi hz rfl rfl hzs hsz _ 0 [] (World.ownsRow_nil w _ e i.size) a m c news hs.len hcells hs.one (by simp only [maxLen]; omega) hbytes (Nat.le_refl _)
    obtain ⟨h1, h2⟩ := RowAt.of_owns hown'
    exact ⟨v', w', hrun, h1, ⟨hg, run_drawn _ hrun⟩, .inr h2⟩
   ·have hxs : xs = [] := List.eq_nil_of_length_eq_zero (by rw [hown.1]; simp)
    exact grows b 0 rfl (by omega) (fun j u hu => by rw [hxs] at hu; simp at hu)
   ·by_cases hroom : n + m ≤ cap + 1
    ·have hcapsz : (n + m) * i.size ≤ (cap + 1) * i.size := Nat.mul_le_mul_right _ hroom
     rw [Nat.add_mul] at hcapsz
     have hxl := hown.1
     have hnl := hs.len
     have hfit : o + n * i.size + news.length ≤ cur.size := by omega
     have hrun := append_room_run (w := w) ty ht hi (c := cap + 1) (c' := c) hh hs.len hcells hs.one hroom hfit
     refine ⟨_, _, hrun, ⟨by rw [List.length_append, hxl, hnl, Nat.add_mul], .inr (.inr ⟨g, o, cap, _, rfl, setRow_heap w _ _ _ _ _ hh, hroom, hcm, ?_, ?_⟩)⟩, grownBy_setRow _ _ _, .inl rfl⟩
     ·simp
      omega
     ·apply List.ext_getElem?
      intro q
      simp only
      rw [List.getElem?_take, List.getElem?_drop, overV_get? (by simpa using hfit), List.getElem?_append, ← htake]
      simp only [List.length_take, List.length_drop, List.getElem?_take, List.getElem?_drop]
      have hmin : min (n * i.size) (cur.toList.length - o) = n * i.size := by simp; omega
      rw [hmin, Nat.add_mul]
      by_cases h1 : q < n * i.size
      ·rw [if_pos (by omega), if_pos (by omega), if_pos h1, if_pos h1]
      ·rw [if_neg h1]
       by_cases h2 : q < n * i.size + m * i.size
       ·rw [if_pos h2, if_neg (by omega), if_pos (by omega)]
        congr 1
        omega
       ·rw [if_neg h2, List.getElem?_eq_none (by omega)]
    ·refine grows _ (cap + 1) rfl (by omega) fun j u hu => ?_
     have hpos : 0 < xs.length := by have := (List.getElem?_eq_some_iff.1 hu).1; omega
     obtain ⟨g2, o2, cap2, cur2, h2, _, _, _, _, _, hcells2⟩ := hown.cells hpos
     simp only [Value.slice.injEq, Option.some.injEq, Addr.mk.injEq] at h2
     obtain ⟨⟨rfl, rfl, _⟩, _⟩ := h2
     rw [Addr.add_lit]
     exact hcells2 _ _ hu
def appendA (gc : Option Prop) (T : List (Nat × TI)) (lk : Nat → Option AO) (nid t : Nat) (s x : AV) (k : Eff → Prop) : Prop :=
 match tget t T with
 | some ti => (match sliceD ti.desc with
  | some e => (match tget e T with
   | some te => (match te.size, te.bytes, Nat.beq te.zero.cells.size te.size with
    | _ + 1, _ + 1, true => (match s with
     | .so id => (match lk id with
      | some (.row e' sz n get) => (match Nat.beq e' e, Nat.beq sz te.size with
       | true, true => srcK lk x te.size fun m get2 => ob gc ((n + m) * te.bytes ≤ 140737488355328) (k (.app id (.row e te.size (n + m) (catG n get get2)) (.so nid)))
       | _, _ => False)
      | _ => False)
     | .sv id sz lo n1 => (match lk id with
      | some (.row e' sz' _n get) => (match Nat.beq e' e, Nat.beq sz' te.size, Nat.beq sz te.size with
       | true, true, true => srcK lk x te.size fun m get2 => ob gc ((n1 + m) * te.bytes ≤ 140737488355328) (k (.app id (.row e te.size (n1 + m) (catG n1 (fun q => get (lo + q)) get2)) (.so nid)))
       | _, _, _ => False)
      | _ => False)
     | .val v => (match nilSlice v with
      | true => srcK lk x te.size fun m get2 => ob gc (m * te.bytes ≤ 140737488355328) (k (.ext [.row e te.size m get2] (.so nid)))
      | false => False)
     | _ => False)
    | _, _, _ => False)
   | none => False)
  | none => False)
 | none => False
theorem sub_row {w : World} {e : TypeId} {sz : Nat} {b : Value} {n : Nat} {xs : List Value} (hx : RowAt w e sz b n xs) {lo n1 : Nat} {u : Value} (hsv : SvOk b sz lo n1 u) :
  ∃ ys, RowAt w e sz u n1 ys ∧ (∀ j, j < ys.length → ys[j]? = xs[lo * sz + j]?) ∧ (0 < n1 → lo + n1 ≤ n) ∧ (blkOf u = blkOf b ∨ blkOf u = none) := by
 rcases hsv with ⟨rfl, hn0, hb⟩ | ⟨ad, rfl, hn0, _⟩ | ⟨g, o, m, c, hb, hlo, hloc, rfl⟩
 ·exact ⟨[], ⟨by simp [hn0], .inl ⟨rfl, hn0⟩⟩, fun j h => by simp at h, fun h => by omega, .inr rfl⟩
 ·exact ⟨[], ⟨by simp [hn0], .inr (.inl ⟨ad, rfl, hn0⟩)⟩, fun j h => by simp at h, fun h => by omega, .inr rfl⟩
 ·rcases hx.2 with ⟨hv2, _⟩ | ⟨ad, hv2, _⟩ | ⟨g', off, cap, cur, hv2, hh, hnc, hcm, hcs, htake⟩
  ·rw [hb] at hv2; cases hv2
  ·rw [hb] at hv2; cases hv2; omega
  ·rw [hb] at hv2
   simp only [Value.slice.injEq, Option.some.injEq, Addr.mk.injEq] at hv2
   obtain ⟨⟨rfl, rfl, _⟩, rfl, rfl⟩ := hv2
   have e1 : (lo + (cap + 1 - lo)) * sz = lo * sz + (cap + 1 - lo) * sz := Nat.add_mul _ _ _
   have e2 : (lo + n1) * sz = lo * sz + n1 * sz := Nat.add_mul _ _ _
   have e3 : lo + (cap + 1 - lo) = cap + 1 := by omega
   rw [e3] at e1
   have e4 : (lo + n1) * sz ≤ m * sz := Nat.mul_le_mul_right _ hloc
   have e5 : m * sz ≤ (cap + 1) * sz := Nat.mul_le_mul_right _ hnc
   have e7 : cap + 1 - lo = (cap - lo) + 1 := by omega
   refine ⟨(cur.toList.drop (o + lo * sz)).take (n1 * sz), ⟨?_, .inr (.inr ⟨g, o + lo * sz, cap - lo, cur, ?_, hh, by omega, by omega, ?_, rfl⟩)⟩, fun j hj => ?_, fun _ => hloc, .inl ?_⟩
   ·simp
    omega
   ·congr 1
   ·rw [← e7]
    omega
   ·simp only [List.length_take, List.length_drop] at hj
    rw [← htake, List.getElem?_take, List.getElem?_take, if_pos (by omega), if_pos (by omega), List.getElem?_drop, List.getElem?_drop]
    congr 1
    omega
   ·rw [hb, e7]
    rfl
theorem append_app (E : Env β nid F w lk) {t e : TypeId} (ty : TypeId) {i : TypeInfo} {z0 : Value} (hut : P.underlying t = some (.slice e)) (hi : P.info? e = some i) (hz : i.zero = some z0) (hzs : z0.cells.size = i.size) (hsz : 0 < i.size) (hb1 : 0 < i.bytes)
  {id n n1 m : Nat} {get get1 get2 : Nat → List AV} {u v : Value} {xs news : List Value} (hlk : lk id = some (.row e i.size n get)) (hx : RowAt w e i.size u n1 xs) (hub : blkOf u = blkOf (β.val id) ∨ blkOf u = none)
  (hlen : ∀ k, k < n1 → (get1 k).length = i.size) (hc : ∀ (k j : Nat) (_ : k < n1) (h1 : j < (get1 k).length) (h2 : k * i.size + j < xs.length), Rep0 F w (get1 k)[j] xs[k * i.size + j] ∧ xs[k * i.size + j].oneCell' = true)
  (hsrc : Src F w v i.size m get2 news) (hbytes : (n1 + m) * i.bytes ≤ 140737488355328) (h : k (.app id (.row e i.size (n1 + m) (catG n1 get1 get2)) (.so nid))) :
  ∃ z w', (Builtin.append_ #[t, t] ty #[u, v]).run P w = .ok z w' ∧ PostK β nid F lk w k z w' := by
 obtain ⟨v', w', hrun, hown', hg, hblk⟩ := append_own (P := P) ty hut hi hz hzs hsz hb1 hx hsrc hbytes
 have hval : (β.valAt nid v').val nid = v' := by simp [Bd.valAt]
 have hFown : ∀ g, blkOf u = some g → F g := fun g hg' => by
  rcases hub with h1 | h1
  ·exact E.own id _ g hlk (by simp only [ownB]; rw [← h1]; exact hg')
  ·rw [h1] at hg'; cases hg'
 have hold : ∀ g, g < w.heap.size → ¬ F g → w'.heap[g]? = w.heap[g]? := fun g hg' hn => hg.block g hg' (fun e => hn (hFown g e.symm))
 have hFX : ∀ g, g < w.heap.size → ¬ F g → ¬ FX F (β.valAt nid v') nid [.row e i.size (n1 + m) (catG n1 get1 get2)] g := by
  rintro g hg' hn (hf | ⟨j, o, hj, ho⟩)
  ·exact hn hf
  ·cases j with
   | succ j => simp at hj
   | zero =>
    simp at hj
    subst hj
    simp [ownB, hval] at ho
    rcases hblk with hb' | hb'
    ·exact hn (hFown g (by rw [← hb']; exact ho))
    ·have := hb' g ho; omega
 have hgrow : GrownBy w w' (wrB β id (.row e i.size n get)) := by
  rcases hub with h1 | h1
  ·simp only [wrB]
   rw [← h1]
   exact hg
  ·exact ⟨⟨hg.os, hg.tape, hg.output, hg.size, fun g hg' hn => hg.block g hg' (by rw [h1]; exact fun h => by cases h)⟩, hg.drawn⟩
 refine ⟨v', w', hrun, _, β.valAt nid v', h, agree_valAt _ _ _, _, hlk, hgrow, ?_, ⟨xs ++ news, by rw [hval]; exact hown', ?_, ?_⟩, ?_⟩
 ·simp only [ownB, hval]
  rcases hub with h1 | h1
  ·rw [← h1]
   exact hblk.imp (fun h => by rw [h]) fun h => h
  ·right
   intro g hg'
   rcases hblk with h2 | h2
   ·rw [h2, h1] at hg'; cases hg'
   ·exact h2 g hg'
 ·intro q hq
  simp only [catG]
  split
  ·exact hlen q (by assumption)
  ·exact hsrc.glen (q - n1) (by omega)
 ·intro q j hq h1' h2'
  have hxl := hx.1
  by_cases hqn : q < n1
  ·have e1 : catG n1 get1 get2 q = get1 q := by simp [catG, hqn]
   simp only [e1] at h1' ⊢
   have hj : j < i.size := by rw [← hlen q hqn]; exact h1'
   have : q * i.size + i.size ≤ n1 * i.size := by rw [← Nat.succ_mul]; exact Nat.mul_le_mul_right _ hqn
   have hlt : q * i.size + j < xs.length := by omega
   rw [List.getElem_append_left hlt]
   exact ⟨((hc q j hqn h1' hlt).1.stable hFX hold hg.size), (hc q j hqn h1' hlt).2⟩
  ·have e1 : catG n1 get1 get2 q = get2 (q - n1) := by simp [catG, hqn]
   simp only [e1] at h1' ⊢
   have hqm : q - n1 < m := by omega
   have hj : j < i.size := by rw [← hsrc.glen _ hqm]; exact h1'
   have e2 : (q - n1) * i.size = q * i.size - n1 * i.size := Nat.sub_mul _ _ _
   have e3 : n1 * i.size ≤ q * i.size := Nat.mul_le_mul_right _ (by omega)
   have hlt : (q - n1) * i.size + j < news.length := by
    rw [hsrc.len]
    have : (q - n1) * i.size + i.size ≤ m * i.size := by rw [← Nat.succ_mul]; exact Nat.mul_le_mul_right _ hqm
    omega
   rw [List.getElem_append_right (by omega)]
   have e4 : q * i.size + j - xs.length = (q - n1) * i.size + j := by omega
   simp only [e4]
   exact ⟨(hsrc.rep _ j hqm h1' hlt).stable hFX hold hg.size, hsrc.one _ (List.getElem_mem _)⟩
 ·have hp := Rep.so (β := β.valAt nid v') (n := nid + 1) (F := FX F (β.valAt nid v') nid [.row e i.size (n1 + m) (catG n1 get1 get2)]) (w := w') nid (by omega) (by rw [hval]; exact hown'.one)
  rw [hval] at hp
  exact hp
theorem append_sub (E : Env β nid F w lk) {t e : TypeId} (ty : TypeId) {i : TypeInfo} {z0 : Value} (hut : P.underlying t = some (.slice e)) (hi : P.info? e = some i) (hz : i.zero = some z0) (hzs : z0.cells.size = i.size) (hsz : 0 < i.size) (hb1 : 0 < i.bytes)
  {id lo n n1 m : Nat} {get get2 : Nat → List AV} {u v : Value} {news : List Value} (hlk : lk id = some (.row e i.size n get)) (hsv : SvOk (β.val id) i.size lo n1 u)
  (hsrc : Src F w v i.size m get2 news) (hbytes : (n1 + m) * i.bytes ≤ 140737488355328) (h : k (.app id (.row e i.size (n1 + m) (catG n1 (fun q => get (lo + q)) get2)) (.so nid))) :
  ∃ z w', (Builtin.append_ #[t, t] ty #[u, v]).run P w = .ok z w' ∧ PostK β nid F lk w k z w' := by
 obtain ⟨_, xs, hx, hlen, hc⟩ := E.obj id _ hlk
 obtain ⟨ys, hy, hyx, hln, hub⟩ := sub_row hx hsv
 refine append_app E ty hut hi hz hzs hsz hb1 hlk hy hub (fun q hq => hlen _ (by have := hln (by omega); omega)) (fun q j hq h1 h2 => ?_) hsrc hbytes h
 have hkn := hln (by omega)
 have h3 := hyx _ h2
 have hl := hlen (lo + q) (by omega)
 have h1' : j < (get (lo + q)).length := h1
 have h4 : (lo + q) * i.size + j < xs.length := by
  rw [hx.1]
  calc (lo + q) * i.size + j < (lo + q) * i.size + i.size := by omega
   _ = (lo + q + 1) * i.size := by rw [Nat.add_mul (lo + q) 1]; omega
   _ ≤ n * i.size := Nat.mul_le_mul_right _ (by omega)
 have e1 : lo * i.size + (q * i.size + j) = (lo + q) * i.size + j := by rw [Nat.add_mul]; omega
 rw [e1, List.getElem?_eq_getElem h2, List.getElem?_eq_getElem h4] at h3
 have h3 := Option.some.inj h3
 have := hc (lo + q) j (by omega) h1' h4
 rw [h3]
 exact this
theorem appendA_sound {gc : Option Prop} (hgc : ∀ c, gc = some c → c) (E : Env β nid F w lk) {T : List (Nat × TI)} (hT : TabOk P T) {t : Nat} {s x : AV} {u v : Value} (ty : TypeId) (hu : Rep β nid F w s u) (hv : Rep β nid F w x v)
  (h : appendA gc T lk nid t s x k) : ∃ z w', (Builtin.append_ #[t, t] ty #[u, v]).run P w = .ok z w' ∧ PostK β nid F lk w k z w' := by
 unfold appendA at h
 split at h
 ·rename_i ti h1
  split at h
  ·rename_i e h2
   split at h
   ·rename_i te h3
    split at h
    ·rename_i sz1 by1 hsz1 hby1 hzs
     have hzs : te.zero.cells.size = te.size := by simpa using hzs
     obtain ⟨hut, _⟩ := hT.get h1
     obtain ⟨_, _, i, hi, hs, hb, hz⟩ := hT.get h3
     cases hd : ti.desc <;> simp [sliceD, hd] at h2
     rename_i el
     subst h2
     rw [hd] at hut
     split at h
     ·rename_i id
      split at h
      ·rename_i e' sz n get hlk
       split at h
       ·rename_i he hsz
        have he : e' = el := by simpa using he
        have hsz : sz = te.size := by simpa using hsz
        subst he
        subst hsz
        obtain ⟨m, get2, news, h, hsrc⟩ := srcK_sound E (by omega) hv h
        obtain ⟨hbytes, h⟩ := ob_iff h hgc
        obtain ⟨hid, rfl⟩ := hu.so_inv
        obtain ⟨_, xs, hx, hlen, hc⟩ := E.obj id _ hlk
        rw [← hs] at hx hsrc
        obtain ⟨v', w', hrun, hown', hg, hblk⟩ := append_own (P := P) ty hut hi hz (by rw [hzs, hs]) (by omega) (by omega) hx hsrc (by rw [hb]; exact hbytes)
        have hval : (β.valAt nid v').val nid = v' := by simp [Bd.valAt]
        have hFown : ∀ g, blkOf (β.val id) = some g → F g := fun g hg' => E.own id _ g hlk hg'
        have hold : ∀ g, g < w.heap.size → ¬ F g → w'.heap[g]? = w.heap[g]? := fun g hg' hn => hg.block g hg' (fun e => hn (hFown g e.symm))
        have hFX : ∀ g, g < w.heap.size → ¬ F g → ¬ FX F (β.valAt nid v') nid [.row e' te.size (n + m) (catG n get get2)] g := by
         rintro g hg' hn (hf | ⟨j, o, hj, ho⟩)
         ·exact hn hf
         ·cases j with
          | succ j => simp at hj
          | zero =>
           simp at hj
           subst hj
           simp [ownB, hval] at ho
           rcases hblk with hb' | hb'
           ·exact hn (hFown g (by rw [← hb']; exact ho))
           ·have := hb' g ho; omega
        refine ⟨v', w', hrun, _, β.valAt nid v', h, agree_valAt _ _ _, _, hlk, hg, ?_, ⟨xs ++ news, by rw [hval, ← hs]; exact hown', ?_, ?_⟩, ?_⟩
        ·simp only [ownB, hval]
         exact hblk.imp (fun h => by rw [h]) fun h => h
        ·intro q hq
         simp only [catG]
         split
         ·exact hlen q (by assumption)
         ·rw [hsrc.glen (q - n) (by omega), hs]
        ·intro q j hq h1' h2'
         have hxl := hx.1
         rw [hs] at hxl
         by_cases hqn : q < n
         ·have e1 : catG n get get2 q = get q := by simp [catG, hqn]
          simp only [e1] at h1' ⊢
          have hj : j < te.size := by rw [← hlen q hqn]; exact h1'
          have : q * te.size + te.size ≤ n * te.size := by rw [← Nat.succ_mul]; exact Nat.mul_le_mul_right _ hqn
          have hlt : q * te.size + j < xs.length := by omega
          rw [List.getElem_append_left hlt]
          exact ⟨((hc q j hqn h1' hlt).1.stable hFX hold hg.size), (hc q j hqn h1' hlt).2⟩
         ·have e1 : catG n get get2 q = get2 (q - n) := by simp [catG, hqn]
          simp only [e1] at h1' ⊢
          have hqm : q - n < m := by omega
          have hj : j < i.size := by rw [← hsrc.glen _ hqm]; exact h1'
          have e2 : (q - n) * te.size = q * te.size - n * te.size := Nat.sub_mul _ _ _
          have e3 : n * te.size ≤ q * te.size := Nat.mul_le_mul_right _ (by omega)
          have hlt : (q - n) * i.size + j < news.length := by
           rw [hsrc.len]
           have : (q - n) * i.size + i.size ≤ m * i.size := by rw [← Nat.succ_mul]; exact Nat.mul_le_mul_right _ hqm
           omega
          rw [List.getElem_append_right (by omega)]
          have e4 : q * te.size + j - xs.length = (q - n) * i.size + j := by rw [hs]; omega
          simp only [e4]
          exact ⟨(hsrc.rep _ j hqm h1' hlt).stable hFX hold hg.size, hsrc.one _ (List.getElem_mem _)⟩
        ·have hp := Rep.so (β := β.valAt nid v') (n := nid + 1) (F := FX F (β.valAt nid v') nid [.row e' te.size (n + m) (catG n get get2)]) (w := w') nid (by omega)
          (by rw [hval]; exact hown'.one)
         rw [hval] at hp
         exact hp
       ·exact h.elim
      ·exact h.elim
     ·rename_i id sz lo n1
      split at h
      ·rename_i e' sz' n get hlk
       split at h
       ·rename_i he hsz' hsz
        have he : e' = el := by simpa using he
        have hsz' : sz' = te.size := by simpa using hsz'
        have hsz : sz = te.size := by simpa using hsz
        subst he
        subst hsz'
        subst hsz
        obtain ⟨m, get2, news, h, hsrc⟩ := srcK_sound E (by omega) hv h
        obtain ⟨hbytes, h⟩ := ob_iff h hgc
        obtain ⟨hid, hsv⟩ := hu.sv_inv
        exact append_sub E ty hut hi hz (by rw [hzs, hs]) (by omega) (by omega) (by rw [hs]; exact hlk) (by rw [hs]; exact hsv) (by rw [hs]; exact hsrc) (by rw [hb]; exact hbytes) (by rw [hs]; exact h)
       ·exact h.elim
      ·exact h.elim
     ·rename_i v0
      split at h
      ·rename_i hn
       obtain ⟨m, get2, news, h, hsrc⟩ := srcK_sound E (by omega) hv h
       obtain ⟨hbytes, h⟩ := ob_iff h hgc
       obtain rfl := hu.val_inv
       obtain rfl := nilSlice_iff hn
       have hx := (RowAt.of_owns (World.ownsRow_nil w w.heap.size el i.size)).1
       rw [← hs] at hsrc
       obtain ⟨v', w', hrun, hown', hg, hblk⟩ := append_own (P := P) ty hut hi hz (by rw [hzs, hs]) (by omega) (by omega) hx hsrc (by rw [hb, Nat.zero_add]; exact hbytes)
       simp only [Nat.zero_add, List.nil_append] at hown'
       refine ⟨v', w', hrun, _, _, h, .row el te.size m get2 v' news ⟨⟨hg.os, hg.tape, hg.output, hg.size, fun g hg' => hg.block g hg' (by simp [blkOf])⟩, hg.drawn⟩ (by rw [← hs]; exact hown') (fun g hg' => by rcases hblk with h | h; rw [h] at hg'; cases hg'; exact h g hg') ?_ ?_⟩
       ·intro q hq
        rw [← hs]
        exact hsrc.glen q hq
       ·intro q j hq h1' h2'
        simp only [← hs] at h2' ⊢
        exact ⟨hsrc.rep q j hq h1' h2', hsrc.one _ (List.getElem_mem _)⟩
      ·exact h.elim
     ·exact h.elim
    ·exact h.elim
   ·exact h.elim
  ·exact h.elim
 ·exact h.elim
def sameSv (s x : AV) : Bool :=
 match s, x with
 | .sv id _ _ _, .sv id2 _ _ _ => Nat.beq id id2
 | _, _ => false
def overG (A m lo2 : Nat) (get : Nat → List AV) : Nat → List AV := fun q => if A ≤ q ∧ q < A + m then get (lo2 + (q - A)) else get q
def appendInA (gc : Option Prop) (T : List (Nat × TI)) (lk : Nat → Option AO) (nid t : Nat) (s x : AV) (k : Eff → Prop) : Prop :=
 match tget t T with
 | some ti => (match sliceD ti.desc with
  | some e => (match tget e T with
   | some te => (match te.size, s, x with
    | _ + 1, .sv id sz lo n1, .sv id2 sz2 lo2 m => (match lk id with
     | some (.row e' sz' n get) => (match Nat.beq e' e, Nat.beq sz' te.size, Nat.beq sz te.size, Nat.beq sz2 te.size, Nat.beq id id2 with
      | true, true, true, true, true => ob gc (lo + n1 + m ≤ n) (k (.app id (.row e te.size n (overG (lo + n1) m lo2 get)) (.sv nid te.size lo (n1 + m))))
      | _, _, _, _, _ => False)
     | _ => False)
    | _, _, _ => False)
   | none => False)
  | none => False)
 | none => False
theorem row_len {w : World} {e : TypeId} {sz : Nat} {a : Option Addr} {m c N : Nat} {xs : List Value} (hx : RowAt w e sz (.slice a m c) N xs) : N = m ∧ m ≤ c := by
 rcases hx.2 with ⟨h1, h2⟩ | ⟨_, h1, h2⟩ | ⟨g, o, cap, cur, h1, _, hnc, _⟩
 ·simp only [Value.slice.injEq] at h1
  omega
 ·simp only [Value.slice.injEq] at h1
  omega
 ·simp only [Value.slice.injEq] at h1
  omega
theorem app_in (E : Env β nid F w lk) {id e sz n lo n1 : Nat} {get g2 : Nat → List AV} (hlk : lk id = some (.row e sz n get)) {w' : World} {ys : List Value} {z : Value} (hrow : RowAt w' e sz (β.val id) n ys) (hgrow : GrownBy w w' (blkOf (β.val id)))
  (hlen : ∀ q, q < n → (g2 q).length = sz) (hc : ∀ (q j : Nat) (_ : q < n) (h1 : j < (g2 q).length) (h2 : q * sz + j < ys.length), Rep0 F w (g2 q)[j] ys[q * sz + j] ∧ ys[q * sz + j].oneCell' = true)
  (hsv : SvOk (β.val id) sz lo n1 z) (h : k (.app id (.row e sz n g2) (.sv nid sz lo n1))) : PostK β nid F lk w k z w' := by
 have hval : (β.valAt nid (β.val id)).val nid = β.val id := by simp [Bd.valAt]
 have hFown : ∀ g, blkOf (β.val id) = some g → F g := fun g hg' => E.own id _ g hlk hg'
 have hold : ∀ g, g < w.heap.size → ¬ F g → w'.heap[g]? = w.heap[g]? := fun g hg' hn => hgrow.block g hg' (fun e => hn (hFown g e.symm))
 have hFX : ∀ g, g < w.heap.size → ¬ F g → ¬ FX F (β.valAt nid (β.val id)) nid [.row e sz n g2] g := by
  rintro g hg' hn (hf | ⟨j, o, hj, ho⟩)
  ·exact hn hf
  ·cases j with
   | succ j => simp at hj
   | zero =>
    simp at hj
    subst hj
    simp [ownB, hval] at ho
    exact hn (hFown g ho)
 refine ⟨_, β.valAt nid (β.val id), h, agree_valAt _ _ _, _, hlk, hgrow, .inl ?_, ⟨ys, by rw [hval]; exact hrow, hlen, ?_⟩, .sv _ _ _ _ _ (by omega) (by rw [hval]; exact hsv)⟩
 ·simp only [ownB, hval]
 ·intro q j hq h1 h2
  exact ⟨(hc q j hq h1 h2).1.stable hFX hold hgrow.size, (hc q j hq h1 h2).2⟩
theorem sv_cap {e sz lo n n1 : Nat} {b u : Value} {xs : List Value} (hx : RowAt w e sz b n xs) (hsv : SvOk b sz lo n1 u) : ∃ a c, u = .slice a n1 c ∧ n1 ≤ c := by
 rcases hsv with ⟨rfl, hn0, hb⟩ | ⟨a0, rfl, hn0, a', m', c, hb, hc⟩ | ⟨g, o, m', c, hb, hlo', hlm, rfl⟩
 ·subst hn0; exact ⟨_, _, rfl, Nat.le_refl _⟩
 ·subst hn0; exact ⟨_, _, rfl, Nat.le_refl _⟩
 ·rw [hb] at hx
  have := row_len hx
  exact ⟨_, _, rfl, by omega⟩
theorem appendInA_sound {gc : Option Prop} (hgc : ∀ c, gc = some c → c) (E : Env β nid F w lk) {T : List (Nat × TI)} (hT : TabOk P T) {t : Nat} {s x : AV} {u v : Value} (ty : TypeId) (hu : Rep β nid F w s u) (hv : Rep β nid F w x v)
  (h : appendInA gc T lk nid t s x k) : ∃ z w', (Builtin.append_ #[t, t] ty #[u, v]).run P w = .ok z w' ∧ PostK β nid F lk w k z w' := by
 unfold appendInA at h
 split at h
 ·rename_i ti h1
  split at h
  ·rename_i e h2
   split at h
   ·rename_i te h3
    obtain ⟨hut, _⟩ := hT.get h1
    obtain ⟨_, _, i, hi, hs, hb, hz⟩ := hT.get h3
    cases hd : ti.desc <;> simp [sliceD, hd] at h2
    rename_i el
    subst h2
    rw [hd] at hut
    split at h
    ·rename_i sz1 id sz lo n1 id2 sz2 lo2 m hsz1
     split at h
     ·rename_i e' sz' n get hlk
      split at h
      ·rename_i he hsz' hsz hsz2 hid2
       have he : e' = el := by simpa using he
       have hsz' : sz' = te.size := by simpa using hsz'
       have hsz : sz = te.size := by simpa using hsz
       have hsz2 : sz2 = te.size := by simpa using hsz2
       have hid2 : id = id2 := by simpa using hid2
       subst he
       subst hsz'
       subst hsz
       subst hid2
       obtain ⟨hfit, h⟩ := ob_iff h hgc
       obtain ⟨hid, hsv⟩ := hu.sv_inv
       obtain ⟨m', get2, news, ⟨rfl, rfl⟩, hsrc⟩ := srcK_sound (sz := te.size) (q := fun n' g' => n' = m ∧ g' = fun q => get (lo2 + q)) E (by omega) hv (by
        unfold srcK
        simp only [hlk, hsz2, Nat.beq_refl]
        exact ⟨trivial, trivial⟩)
       obtain ⟨_, xs, hx, hlen, hc⟩ := E.obj id _ hlk
       obtain ⟨ua, uc, hu', huc⟩ := sv_cap hx hsv
       by_cases hm0 : m' = 0
       ·subst hm0
        have hG : overG (lo + n1) 0 lo2 get = get := by
         funext q
         unfold overG
         rw [if_neg (by omega)]
        rw [hG] at h
        have hrun : (Builtin.append_ #[t, t] ty #[u, v]).run P w = .ok u w := by
         rw [hu']
         rcases hsrc.val with ⟨rfl, _⟩ | ⟨a, c, rfl, _, _⟩
         ·exact append_none_run ty hut hi ua n1 uc huc
         ·exact append_zero_run ty hut hi ua n1 uc huc a c
        exact ⟨u, w, hrun, app_in E hlk hx ⟨⟨rfl, rfl, rfl, Nat.le_refl _, fun _ _ _ => rfl⟩, Nat.le_refl _⟩ hlen hc hsv h⟩
       ·rcases hsrc.val with ⟨_, h0⟩ | ⟨a, c', rfl, _, hcells⟩
        ·exact absurd h0 hm0
        rcases hsv with ⟨_, _, hb0⟩ | ⟨_, _, _, a', m1, c, hb0, hcl⟩ | ⟨g, o, m1, c, hb0, hlo, hlm, rfl⟩
        ·rw [hb0] at hx
         have := row_len hx
         omega
        ·rw [hb0] at hx
         have := row_len hx
         omega
        rcases hx.2 with ⟨h1, _⟩ | ⟨_, h1, _⟩ | ⟨g', o', cap, cur, hval, hh, hnc, hcm, hcs, htake⟩
        ·rw [hb0] at h1; cases h1
        ·rw [hb0] at h1
         simp only [Value.slice.injEq] at h1
         omega
        have hval0 := hval
        rw [hb0] at hval
        simp only [Value.slice.injEq, Option.some.injEq, Addr.mk.injEq] at hval
        obtain ⟨⟨rfl, rfl, _⟩, rfl, rfl⟩ := hval
        have hxl := hx.1
        have hnl := hsrc.len
        have hmul : (lo + n1 + m') * te.size ≤ m1 * te.size := Nat.mul_le_mul_right _ hfit
        have hcapsz : m1 * te.size ≤ (cap + 1) * te.size := Nat.mul_le_mul_right _ hnc
        rw [Nat.add_mul, Nat.add_mul] at hmul
        have hrun := append_room_run (P := P) (w := w) ty hut hi (g := g) (off := o + lo * te.size) (n := n1) (c := cap + 1 - lo) (m := m') (c' := c') (a := a) (news := news) hh (by rw [hs]; exact hnl) hcells hsrc.one (by omega) (by rw [hs]; omega)
        rw [hs] at hrun
        have eA : o + lo * te.size + n1 * te.size = o + (lo * te.size + n1 * te.size) := by omega
        rw [eA] at hrun
        have hov := RowAt.over (w := w) hh hnc hcm hcs htake hxl (lo * te.size + n1 * te.size) news (by omega)
        have hrow := hov
        rw [← hval0] at hrow
        have hbk : blkOf (β.val id) = some g := by rw [hval0]; rfl
        refine ⟨_, _, hrun, app_in E hlk hrow (by rw [hbk]; exact grownBy_setRow _ _ _) ?_ ?_ (.inr (.inr ⟨g, o, m1, cap + 1, hval0, hlo, by omega, rfl⟩)) h⟩
        ·intro q hq
         unfold overG
         split
         ·rename_i hin
          exact hsrc.glen (q - (lo + n1)) (by omega)
         ·exact hlen q hq
        ·intro q j hq h1 h2
         have hqsz : q * te.size + te.size ≤ m1 * te.size := by rw [← Nat.succ_mul]; exact Nat.mul_le_mul_right _ hq
         rw [overV_get (by omega) _ h2]
         have eL : lo * te.size + n1 * te.size = (lo + n1) * te.size := (Nat.add_mul _ _ _).symm
         by_cases hin : lo + n1 ≤ q ∧ q < lo + n1 + m'
         ·have e1 : overG (lo + n1) m' lo2 get q = get (lo2 + (q - (lo + n1))) := by unfold overG; rw [if_pos hin]
          simp only [e1] at h1 ⊢
          have hgl := hsrc.glen (q - (lo + n1)) (by omega)
          have hj : j < te.size := by rw [← hgl]; exact h1
          have e2 : (q - (lo + n1)) * te.size = q * te.size - (lo + n1) * te.size := Nat.sub_mul _ _ _
          have e3 : (lo + n1) * te.size ≤ q * te.size := Nat.mul_le_mul_right _ hin.1
          have e4 : (q - (lo + n1)) * te.size + te.size ≤ m' * te.size := by rw [← Nat.succ_mul]; exact Nat.mul_le_mul_right _ (by omega)
          rw [dif_pos (by omega)]
          have e6 : q * te.size + j - (lo * te.size + n1 * te.size) = (q - (lo + n1)) * te.size + j := by omega
          simp only [e6]
          exact ⟨hsrc.rep (q - (lo + n1)) j (by omega) h1 (by omega), hsrc.one _ (List.getElem_mem _)⟩
         ·have e1 : overG (lo + n1) m' lo2 get q = get q := by unfold overG; rw [if_neg hin]
          simp only [e1] at h1 ⊢
          have hj : j < te.size := by rw [hlen q hq] at h1; exact h1
          have hne : ¬ (lo * te.size + n1 * te.size ≤ q * te.size + j ∧ q * te.size + j < lo * te.size + n1 * te.size + news.length) := by
           rintro ⟨h3, h4⟩
           apply hin
           rw [eL] at h3 h4
           have e6 : (lo + n1) * te.size < (q + 1) * te.size := by rw [Nat.succ_mul]; omega
           have e7 : q * te.size < (lo + n1 + m') * te.size := by rw [Nat.add_mul (lo + n1)]; omega
           have := Nat.lt_of_mul_lt_mul_right e6
           have := Nat.lt_of_mul_lt_mul_right e7
           omega
          rw [dif_neg hne]
          exact hc q j hq h1 (by omega)
      ·exact h.elim
     ·exact h.elim
    ·exact h.elim
   ·exact h.elim
  ·exact h.elim
 ·exact h.elim
end
end Go.Eng
end
