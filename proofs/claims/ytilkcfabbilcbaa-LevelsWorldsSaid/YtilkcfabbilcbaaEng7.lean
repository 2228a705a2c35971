/-
  The engine, seventh part: append, parts of slices, calls.
-/
import Derived.Test.YtilkcfabbilcbaaEng6
namespace Go.Eng
open Go.RowKit
section
variable {P : Program} {β : Bd} {nid : Nat} {F : Nat → Prop} {w : World} {lk : Nat → Option AO} {base : Nat} {k : Eff → Prop}

/-! ### append -/
def catG (n : Nat) (g h : Nat → List AV) : Nat → List AV := fun q => if q < n then g q else h (q - n)

def srcK (lk : Nat → Option AO) (x : AV) (sz : Nat) (k : Nat → (Nat → List AV) → Prop) : Prop :=
  match x with
  | .rs sz' n get => (match Nat.beq sz' sz with
    | true => k n get
    | false => False)
  | .so id => (match lk id with
    | some (.row _ sz' n get) => (match Nat.beq sz' sz with
      | true => k n get
      | false => False)
    | _ => False)
  | .val v => (match nilSlice v with
    | true => k 0 (fun _ => [])
    | false => False)
  | _ => False

structure Src (F : Nat → Prop) (w : World) (v : Value) (sz n : Nat) (get : Nat → List AV) (news : List Value) : Prop where
  len : news.length = n * sz
  one : ∀ u ∈ news, u.oneCell' = true
  glen : ∀ k, k < n → (get k).length = sz
  rep : ∀ (k j : Nat) (_ : k < n) (h1 : j < (get k).length) (h2 : k * sz + j < news.length), Rep0 F w (get k)[j] news[k * sz + j]
  val : (v = .slice none 0 0 ∧ n = 0) ∨ ∃ g o c, v = .slice (some ⟨g, o, none⟩) n c ∧ n ≤ maxLen ∧ ∀ j u, news[j]? = some u → w.cell? ((⟨g, o, none⟩ : Addr).add j) = some u

theorem srcK_sound (E : Env β nid F w lk base) {x : AV} {v : Value} {sz : Nat} {q : Nat → (Nat → List AV) → Prop} (hsz : 0 < sz) (hv : Rep β nid F w x v) (h : srcK lk x sz q) :
    ∃ n get news, q n get ∧ Src F w v sz n get news := by
  unfold srcK at h
  split at h
  · rename_i sz' n get
    split at h
    · rename_i hs
      have hs : sz' = sz := by simpa using hs
      subst hs
      have hv0 := hv.rs_inv
      cases hv0 with
      | rsnil => exact ⟨0, get, [], h, by simp, by simp, fun k hk => by omega, fun k j hk => by omega, .inl ⟨rfl, rfl⟩⟩
      | rs _ _ _ g o c vs hn hm hF hg hlen hc h1 hr =>
        have key : ∀ j, j < n * sz' → j / sz' < n ∧ j % sz' < sz' ∧ j / sz' * sz' + j % sz' = j := fun j hj =>
          ⟨Nat.div_lt_of_lt_mul (by rwa [Nat.mul_comm]), Nat.mod_lt _ hsz, by rw [Nat.mul_comm]; exact Nat.div_add_mod _ _⟩
        refine ⟨n, get, (List.range (n * sz')).map fun j => vs (j / sz') (j % sz'), h, by simp, ?_, hlen, ?_, .inr ⟨g, o, c, rfl, Nat.le_trans hn hm, ?_⟩⟩
        · intro u hu
          obtain ⟨j, hj, rfl⟩ := List.mem_map.1 hu
          have := key j (by simpa using hj)
          exact h1 _ _ this.1 this.2.1
        · intro k j hk h1' h2'
          have hj : j < sz' := by rw [← hlen k hk]; exact h1'
          have e1 : (k * sz' + j) / sz' = k := by
            rw [Nat.mul_comm, Nat.mul_add_div hsz, Nat.div_eq_of_lt hj, Nat.add_zero]
          have e2 : (k * sz' + j) % sz' = j := by
            rw [Nat.mul_comm, Nat.mul_add_mod]
            exact Nat.mod_eq_of_lt hj
          simp only [List.getElem_map, List.getElem_range, e1, e2]
          exact hr k j hk h1'
        · intro j u hu
          obtain ⟨hj, hu⟩ := List.getElem?_eq_some_iff.1 hu
          simp at hj
          obtain ⟨k1, k2, k3⟩ := key j hj
          simp only [List.getElem_map, List.getElem_range] at hu
          rw [Addr.add_lit, ← hu, ← hc _ _ k1 k2, Nat.add_assoc, k3]
    · exact h.elim
  · rename_i id
    split at h
    · rename_i e sz' n get hlk
      split at h
      · rename_i hs
        have hs : sz' = sz := by simpa using hs
        subst hs
        obtain ⟨hid, rfl⟩ := hv.so_inv
        obtain ⟨_, xs, hx, hlen, hc⟩ := E.obj id _ hlk
        refine ⟨n, get, xs, h, hx.1, ?_, hlen, fun k j hk h1 h2 => (hc k j hk h1 h2).1, ?_⟩
        · intro u hu
          obtain ⟨j, hj, rfl⟩ := List.getElem_of_mem hu
          have hj' : j < n * sz' := by rw [← hx.1]; exact hj
          have k1 : j / sz' < n := Nat.div_lt_of_lt_mul (by rwa [Nat.mul_comm])
          have k2 : j % sz' < sz' := Nat.mod_lt _ hsz
          have k3 : j / sz' * sz' + j % sz' = j := by rw [Nat.mul_comm]; exact Nat.div_add_mod _ _
          have := (hc (j / sz') (j % sz') k1 (by rw [hlen _ k1]; exact k2) (by rw [k3]; exact hj)).2
          simpa only [k3] using this
        · rcases hx.2 with hnil | ⟨g, cap, cur, hv', _, _, hnc, hcm, _⟩
          · exact .inl hnil
          · exact .inr ⟨g, 0, cap, hv', Nat.le_trans hnc hcm, fun j u hu => hx.cells (g := g) (by rw [hv']; rfl) j u hu⟩
      · exact h.elim
    · exact h.elim
  · rename_i v'
    obtain rfl := hv.val_inv
    split at h
    · rename_i hn
      exact ⟨0, _, [], h, by simp, by simp, fun k hk => by omega, fun k j hk => by omega, .inl ⟨nilSlice_iff hn, rfl⟩⟩
    · exact h.elim
  · exact h.elim

theorem append_own {t e : TypeId} (ty : TypeId) {i : TypeInfo} {z : Value} (ht : P.underlying t = some (.slice e)) (hi : P.info? e = some i) (hz : i.zero = some z) (hzs : z.cells.size = i.size) (hsz : 0 < i.size) (hb1 : 0 < i.bytes)
    {v : Value} {n : Nat} {xs : List Value} (hown : w.ownsRow base e i.size v n xs) {x : Value} {m : Nat} {get : Nat → List AV} {news : List Value} (hs : Src F w x i.size m get news)
    (hbytes : (n + m) * i.bytes ≤ 140737488355328) (hbase : base ≤ w.heap.size) :
    ∃ v' w', (Builtin.append_ #[t, t] ty #[v, x]).run P w = .ok v' w' ∧ w'.ownsRow base e i.size v' (n + m) (xs ++ news) ∧ w.grownBy w' v.ownBlock ∧
      (v'.ownBlock = v.ownBlock ∨ ∀ g, v'.ownBlock = some g → w.heap.size ≤ g) := by
  have hle : n + m ≤ (n + m) * i.bytes := Nat.le_mul_of_pos_right _ hb1
  rcases hs.val with ⟨rfl, rfl⟩ | ⟨g, o, c, rfl, _, hcells⟩
  · have hn0 : news = [] := List.eq_nil_of_length_eq_zero (by rw [hs.len]; simp)
    subst hn0
    refine ⟨v, w, run_append_owned_none (P := P) w base t ty e i i.size ht hi v n xs hown, by simpa using hown, ⟨rfl, rfl, rfl, Nat.le_refl _, fun _ _ _ => rfl⟩, .inl rfl⟩
  · obtain ⟨v', w', hrun, hown', hg, hnil⟩ := run_append_own (P := P) w base t ty e i z i.size i.bytes ht hi hz rfl rfl hzs hsz v n xs hown ⟨g, o, none⟩ m c news hs.len hcells hs.one (by simp only [maxLen]; omega) hbytes hbase
    refine ⟨v', w', hrun, hown', hg, ?_⟩
    rcases hown.2 with ⟨rfl, rfl⟩ | ⟨g', cap, cur, rfl, hbg, hgg, hnc, hcm, hcs, htake⟩
    · by_cases hm : m = 0
      · rw [hnil.2 ⟨rfl, hm⟩]
        exact .inl rfl
      · have hr := run_append_nil (P := P) w t ty e i z ht hi hz ⟨g, o, none⟩ m c news hs.len hcells (by omega) (by omega) (by simp only [Nat.zero_add] at hbytes; omega)
        have he := hrun.symm.trans hr
        simp only [Result.ok.injEq] at he
        rw [he.1]
        refine .inr fun g2 h2 => ?_
        simp [Value.ownBlock] at h2
        omega
    · by_cases hroom : n + m ≤ cap
      · obtain ⟨w2, hr, _⟩ := run_append_fits (P := P) w base t ty e i i.size ht hi rfl g' n cap xs hown ⟨g, o, none⟩ m c news hs.len hcells hs.one hroom
        have he := hrun.symm.trans hr
        simp only [Result.ok.injEq] at he
        rw [he.1]
        exact .inl rfl
      · have holds : ∀ j u, xs[j]? = some u → w.cell? ((⟨g', 0, none⟩ : Addr).add j) = some u := hown.cells (g := g') rfl
        have hr := run_append_grow (P := P) w t ty e i z ht hi hz ⟨g', 0, none⟩ n cap xs hown.1 holds ⟨g, o, none⟩ m c news hs.len hcells (by omega) (by omega) (growslice_fits (by omega) hbytes)
        have he := hrun.symm.trans hr
        simp only [Result.ok.injEq] at he
        rw [he.1]
        refine .inr fun g2 h2 => ?_
        simp [Value.ownBlock] at h2
        omega

def appendA (gc : Option Prop) (T : List (Nat × TI)) (lk : Nat → Option AO) (nid t : Nat) (s x : AV) (k : Eff → Prop) : Prop :=
  match tget t T with
  | some ti => (match sliceD ti.desc with
    | some e => (match tget e T with
      | some te => (match te.size, te.bytes, Nat.beq te.zero.cells.size te.size with
        | _ + 1, _ + 1, true => (match s with
          | .so id => (match lk id with
            | some (.row e' sz n get) => (match Nat.beq e' e, Nat.beq sz te.size with
              | true, true => srcK lk x te.size fun m get2 => ob gc ((n + m) * te.bytes ≤ 140737488355328) (k (.app id (.row e te.size (n + m) (catG n get get2)) (.so nid)))
              | _, _ => False)
            | _ => False)
          | .val v => (match nilSlice v with
            | true => srcK lk x te.size fun m get2 => ob gc (m * te.bytes ≤ 140737488355328) (k (.ext [.row e te.size m get2] (.so nid)))
            | false => False)
          | _ => False)
        | _, _, _ => False)
      | none => False)
    | none => False)
  | none => False

theorem appendA_sound {gc : Option Prop} (hgc : ∀ c, gc = some c → c) (E : Env β nid F w lk base) {T : List (Nat × TI)} (hT : TabOk P T) {t : Nat} {s x : AV} {u v : Value} (ty : TypeId) (hu : Rep β nid F w s u) (hv : Rep β nid F w x v)
    (h : appendA gc T lk nid t s x k) : ∃ z w', (Builtin.append_ #[t, t] ty #[u, v]).run P w = .ok z w' ∧ PostK β nid F lk base w k z w' := by
  unfold appendA at h
  split at h
  · rename_i ti h1
    split at h
    · rename_i e h2
      split at h
      · rename_i te h3
        split at h
        · rename_i sz1 by1 hsz1 hby1 hzs
          have hzs : te.zero.cells.size = te.size := by simpa using hzs
          obtain ⟨hut, _⟩ := hT.get h1
          obtain ⟨_, _, i, hi, hs, hb, hz⟩ := hT.get h3
          cases hd : ti.desc <;> simp [sliceD, hd] at h2
          rename_i el
          subst h2
          rw [hd] at hut
          split at h
          · rename_i id
            split at h
            · rename_i e' sz n get hlk
              split at h
              · rename_i he hsz
                have he : e' = el := by simpa using he
                have hsz : sz = te.size := by simpa using hsz
                subst he
                subst hsz
                obtain ⟨m, get2, news, h, hsrc⟩ := srcK_sound E (by omega) hv h
                obtain ⟨hbytes, h⟩ := ob_iff h hgc
                obtain ⟨hid, rfl⟩ := hu.so_inv
                obtain ⟨_, xs, hx, hlen, hc⟩ := E.obj id _ hlk
                rw [← hs] at hx hsrc
                obtain ⟨v', w', hrun, hown', hg, hblk⟩ := append_own (P := P) ty hut hi hz (by rw [hzs, hs]) (by omega) (by omega) hx hsrc (by rw [hb]; exact hbytes) E.base
                have hval : (β.valAt nid v').val nid = v' := by simp [Bd.valAt]
                have hFown : ∀ g, (β.val id).ownBlock = some g → F g := fun g hg' => E.own id _ g hlk hg'
                have hold : ∀ g, g < w.heap.size → ¬ F g → w'.heap[g]? = w.heap[g]? := fun g hg' hn => hg.block g hg' (fun e => hn (hFown g e.symm))
                have hFX : ∀ g, g < w.heap.size → ¬ F g → ¬ FX F (β.valAt nid v') nid [.row e' te.size (n + m) (catG n get get2)] g := by
                  rintro g hg' hn (hf | ⟨j, o, hj, ho⟩)
                  · exact hn hf
                  · cases j with
                    | succ j => simp at hj
                    | zero =>
                      simp at hj
                      subst hj
                      simp [ownB, hval] at ho
                      rcases hblk with hb' | hb'
                      · exact hn (hFown g (by rw [← hb']; exact ho))
                      · have := hb' g ho; omega
                refine ⟨v', w', hrun, _, β.valAt nid v', h, agree_valAt _ _ _, _, hlk, hg, ?_, ⟨xs ++ news, by rw [hval, ← hs]; exact hown', ?_, ?_⟩, ?_⟩
                · simp only [ownB, hval]
                  exact hblk
                · intro q hq
                  simp only [catG]
                  split
                  · exact hlen q (by assumption)
                  · rw [hsrc.glen (q - n) (by omega), hs]
                · intro q j hq h1' h2'
                  have hxl := hx.1
                  rw [hs] at hxl
                  by_cases hqn : q < n
                  · have e1 : catG n get get2 q = get q := by simp [catG, hqn]
                    simp only [e1] at h1' ⊢
                    have hj : j < te.size := by rw [← hlen q hqn]; exact h1'
                    have : q * te.size + te.size ≤ n * te.size := by rw [← Nat.succ_mul]; exact Nat.mul_le_mul_right _ hqn
                    have hlt : q * te.size + j < xs.length := by omega
                    rw [List.getElem_append_left hlt]
                    exact ⟨((hc q j hqn h1' hlt).1.stable hFX hold hg.size), (hc q j hqn h1' hlt).2⟩
                  · have e1 : catG n get get2 q = get2 (q - n) := by simp [catG, hqn]
                    simp only [e1] at h1' ⊢
                    have hqm : q - n < m := by omega
                    have hj : j < i.size := by rw [← hsrc.glen _ hqm]; exact h1'
                    have e2 : (q - n) * te.size = q * te.size - n * te.size := Nat.sub_mul _ _ _
                    have e3 : n * te.size ≤ q * te.size := Nat.mul_le_mul_right _ (by omega)
                    have hlt : (q - n) * i.size + j < news.length := by
                      rw [hsrc.len]
                      have : (q - n) * i.size + i.size ≤ m * i.size := by rw [← Nat.succ_mul]; exact Nat.mul_le_mul_right _ hqm
                      omega
                    rw [List.getElem_append_right (by omega)]
                    have e4 : q * te.size + j - xs.length = (q - n) * i.size + j := by rw [hs]; omega
                    simp only [e4]
                    exact ⟨(hsrc.rep _ j hqm h1' hlt).stable hFX hold hg.size, hsrc.one _ (List.getElem_mem _)⟩
                · have hp := Rep.so (β := β.valAt nid v') (n := nid + 1) (F := FX F (β.valAt nid v') nid [.row e' te.size (n + m) (catG n get get2)]) (w := w') nid (by omega)
                    (by rw [hval]; rcases hown'.2 with ⟨rfl, _⟩ | ⟨g, cap, cur, rfl, _⟩ <;> rfl)
                  rw [hval] at hp
                  exact hp
              · exact h.elim
            · exact h.elim
          · rename_i v0
            split at h
            · rename_i hn
              obtain ⟨m, get2, news, h, hsrc⟩ := srcK_sound E (by omega) hv h
              obtain ⟨hbytes, h⟩ := ob_iff h hgc
              obtain rfl := hu.val_inv
              obtain rfl := nilSlice_iff hn
              have hx := World.ownsRow_nil w w.heap.size el i.size
              rw [← hs] at hsrc
              obtain ⟨v', w', hrun, hown', hg, hblk⟩ := append_own (P := P) ty hut hi hz (by rw [hzs, hs]) (by omega) (by omega) hx hsrc (by rw [hb, Nat.zero_add]; exact hbytes) (Nat.le_refl _)
              simp only [Nat.zero_add, List.nil_append] at hown'
              refine ⟨v', w', hrun, _, _, h, .row el te.size m get2 v' news ⟨hg.os, hg.tape, hg.output, hg.size, fun g hg' => hg.block g hg' (by simp [Value.ownBlock])⟩ (by rw [← hs]; exact hown') ?_ ?_⟩
              · intro q hq
                rw [← hs]
                exact hsrc.glen q hq
              · intro q j hq h1' h2'
                simp only [← hs] at h2' ⊢
                exact ⟨hsrc.rep q j hq h1' h2', hsrc.one _ (List.getElem_mem _)⟩
            · exact h.elim
          · exact h.elim
        · exact h.elim
      · exact h.elim
    · exact h.elim
  · exact h.elim
end
end Go.Eng
