/-
  Groups: Members.
-/
import Derived.Test.YtklmfkejgjhneaaG4
import Derived.Test.YtklmfkejgjhneaaS7
namespace Go.Proofs.Ytklmfkejgjhneaa
open Go.Eng

theorem sortI_lt {l : List Int} (h : l.Nodup) : (sortI l).Pairwise (· < ·) := by
  have h1 := List.pairwise_mergeSort (le := fun x y : Int => decide (x ≤ y)) (fun a b c h1 h2 => by simp at *; omega) (fun a b => by simp; omega) l
  have h2 : (sortI l).Pairwise (· ≤ ·) := h1.imp fun h => by simpa using h
  have h3 : (sortI l).Nodup := (List.mergeSort_perm l _).nodup_iff.2 h
  exact (h2.and h3).imp fun h => by
    have := h.1
    have := h.2
    omega
theorem memI_sort {l : List Int} {x : Int} : x ∈ sortI l ↔ x ∈ l := List.mem_mergeSort
def mapL (p : Sta → Bool) (S : List Sta) : List (Int × Bool) := S.foldl (fun L s => if p s = true then mset L s.acc true else L) []
theorem mapL_succ (p : Sta → Bool) (S : List Sta) (k : Nat) (h : k < S.length) : mapL p (S.take (k + 1)) = if p (S.getD k dS) = true then mset (mapL p (S.take k)) (S.getD k dS).acc true else mapL p (S.take k) :=
  foldl_take _ _ S k dS h
theorem mapL_inv (p : Sta → Bool) (S : List Sta) : (mkeys (mapL p S)).Nodup ∧ (mapL p S).length ≤ S.length ∧ ∀ a, a ∈ mkeys (mapL p S) ↔ a ∈ (S.filter p).map Sta.acc := by
  have : ∀ (S : List Sta) (L : List (Int × Bool)), (mkeys L).Nodup → (mkeys (S.foldl (fun L s => if p s = true then mset L s.acc true else L) L)).Nodup ∧
      (S.foldl (fun L s => if p s = true then mset L s.acc true else L) L).length ≤ L.length + S.length ∧
      ∀ a, a ∈ mkeys (S.foldl (fun L s => if p s = true then mset L s.acc true else L) L) ↔ a ∈ mkeys L ∨ a ∈ (S.filter p).map Sta.acc := by
    intro S
    induction S with
    | nil => intro L h; exact ⟨h, by simp, fun a => by simp⟩
    | cons s r ih =>
      intro L h
      simp only [List.foldl_cons, List.length_cons]
      by_cases hp : p s = true
      · rw [if_pos hp]
        obtain ⟨h1, h2, h3⟩ := ih (mset L s.acc true) (nodup_mset h _ _)
        have h4 := mset_len L s.acc true
        refine ⟨h1, by omega, fun a => ?_⟩
        rw [h3, List.filter_cons, if_pos hp, List.map_cons, List.mem_cons, mem_mkeys, mget_mset, mem_mkeys]
        by_cases ha : a = s.acc
        · rw [if_pos ha]; simp [ha]
        · rw [if_neg ha]; simp [ha]
      · rw [if_neg hp]
        obtain ⟨h1, h2, h3⟩ := ih L h
        refine ⟨h1, by omega, fun a => ?_⟩
        rw [h3, List.filter_cons, if_neg hp]
  obtain ⟨h1, h2, h3⟩ := this S [] List.nodup_nil
  exact ⟨h1, by simpa [mapL] using h2, fun a => by rw [show mapL p S = S.foldl _ [] from rfl, h3]; simp [mkeys]⟩
theorem Memb_map (e : Nat → Ev) (g : Int) (m : Nat) : sortI (mkeys (mapL (openA g) (stays e m))) = Memb e g m := by
  refine ascExt (sortI_lt (mapL_inv _ _).1) (Memb_asc e g m) fun a => ?_
  rw [memI_sort, (mapL_inv _ _).2.2, mem_Memb, ← mem_membL]
  rfl
theorem Memb_congr {e f : Nat → Ev} {g : Int} {n : Nat} (h : ∀ i, i < n → e i = f i) : Memb e g n = Memb f g n := by
  unfold Memb membL
  rw [stays_congr h]
theorem accs_wf {p : Sta → Bool} {l : List Ev} (hwf : ∀ x ∈ l, (Lit.int .i64 x.who).wf = true) {m : Nat} (hm : m ≤ l.length) : ∀ a, a ∈ ((stays (evs l) m).filter p).map Sta.acc → (Lit.int .i64 a).wf = true := by
  intro a ha
  simp only [List.mem_map, List.mem_filter] at ha
  obtain ⟨s, ⟨hs, _⟩, rfl⟩ := ha
  unfold stays at hs
  rw [List.mem_map] at hs
  obtain ⟨i, hi, rfl⟩ := hs
  have := (mem_starts.1 hi).1
  exact hwf (l.getD i dE) (getD_memD dE (by omega))

set_option maxRecDepth 20000 in
set_option maxHeartbeats 2000000 in
theorem Members_fn (l : List Ev) (hl : l.length < 1000000) (hwf : ∀ x ∈ l, (Lit.int .i64 x.who).wf = true) (g t : Int) :
    Ctr Try.prog 25 [.rs 12 l.length (rowsE l), .i .i64 g, .i .i64 t] [.row 3 1 (Memb (evs l) g (cut l t)).length (rowsI (Memb (evs l) g (cut l t)))] (.so 0) := by
  refine fn_of_exec tabOk Try.func25 (by kernel_rfl) rfl (N := Try.f25.ntmps) rfl (res := [.tmp 6]) rfl rfl [] ?_
  have hm := cut_len l t
  have hcl := cut_le l t
  have hS : stays (evs (l.take (cut l t))) (l.take (cut l t)).length = stays (evs l) (cut l t) := by rw [hm]; exact stays_congr (evs_take l _)
  have c0 := Stays_fn (l.take (cut l t)) (by omega)
  rw [hS] at c0
  have cS : Ctr Try.prog 22 [.rs 12 ((max (0 : Int) (min t l.length)) - 0).toNat (fun q => rowsE l (Int.toNat 0 + q))] [.row 34 4 (stays (evs l) (cut l t)).length (rowsS (stays (evs l) (cut l t)))] (.so 0) :=
    Ctr.of_eq (args := [.rs 12 (l.take (cut l t)).length (rowsE (l.take (cut l t)))]) ⟨rfl, by rw [hm]; exact cut_toNat l t, take_rowsE l (cut l t) hcl⟩ c0
  have hsl := stays_len (evs l) (cut l t)
  have hw := accs_wf (p := openA g) hwf hcl
  have hM := Memb_map (evs l) g (cut l t)
  have hinv := mapL_inv (openA g) (stays (evs l) (cut l t))
  repeat refine Or.inl ?_
  refine ⟨⟨by omega, by omega, by omega⟩, ?_⟩
  repeat refine Or.inl ?_
  refine ⟨_, _, cS, ?_⟩
  generalize stays (evs l) (cut l t) = S at *
  repeat refine Or.inl ?_
  refine ⟨[], Nat, fun k => k ≤ S.length, fun k => [⟨20, [], .i .i64 k⟩], fun k => [⟨0, [], mpIB (mapL (openA g) (S.take k))⟩], fun k => S.length - k,
    ⟨0, [], Nat.zero_le _, rfl, rfl, rfl, rfl, rfl, ⟨rfl, rfl⟩, ⟨rfl, rfl, fun j hj => by simp [mapL] at hj⟩⟩, ?_⟩
  intro k hk
  refine .inl ⟨fun hc => ?_, fun hc => ?_⟩
  · have hc := dlt hc
    have hs := mapL_succ (openA g) S k (by omega)
    have ek : (k : Int).toNat = k := Int.toNat_natCast k
    repeat refine Or.inl ?_
    refine ⟨⟨by omega, by omega⟩, by omega, ?_⟩
    repeat refine Or.inl ?_
    refine ⟨fun h2 => ?_, fun h2 => ?_⟩
    · have h2 : openA g (S.getD (k : Int).toNat dS) = true := h2
      rw [ek] at h2
      rw [if_pos h2] at hs
      refine ⟨_, _, _, _, _, ⟨fun _ _ => rfl, rfl, updOk_mset (L := mapL (openA g) (S.take k)) (vf := fun b => AV.b b) i64_inj (S.getD (k : Int).toNat dS).acc true⟩, ?_⟩
      refine ⟨k + 1, [], by dsimp only; omega, by dsimp only; omega, rfl, rfl, rfl, rfl, rfl, ⟨rfl, wr (by omega) (by omega)⟩, ?_⟩
      have hv : AOEq (mpIB (mapL (openA g) (S.take (k + 1)))) (mpIB (mset (mapL (openA g) (S.take k)) (S.getD (k : Int).toNat dS).acc true)) := by rw [hs, ek]; exact AOEq.refl _
      exact hv
    · have h2 : openA g (S.getD (k : Int).toNat dS) = false := h2
      rw [ek] at h2
      rw [if_neg (by rw [h2]; decide)] at hs
      refine ⟨k + 1, [], by dsimp only; omega, by dsimp only; omega, rfl, rfl, rfl, rfl, rfl, ⟨rfl, wr (by omega) (by omega)⟩, ?_⟩
      have hv : AOEq (mpIB (mapL (openA g) (S.take (k + 1)))) (mpIB (mapL (openA g) (S.take k))) := by rw [hs]; exact AOEq.refl _
      exact hv
  · have hc := dnlt hc
    have hk2 : S.take k = S := List.take_of_length_le (by omega)
    rw [hk2]
    have hn : (Memb (evs l) g (cut l t)).length = (mapL (openA g) S).length := by rw [← hM, sortI_length]; simp [mkeys]
    refine .inr (.inr ⟨false, [0], rfl, Unit, _, _, _, _, keys_fn (mapL (openA g) S), fun _ _ => ?_⟩)
    refine .inr (.inr ⟨false, [2, 0], rfl, Unit, _, _, _, _, sorted_fn sortsKeys (mapL (openA g) S) (fun k hk => hw k ((hinv.2.2 k).1 hk)) (fits (by omega)), fun _ _ => ?_⟩)
    exact RetIs.so rfl hn.symm (fun _ _ => by rw [hM]) (fun _ _ => rfl)

def memP (L : List Ev) (g : Int) (e : Ev) : Bool := e.kind == 5 && e.group == g && inN (evs L) e.who g L.length
def rml (L : List Ev) (g : Int) (k : Nat) : List Int := insL (((L.take k).filter (memP L g)).map Ev.who)
theorem rml_succ (L : List Ev) (g : Int) (k : Nat) (h : k < L.length) : rml L g (k + 1) = if memP L g (L.getD k dE) = true then ins (rml L g k) (L.getD k dE).who else rml L g k := by
  unfold rml
  rw [List.take_succ_eq_append_getElem h, List.filter_append, List.map_append]
  have e : L.getD k dE = L[k] := by simp [List.getD, h]
  rw [e]
  by_cases hp : memP L g L[k] = true
  · rw [if_pos hp, List.filter_cons, if_pos hp, List.filter_nil, List.map_cons, List.map_nil, insL_snoc]
  · rw [if_neg hp, List.filter_cons, if_neg hp, List.filter_nil, List.map_nil, List.append_nil]
theorem rml_len (L : List Ev) (g : Int) (k : Nat) : (rml L g k).length ≤ k := by
  unfold rml
  refine Nat.le_trans (insL_len _) ?_
  rw [List.length_map]
  refine Nat.le_trans (List.length_filter_le _ _) ?_
  simp
  omega
theorem rml_eq (L : List Ev) (g : Int) : rml L g L.length = Memb (evs L) g L.length := by
  refine ascExt (insL_inv _).1 (Memb_asc _ _ _) fun a => ?_
  unfold rml
  rw [(insL_inv _).2, mem_Memb, List.take_of_length_le (Nat.le_refl _)]
  simp only [List.mem_map, List.mem_filter]
  constructor
  · rintro ⟨e, ⟨_, hp⟩, rfl⟩
    unfold memP at hp
    exact (Bool.and_eq_true_iff.1 hp).2
  · intro ha
    obtain ⟨i, hi, hs, h1, h2, _⟩ := (in_open _ _ _ _).1 ha
    refine ⟨evs L i, ⟨getD_memD dE hi, ?_⟩, h1⟩
    unfold memP
    unfold startP at hs
    rw [Bool.and_eq_true] at hs
    rw [hs.1, h1, h2, ha]
    simp

set_option maxRecDepth 20000 in
set_option maxHeartbeats 2000000 in
theorem rMembers_fn (l : List Ev) (hl : l.length < 1000000) (g t : Int) :
    Ctr Try.prog 26 [.rs 12 l.length (rowsE l), .i .i64 g, .i .i64 t] [.row 3 1 (Memb (evs l) g (cut l t)).length (rowsI (Memb (evs l) g (cut l t)))] (.so 0) := by
  refine fn_of_exec tabOk Try.func26 (by kernel_rfl) rfl (N := Try.f26.ntmps) rfl (res := [.tmp 6]) rfl rfl [] ?_
  refine .inr (.inl ⟨_, Before_fn l t, ?_⟩)
  have hm := cut_len l t
  have hcl := cut_le l t
  have hR : Memb (evs l) g (cut l t) = Memb (evs (l.take (cut l t))) g (l.take (cut l t)).length := by rw [hm]; exact (Memb_congr (evs_take l _)).symm
  rw [hR]
  generalize hLe : l.take (cut l t) = L at *
  refine .inl ⟨[(7, 3, 1)], Nat, fun k => k ≤ L.length, fun k => [⟨9, [], .i .i64 k⟩, ⟨7, [], .so 0⟩], fun k => [⟨0, [], .row 3 1 (rml L g k).length (rowsI (rml L g k))⟩], fun k => L.length - k,
    ⟨0, [], Nat.zero_le _, rfl, rfl, rfl, rfl, rfl, ⟨⟨rfl, rfl⟩, rfl⟩, ⟨rfl, rfl, rfl, fun j hj => by cases hj⟩⟩, ?_⟩
  intro k hk
  refine .inl ⟨fun hc => ?_, fun hc => ?_⟩
  · have hc := dlt hc
    have hs := rml_succ L g k (by omega)
    have ho := rml_len L g k
    have ek : (k : Int).toNat = k := Int.toNat_natCast k
    have w : IntKind.i64.wrap ((k : Int) + 1) = ((k + 1 : Nat) : Int) := wr (by omega) (by omega)
    have cI := In_fn L (by omega) (L.getD (k : Int).toNat dE).who g
    generalize rml L g k = o at *
    repeat refine Or.inl ?_
    refine ⟨⟨by omega, by omega⟩, ?_⟩
    repeat refine Or.inl ?_
    refine ⟨⟨by omega, by omega⟩, fun _ => ⟨by omega, by omega⟩, ?_⟩
    repeat refine Or.inl ?_
    refine ⟨[], _, fun _ => cI, ⟨fun h2 => ?_, fun h2 => ?_⟩⟩
    · have h2 : (((L.getD (k : Int).toNat dE).kind != 5 || (L.getD (k : Int).toNat dE).group != g) || !inN (evs L) (L.getD (k : Int).toNat dE).who g L.length) = true := h2
      have hn : memP L g (L.getD k dE) = false := by
        rw [ek] at h2
        unfold memP
        rw [← Bool.not_eq_true']
        rw [← h2]
        simp only [bne, Bool.not_and, Bool.or_assoc]
      rw [if_neg (by rw [hn]; decide)] at hs
      refine ⟨k + 1, [], by dsimp only; omega, by dsimp only; omega, rfl, rfl, rfl, rfl, rfl, ⟨⟨rfl, w⟩, rfl⟩, ?_⟩
      have hv : AOEq (.row 3 1 (rml L g (k + 1)).length (rowsI (rml L g (k + 1)))) (.row 3 1 o.length (rowsI o)) := by rw [hs]; exact AOEq.refl _
      exact hv
    have h2 : (((L.getD (k : Int).toNat dE).kind != 5 || (L.getD (k : Int).toNat dE).group != g) || !inN (evs L) (L.getD (k : Int).toNat dE).who g L.length) = false := h2
    have hn : memP L g (L.getD k dE) = true := by
      rw [ek] at h2
      unfold memP
      rw [← Bool.not_eq_false']
      rw [← h2]
      simp only [bne, Bool.not_and, Bool.or_assoc]
    rw [if_pos hn] at hs
    repeat refine Or.inl ?_
    refine ⟨[], Nat, fun q => q ≤ o.length ∧ ∀ j, j < q → o.getD j 0 < (L.getD k dE).who, fun q => [⟨11, [], .i .i64 q⟩], fun _ => [], fun q => o.length - q,
      ⟨0, [], ⟨Nat.zero_le _, fun j hj => by omega⟩, rfl, rfl, rfl, rfl, rfl, ⟨rfl, rfl⟩, trivial⟩, ?_⟩
    rintro q ⟨hq, hlt⟩
    have eq : (q : Int).toNat = q := Int.toNat_natCast q
    refine .inl ⟨fun hg => ?_, fun hg => ?_, ⟨fun h3 => ?_, fun h3 => ?_⟩⟩
    · have hg : decide ((q : Int) < o.length) = true := hg.1
      have := dlt hg
      omega
    · have hg : decide ((q : Int) < o.length) = true := hg.1
      have := dlt hg
      omega
    · have h3 : (decide ((q : Int) < o.length) && decide (o.getD (q : Int).toNat 0 < (L.getD (k : Int).toNat dE).who)) = true := h3
      rw [eq, ek] at h3
      simp only [Bool.and_eq_true, decide_eq_true_eq] at h3
      refine ⟨q + 1, [], ⟨by omega, fun j hj => ?_⟩, by dsimp only; omega, rfl, rfl, rfl, rfl, rfl, ⟨rfl, wr (by omega) (by omega)⟩, trivial⟩
      by_cases hjk : j = q
      · rw [hjk]; exact h3.2
      · exact hlt j (by omega)
    have h3 : (decide ((q : Int) < o.length) && decide (o.getD (q : Int).toNat 0 < (L.getD (k : Int).toNat dE).who)) = false := h3
    rw [eq, ek] at h3
    have hcnt : cntLt o (L.getD k dE).who = q := cntLt_eq o _ q hq hlt fun h4 h5 => by
      rw [decide_eq_true (by omega), decide_eq_true h5] at h3
      cases h3
    repeat refine Or.inl ?_
    refine ⟨fun hg => ?_, fun hg => ?_, ⟨fun h4 => ?_, fun h4 => ?_⟩⟩
    · have hg : ((q : Int) == o.length) = false := hg.1
      simp at hg
      omega
    · have hg : ((q : Int) == o.length) = false := hg.1
      simp at hg
      omega
    · have h4 : ((q : Int) == o.length || o.getD (q : Int).toNat 0 != (L.getD (k : Int).toNat dE).who) = true := h4
      rw [eq, ek] at h4
      simp only [Bool.or_eq_true, beq_iff_eq, bne_iff_ne] at h4
      have hI : ins o (L.getD k dE).who = o.take q ++ (L.getD k dE).who :: o.drop q := by
        unfold ins
        rw [hcnt, if_pos]
        rcases h4 with h4 | h4
        · left; omega
        · exact .inr h4
      refine ⟨⟨by omega, by omega, by omega⟩, fits (by omega), ⟨by omega, by omega, by omega⟩, fits (by omega), ?_⟩
      refine ⟨k + 1, [(0, 3)], by dsimp only; omega, by dsimp only; omega, rfl, rfl, rfl, rfl, rfl, ⟨⟨rfl, w⟩, rfl⟩, ?_⟩
      have hlen : ((q : Int) - 0).toNat + (1 + ((o.length : Int) - q).toNat) = (rml L g (k + 1)).length := by
        rw [hs, hI]
        simp
        omega
      have hrow : ∀ j, j < (rml L g (k + 1)).length → catG ((q : Int) - 0).toNat (fun q => rowsI o (Int.toNat 0 + q)) (catG 1 (rowOf 1 [.i .i64 (L.getD (k : Int).toNat dE).who]) (fun q1 => rowsI o ((q : Int).toNat + q1))) j = rowsI (rml L g (k + 1)) j := by
        rw [hs, hI]
        intro j hj
        have e3 : ((q : Int) - 0).toNat = q - 0 := by omega
        rw [e3, eq, ek]
        exact ins_rows o (L.getD k dE).who q hq j hj
      exact ⟨rfl, rfl, hlen, hrow⟩
    · have h4 : ((q : Int) == o.length || o.getD (q : Int).toNat 0 != (L.getD (k : Int).toNat dE).who) = false := h4
      rw [eq, ek] at h4
      simp only [Bool.or_eq_false_iff, beq_eq_false_iff_ne, bne_eq_false_iff_eq] at h4
      have hI : ins o (L.getD k dE).who = o := by
        unfold ins
        rw [hcnt, if_neg]
        rintro (h5 | h5)
        · exact h4.1 (by omega)
        · exact h5 h4.2
      refine ⟨k + 1, [], by dsimp only; omega, by dsimp only; omega, rfl, rfl, rfl, rfl, rfl, ⟨⟨rfl, w⟩, rfl⟩, ?_⟩
      have hv : AOEq (.row 3 1 (rml L g (k + 1)).length (rowsI (rml L g (k + 1)))) (.row 3 1 o.length (rowsI o)) := by rw [hs, hI]; exact AOEq.refl _
      exact hv
  · have hc := dnlt hc
    obtain rfl : k = L.length := by omega
    rw [← rml_eq]
    exact RetIs.so rfl rfl (fun _ _ => rfl) (fun _ _ => rfl)
end Go.Proofs.Ytklmfkejgjhneaa
