/-
  Bridges: Rounds.
-/
import Derived.Test.YtklmfkejgjhneaaR3
namespace Go.Proofs.Ytklmfkejgjhneaa
open Go.Eng

abbrev LB := List (Int × Bool)
theorem mem_pop {D : List Int} (h : 0 < D.length) {v : Int} : v ∈ D ↔ v ∈ D.take (D.length - 1) ∨ v = D.getD (D.length - 1) 0 := by
  have e : D = D.take (D.length - 1) ++ [D.getD (D.length - 1) 0] := by
    have h1 := List.take_succ_eq_append_getElem (show D.length - 1 < D.length by omega)
    rw [Nat.sub_add_cancel h, List.take_length] at h1
    have h2 : D.getD (D.length - 1) 0 = D[D.length - 1] := by simp only [List.getD, List.getElem?_eq_getElem (show D.length - 1 < D.length by omega), Option.getD_some]
    rw [h2]
    exact h1
  constructor
  · intro hv
    rw [e] at hv
    simpa using hv
  · intro hv
    rw [e]
    simpa using hv
structure Dfs (B : List Bri) (o : List Int) (a : Int) (L : LB) (D : List Int) : Prop where
  nodup : (mkeys L).Nodup
  allt : ∀ v, (mget L v).getD false = (mget L v).isSome
  sound : ∀ v ∈ mkeys L, Rch (Ed B o) a v
  soundD : ∀ v ∈ D, Rch (Ed B o) a v
  has : a ∈ mkeys L ∨ a ∈ D
  done : ∀ v ∈ mkeys L, ∀ i ∈ o, (br B i).fr = v → (br B i).to ∈ mkeys L ∨ (br B i).to ∈ D
  len : D.length ≤ 1 + L.length * 200
structure DfsJ (B : List Bri) (o : List Int) (a x : Int) (L : LB) (D : List Int) (k : Nat) : Prop where
  nodup : (mkeys L).Nodup
  allt : ∀ v, (mget L v).getD false = (mget L v).isSome
  sound : ∀ v ∈ mkeys L, Rch (Ed B o) a v
  soundD : ∀ v ∈ D, Rch (Ed B o) a v
  has : a ∈ mkeys L ∨ a ∈ D
  done : ∀ v ∈ mkeys L, v ≠ x → ∀ i ∈ o, (br B i).fr = v → (br B i).to ∈ mkeys L ∨ (br B i).to ∈ D
  part : ∀ i ∈ o.take k, (br B i).fr = x → (br B i).to ∈ mkeys L ∨ (br B i).to ∈ D
  mem : x ∈ mkeys L
  len : D.length + 200 ≤ 1 + L.length * 200 + k
section
variable {B : List Bri} {o : List Int} {a x : Int} {L : LB} {D : List Int} {k : Nat}
theorem Dfs.init (B : List Bri) (o : List Int) (a : Int) : Dfs B o a [] [a] :=
  ⟨List.nodup_nil, fun _ => rfl, fun v h => (by cases h), fun v h => (by rw [List.mem_singleton.1 h]; exact .refl), .inr (List.mem_singleton.2 rfl), fun v h => (by cases h), Nat.le_refl _⟩
theorem Dfs.seen (h : Dfs B o a L D) (h0 : 0 < D.length) (hx : D.getD (D.length - 1) 0 ∈ mkeys L) : Dfs B o a L (D.take (D.length - 1)) := by
  have hs : ∀ v, v ∈ mkeys L ∨ v ∈ D → v ∈ mkeys L ∨ v ∈ D.take (D.length - 1) := by
    rintro v (hv | hv)
    · exact .inl hv
    · rcases (mem_pop h0).1 hv with hv | rfl
      · exact .inr hv
      · exact .inl hx
  refine ⟨h.nodup, h.allt, h.sound, fun v hv => h.soundD v ((mem_pop h0).2 (.inl hv)), hs _ h.has, fun v hv i hi hf => hs _ (h.done v hv i hi hf), ?_⟩
  have := h.len
  rw [List.length_take]
  omega
theorem Dfs.start (h : Dfs B o a L D) (h0 : 0 < D.length) (hx : mget L (D.getD (D.length - 1) 0) = none) :
    DfsJ B o a (D.getD (D.length - 1) 0) (mset L (D.getD (D.length - 1) 0) true) (D.take (D.length - 1)) 0 := by
  have hxm : ∀ v, v ∈ mkeys (mset L (D.getD (D.length - 1) 0) true) ↔ v = D.getD (D.length - 1) 0 ∨ v ∈ mkeys L := by
    intro v
    rw [mem_mkeys, mget_mset, mem_mkeys]
    split
    · rename_i e; exact ⟨fun _ => .inl e, fun _ => rfl⟩
    · rename_i e; exact ⟨.inr, fun h => h.elim (fun h => (e h).elim) id⟩
  have hs : ∀ v, v ∈ mkeys L ∨ v ∈ D → v ∈ mkeys (mset L (D.getD (D.length - 1) 0) true) ∨ v ∈ D.take (D.length - 1) := by
    rintro v (hv | hv)
    · exact .inl ((hxm v).2 (.inr hv))
    · rcases (mem_pop h0).1 hv with hv | rfl
      · exact .inr hv
      · exact .inl ((hxm _).2 (.inl rfl))
  refine ⟨nodup_mset h.nodup _ _, fun v => ?_, fun v hv => ?_, fun v hv => h.soundD v ((mem_pop h0).2 (.inl hv)), hs _ h.has, fun v hv hne i hi hf => ?_, fun i hi => by simp at hi, (hxm _).2 (.inl rfl), ?_⟩
  · rw [mget_mset]
    split
    · rfl
    · exact h.allt v
  · rcases (hxm v).1 hv with rfl | hv
    · exact h.soundD _ ((mem_pop h0).2 (.inr rfl))
    · exact h.sound v hv
  · rcases (hxm v).1 hv with rfl | hv
    · exact (hne rfl).elim
    · exact hs _ (h.done v hv i hi hf)
  · have := h.len
    rw [mset_new hx, List.length_append, List.length_take]
    simp
    omega
theorem DfsJ.next (h : DfsJ B o a x L D k) (hk : k < o.length) (hf : (br B (o.getD k 0)).fr = x) : DfsJ B o a x L (D ++ [(br B (o.getD k 0)).to]) (k + 1) := by
  have hs : ∀ v, v ∈ mkeys L ∨ v ∈ D → v ∈ mkeys L ∨ v ∈ D ++ [(br B (o.getD k 0)).to] := by
    rintro v (hv | hv)
    · exact .inl hv
    · exact .inr (List.mem_append_left _ hv)
  refine ⟨h.nodup, h.allt, h.sound, fun v hv => ?_, hs _ h.has, fun v hv hne i hi hfi => hs _ (h.done v hv hne i hi hfi), fun i hi hfi => ?_, h.mem, ?_⟩
  · rcases List.mem_append.1 hv with hv | hv
    · exact h.soundD v hv
    · simp at hv
      subst hv
      exact (h.sound x h.mem).step ⟨_, getD_memD 0 hk, hf, rfl⟩
  · rw [List.take_succ_eq_append_getElem hk, List.mem_append] at hi
    rcases hi with hi | hi
    · exact hs _ (h.part i hi hfi)
    · simp at hi
      subst hi
      right
      have e : o.getD k 0 = o[k] := by simp [List.getD, hk]
      rw [e]
      simp
  · have := h.len
    rw [List.length_append]
    simp
    omega
theorem DfsJ.pass (h : DfsJ B o a x L D k) (hk : k < o.length) (hf : (br B (o.getD k 0)).fr ≠ x) : DfsJ B o a x L D (k + 1) := by
  refine ⟨h.nodup, h.allt, h.sound, h.soundD, h.has, h.done, fun i hi hfi => ?_, h.mem, ?_⟩
  · rw [List.take_succ_eq_append_getElem hk, List.mem_append] at hi
    rcases hi with hi | hi
    · exact h.part i hi hfi
    · simp at hi
      subst hi
      have e : o.getD k 0 = o[k] := by simp [List.getD, hk]
      rw [e] at hf
      exact (hf hfi).elim
  · have := h.len
    omega
theorem DfsJ.fin (h : DfsJ B o a x L D k) (hk : o.length ≤ k) (hk2 : k ≤ 200) : Dfs B o a L D := by
  refine ⟨h.nodup, h.allt, h.sound, h.soundD, h.has, fun v hv i hi hf => ?_, ?_⟩
  · by_cases hx : v = x
    · exact h.part i (by rw [List.take_of_length_le hk]; exact hi) (by rw [hf, hx])
    · exact h.done v hv hx i hi hf
  · have := h.len
    omega
theorem Dfs.iff (h : Dfs B o a L []) (v : Int) : v ∈ mkeys L ↔ Rch (Ed B o) a v := by
  constructor
  · exact h.sound v
  · intro hv
    induction hv with
    | refl =>
      rcases h.has with h1 | h1
      · exact h1
      · cases h1
    | step _ he ih =>
      obtain ⟨i, hi, rfl, rfl⟩ := he
      rcases h.done _ ih i hi rfl with h1 | h1
      · exact h1
      · cases h1
theorem node_len {L : LB} {n : Int} (hV : Valid B n) (hO : OkO B o) (h0 : 0 ≤ a) (h1 : a < n) (hn : (mkeys L).Nodup) (hs : ∀ v ∈ mkeys L, Rch (Ed B o) a v) : L.length ≤ 12 := by
  have := nodup_len (m := 12) hn fun v hv => by
    have h2 := rch_node hV hO h0 h1 (hs v hv)
    have h3 := hV.hi
    omega
  simpa [mkeys] using this
end
theorem take_row (D : List Int) (m : Nat) (h : m ≤ D.length) : AOEq (.row 3 1 (D.take m).length (rowsI (D.take m))) (.row 3 1 m (rowsI D)) := by
  have hl : (D.take m).length = m := by rw [List.length_take]; omega
  exact ⟨rfl, rfl, hl.symm, fun q hq => by
    have hq : q < (D.take m).length := hq
    unfold rowsI
    rw [take_getD 0 D m q (by omega)]⟩

set_option maxRecDepth 20000 in
set_option maxHeartbeats 2000000 in
theorem Rounds_fn (B : List Bri) (hB : B.length < 1000000) (c : List Int) (hcl : c.length < 1000000) (a : Int) :
    Ctr Try.prog 62 [.rs 3 B.length (rowsB B), .rs 1 c.length (rowsI c), .i .i64 a] [.row 3 1 (RoundsL B c a).length (rowsI (RoundsL B c a))] (.so 0) := by
  refine fn_of_exec tabOk Try.func62 (by kernel_rfl) rfl (N := Try.f62.ntmps) rfl (res := [.tmp 6]) rfl rfl [(1000004, [.sl 29 .u]), (8, [.own 9]), (999999, [.nl 6 3 1])] ?_
  repeat refine Or.inl ?_
  refine ⟨[], _, valid_fn B (by omega) 12, ⟨fun h => ?_, fun h => ?_⟩⟩
  · have h : (!validB B 12 || decide (a < 0) || decide (a ≥ 12)) = true := h
    unfold RoundsL
    rw [if_pos h]
    exact RetIs.so rfl rfl (fun k hk => by cases hk) (fun k hk => by cases hk)
  have h : (!validB B 12 || decide (a < 0) || decide (a ≥ 12)) = false := h
  have hR : RoundsL B c a = ReachL B (othersL B c B.length) a := by
    unfold RoundsL
    rw [if_neg (by rw [h]; decide)]
  rw [hR]
  simp only [Bool.or_eq_false_iff, Bool.not_eq_false', decide_eq_false_iff_not] at h
  have hV := validB_iff.1 h.1.1
  have hol := others_len B c B.length
  have hct := others_fn B hB c (by omega)
  have hO := others_ok B c
  generalize othersL B c B.length = o at *
  have hBl := hV.len
  have h0 : 0 ≤ a := by omega
  have h1 : a < 12 := by omega
  refine .inl ⟨_, _, hct, ?_⟩
  repeat refine Or.inl ?_
  refine ⟨trivial, ?_⟩
  repeat refine Or.inl ?_
  refine ⟨[], LB × List Int, fun x => Dfs B o a x.1 x.2, fun x => [⟨9, [], .so 2⟩], fun x => [⟨1, [], mpIB x.1⟩, ⟨2, [], .row 3 1 x.2.length (rowsI x.2)⟩], fun x => (12 - x.1.length) * 3000 + x.2.length,
    ⟨([], [a]), [], Dfs.init B o a, rfl, rfl, rfl, rfl, rfl, rfl, ⟨⟨rfl, rfl, fun j hj => by cases hj⟩, ⟨rfl, rfl, rfl, fun j hj => by
      have : j = 0 := by
        have hj : j < 1 := hj
        omega
      subst this
      rfl⟩⟩⟩, ?_⟩
  rintro ⟨L, D⟩ hD
  have hD : Dfs B o a L D := hD
  have hLl := node_len hV hO h0 h1 hD.nodup hD.sound
  have hDl := hD.len
  refine .inl ⟨fun hc => ?_, fun hc => ?_⟩
  · have hc : decide ((D.length : Int) > 0) = true := hc
    rw [decide_eq_true_eq] at hc
    have hpos : 0 < D.length := by omega
    have hw : IntKind.i64.wrap ((D.length : Int) - 1) = ((D.length - 1 : Nat) : Int) := by
      rw [wr (by omega) (by omega)]
      omega
    have hX : D.getD (IntKind.i64.wrap ((D.length : Int) - 1)).toNat 0 = D.getD (D.length - 1) 0 := by rw [hw, Int.toNat_natCast]
    have htl : (D.take (D.length - 1)).length = D.length - 1 := by rw [List.length_take]; omega
    have hrow := take_row D (D.length - 1) (by omega)
    repeat refine Or.inl ?_
    refine ⟨⟨by dsimp only; omega, by dsimp only; omega⟩, by dsimp only; omega, ?_⟩
    repeat refine Or.inl ?_
    refine ⟨⟨by first | omega | (dsimp only; omega), by first | omega | (dsimp only; omega), by first | omega | (dsimp only; omega)⟩, ?_⟩
    repeat refine Or.inl ?_
    refine ⟨_, _, ⟨fun _ _ => rfl, rfl, lookOk_mget (L := L) (d := (0, false)) (vf := fun v : Bool => AV.b v) i64_inj (D.getD (IntKind.i64.wrap ((D.length : Int) - 1)).toNat 0) false⟩, ?_⟩
    have hrow2 : AOEq (.row 3 1 (D.take (D.length - 1)).length (rowsI (D.take (D.length - 1)))) (.row 3 1 (IntKind.i64.wrap ((D.length : Int) - 1) - 0).toNat (fun k => rowsI D (k + Int.toNat 0))) := by
      rw [hw, Int.sub_zero, Int.toNat_natCast]
      exact hrow
    refine ⟨fun h2 => ?_, fun h2 => ?_⟩
    · have h2 : (mget L (D.getD (IntKind.i64.wrap ((D.length : Int) - 1)).toNat 0)).getD false = true := h2
      rw [hX, hD.allt, ← mem_mkeys] at h2
      refine ⟨(L, D.take (D.length - 1)), [(2, 3)], hD.seen hpos h2, by dsimp only; rw [htl]; omega, rfl, rfl, rfl, rfl, rfl, rfl, ⟨AOEq.refl _, hrow2⟩⟩
    · have h2 : (mget L (D.getD (IntKind.i64.wrap ((D.length : Int) - 1)).toNat 0)).getD false = false := h2
      have h3 : mget L (D.getD (D.length - 1) 0) = none := by
        rw [hX, hD.allt] at h2
        simpa using h2
      have hJ0 := hD.start hpos h3
      have hms := mset_new h3 true
      rw [← hX] at hJ0 hms
      have hLl2 := node_len hV hO h0 h1 hJ0.nodup hJ0.sound
      rw [hms, List.length_append] at hLl2
      have hLl2 : L.length + 1 ≤ 12 := hLl2
      have hml : (mset L (D.getD (IntKind.i64.wrap ((D.length : Int) - 1)).toNat 0) true).length = L.length + 1 := by rw [hms, List.length_append]; rfl
      refine ⟨_, _, _, _, _, ⟨fun _ _ => rfl, rfl, updOk_mset (L := L) (d := (0, false)) (vf := fun v : Bool => AV.b v) i64_inj (D.getD (IntKind.i64.wrap ((D.length : Int) - 1)).toNat 0) true⟩, ?_⟩
      repeat refine Or.inl ?_
      refine ⟨[], List Int × Nat, fun x => x.2 ≤ o.length ∧ DfsJ B o a (D.getD (IntKind.i64.wrap ((D.length : Int) - 1)).toNat 0) (mset L (D.getD (IntKind.i64.wrap ((D.length : Int) - 1)).toNat 0) true) x.1 x.2, fun x => [⟨51, [], .i .i64 x.2⟩, ⟨9, [], .so 3⟩], fun x => [⟨3, [], .row 3 1 x.1.length (rowsI x.1)⟩], fun x => o.length - x.2,
        ⟨(D.take (D.length - 1), 0), [], ⟨Nat.zero_le _, hJ0⟩, rfl, rfl, rfl, rfl, rfl, ⟨⟨rfl, rfl⟩, rfl⟩, hrow2⟩, ?_⟩
      rintro ⟨D2, k⟩ ⟨hk, hJ⟩
      dsimp only at hk hJ
      have hD2 := hJ.len
      rw [hms, List.length_append] at hD2
      have hD2 : D2.length + 200 ≤ 1 + (L.length + 1) * 200 + k := hD2
      refine .inl ⟨fun hc2 => ?_, fun hc2 => ?_⟩
      · have hc2 := dlt hc2
        have ek : (k : Int).toNat = k := Int.toNat_natCast k
        have w : IntKind.i64.wrap ((k : Int) + 1) = ((k + 1 : Nat) : Int) := wr (by omega) (by omega)
        have hmem : o.getD (k : Int).toNat 0 ∈ o := by rw [ek]; exact getD_memD 0 (by omega)
        have hi := hO _ hmem
        have hnx := hJ.next (by omega)
        have hps := hJ.pass (by omega)
        rw [← ek] at hnx hps
        repeat refine Or.inl ?_
        refine ⟨⟨by omega, by omega⟩, by omega, ?_⟩
        repeat refine Or.inl ?_
        refine ⟨⟨hi.1, hi.2⟩, ⟨fun h4 => ?_, fun h4 => ?_⟩⟩
        · have h4 : ((br B (o.getD (k : Int).toNat 0)).fr == D.getD (IntKind.i64.wrap ((D.length : Int) - 1)).toNat 0) = true := h4
          rw [beq_iff_eq] at h4
          have hnx := hnx h4
          refine ⟨⟨hi.1, hi.2⟩, ?_⟩
          refine ⟨fits (by dsimp only; omega), ?_⟩
          refine ⟨(D2 ++ [(br B (o.getD (k : Int).toNat 0)).to], k + 1), [(3, 5)], ⟨by dsimp only; omega, hnx⟩, by dsimp only; omega, rfl, rfl, rfl, rfl, rfl, ⟨⟨rfl, w⟩, rfl⟩, snocZ_row _ _ rfl⟩
        · have h4 : ((br B (o.getD (k : Int).toNat 0)).fr == D.getD (IntKind.i64.wrap ((D.length : Int) - 1)).toNat 0) = false := h4
          rw [beq_eq_false_iff_ne] at h4
          have hps := hps h4
          exact ⟨(D2, k + 1), [], ⟨by dsimp only; omega, hps⟩, by dsimp only; omega, rfl, rfl, rfl, rfl, rfl, ⟨⟨rfl, w⟩, rfl⟩, same_row rfl⟩
      · have hc2 := dnlt hc2
        obtain rfl : k = o.length := by omega
        exact ⟨(mset L (D.getD (IntKind.i64.wrap ((D.length : Int) - 1)).toNat 0) true, D2), [(2, 3)], hJ.fin (Nat.le_refl _) (by omega), by dsimp only; rw [hml]; omega, rfl, rfl, rfl, rfl, rfl, rfl, ⟨AOEq.refl _, same_row rfl⟩⟩
  · have hc : decide ((D.length : Int) > 0) = false := hc
    rw [decide_eq_false_iff_not] at hc
    obtain rfl : D = [] := List.eq_nil_of_length_eq_zero (by omega)
    have hm := fun v => hD.iff v
    have hw : ∀ v ∈ mkeys L, (Lit.int .i64 v).wf = true := by
      intro v hv
      have := rch_node hV hO h0 h1 ((hm v).1 hv)
      have h2 : (decide (IntKind.i64.min ≤ v) && decide (v ≤ IntKind.i64.max)) = true := by
        have e1 : IntKind.i64.min = -9223372036854775808 := rfl
        have e2 : IntKind.i64.max = 9223372036854775807 := rfl
        rw [e1, e2, Bool.and_eq_true, decide_eq_true_eq, decide_eq_true_eq]
        omega
      exact h2
    have hS : sortI (mkeys L) = ReachL B o a := ascExtR (sortI_ltR hD.nodup) (ReachL_asc B o a) fun v => by rw [sortI_memR, hm, mem_ReachL hV hO h0 h1]
    have hn : (ReachL B o a).length = L.length := by rw [← hS, sortI_length]; simp [mkeys]
    refine .inr (.inr ⟨false, [1], rfl, Unit, _, _, _, _, keys_fn L, fun _ _ => ?_⟩)
    refine .inr (.inr ⟨false, [3, 1], rfl, Unit, _, _, _, _, sorted_fn sortsKeys L hw (fits (by omega)), fun _ _ => ?_⟩)
    exact RetIs.so rfl hn.symm (fun _ _ => by rw [hS]) (fun _ _ => rfl)
end Go.Proofs.Ytklmfkejgjhneaa
