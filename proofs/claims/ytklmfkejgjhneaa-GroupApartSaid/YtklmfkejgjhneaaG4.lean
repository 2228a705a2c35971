/-
  Groups: Stays, walked.
-/
import Derived.Test.YtklmfkejgjhneaaG3
namespace Go.Proofs.Ytklmfkejgjhneaa
open Go.Eng

set_option maxRecDepth 20000 in
set_option maxHeartbeats 2000000 in
theorem Stays_fn (l : List Ev) (hl : l.length < 1000000) :
    Ctr Try.prog 22 [.rs 12 l.length (rowsE l)] [.row 34 4 (stays (evs l) l.length).length (rowsS (stays (evs l) l.length))] (.so 0) := by
  refine fn_of_exec tabOk Try.func22 (by kernel_rfl) rfl (N := Try.f22.ntmps) rfl (res := [.tmp 2]) rfl rfl [] ?_
  refine .inl ⟨[(3, 34, 4)], Nat × List ((Int × Int) × Int) × (Nat → Nat) × Nat, fun x => x.1 ≤ l.length ∧ OIS (stays (evs l) x.1) x.2.1, fun x => [⟨13, [], .i .i64 x.1⟩, ⟨3, [], .so 1⟩],
    fun x => [⟨0, [], mpP x.2.1 x.2.2.1 x.2.2.2⟩, ⟨1, [], .row 34 4 (stays (evs l) x.1).length (rowsS (stays (evs l) x.1))⟩], fun x => l.length - x.1,
    ⟨(0, [], fun _ => 0, 0), [], ⟨Nat.zero_le _, OIS.empty⟩, rfl, rfl, rfl, rfl, rfl, ⟨⟨rfl, rfl⟩, rfl⟩, ⟨⟨rfl, rfl, fun j hj => by simp at hj⟩, ⟨rfl, rfl, rfl, fun j hj => by cases hj⟩⟩⟩, ?_⟩
  rintro ⟨k, O, born, clock⟩ ⟨hk, hO⟩
  dsimp only at hk hO
  have hsl := stays_len (evs l) k
  refine .inl ⟨fun hc => ?_, fun hc => ?_⟩
  · have hc := dlt hc
    have ek : (k : Int).toNat = k := Int.toNat_natCast k
    have w : IntKind.i64.wrap ((k : Int) + 1) = ((k + 1 : Nat) : Int) := wr (by omega) (by omega)
    have hev : evs l k = l.getD (k : Int).toNat dE := by rw [ek]; rfl
    have gj := go_join hO
    have ge := go_end hO
    have gs := go_skip hO
    have rowEq : stays (evs l) (k + 1) = stays (evs l) k → AOEq (.row 34 4 (stays (evs l) (k + 1)).length (rowsS (stays (evs l) (k + 1)))) (.row 34 4 (stays (evs l) k).length (rowsS (stays (evs l) k))) := fun h => by
      rw [h]
      exact AOEq.refl _
    rw [hev] at gj ge gs
    generalize hE : l.getD (k : Int).toNat dE = E at *
    repeat refine Or.inl ?_
    refine ⟨⟨by omega, by omega⟩, ?_⟩
    repeat refine Or.inl ?_
    rw [hE]
    refine ⟨fun h6 => ?_, fun h6 => ?_⟩
    · have h6 : (E.kind == 6) = true := h6
      have h6 : E.kind = 6 := by simpa using h6
      have hp : plc E = (E.author, E.group) := by unfold plc; rw [if_pos h6]
      rw [hp] at gj ge gs
      repeat refine Or.inl ?_
      refine ⟨_, _, ⟨fun _ _ => rfl, rfl, lookOk_mget (L := O) (d := dP) (vf := fun v : Int => AV.i .i64 v) kfP_inj (E.author, E.group) 0⟩, ?_⟩
      repeat refine Or.inl ?_
      refine ⟨fun h3 => ?_, fun _ => ?_⟩
      · exfalso
        have h3 : (E.kind == 5 && !(mget O (E.author, E.group)).isSome) = true := h3
        rw [h6] at h3
        cases h3
      refine ⟨fun h4 => ?_, fun h4 => ?_⟩
      · have h4 : ((E.kind == 6 || E.kind == 7) && (mget O (E.author, E.group)).isSome) = true := h4
        have h4 := (Bool.and_eq_true_iff.1 h4).2
        obtain ⟨v, hv⟩ := Option.isSome_iff_exists.1 h4
        obtain ⟨q, rfl, hq, hS, hO2⟩ := ge (.inl h6) hv
        have hv0 : (mget O (E.author, E.group)).getD 0 = q := by rw [hv]; rfl
        rw [hv0]
        obtain ⟨born2, hd⟩ := delOk_mdel (kf := kfP) (vf := fun v : Int => AV.i .i64 v) (d := dP) (born := born) h4
        have eq : (q : Int).toNat = q := Int.toNat_natCast q
        refine ⟨⟨by omega, by (dsimp only; omega)⟩, by (dsimp only; omega), ?_⟩
        refine ⟨_, _, _, _, ⟨fun _ _ => rfl, rfl, hd⟩, ?_⟩
        refine ⟨(k + 1, mdel O (E.author, E.group), born2, clock), [], ⟨by dsimp only; omega, hO2⟩, by dsimp only; omega, rfl, rfl, rfl, rfl, rfl, ⟨⟨rfl, w⟩, rfl⟩, ⟨AOEq.refl _, ?_⟩⟩
        have hr := set_rowsS (stays (evs l) k) q k hq _ rfl
        have hv : AOEq (.row 34 4 (stays (evs l) (k + 1)).length (rowsS (stays (evs l) (k + 1)))) (.row 34 4 (stays (evs l) k).length (fun j => if j = (q : Int).toNat then over 3 [.i .i64 k] (rowsS (stays (evs l) k) j) else rowsS (stays (evs l) k) j)) := by
          rw [hS, eq]
          exact ⟨rfl, rfl, by simp, hr⟩
        exact hv
      · have h4 : ((E.kind == 6 || E.kind == 7) && (mget O (E.author, E.group)).isSome) = false := h4
        have h4 : (mget O (E.author, E.group)).isSome = false := by
          rw [h6] at h4
          exact h4
        have hS := gs (fun h => by omega) (fun _ => by simpa using h4)
        have hO2 : OIS (stays (evs l) (k + 1)) O := by rw [hS]; exact hO
        exact ⟨(k + 1, O, born, clock), [], ⟨by dsimp only; omega, hO2⟩, by dsimp only; omega, rfl, rfl, rfl, rfl, rfl, ⟨⟨rfl, w⟩, rfl⟩, ⟨AOEq.refl _, rowEq hS⟩⟩
    · have h6 : (E.kind == 6) = false := h6
      have h6n : E.kind ≠ 6 := by simpa using h6
      have hp : plc E = (E.who, E.group) := by unfold plc; rw [if_neg h6n]
      rw [hp] at gj ge gs
      repeat refine Or.inl ?_
      refine ⟨_, _, ⟨fun _ _ => rfl, rfl, lookOk_mget (L := O) (d := dP) (vf := fun v : Int => AV.i .i64 v) kfP_inj (E.who, E.group) 0⟩, ?_⟩
      repeat refine Or.inl ?_
      refine ⟨fun h3 => ?_, fun h3 => ?_⟩
      · have h3 : (E.kind == 5 && !(mget O (E.who, E.group)).isSome) = true := h3
        rw [Bool.and_eq_true, beq_iff_eq] at h3
        have hn : mget O (E.who, E.group) = none := by simpa using h3.2
        obtain ⟨hS, hO2⟩ := gj h3.1 hn
        refine ⟨_, _, _, _, _, ⟨fun _ _ => rfl, rfl, updOk_new (vf := fun v : Int => AV.i .i64 v) (d := dP) kfP_inj hn ((stays (evs l) k).length : Int)⟩, ?_⟩
        refine ⟨fits (by (dsimp only; omega)), ?_⟩
        refine ⟨(k + 1, mset O (E.who, E.group) ((stays (evs l) k).length : Int), (fun j => if j < O.length then born j else clock), clock + 1), [(1, 5)], ⟨by dsimp only; omega, hO2⟩, by dsimp only; omega, rfl, rfl, rfl, rfl, rfl, ⟨⟨rfl, w⟩, rfl⟩, ⟨AOEq.refl _, ?_⟩⟩
        have hr := snocS (stays (evs l) k) ⟨E.who, E.group, k, -1⟩
        have hv : AOEq (.row 34 4 (stays (evs l) (k + 1)).length (rowsS (stays (evs l) (k + 1)))) (.row 34 4 ((stays (evs l) k).length + 1) (catG (stays (evs l) k).length (rowsS (stays (evs l) k)) (rowOf 4 (Sta.mk E.who E.group k (-1)).av))) := by
          rw [hS]
          exact ⟨rfl, rfl, by simp, hr⟩
        exact hv
      have h3 : (E.kind == 5 && !(mget O (E.who, E.group)).isSome) = false := h3
      have h5 : E.kind = 5 → (mget O (E.who, E.group)).isSome = true := fun h => by
        rw [h] at h3
        simpa using h3
      refine ⟨fun h4 => ?_, fun h4 => ?_⟩
      · have h4 : ((E.kind == 6 || E.kind == 7) && (mget O (E.who, E.group)).isSome) = true := h4
        rw [h6, Bool.false_or, Bool.and_eq_true, beq_iff_eq] at h4
        obtain ⟨v, hv⟩ := Option.isSome_iff_exists.1 h4.2
        obtain ⟨q, rfl, hq, hS, hO2⟩ := ge (.inr h4.1) hv
        have hv0 : (mget O (E.who, E.group)).getD 0 = q := by rw [hv]; rfl
        rw [hv0]
        obtain ⟨born2, hd⟩ := delOk_mdel (kf := kfP) (vf := fun v : Int => AV.i .i64 v) (d := dP) (born := born) h4.2
        have eq : (q : Int).toNat = q := Int.toNat_natCast q
        refine ⟨⟨by omega, by (dsimp only; omega)⟩, by (dsimp only; omega), ?_⟩
        refine ⟨_, _, _, _, ⟨fun _ _ => rfl, rfl, hd⟩, ?_⟩
        refine ⟨(k + 1, mdel O (E.who, E.group), born2, clock), [], ⟨by dsimp only; omega, hO2⟩, by dsimp only; omega, rfl, rfl, rfl, rfl, rfl, ⟨⟨rfl, w⟩, rfl⟩, ⟨AOEq.refl _, ?_⟩⟩
        have hr := set_rowsS (stays (evs l) k) q k hq _ rfl
        have hv : AOEq (.row 34 4 (stays (evs l) (k + 1)).length (rowsS (stays (evs l) (k + 1)))) (.row 34 4 (stays (evs l) k).length (fun j => if j = (q : Int).toNat then over 3 [.i .i64 k] (rowsS (stays (evs l) k) j) else rowsS (stays (evs l) k) j)) := by
          rw [hS, eq]
          exact ⟨rfl, rfl, by simp, hr⟩
        exact hv
      · have h4 : ((E.kind == 6 || E.kind == 7) && (mget O (E.who, E.group)).isSome) = false := h4
        have hS := gs h5 (fun h7 => by
          have h8 : (E.kind == 6 || E.kind == 7) = true := by simpa using h7
          rw [h8] at h4
          simpa using h4)
        have hO2 : OIS (stays (evs l) (k + 1)) O := by rw [hS]; exact hO
        exact ⟨(k + 1, O, born, clock), [], ⟨by dsimp only; omega, hO2⟩, by dsimp only; omega, rfl, rfl, rfl, rfl, rfl, ⟨⟨rfl, w⟩, rfl⟩, ⟨AOEq.refl _, rowEq hS⟩⟩
  · have hc := dnlt hc
    obtain rfl : k = l.length := by omega
    exact RetIs.so rfl rfl (fun _ _ => rfl) (fresh_rowsS _)

theorem endN_ge (e : Nat → Ev) (a g : Int) (i n : Nat) : endN e a g i n = -1 ∨ 0 ≤ endN e a g i n := by
  by_cases h : endN e a g i n = -1
  · exact .inl h
  · obtain ⟨q, h1, _⟩ := endN_some e a g i n h
    right
    omega
def rst (l : List Ev) (k : Nat) : List Sta := (starts (evs l) k).map (mkS (evs l) l.length)
theorem rst_succ (l : List Ev) (k : Nat) : rst l (k + 1) = rst l k ++ if startP (evs l) k = true then [mkS (evs l) l.length k] else [] := by
  unfold rst
  rw [starts_succ, List.map_append]
  split <;> rfl
theorem rst_len (l : List Ev) (k : Nat) : (rst l k).length ≤ k := by
  unfold rst
  rw [List.length_map]
  exact starts_len _ k
set_option maxRecDepth 20000 in
set_option maxHeartbeats 2000000 in
theorem rStays_fn (l : List Ev) (hl : l.length < 1000000) :
    Ctr Try.prog 23 [.rs 12 l.length (rowsE l)] [.row 34 4 (stays (evs l) l.length).length (rowsS (stays (evs l) l.length))] (.so 0) := by
  refine fn_of_exec tabOk Try.func23 (by kernel_rfl) rfl (N := Try.f23.ntmps) rfl (res := [.tmp 2]) rfl rfl [] ?_
  refine .inl ⟨[(3, 34, 4)], Nat, fun k => k ≤ l.length, fun k => [⟨4, [], .i .i64 k⟩, ⟨3, [], .so 0⟩], fun k => [⟨0, [], .row 34 4 (rst l k).length (rowsS (rst l k))⟩], fun k => l.length - k,
    ⟨0, [], Nat.zero_le _, rfl, rfl, rfl, rfl, rfl, ⟨⟨rfl, rfl⟩, rfl⟩, ⟨rfl, rfl, rfl, fun j hj => by cases hj⟩⟩, ?_⟩
  intro k hk
  have hsl := rst_len l k
  refine .inl ⟨fun hc => ?_, fun hc => ?_⟩
  · have hc := dlt hc
    have ek : (k : Int).toNat = k := Int.toNat_natCast k
    have w : IntKind.i64.wrap ((k : Int) + 1) = ((k + 1 : Nat) : Int) := wr (by omega) (by omega)
    have hev : evs l k = l.getD (k : Int).toNat dE := by rw [ek]; rfl
    have hs := rst_succ l k
    have htk : (l.take k).length = k := by simp; omega
    have hIn : inN (evs (l.take k)) (evs l k).who (evs l k).group (l.take k).length = inN (evs l) (evs l k).who (evs l k).group k := by
      rw [htk]
      exact inN_congr (evs_take l k)
    have cIn : Ctr Try.prog 68 [.rs 12 ((k : Int) - 0).toNat (fun q => rowsE l (Int.toNat 0 + q)), .i .i64 (l.getD (k : Int).toNat dE).who, .i .i64 (l.getD (k : Int).toNat dE).group] [] (.b (inN (evs l) (evs l k).who (evs l k).group k)) := by
      rw [← hIn]
      rw [hev]
      exact Ctr.of_eq (args := [.rs 12 (l.take k).length (rowsE (l.take k)), .i .i64 (l.getD (k : Int).toNat dE).who, .i .i64 (l.getD (k : Int).toNat dE).group]) ⟨⟨rfl, by rw [htk]; omega, take_rowsE l k (by omega)⟩, AVEq.refl _, AVEq.refl _⟩
        (In_fn (l.take k) (by omega) _ _)
    have hst : startP (evs l) k = ((evs l k).kind == 5 && !inN (evs l) (evs l k).who (evs l k).group k) := rfl
    have hmk : mkS (evs l) l.length k = ⟨(evs l k).who, (evs l k).group, k, endN (evs l) (evs l k).who (evs l k).group (k + 1) l.length⟩ := rfl
    have hgr := fun (q : Nat) (hq : q ≤ l.length) (h0 : endN (evs l) (evs l k).who (evs l k).group (k + 1) q ≠ -1) => endN_grow (evs l) (evs l k).who (evs l k).group (k + 1) q h0 l.length hq
    have hge := fun (q : Nat) => endN_ge (evs l) (evs l k).who (evs l k).group (k + 1) q
    have h0 := endN_early (evs l) (evs l k).who (evs l k).group (k + 1) (k + 1) (Nat.le_refl _)
    have hsu : ∀ q, endN (evs l) (evs l k).who (evs l k).group (k + 1) (q + 1) = if endN (evs l) (evs l k).who (evs l k).group (k + 1) q = -1 ∧ k + 1 ≤ q ∧ endsP (evs l q) (evs l k).who (evs l k).group = true then (q : Int) else endN (evs l) (evs l k).who (evs l k).group (k + 1) q := fun q => rfl
    rw [hev] at hst hmk hgr hge h0 hsu cIn
    generalize inN (evs l) (l.getD (k : Int).toNat dE).who (l.getD (k : Int).toNat dE).group k = I at *
    repeat refine Or.inl ?_
    refine ⟨⟨by omega, by omega⟩, ?_⟩
    repeat refine Or.inl ?_
    refine ⟨fun _ => ⟨by omega, by omega, by omega⟩, ?_⟩
    repeat refine Or.inl ?_
    refine ⟨[], _, fun _ => cIn, ⟨fun h2 => ?_, fun h2 => ?_⟩⟩
    · have h2 : ((l.getD (k : Int).toNat dE).kind != 5 || I) = true := h2
      have hn : startP (evs l) k = false := by
        rw [hst]
        cases h5 : (l.getD (k : Int).toNat dE).kind == 5
        · rfl
        · have : ((l.getD (k : Int).toNat dE).kind != 5) = false := by simpa using h5
          rw [this, Bool.false_or] at h2
          rw [h2]
          rfl
      rw [hn] at hs
      refine ⟨k + 1, [], by dsimp only; omega, by dsimp only; omega, rfl, rfl, rfl, rfl, rfl, ⟨⟨rfl, w⟩, rfl⟩, ?_⟩
      have hv : AOEq (.row 34 4 (rst l (k + 1)).length (rowsS (rst l (k + 1)))) (.row 34 4 (rst l k).length (rowsS (rst l k))) := by
        rw [hs]
        simp only [Bool.false_eq_true, if_false, List.append_nil]
        exact AOEq.refl _
      exact hv
    have h2 : ((l.getD (k : Int).toNat dE).kind != 5 || I) = false := h2
    have hn : startP (evs l) k = true := by
      rw [Bool.or_eq_false_iff] at h2
      rw [hst, h2.2]
      simpa using h2.1
    rw [hn, if_pos rfl] at hs
    repeat refine Or.inl ?_
    refine ⟨[], Nat, fun q => k + 1 ≤ q ∧ q ≤ l.length, fun q => [⟨7, [], .i .i64 q⟩], fun q => [⟨2, [], .cells 34 [.i .i64 (l.getD (k : Int).toNat dE).who, .i .i64 (l.getD (k : Int).toNat dE).group, .i .i64 k, .i .i64 (endN (evs l) (l.getD (k : Int).toNat dE).who (l.getD (k : Int).toNat dE).group (k + 1) q)]⟩], fun q => l.length - q,
      ⟨k + 1, [], ⟨Nat.le_refl _, by omega⟩, rfl, rfl, rfl, rfl, rfl, ⟨rfl, w⟩, ?_⟩, ?_⟩
    · have hv : AOEq (.cells 34 [.i .i64 (l.getD (k : Int).toNat dE).who, .i .i64 (l.getD (k : Int).toNat dE).group, .i .i64 k, .i .i64 (endN (evs l) (l.getD (k : Int).toNat dE).who (l.getD (k : Int).toNat dE).group (k + 1) (k + 1))]) (.cells 34 [.i .i64 (l.getD (k : Int).toNat dE).who, .i .i64 (l.getD (k : Int).toNat dE).group, .i .i64 k, .i .i64 (-1)]) := by
        rw [h0]
        exact AOEq.refl _
      exact hv
    rintro q ⟨hq1, hq2⟩
    have eq : (q : Int).toNat = q := Int.toNat_natCast q
    have wq : IntKind.i64.wrap ((q : Int) + 1) = ((q + 1 : Nat) : Int) := wr (by omega) (by omega)
    refine .inl ⟨fun h3 => ?_, fun h3 => ?_⟩
    · have h3 : (decide ((q : Int) < l.length) && decide (endN (evs l) (l.getD (k : Int).toNat dE).who (l.getD (k : Int).toNat dE).group (k + 1) q < 0)) = true := h3
      rw [Bool.and_eq_true, decide_eq_true_eq, decide_eq_true_eq] at h3
      have hm1 : endN (evs l) (l.getD (k : Int).toNat dE).who (l.getD (k : Int).toNat dE).group (k + 1) q = -1 := by
        rcases hge q with h | h
        · exact h
        · omega
      have hsq := hsu q
      have hq3 : evs l q = l.getD (q : Int).toNat dE := by rw [eq]; rfl
      have he := endsP_eq (l.getD (q : Int).toNat dE) (l.getD (k : Int).toNat dE).who (l.getD (k : Int).toNat dE).group
      rw [hq3] at hsq
      repeat refine Or.inl ?_
      refine ⟨⟨by omega, by omega⟩, ?_⟩
      repeat refine Or.inl ?_
      refine ⟨[], _, ends_fn (l.getD (q : Int).toNat dE), ?_⟩
      repeat refine Or.inl ?_
      refine ⟨fun _ => ⟨by omega, by omega⟩, ?_⟩
      repeat refine Or.inl ?_
      refine ⟨fun h4 => ?_, fun h4 => ?_⟩
      · have h4 : ((endIs (l.getD (q : Int).toNat dE) && endWho (l.getD (q : Int).toNat dE) == (l.getD (k : Int).toNat dE).who) && (l.getD (q : Int).toNat dE).group == (l.getD (k : Int).toNat dE).group) = true := h4
        have h5 : endsP (l.getD (q : Int).toNat dE) (l.getD (k : Int).toNat dE).who (l.getD (k : Int).toNat dE).group = true := by rw [he, Bool.and_comm]; exact h4
        rw [if_pos ⟨hm1, by omega, h5⟩] at hsq
        refine ⟨q + 1, [], ⟨by omega, by omega⟩, by dsimp only; omega, rfl, rfl, rfl, rfl, rfl, ⟨rfl, wq⟩, ?_⟩
        have hv : AOEq (.cells 34 [.i .i64 (l.getD (k : Int).toNat dE).who, .i .i64 (l.getD (k : Int).toNat dE).group, .i .i64 k, .i .i64 (endN (evs l) (l.getD (k : Int).toNat dE).who (l.getD (k : Int).toNat dE).group (k + 1) (q + 1))]) (.cells 34 [.i .i64 (l.getD (k : Int).toNat dE).who, .i .i64 (l.getD (k : Int).toNat dE).group, .i .i64 k, .i .i64 q]) := by
          rw [hsq]
          exact AOEq.refl _
        exact hv
      · have h4 : ((endIs (l.getD (q : Int).toNat dE) && endWho (l.getD (q : Int).toNat dE) == (l.getD (k : Int).toNat dE).who) && (l.getD (q : Int).toNat dE).group == (l.getD (k : Int).toNat dE).group) = false := h4
        have h5 : endsP (l.getD (q : Int).toNat dE) (l.getD (k : Int).toNat dE).who (l.getD (k : Int).toNat dE).group = false := by rw [he, Bool.and_comm]; exact h4
        rw [if_neg (by rw [h5]; rintro ⟨_, _, h⟩; cases h)] at hsq
        refine ⟨q + 1, [], ⟨by omega, by omega⟩, by dsimp only; omega, rfl, rfl, rfl, rfl, rfl, ⟨rfl, wq⟩, ?_⟩
        have hv : AOEq (.cells 34 [.i .i64 (l.getD (k : Int).toNat dE).who, .i .i64 (l.getD (k : Int).toNat dE).group, .i .i64 k, .i .i64 (endN (evs l) (l.getD (k : Int).toNat dE).who (l.getD (k : Int).toNat dE).group (k + 1) (q + 1))]) (.cells 34 [.i .i64 (l.getD (k : Int).toNat dE).who, .i .i64 (l.getD (k : Int).toNat dE).group, .i .i64 k, .i .i64 (endN (evs l) (l.getD (k : Int).toNat dE).who (l.getD (k : Int).toNat dE).group (k + 1) q)]) := by
          rw [hsq]
          exact AOEq.refl _
        exact hv
    · have h3 : (decide ((q : Int) < l.length) && decide (endN (evs l) (l.getD (k : Int).toNat dE).who (l.getD (k : Int).toNat dE).group (k + 1) q < 0)) = false := h3
      have hfin : endN (evs l) (l.getD (k : Int).toNat dE).who (l.getD (k : Int).toNat dE).group (k + 1) l.length = endN (evs l) (l.getD (k : Int).toNat dE).who (l.getD (k : Int).toNat dE).group (k + 1) q := by
        by_cases hl2 : q = l.length
        · rw [hl2]
        · rw [decide_eq_true (by omega), Bool.true_and, decide_eq_false_iff_not] at h3
          exact hgr q hq2 (by omega)
      refine ⟨fits (by omega), ?_⟩
      refine ⟨k + 1, [(0, 4)], by dsimp only; omega, by dsimp only; omega, rfl, rfl, rfl, rfl, rfl, ⟨⟨rfl, w⟩, rfl⟩, ?_⟩
      have hr := snocS (rst l k) ⟨(l.getD (k : Int).toNat dE).who, (l.getD (k : Int).toNat dE).group, k, endN (evs l) (l.getD (k : Int).toNat dE).who (l.getD (k : Int).toNat dE).group (k + 1) q⟩
      have hv : AOEq (.row 34 4 (rst l (k + 1)).length (rowsS (rst l (k + 1)))) (.row 34 4 ((rst l k).length + 1) (catG (rst l k).length (rowsS (rst l k)) (rowOf 4 (Sta.mk (l.getD (k : Int).toNat dE).who (l.getD (k : Int).toNat dE).group k (endN (evs l) (l.getD (k : Int).toNat dE).who (l.getD (k : Int).toNat dE).group (k + 1) q)).av))) := by
        rw [hs, hmk, hfin]
        exact ⟨rfl, rfl, by simp, hr⟩
      exact hv
  · have hc := dnlt hc
    obtain rfl : k = l.length := by omega
    exact RetIs.so rfl rfl (fun _ _ => rfl) (fresh_rowsS _)
end Go.Proofs.Ytklmfkejgjhneaa
