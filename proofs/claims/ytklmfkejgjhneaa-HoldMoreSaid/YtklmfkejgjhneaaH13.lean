/-
  Holds: HoldMore.
-/
import Derived.Test.YtklmfkejgjhneaaH12
namespace Go.Proofs.Ytklmfkejgjhneaa
open Go.Eng

set_option maxRecDepth 20000 in
set_option maxHeartbeats 1000000 in
theorem holdMore_fn (h : List Hld) (l : List Ord) (g : Hld) (o : Ord) (now : Int) :
    Ctr Try.prog 13 [.rs 4 h.length (rowsH h), .rs 4 l.length (rowsO l), .ag g.av, .ag o.av, .i .i64 now] [] (.b true) := by
  refine fn_of_exec tabOk Try.func13 (by kernel_rfl) rfl (N := Try.f13.ntmps) rfl (res := [.tmp 10]) rfl rfl [(6, [.eq 6 (.row 70 4 (h ++ [g]).length (rowsH (h ++ [g])))])] ?_
  refine .inl ⟨[], _, smallH_fn, ?_⟩
  repeat refine Or.inl ?_
  refine ⟨fun hf => RetIs.b rfl, fun hf => ?_⟩
  have hf : (decide ((h.length : Int) > 19) || decide ((l.length : Int) > 19)) = false := hf
  simp only [Bool.or_eq_false_iff, decide_eq_false_iff_not] at hf
  have hh : h.length < 2 ^ 62 := by omega
  have hl : l.length < 2 ^ 62 := by omega
  have hl2 : l.length < 2 ^ 40 := by omega
  have hm : (h ++ [g]).length < 2 ^ 62 := by simp; omega
  have hD1 := Due_len h l now
  have hD2 := Due_len (h ++ [g]) l now
  have hD3 := Due_len h (l ++ [o]) now
  have hD4 := Due_len [] l now
  have hlo : (l ++ [o]).length < 2 ^ 40 := by simp; omega
  have hm2 : (l ++ [o]).length ≤ 20 := by simp; omega
  have cG : Ctr Try.prog 52 [.rs 4 h.length (rowsH h), .rs 4 (0 + l.length + 1) (catG (0 + l.length) (catG 0 (rowOf 4 []) (rowsO l)) (rowOf 4 o.av)), .i .i64 now] [.row 3 1 (Due h (l ++ [o]) now).length (rowsI (Due h (l ++ [o]) now))] (.so 0) :=
    Ctr.of_eq (args := [.rs 4 h.length (rowsH h), .rs 4 (l ++ [o]).length (rowsO (l ++ [o])), .i .i64 now]) ⟨AVEq.refl _, ⟨rfl, by simp, snocO l o⟩, AVEq.refl _⟩ (Due_fn h hh (l ++ [o]) hlo now)
  have cF : Ctr Try.prog 52 [.val (.slice none 0 0), .rs 4 l.length (rowsO l), .i .i64 now] [.row 3 1 (Due [] l now).length (rowsI (Due [] l now))] (.so 0) :=
    Ctr.of_nil (Due_fn [] (by decide) l hl2 now)
  refine .inl ⟨_, _, Due_fn h hh l hl2 now, ?_⟩
  refine ⟨le47 (by omega), ?_⟩
  refine ⟨le47 (by omega), ?_⟩
  refine ⟨⟨rfl, rfl, by simp, snocH h g⟩, ?_⟩
  refine .inl ⟨_, _, Due_fn (h ++ [g]) hm l hl2 now, ?_⟩
  refine ⟨le47 (by omega), ?_⟩
  refine ⟨le47 (by omega), ?_⟩
  repeat refine Or.inl ?_
  refine ⟨_, _, cG, ?_⟩
  have m1 : ∀ k, k ∈ Due (h ++ [g]) l now → Decide (h ++ [g]) l k now ≠ 0 := fun k => mem_Due.1
  have m2 : ∀ k, k ∈ Due (h ++ [g]) l now → k ∈ Due h l now := fun k hk => mem_Due.2 ((more_hold h g l k now).1 (mem_Due.1 hk))
  have m3 : ∀ k, k ∈ Due h l now → k ∈ Due h (l ++ [o]) now := fun k hk => mem_Due.2 (more_ord h l o k now (mem_Due.1 hk))
  have m4 : ∀ x ∈ l, (decide (x.step ≤ now) && decide (x.kind ≥ 0) && decide (x.kind < 4)) = true → x.ev ∈ Due [] l now := fun x hx hc => free_due hx hc
  have m5 := fun k => (more_hold h g l k now).2
  generalize Due h l now = A at *
  generalize Due (h ++ [g]) l now = B at *
  generalize Due h (l ++ [o]) now = C at *
  generalize Due [] l now = E at *
  refine .inl ⟨[], Nat, fun q => q ≤ B.length, fun q => [⟨16, [], .i .i64 q⟩], fun _ => [], fun q => B.length - q,
    ⟨0, [], Nat.zero_le _, rfl, rfl, rfl, rfl, rfl, ⟨rfl, rfl⟩, trivial⟩, ?_⟩
  intro q hq
  have eq : (q : Int).toNat = q := Int.toNat_natCast q
  refine .inl ⟨fun hc => ?_, fun hc => ?_⟩
  · have hc := dlt hc
    have hin : B.getD q 0 ∈ B := getD_mem (by omega)
    repeat refine Or.inl ?_
    refine ⟨⟨by omega, by omega⟩, by omega, ?_⟩
    repeat refine Or.inl ?_
    refine ⟨[], _, in_fn A (by omega) _, fun _ => by omega, fun _ => by omega, ?_⟩
    repeat refine Or.inl ?_
    refine ⟨[], _, fun _ => Decide_fn (h ++ [g]) hm l hl _ now, fun _ => by omega, fun _ => by omega, ?_⟩
    repeat refine Or.inl ?_
    refine ⟨[], _, fun _ => Decide_fn h hh l hl _ now, ⟨fun h2 => ?_, fun h2 => ?_⟩⟩
    · exfalso
      have h2 : (!hasI A (B.getD (q : Int).toNat 0) || (Decide (h ++ [g]) l (B.getD (q : Int).toNat 0) now == 1 && Decide h l (B.getD (q : Int).toNat 0) now != 1)) = true := h2
      rw [eq, hasI_iff.2 (m2 _ hin)] at h2
      simp only [Bool.not_true, Bool.false_or, Bool.and_eq_true, beq_iff_eq, bne_iff_ne] at h2
      exact h2.2 (m5 _ h2.1)
    · exact ⟨q + 1, [], by dsimp only; omega, by dsimp only; omega, rfl, rfl, rfl, rfl, rfl, ⟨rfl, wr (by omega) (by omega)⟩, trivial⟩
  · have hc := dnlt hc
    refine .inl ⟨[], Nat, fun q => q ≤ A.length, fun q => [⟨17, [], .i .i64 q⟩], fun _ => [], fun q => A.length - q,
      ⟨0, [], Nat.zero_le _, rfl, rfl, rfl, rfl, rfl, ⟨rfl, rfl⟩, trivial⟩, ?_⟩
    intro p hp
    have ep : (p : Int).toNat = p := Int.toNat_natCast p
    refine .inl ⟨fun hc => ?_, fun hc => ?_⟩
    · have hc := dlt hc
      have hin : A.getD p 0 ∈ A := getD_mem (by omega)
      repeat refine Or.inl ?_
      refine ⟨⟨by omega, by omega⟩, by omega, ?_⟩
      repeat refine Or.inl ?_
      refine ⟨[], _, in_fn C (by omega) _, ⟨fun h2 => ?_, fun h2 => ?_⟩⟩
      · exfalso
        have h2 : (!hasI C (A.getD (p : Int).toNat 0)) = true := h2
        rw [ep, hasI_iff.2 (m3 _ hin)] at h2
        cases h2
      · exact ⟨p + 1, [], by dsimp only; omega, by dsimp only; omega, rfl, rfl, rfl, rfl, rfl, ⟨rfl, wr (by omega) (by omega)⟩, trivial⟩
    · have hc := dnlt hc
      refine .inl ⟨_, _, cF, ?_⟩
      refine .inl ⟨[], Nat, fun q => q ≤ l.length, fun q => [⟨19, [], .i .i64 q⟩], fun _ => [], fun q => l.length - q,
        ⟨0, [], Nat.zero_le _, rfl, rfl, rfl, rfl, rfl, ⟨rfl, rfl⟩, trivial⟩, ?_⟩
      intro k hk
      have ek : (k : Int).toNat = k := Int.toNat_natCast k
      refine .inl ⟨fun hc => ?_, fun hc => ?_⟩
      · have hc := dlt hc
        have hin : l.getD k dO ∈ l := by simp [List.getD, show k < l.length by omega]
        repeat refine Or.inl ?_
        refine ⟨⟨by omega, by omega⟩, ?_⟩
        repeat refine Or.inl ?_
        refine ⟨[], _, fun _ => in_fn E (by omega) _, ⟨fun h2 => ?_, fun h2 => ?_⟩⟩
        · exfalso
          have h2 : ((decide ((l.getD (k : Int).toNat dO).step ≤ now) && decide ((l.getD (k : Int).toNat dO).kind ≥ 0) && decide ((l.getD (k : Int).toNat dO).kind < 4)) && !hasI E (l.getD (k : Int).toNat dO).ev) = true := h2
          rw [ek, Bool.and_eq_true] at h2
          rw [hasI_iff.2 (m4 _ hin h2.1)] at h2
          cases h2.2
        · exact ⟨k + 1, [], by dsimp only; omega, by dsimp only; omega, rfl, rfl, rfl, rfl, rfl, ⟨rfl, wr (by omega) (by omega)⟩, trivial⟩
      · exact RetIs.b rfl
end Go.Proofs.Ytklmfkejgjhneaa
