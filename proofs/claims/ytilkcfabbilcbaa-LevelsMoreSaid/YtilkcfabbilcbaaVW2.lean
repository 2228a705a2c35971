import Derived.Test.YtilkcfabbilcbaaVW1
namespace Go.Proofs.Ytilkcfabbilcbaa
open Go.Eng

def dN : Note := ⟨0, 0, 0, 0, false⟩
def rowsN (l : List Note) (k : Nat) : List AV := (l.getD k dN).av
def low (l : List Note) (b : Bool) (pm pw : Int) : Int := l.foldl (fun a n => if says n b pm pw then max a n.l else a) 0
theorem low_succ (l : List Note) (b : Bool) (pm pw : Int) (k : Nat) (h : k < l.length) : low (l.take (k + 1)) b pm pw = if says (l.getD k dN) b pm pw then max (low (l.take k) b pm pw) (l.getD k dN).l else low (l.take k) b pm pw :=
  foldl_take _ _ l k dN h

set_option maxRecDepth 20000 in
theorem low_fn (l : List Note) (hl : l.length < 2^62) (b : Bool) (pm pw : Int) : Ctr Try.prog 22 [.rs 5 l.length (rowsN l), .b b, .ag [.i .i64 pm, .i .i64 pw]] [] (.i .i64 (low l b pm pw)) := by
  refine fn_of_exec tabOk Try.func22 (by kernel_rfl) rfl (N := Try.f22.ntmps) rfl (res := [.tmp 6]) rfl rfl [] ?_
  refine .inl ⟨[], Nat, fun k => k ≤ l.length, fun k => [⟨12, [], .i .i64 k⟩, ⟨7, [], .i .i64 (low (l.take k) b pm pw)⟩], fun _ => [], fun k => l.length - k,
    ⟨0, [], Nat.zero_le _, rfl, rfl, rfl, rfl, rfl, ⟨⟨rfl, rfl⟩, rfl, rfl⟩, trivial⟩, ?_⟩
  intro k hk
  refine .inl ⟨fun hc => ?_, fun hc => ?_⟩
  · have hc := dlt hc
    have hs := low_succ l b pm pw k (by omega)
    refine .inl ⟨by omega, .inl ⟨[], _, says_fn (l.getD k dN) _ _ _, ⟨fun h => ?_, fun h => ?_⟩⟩⟩
    · refine ⟨k + 1, [], by dsimp only; omega, by dsimp only; omega, rfl, rfl, rfl, rfl, rfl, ⟨⟨rfl, wr (by omega) (by omega)⟩, rfl, ?_⟩, trivial⟩
      rw [hs, h, if_pos rfl]
      rfl
    · refine ⟨k + 1, [], by dsimp only; omega, by dsimp only; omega, rfl, rfl, rfl, rfl, rfl, ⟨⟨rfl, wr (by omega) (by omega)⟩, rfl, ?_⟩, trivial⟩
      rw [hs, h, if_neg (by simp)]
  · have hc := dnlt hc
    refine RetIs.i ?_
    rw [List.take_of_length_le (by omega)]
end Go.Proofs.Ytilkcfabbilcbaa
