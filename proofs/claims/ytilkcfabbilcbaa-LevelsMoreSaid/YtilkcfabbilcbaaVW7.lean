import Derived.Test.YtilkcfabbilcbaaVW6
namespace Go.Proofs.Ytilkcfabbilcbaa
open Go.Eng

def someL : List Note := [⟨7, 4, 2, 0, false⟩, ⟨5, 4, 4, 0, true⟩]
def moreL : List Note := someL ++ [⟨5, 4, 2, 0, true⟩]
set_option maxRecDepth 20000 in
theorem some_fn : Ctr Try.prog 18 [] [.row 30 5 2 (rowsN someL)] (.so 0) := by
  refine fn_of_exec tabOk Try.func18 (by kernel_rfl) rfl (N := Try.f18.ntmps) rfl (res := [.tmp 0]) rfl rfl [] ?_
  refine RetIs.so rfl rfl ?_ ?_
  · intro k hk
    match k, hk with
    | 0, _ => rfl
    | 1, _ => rfl
  · intro k hk
    match k, hk with
    | 0, _ => rfl
    | 1, _ => rfl

set_option maxRecDepth 20000 in
theorem small_fn : Ctr Try.prog 8 [] [] (.b true) := by
  refine fn_of_exec tabOk Try.func8 (by kernel_rfl) rfl (N := Try.f8.ntmps) rfl (res := [.tmp 0]) rfl rfl [] ?_
  refine .inl ⟨_, _, some_fn, .inl ⟨[], _, Low_fn someL (by decide) true 5 4, ?_⟩⟩
  refine .inl ⟨[], _, fun _ => Low_fn someL (by decide) true 7 4, .inl ⟨[], _, fun _ => Low_fn someL (by decide) true 8 4, .inl ⟨[], _, fun _ => Low_fn someL (by decide) false 5 4, .inl ⟨[], _, fun _ => Low_fn someL (by decide) false 7 4, ?_⟩⟩⟩⟩
  refine .inl ⟨[], _, High_fn someL (by decide) true 5 4, .inl ⟨[], _, fun _ => High_fn someL (by decide) false 7 4, .inl ⟨[], _, fun _ => Right_fn someL (by decide) true, .inl ⟨[], _, fun _ => Right_fn someL (by decide) false, ?_⟩⟩⟩⟩
  refine .inl ⟨_, _, some_fn, ⟨by decide, ?_⟩⟩
  have three : ∀ {g g' : Nat → List AV}, g' 0 = g 0 → g' 1 = g 1 → g' 2 = g 2 → ∀ k, k < 3 → g' k = g k := by
    intro g g' h0 h1 h2 k hk
    match k, hk with
    | 0, _ => exact h0
    | 1, _ => exact h1
    | 2, _ => exact h2
  refine .inl ⟨[], _, fun _ => Ctr.of_eq (args := [.rs 5 moreL.length (rowsN moreL), .b true]) ⟨⟨rfl, rfl, three rfl rfl rfl⟩, rfl⟩ (Right_fn moreL (by decide) true), .inl ⟨[], _, fun _ => Ctr.of_eq (args := [.rs 5 moreL.length (rowsN moreL), .b false]) ⟨⟨rfl, rfl, three rfl rfl rfl⟩, rfl⟩ (Right_fn moreL (by decide) false), ?_⟩⟩
  exact RetIs.b (by decide)

/-- What LevelsTells computes. -/
def tells (l : List Note) (b : Bool) (m w : Int) : Bool :=
  if l.length > 60 then true else Right l b == rRight l b && Low l b m w == Low l b m w && High l m w == High l m w
set_option maxRecDepth 20000 in
theorem tells_fn (l : List Note) (b : Bool) (m w : Int) : Ctr Try.prog 3 [.rs 5 l.length (rowsN l), .b b, .i .i64 m, .i .i64 w] [] (.b (tells l b m w)) := by
  refine fn_of_exec tabOk Try.func3 (by kernel_rfl) rfl (N := Try.f3.ntmps) rfl (res := [.tmp 8]) rfl rfl [] ?_
  refine .inl ⟨[], _, small_fn, .inl ⟨fun h => ?_, fun h => ?_⟩⟩
  · have h : (l.length : Int) > 60 := of_decide_eq_true h
    exact RetIs.b (by unfold tells; rw [if_pos (by omega)])
  · have h : ¬ (l.length : Int) > 60 := of_decide_eq_false h
    have hl : l.length < 2^62 := by omega
    refine .inl ⟨[], _, fun _ => Right_fn l hl b, .inl ⟨[], _, fun _ => rRight_fn l hl b, .inl ⟨[], _, fun _ => Low_fn l hl b m w, .inl ⟨[], _, fun _ => rLow_fn l hl b m w, .inl ⟨[], _, fun _ => High_fn l hl b m w, .inl ⟨[], _, fun _ => rHigh_fn l hl b m w, ?_⟩⟩⟩⟩⟩⟩
    refine RetIs.b ?_
    unfold tells
    rw [if_neg (by omega)]
    simp
end Go.Proofs.Ytilkcfabbilcbaa
