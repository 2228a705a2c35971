import Derived.Test.YtilkcfabbilcbaaVTab
namespace Go.Proofs.Ytilkcfabbilcbaa
open Go.Eng

theorem in_fn (n a b : Int) : Ctr Try.prog 24 [.i .i64 n, .i .i64 a, .i .i64 b] [] (.b (decide (n ≥ a) && decide (n ≤ b))) := by
  refine fn_of_exec tabOk Try.func24 (by kernel_rfl) rfl (N := Try.f24.ntmps) rfl (res := [.tmp 6]) rfl rfl [] ?_
  exact RetIs.b rfl

theorem between_fn (n a b : Int) : Ctr Try.prog 26 [.i .i64 n, .i .i64 a, .i .i64 b] [] (.b (decide (a ≤ n) && decide (n ≤ b))) := by
  refine fn_of_exec tabOk Try.func26 (by kernel_rfl) rfl (N := Try.f26.ntmps) rfl (res := [.tmp 6]) rfl rfl [] ?_
  exact RetIs.b rfl

structure Note where
  m : Int
  w : Int
  l : Int
  s : Int
  n : Bool
def Note.av (n : Note) : List AV := [.i .i64 n.m, .i .i64 n.w, .i .i64 n.l, .i .i64 n.s, .b n.n]

def says (n : Note) (b : Bool) (pm pw : Int) : Bool := !n.n && n.w == pw && (n.m == pm || b && decide (n.m > pm))
set_option maxRecDepth 20000 in
theorem says_fn (n : Note) (b : Bool) (pm pw : Int) : Ctr Try.prog 28 [.ag n.av, .b b, .ag [.i .i64 pm, .i .i64 pw]] [] (.b (says n b pm pw)) := by
  refine fn_of_exec tabOk Try.func28 (by kernel_rfl) rfl (N := Try.f28.ntmps) rfl (res := [.tmp 6]) rfl rfl [] ?_
  exact RetIs.b rfl

def vnote (n : Note) : Bool := (decide (0 ≤ n.m) && decide (n.m ≤ 99999)) && (decide (0 ≤ n.w) && decide (n.w ≤ 1999)) && (decide (1 ≤ n.l) && decide (n.l ≤ 4)) && (decide (0 ≤ n.s) && decide (n.s ≤ 1073741824))
end Go.Proofs.Ytilkcfabbilcbaa
