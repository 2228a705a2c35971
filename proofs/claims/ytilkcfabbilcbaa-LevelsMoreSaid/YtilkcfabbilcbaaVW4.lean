import Derived.Test.YtilkcfabbilcbaaVW3
namespace Go.Proofs.Ytilkcfabbilcbaa
open Go.Eng

def Low (l : List Note) (b : Bool) (m w : Int) : Int := if valid l then low l b m w else 0
def High (l : List Note) (m w : Int) : Int := if valid l then high l m w else 4
set_option maxRecDepth 20000 in
theorem Low_fn (l : List Note) (hl : l.length < 2^62) (b : Bool) (m w : Int) : Ctr Try.prog 11 [.rs 5 l.length (rowsN l), .b b, .i .i64 m, .i .i64 w] [] (.i .i64 (Low l b m w)) := by
  refine fn_of_exec tabOk Try.func11 (by kernel_rfl) rfl (N := Try.f11.ntmps) rfl (res := [.tmp 8]) rfl rfl [] ?_
  refine .inl (.inl ⟨[], _, valid_fn l hl, ⟨fun h => ?_, fun h => .inl ⟨[], _, low_fn l hl b m w, ?_⟩⟩⟩)
  · exact RetIs.i (by simp at h; simp [Low, h])
  · exact RetIs.i (by simp at h; simp [Low, h])
set_option maxRecDepth 20000 in
theorem High_fn (l : List Note) (hl : l.length < 2^62) (b : Bool) (m w : Int) : Ctr Try.prog 13 [.rs 5 l.length (rowsN l), .b b, .i .i64 m, .i .i64 w] [] (.i .i64 (High l m w)) := by
  refine fn_of_exec tabOk Try.func13 (by kernel_rfl) rfl (N := Try.f13.ntmps) rfl (res := [.tmp 8]) rfl rfl [] ?_
  refine .inl (.inl ⟨[], _, valid_fn l hl, ⟨fun h => ?_, fun h => .inl ⟨[], _, high_fn l hl m w, ?_⟩⟩⟩)
  · exact RetIs.i (by simp at h; simp [High, h])
  · exact RetIs.i (by simp at h; simp [High, h])

def bad (l : List Note) (b : Bool) (n : Note) : Bool := n.n && decide (low l b n.m n.w > high l n.m n.w)
set_option maxRecDepth 20000 in
theorem right1_fn (l : List Note) (hl : l.length < 2^62) (b : Bool) (n : Note) : Ctr Try.prog 21 [.ag n.av, .rp [.rs 5 l.length (rowsN l)], .rp [.b b]] [] (.b (bad l b n)) := by
  refine fn_of_exec tabOk Try.func21 (by kernel_rfl) rfl (N := Try.f21.ntmps) rfl (res := [.tmp 4]) rfl rfl [] ?_
  refine .inl ⟨[], _, fun _ => low_fn l hl b _ _, .inl ⟨[], _, fun _ => high_fn l hl _ _, ?_⟩⟩
  exact RetIs.b rfl
end Go.Proofs.Ytilkcfabbilcbaa
