/-
  Several texts in one: O3.
-/
import Derived.SizedLaws
import Derived.Deep.Slices
import Derived.Test.YtnookbebiacaeaaMg16

section
/-
  The size of a slice that came in.
-/
namespace Go.Proofs.Ytnookbebiacaeaa
open Go.Eng Go.RowKit Go.Deep

end Go.Proofs.Ytnookbebiacaeaa
end
