/-
  Several texts in one: EngT.
-/
import Derived.Sort.Grow
import Derived.Test.YtnookbebiacaeaaMg9

section
/-
  The engine: a library function that sorts a row of numbers in place.
-/
namespace Go.Eng
open Go.RowKit Go.Sort

section
variable {P : Program}

end
end Go.Eng
end
