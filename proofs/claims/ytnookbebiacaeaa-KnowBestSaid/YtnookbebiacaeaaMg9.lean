/-
  Several texts in one: EngS.
-/
import Derived.Lib.SlKeysI
import Derived.Maps.OwnSet
import Derived.Test.YtnookbebiacaeaaMg8

section
/-
  The engine: a library function that hands back a map's keys, sorted.
-/
namespace Go.Eng
open Go.RowKit Go.Maps Go.WideElems

section
variable {P : Program}

end
end Go.Eng
end
