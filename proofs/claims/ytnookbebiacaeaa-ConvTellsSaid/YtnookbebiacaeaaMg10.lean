/-
  Several texts in one: EngS.
-/
import Derived.Lib.SlKeysI
import Derived.Maps.OwnSet
import Derived.Test.YtnookbebiacaeaaMg9

section
/-
  The engine: a library function that hands back a map's keys, sorted.
-/
namespace Go.Eng
open Go.RowKit Go.Maps Go.WideElems

section
variable {P : Program}

def sortI (l : List Int) : List Int := l.mergeSort fun x y => decide (x ≤ y)
theorem sortI_length (l : List Int) : (sortI l).length = l.length := List.length_mergeSort l

end
end Go.Eng
end
