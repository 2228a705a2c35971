/-
  TopDelivered returns true whatever the input, and the input reads behind the call as it read before, where the three listed tables of Go's library hold what the program's text lays: a part of the proof.
-/
import Derived.Shelf.Strconv.Itoa3
import Derived.Shelf.Strings.Search1
import Derived.Test.YtpnjmojpeaegoaaGreatDoorN21
set_option linter.unusedSimpArgs false
set_option linter.unusedVariables false
namespace Go.Proofs.YtpnjmojpeaegoaaGreatDoor
open Go.Eng Go.RowKit Go.Shelf
def BH:Go.Shelf.Ren:=⟨fun|171=>342|243=>359|246=>368|283=>371|284=>372|285=>373|286=>374|129=>176|317=>376|318=>377|319=>378|320=>379|337=>384|338=>385|n=>n,fun|3=>3|9=>9|2=>2|4=>4|171=>459|0=>0|53=>296|37=>461|5=>5|173=>462|212=>466|51=>294|20=>20|213=>467|46=>196|232=>471|233=>472|n=>n,fun|17=>0|18=>2|19=>3|n=>n⟩
theorem aDz:Go.Proofs.LaysM.n171 Tryz.prog BH:=by constructor<;>first|kernel_rfl|(intro _;kernel_rfl)|(constructor<;>first|kernel_rfl|(intro _;kernel_rfl))
def BI:Go.Shelf.Ren:=⟨fun|217=>380|266=>386|n=>n,fun|9=>9|5=>5|3=>3|n=>n,fun|n=>n⟩
theorem aE0:Go.Proofs.Lays.n217 Tryz.prog BI:=by constructor<;>first|kernel_rfl|(intro _;kernel_rfl)
end Go.Proofs.YtpnjmojpeaegoaaGreatDoor
