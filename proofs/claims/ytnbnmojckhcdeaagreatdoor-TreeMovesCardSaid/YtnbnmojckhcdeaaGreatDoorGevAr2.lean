import Derived.Test.YtnbnmojckhcdeaaGreatDoorGevAr
import Derived.Test.YtnbnmojckhcdeaaGreatDoorGevHos
namespace Go.Gev
open Go.RowKit Go.ChangeShapes
section
variable {H:Type} {enc:TypeId × Value→H} {P:Program} {w:World} {base:Nat} {spare:Nat→Bool} {held:Bool}
end
end Go.Gev
