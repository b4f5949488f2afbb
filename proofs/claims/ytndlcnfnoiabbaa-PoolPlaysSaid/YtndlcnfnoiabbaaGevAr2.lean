/- A slice of numbers as an argument, with the numbers' bound. -/
import Derived.Test.YtndlcnfnoiabbaaGevAr
import Derived.Test.YtndlcnfnoiabbaaGevHos
namespace Go.Gev
open Go.RowKit Go.ChangeShapes
section
variable {H : Type} {enc : TypeId × Value → H} {P : Program} {w : World} {base : Nat} {spare : Nat → Bool} {held : Bool}
end
end Go.Gev
