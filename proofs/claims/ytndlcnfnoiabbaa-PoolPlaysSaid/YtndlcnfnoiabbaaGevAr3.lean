/- Rows of bytes as arguments: each is a frozen row of its own in the memory that the evaluator begins with. -/
import Derived.Test.YtndlcnfnoiabbaaGevAr2
import Derived.Test.YtndlcnfnoiabbaaGevHos
namespace Go.Gev
open Go.RowKit Go.ChangeShapes
section
variable {H : Type} {enc : TypeId × Value → H} {P : Program} {w : World} {base : Nat} {spare : Nat → Bool} {held : Bool}
end
end Go.Gev
