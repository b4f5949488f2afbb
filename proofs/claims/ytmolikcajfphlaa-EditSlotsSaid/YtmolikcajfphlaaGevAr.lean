/- Arguments that came in: rows of pairs of numbers. -/
import Derived.Test.YtmolikcajfphlaaGevSy2
import Derived.ChangeSlices
import Derived.ChangeSame
import Derived.OpenShut
namespace Go.Gev
open Go.ChangeShapes
theorem add_one (a : Addr) (i : Nat) : (a.add i).add 1 = a.add (i + 1) := by
 by_cases h : i = 0
 ·subst h; simp [Addr.add]
 ·simp [Addr.add, h, Nat.add_assoc]
section
variable {H : Type} {enc : TypeId × Value → H} {P : Program} {w : World} {base : Nat} {spare : Nat → Bool} {held : Bool}
end
section
variable {H : Type} {enc : TypeId × Value → H} {P : Program} {w : World} {base : Nat} {spare : Nat → Bool} {held : Bool}
end
section
variable {H : Type} {enc : TypeId × Value → H} {P : Program} {w : World} {base : Nat} {spare : Nat → Bool} {held : Bool}
end
end Go.Gev
