/- Arguments that came in: rows of pairs of numbers. -/
import Derived.Test.YtndlcnfnoiabbaaGevSy2
import Derived.ChangeSlices
import Derived.ChangeSame
import Derived.OpenShut
namespace Go.Gev
open Go.ChangeShapes
section
variable {H : Type} {enc : TypeId × Value → H} {P : Program} {w : World} {base : Nat} {spare : Nat → Bool} {held : Bool}
end
section
variable {H : Type} {enc : TypeId × Value → H} {P : Program} {w : World} {base : Nat} {spare : Nat → Bool} {held : Bool}
end
section
variable {H : Type} {enc : TypeId × Value → H} {P : Program} {w : World} {base : Nat} {spare : Nat → Bool} {held : Bool}
theorem open_four {t : TypeId} {f0 f1 f2 f3 : Field} {fuel : Nat} {cs : List Value} {x : DataW H × List MemPlace} (ht : P.underlying t = some (.struct #[f0, f1, f2, f3])) (ct : P.cellsOf t = 4)
 (u0 : P.underlying f0.type = some (.int .i64)) (u1 : P.underlying f1.type = some (.int .i64)) (u2 : P.underlying f2.type = some (.int .i64)) (u3 : P.underlying f3.type = some (.int .i64))
 (c0 : P.cellsOf f0.type = 1) (c1 : P.cellsOf f1.type = 1) (c2 : P.cellsOf f2.type = 1) (c3 : P.cellsOf f3.type = 1)
 (o0 : f0.offset = 0) (o1 : f1.offset = 1) (o2 : f2.offset = 2) (o3 : f3.offset = 3)
 (h : DataW.trod enc P w base spare held fuel t cs = some x) : ∃ a b c d : Int, cs = [.int .i64 a, .int .i64 b, .int .i64 c, .int .i64 d] := by
 obtain ⟨xs, n, _, _, hl, hlen, hf⟩ := DataW.trod_struct ht h
 rw [ct] at hl
 match xs, hlen with
 | [y0, y1, y2, y3], _ =>
  have p0 := hf 0 f0 rfl
  have p1 := hf 1 f1 rfl
  have p2 := hf 2 f2 rfl
  have p3 := hf 3 f3 rfl
  rw [o0, c0] at p0
  rw [o1, c1] at p1
  rw [o2, c2] at p2
  rw [o3, c3] at p3
  obtain ⟨a, q0, _, _⟩ := DataW.trod_int u0 p0
  obtain ⟨b, q1, _, _⟩ := DataW.trod_int u1 p1
  obtain ⟨c, q2, _, _⟩ := DataW.trod_int u2 p2
  obtain ⟨d, q3, _, _⟩ := DataW.trod_int u3 p3
  match cs, hl, q0, q1, q2, q3 with
  | [v0, v1, v2, v3], _, q0, q1, q2, q3 =>
   simp at q0 q1 q2 q3
   subst q0 q1 q2 q3
   exact ⟨a, b, c, d, rfl⟩
end
end Go.Gev
