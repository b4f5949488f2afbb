/-
  'runsAll': at every start, for all rows of runs, the law 'RunsAll' returns true, and the row reads as before. Conditions: those of the given row alone. The frame was written after the kit's own skeleton; the walk is the evaluator's runs, by induction over the loops.
-/
import Derived.Test.YtcejpcbhbnklaaaRows
import Derived.WalkKit
import Derived.ProofKit
import Derived.OpenShut
import Derived.Below
import Derived.Carry
import Derived.Test.YtcejpcbhbnklaaaRunsAllRun
namespace Go.Proofs.Ytcejpcbhbnklaaa.runsAll
open Go.Gev Go.ChangeShapes Go.WideShapes Go.ChangeAt Go.RowKit
set_option linter.unusedVariables false

theorem own : ownKnob Try.prog.godebug = none := by kernel_rfl
theorem laidOut : laidOutB Try.prog = true := by kernel_rfl
theorem u22 : Try.prog.underlying 22 = some (.slice 25) := by kernel_rfl
theorem u25 : Try.prog.underlying 25 = some (.struct #[{ name := "From", type := 3, offset := 0, embedded := false, tag := "", pkgPath := "", byteOffset := 0 }, { name := "Len", type := 3, offset := 1, embedded := false, tag := "", pkgPath := "", byteOffset := 8 }]) := by kernel_rfl

set_option maxRecDepth 100000 in
theorem lifted (os : Os) (started : os.Started) (H : Type) (enc : TypeId × Value → H) :
    ReturnsInHanded {} Try.checked os 3 .any (Rows.runsAllSpec.pre6 enc Try.prog Try.f3 Rows.runsAllRow.domain false) (Rows.runsAllSpec.post enc Try.prog Try.f3 false true false false) := by
  refine returnsInHanded_of_change (C := Try.checked) own started (by kernel_rfl) Try.func3
    (ChangeSpec.witness6 (enc := enc) (C := Try.checked) false ⟨#[], #[.slice none 0 0], []⟩ 8 (by kernel_rfl) (by kernel_rfl) (by kernel_rfl) (by kernel_rfl)) ?_
  intro W base args ds gs before hval0 hW hcnd _
  have hW' := hW
  obtain ⟨p, q, hA0, hV, rfl, hfz, hnd⟩ := hW
  have hA : DataW.TrodAll enc Try.prog W 0 (fun _ => true) true Try.f3.params.toList args.toList ds p := hA0
  rw [Try.params3] at hA
  obtain ⟨v0, vs0, d0, ds0, p0, q0, hargs, rfl, rfl, h0, r0⟩ := trodAll_cons hA
  obtain ⟨rfl, rfl, rfl⟩ := trodAll_nil r0
  obtain rfl : args = #[v0] := by cases args; simp_all
  obtain ⟨rfl, rfl⟩ := trodVars_none hV
  clear hA0
  simp only [List.append_nil] at hW'
  have h0k := h0
  have hlt : ∀ x ∈ p0, x.block < W.heap.size := fun x hx => by simpa using hW'.lt x hx
  obtain ⟨fuel, h0⟩ := h0
  have hv : v0 = .slice none 0 0 ∨ ∃ (a : Addr) (cap : Nat) (L : List (Int × Int)), v0 = .slice (some a) L.length cap ∧ L.length ≤ cap ∧ cap ≤ maxLen ∧
      ∀ i f l, L[i]? = some (f, l) → W.cell? (a.add (i * 2)) = some (.int .i64 f) ∧ W.cell? (a.add (i * 2 + 1)) = some (.int .i64 l) := by
    obtain ⟨a, len, cap, rfl⟩ := okWide_slice u22 (hval0 0 22 v0 (by rw [Try.params3]; rfl) rfl)
    have hc : (Value.slice a len cap).cells.toList = [.slice a len cap] := rfl
    rw [hc] at h0
    rcases open_pairs u22 u25 Try.underlying3 Try.underlying3 (by kernel_rfl) rfl (by kernel_rfl) rfl (by kernel_rfl) h0 with q | ⟨a', cap', L, q, q2, q3, q4⟩
    · injection q with q; exact .inl q
    · injection q with q; exact .inr ⟨a', cap', L, q, q2, q3, q4⟩
  refine (called W v0 hv).mono fun e W' ⟨he, hg⟩ => ?_
  subst he
  exact ⟨_, rfl, _, _, _, [], _, [], hW', trodAll_mk1 (shut_bool Try.underlying4 _), trodAll_mk1 (Below.trod laidOut (by kernel_rfl) (of_decide_eq_true (by kernel_rfl)) h0k hg hlt), rfl, hg.frame _, fun h => by cases h⟩

theorem over : Rows.runsAllRow.holds Try.pinned (OpenSpec.ofChange Rows.runsAllSpec) :=
  OpenClaim.holds_of_wide 3 Try.f3 rfl rfl rfl rfl rfl rfl rfl ⟨rfl, rfl, rfl, rfl, rfl⟩ rfl rfl rfl rfl rfl (by kernel_rfl) Try.func3 (by kernel_rfl)
    (of_decide_eq_true (by kernel_rfl)) (by unfold Func.isWrapper; first | (rw [if_pos (by decide +kernel)]; kernel_rfl) | (rw [if_neg (by decide +kernel)]; exact ⟨rfl, rfl⟩))
    (fun os started H enc _ => lifted os started H enc)

/-- ████ THE STATEMENT ████ -/
theorem proved : Rows.RunsAllSaid :=
  over
#print axioms proved
end Go.Proofs.Ytcejpcbhbnklaaa.runsAll
