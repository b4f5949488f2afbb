/-
  'poolPlays': at every start, for all arguments, the law 'PoolPlays' returns true, and all reads as before. Conditions: those of the given row alone. The frame was written after the kit's own skeleton; the walk is the evaluator's runs, by a logic of residual programs.
-/
import Derived.Test.YtndlcnfnoiabbaaRows
import Derived.WalkKit
import Derived.ProofKit
import Derived.OpenShut
import Derived.Below
import Derived.Carry
import Derived.Test.YtndlcnfnoiabbaaPoolPlaysRun
namespace Go.Proofs.Ytndlcnfnoiabbaa.poolPlays
open Go.Gev Go.ChangeShapes Go.WideShapes Go.ChangeAt Go.RowKit
set_option linter.unusedVariables false
theorem own' : ownKnob Try.prog.godebug = none := by kernel_rfl
theorem laidOut : laidOutB Try.prog = true := by kernel_rfl
theorem uAS : Try.prog.underlying 24 = some (.slice 40) := by kernel_rfl
theorem uAE : Try.prog.underlying 40 = some (.struct #[{ name := "Op", type := 3, offset := 0, embedded := false, tag := "", pkgPath := "", byteOffset := 0 }, { name := "Client", type := 3, offset := 1, embedded := false, tag := "", pkgPath := "", byteOffset := 8 }, { name := "N", type := 3, offset := 2, embedded := false, tag := "", pkgPath := "", byteOffset := 16 }, { name := "Most", type := 3, offset := 3, embedded := false, tag := "", pkgPath := "", byteOffset := 24 }, { name := "Runs", type := 38, offset := 4, embedded := false, tag := "", pkgPath := "", byteOffset := 32 }]) := by kernel_rfl
theorem uRS : Try.prog.underlying 38 = some (.slice 52) := by kernel_rfl
theorem uRE : Try.prog.underlying 52 = some (.struct #[{ name := "From", type := 3, offset := 0, embedded := false, tag := "", pkgPath := "", byteOffset := 0 }, { name := "Len", type := 3, offset := 1, embedded := false, tag := "", pkgPath := "", byteOffset := 8 }]) := by kernel_rfl
theorem uG : Try.prog.underlying 23 = some (.struct #[{ name := "Blocks", type := 3, offset := 0, embedded := false, tag := "", pkgPath := "", byteOffset := 0 }, { name := "Nodes", type := 3, offset := 1, embedded := false, tag := "", pkgPath := "", byteOffset := 8 }, { name := "Clients", type := 3, offset := 2, embedded := false, tag := "", pkgPath := "", byteOffset := 16 }, { name := "Book", type := 3, offset := 3, embedded := false, tag := "", pkgPath := "", byteOffset := 24 }]) := by kernel_rfl
theorem cI : Try.prog.cellsOf 3 = 1 := by kernel_rfl
set_option maxRecDepth 100000 in
theorem lifted (os : Os) (started : os.Started) (H : Type) (enc : TypeId × Value → H) :
 ReturnsInHanded {} Try.checked os 3 .any (Rows.poolPlaysSpec.pre6 enc Try.prog Try.f3 Rows.poolPlaysRow.domain false) (Rows.poolPlaysSpec.post enc Try.prog Try.f3 false true false false) := by
 refine returnsInHanded_of_change (C := Try.checked) own' started (by kernel_rfl) Try.func3
  (ChangeSpec.witness6 (enc := enc) (C := Try.checked) false ⟨#[], #[.agg #[.int .i64 0, .int .i64 0, .int .i64 0, .int .i64 0], .slice none 0 0], []⟩ 8 (by kernel_rfl) (by kernel_rfl) (by kernel_rfl) (by kernel_rfl)) ?_
 intro W base args ds gs before hval0 hW hcnd _
 have hval : ∀ (j : Nat) t v, Try.f3.params[j]? = some t → args[j]? = some v → Value.okWide Try.prog W .any base t v := hval0
 have hW' := hW
 obtain ⟨p, q, hA0, hV, rfl, hfz, hnd⟩ := hW
 have hA : DataW.TrodAll enc Try.prog W 0 (fun _ => true) true Try.f3.params.toList args.toList ds p := hA0
 rw [Try.params3] at hA hval
 obtain ⟨v0, vs0, d0, ds0, p0, q0, hargs, rfl, rfl, h0, r0⟩ := trodAll_cons hA
 obtain ⟨v1, vs1, d1, ds1, p1, q1, rfl, rfl, rfl, h1, r1⟩ := trodAll_cons r0
 obtain ⟨rfl, rfl, rfl⟩ := trodAll_nil r1
 obtain rfl : args = #[v0, v1] := by cases args; simp_all
 obtain ⟨rfl, rfl⟩ := trodVars_none hV
 clear hA0 hval0
 simp only [List.append_nil] at hW'
 have hlt : ∀ x ∈ p0 ++ p1, x.block < W.heap.size := fun x hx => by simpa using hW'.lt x hx
 have h0k := h0
 obtain ⟨fuel0, h0⟩ := h0
 obtain ⟨cs0, rfl, _⟩ := okWide_struct uG (hval 0 23 v0 rfl rfl)
 rw [show (Value.agg cs0).cells.toList = cs0.toList from rfl] at h0
 obtain ⟨b0, n0, c0, k0, hcs0⟩ := open_four uG (by kernel_rfl) Try.underlying3 Try.underlying3 Try.underlying3 Try.underlying3 cI cI cI cI rfl rfl rfl rfl h0
 obtain rfl : cs0 = #[.int .i64 b0, .int .i64 n0, .int .i64 c0, .int .i64 k0] := by
  have := congrArg List.toArray hcs0
  simpa using this
 have h1k := h1
 obtain ⟨fuel1, h1⟩ := h1
 have hv1 : IsActs W v1 := by
  obtain ⟨a, len, cap, rfl⟩ := okWide_slice uAS (hval 1 24 v1 rfl rfl)
  rw [show (Value.slice a len cap).cells.toList = [.slice a len cap] from rfl] at h1
  exact acts_of uAS uAE Try.underlying3 Try.underlying3 Try.underlying3 Try.underlying3 uRS uRE Try.underlying3 Try.underlying3 (by kernel_rfl) cI cI rfl rfl (by kernel_rfl) cI cI cI cI (by kernel_rfl) rfl rfl rfl rfl rfl h1
 refine (called W b0 n0 c0 k0 v1 hv1).mono fun z W' ⟨he, hg⟩ => ?_
 subst he
 exact ⟨_, rfl, _, _, _, [], _, [], hW', trodAll_mk1 (shut_bool Try.underlying4 _), (trodAll_cons_mk (Below.trod laidOut (by kernel_rfl) (of_decide_eq_true (by kernel_rfl)) h0k hg (fun x hx => hlt x (List.mem_append_left _ hx))) (trodAll_cons_mk (Below.trod laidOut (by kernel_rfl) (of_decide_eq_true (by kernel_rfl)) h1k hg (fun x hx => hlt x (List.mem_append_right _ hx))) trodAll_mk0)), rfl, hg.frame _, fun h => by cases h⟩
theorem over : Rows.poolPlaysRow.holds Try.pinned (OpenSpec.ofChange Rows.poolPlaysSpec) :=
 OpenClaim.holds_of_wide 3 Try.f3 rfl rfl rfl rfl rfl rfl rfl ⟨rfl, rfl, rfl, rfl, rfl⟩ rfl rfl rfl rfl rfl (by kernel_rfl) Try.func3 (by kernel_rfl)
  (of_decide_eq_true (by kernel_rfl)) (by unfold Func.isWrapper; first | (rw [if_pos (by decide +kernel)]; kernel_rfl) | (rw [if_neg (by decide +kernel)]; exact ⟨rfl, rfl⟩))
  (fun os started H enc _ => lifted os started H enc)
/-- ████ THE STATEMENT ████ -/
theorem proved : Rows.PoolPlaysSaid :=
 over
#print axioms proved
end Go.Proofs.Ytndlcnfnoiabbaa.poolPlays
