/-
  'imageMakes': at every start, for all arguments, the law 'ImageMakes' returns true, and all reads as before. Conditions: those of the given row alone. The frame was written after the kit's own skeleton; the walk is the evaluator's runs, by a logic of residual programs.
-/
import Derived.Test.YtdgcebfncbmbfaaGreatDoorRows
import Derived.Test.YtdgcebfncbmbfaaGreatDoorCards
import Derived.Test.YtdgcebfncbmbfaaGreatDoorTie
import Derived.SevenTiedAt
import Derived.Lay
import Derived.LaidMore
import Derived.MakeChecks
import Derived.WalkKit
import Derived.ProofKit
import Derived.OpenShut
import Derived.Below
import Derived.Carry
import Derived.Test.YtdgcebfncbmbfaaGreatDoorImageMakesRun
namespace Go.Proofs.YtdgcebfncbmbfaaGreatDoor.imageMakes
open Go.Gev Go.ChangeShapes Go.WideShapes Go.ChangeAt Go.RowKit
set_option linter.unusedVariables false
theorem own' : ownKnob Tryz.prog.godebug = none := by kernel_rfl
theorem laidOut : laidOutB Tryz.prog = true := by kernel_rfl
theorem uG : Tryz.prog.underlying 23 = some (.struct #[{ name := "Blocks", type := 3, offset := 0, embedded := false, tag := "", pkgPath := "", byteOffset := 0 }, { name := "Nodes", type := 3, offset := 1, embedded := false, tag := "", pkgPath := "", byteOffset := 8 }, { name := "Clients", type := 3, offset := 2, embedded := false, tag := "", pkgPath := "", byteOffset := 16 }, { name := "Book", type := 3, offset := 3, embedded := false, tag := "", pkgPath := "", byteOffset := 24 }]) := by kernel_rfl
theorem cI : Tryz.prog.cellsOf 3 = 1 := by kernel_rfl
/-- the variables can be laid so -/
theorem b_y (os : Os) : laidMetH Tryz.prog Rows.imageMakesRow.laid ((World.laidAll Tryz.prog os Rows.imageMakesRow.laid).forCall (fun _ _ => 0) ⟨#[], #[.agg #[.int .i64 0, .int .i64 0, .int .i64 0, .int .i64 0]], []⟩).memory := by
 rw [MakeChecks.laidMetH_plain _ _ _ (by kernel_rfl)]
 exact laidMet_laidAll #[.agg #[.int .i64 0, .int .i64 0, .int .i64 0, .int .i64 0]] (by kernel_rfl) (by kernel_rfl)
set_option maxRecDepth 100000 in
theorem lifted (os : Os) (started : os.Started) (H : Type) (enc : TypeId × Value → H) :
 ReturnsInHanded {} Tryz.checked os 3 .any (fun w args => (Rows.imageMakesSpec.pre enc Tryz.prog Tryz.f3 [] false w args ∧ laidMetH Tryz.prog Rows.imageMakesRow.laid w) ∧ sizedMet enc Tryz.prog Tryz.f3 (OpenSpec.ofChange Rows.imageMakesSpec) false w args)
  (Rows.imageMakesSpec.post enc Tryz.prog Tryz.f3 false true false false) := by
 refine returnsInHanded_of_change_and (C := Tryz.checked) (X := fun w _ => laidMetH Tryz.prog Rows.imageMakesRow.laid w) (fun _ _ _ hh h => h.of_heap hh) own' started (by kernel_rfl) Tryz.func3
  (ChangeSpec.witness_at (enc := enc) (C := Tryz.checked) (os := os) (X := fun w _ => laidMetH Tryz.prog Rows.imageMakesRow.laid w) false (World.laidAll Tryz.prog os Rows.imageMakesRow.laid) #[.agg #[.int .i64 0, .int .i64 0, .int .i64 0, .int .i64 0]] 8 (World.laidAll_os _ _ _) (by kernel_rfl) (by kernel_rfl) (by kernel_rfl) (by kernel_rfl) (by kernel_rfl) (b_y os)) ?_
 intro W base args ds gs before hval0 hW _ _ hX _
 have hval : ∀ (j : Nat) t v, Tryz.f3.params[j]? = some t → args[j]? = some v → Value.okWide Tryz.prog W .any base t v := hval0
 have hW' := hW
 obtain ⟨p, q, hA0, hV, rfl, hfz, hnd⟩ := hW
 have hA : DataW.TrodAll enc Tryz.prog W 0 (fun _ => true) true Tryz.f3.params.toList args.toList ds p := hA0
 rw [Tryz.params3] at hA hval
 obtain ⟨v0, vs0, d0, ds0, p0, q0, hargs, rfl, rfl, h0, r0⟩ := trodAll_cons hA
 obtain ⟨rfl, rfl, rfl⟩ := trodAll_nil r0
 obtain rfl : args = #[v0] := by cases args; simp_all
 obtain ⟨rfl, rfl⟩ := trodVars_none hV
 clear hA0 hval0
 simp only [List.append_nil] at hW'
 have hlt : ∀ x ∈ p0, x.block < W.heap.size := fun x hx => by simpa using hW'.lt x hx
 have h0k := h0
 obtain ⟨fuel0, h0⟩ := h0
 obtain ⟨cs0, rfl, _⟩ := okWide_struct uG (hval 0 23 v0 rfl rfl)
 rw [show (Value.agg cs0).cells.toList = cs0.toList from rfl] at h0
 obtain ⟨b0, n0, c0, k0, hcs0⟩ := V_w uG (by kernel_rfl) Tryz.underlying3 Tryz.underlying3 Tryz.underlying3 Tryz.underlying3 cI cI cI cI rfl rfl rfl rfl h0
 obtain rfl : cs0 = #[.int .i64 b0, .int .i64 n0, .int .i64 c0, .int .i64 k0] := by
  have := congrArg List.toArray hcs0
  simpa using this
 refine (called W b0 n0 c0 k0).mono fun z W' ⟨he, hg⟩ => ?_
 subst he
 exact ⟨_, rfl, _, _, _, [], _, [], hW', trodAll_mk1 (shut_bool Tryz.underlying4 _), (trodAll_cons_mk (Below.trod laidOut (by kernel_rfl) (of_decide_eq_true (by kernel_rfl)) h0k hg hlt) trodAll_mk0), rfl, hg.frame _, fun h => by cases h⟩
theorem C_2 {a b : Bool} (ha : a = true) (hb : b = true) : (a && b) = true := by rw [ha, hb]; rfl
theorem N_4 : (Rows.imageMakesRow.inPlace == Tryz.prog.inPlace 3) = true := by kernel_rfl
theorem K_f : (Rows.imageMakesRow.unfollowed == Tryz.prog.unfollowed 3) = true := by kernel_rfl
theorem L_6 : (Rows.imageMakesRow.recurses == Tryz.prog.recurses 3) = true := by kernel_rfl
theorem U_g : (Rows.imageMakesRow.named == Tryz.prog.varsNamed 3) = true := by kernel_rfl
theorem K_o : (Rows.imageMakesRow.plainKeys == Tryz.prog.plainKeys) = true := by kernel_rfl
theorem J_w : Tryz.prog.stopsHeard = true := by kernel_rfl
theorem M_j : Tryz.prog.mayEnter = true := by kernel_rfl
theorem P_f : (Rows.imageMakesRow.lifted == Tryz.prog.liftsFinal) = true := by kernel_rfl
theorem joined : joinedFacts Tryz.prog 3 Tryz.f3 Rows.imageMakesSpec Rows.imageMakesRow = true := by
 unfold joinedFacts
 exact (C_2 (C_2 (C_2 (C_2 (C_2 (C_2 (C_2 (C_2 (C_2 (C_2 (C_2 (C_2 (C_2 (C_2 (C_2 (C_2 (C_2 (C_2 (C_2 (C_2 (C_2 (C_2 (C_2 (C_2 (C_2 (C_2 (C_2 (C_2 (C_2 (C_2 (C_2 (by kernel_rfl) (by kernel_rfl)) (by kernel_rfl)) (by kernel_rfl)) (by kernel_rfl)) (by kernel_rfl)) (by kernel_rfl)) (by kernel_rfl)) (by kernel_rfl)) N_4) K_f) L_6) U_g) (by kernel_rfl)) (by kernel_rfl)) (by kernel_rfl)) (by kernel_rfl)) (by kernel_rfl)) (by kernel_rfl)) (by kernel_rfl)) (by kernel_rfl)) (by kernel_rfl)) K_o) (by kernel_rfl)) J_w) M_j) P_f) (by kernel_rfl)) (by kernel_rfl)) (by kernel_rfl)) (by kernel_rfl)) (by kernel_rfl))
theorem over : Rows.imageMakesRow.holds Tryz.pinned (OpenSpec.ofChange Rows.imageMakesSpec) :=
 OpenClaim.holds_of_wide 3 Tryz.f3 rfl rfl rfl rfl rfl rfl rfl ⟨rfl, rfl, rfl, rfl, rfl⟩ rfl rfl rfl rfl rfl (by kernel_rfl) Tryz.func3 joined
  (of_decide_eq_true (by kernel_rfl)) (by unfold Func.isWrapper; first | (rw [if_pos (by decide +kernel)]; kernel_rfl) | (rw [if_neg (by decide +kernel)]; exact ⟨rfl, rfl⟩))
  (fun os started H enc _ => lifted os started H enc)
/-- ████ THE STATEMENT: the row, tied to the program's text ████ -/
theorem proved : Rows.ImageMakesCardSaid :=
 Claim7.holds_tied_plain_at .later [] [.data, .data, .data] true (true, "a79e7143ecd5e63ca7b391ee80d0af31cca3e0e0f0a9e28d57c5d255c1e62aeb") false
  over (fun _ h => by cases h) (by kernel_rfl) (fun _ h => by cases h) imageMakes_row_tie rfl ⟨rfl, rfl⟩ (by kernel_rfl) rfl
  (fun f fn hf hfn => by
   obtain rfl : f = 3 := Option.some.inj ((show Tryz.prog.funcNamed Rows.imageMakesRow.func = some 3 by kernel_rfl).symm.trans hf) |>.symm
   obtain rfl : fn = Tryz.f3 := (Option.some.inj (Tryz.func3.symm.trans hfn)).symm
   exact ⟨by kernel_rfl, fun j t ht => by
    rw [Tryz.params3] at ht
    rcases j with _ | _ | j <;> simp at ht
    all_goals (subst ht; kernel_rfl)⟩)
  (by kernel_rfl)
#print axioms proved
end Go.Proofs.YtdgcebfncbmbfaaGreatDoor.imageMakes
