/-
  'checkShow': at every start, for all findings, the law 'CheckShow' returns true, and both read as before. Conditions: those of the given row alone. The frame was written after the kit's own skeleton.
-/
import Derived.Test.YtbecnapcgehliaaGreatDoorRows
import Derived.Test.YtbecnapcgehliaaGreatDoorCards
import Derived.Test.YtbecnapcgehliaaGreatDoorTie
import Derived.SevenTiedAt
import Derived.Lay
import Derived.LaidMore
import Derived.MakeChecks
import Derived.WalkKit
import Derived.ProofKit
import Derived.OpenShut
import Derived.Below
import Derived.Carry
import Derived.Lib.LaidTab
import Derived.Stop.LaidErr
import Derived.Test.YtbecnapcgehliaaGreatDoorCheckShowRun
import Derived.Test.YtbecnapcgehliaaGreatDoorShow
import Derived.Test.YtbecnapcgehliaaGreatDoorGevAr
namespace Go.Proofs.YtbecnapcgehliaaGreatDoor.checkShow
open Go.Gev Go.ChangeShapes Go.WideShapes Go.ChangeAt Go.RowKit
set_option linter.unusedVariables false

section
variable {H : Type} {enc : TypeId × Value → H} {P : Program} {w : World} {base : Nat} {spare : Nat → Bool} {held : Bool}
/-- a struct of four numbers, each of which fits -/
theorem four_wf {t : TypeId} {f0 f1 f2 f3 : Field} {fuel : Nat} {cs : List Value} {x : DataW H × List MemPlace} (ht : P.underlying t = some (.struct #[f0, f1, f2, f3])) (ct : P.cellsOf t = 4)
    (u0 : P.underlying f0.type = some (.int .i64)) (u1 : P.underlying f1.type = some (.int .i64)) (u2 : P.underlying f2.type = some (.int .i64)) (u3 : P.underlying f3.type = some (.int .i64))
    (c0 : P.cellsOf f0.type = 1) (c1 : P.cellsOf f1.type = 1) (c2 : P.cellsOf f2.type = 1) (c3 : P.cellsOf f3.type = 1)
    (o0 : f0.offset = 0) (o1 : f1.offset = 1) (o2 : f2.offset = 2) (o3 : f3.offset = 3)
    (h : DataW.trod enc P w base spare held fuel t cs = some x) : ∃ a b c d : Int, cs = [.int .i64 a, .int .i64 b, .int .i64 c, .int .i64 d] ∧ shown.fits a ∧ shown.fits b ∧ shown.fits c ∧ shown.fits d := by
  obtain ⟨xs, n, _, _, hl, hlen, hf⟩ := DataW.trod_struct ht h
  rw [ct] at hl
  match xs, hlen with
  | [y0, y1, y2, y3], _ =>
    have p0 := hf 0 f0 rfl
    have p1 := hf 1 f1 rfl
    have p2 := hf 2 f2 rfl
    have p3 := hf 3 f3 rfl
    rw [o0, c0] at p0
    rw [o1, c1] at p1
    rw [o2, c2] at p2
    rw [o3, c3] at p3
    obtain ⟨a, q0, _, w0⟩ := DataW.trod_int u0 p0
    obtain ⟨b, q1, _, w1⟩ := DataW.trod_int u1 p1
    obtain ⟨c, q2, _, w2⟩ := DataW.trod_int u2 p2
    obtain ⟨d, q3, _, w3⟩ := DataW.trod_int u3 p3
    match cs, hl, q0, q1, q2, q3 with
    | [v0, v1, v2, v3], _, q0, q1, q2, q3 =>
      simp at q0 q1 q2 q3
      subst q0 q1 q2 q3
      exact ⟨a, b, c, d, rfl, bounds_i64 w0, bounds_i64 w1, bounds_i64 w2, bounds_i64 w3⟩
end

theorem own : ownKnob Tryz.prog.godebug = none := by kernel_rfl
theorem laidOut : laidOutB Tryz.prog = true := by kernel_rfl
theorem u23 : Tryz.prog.underlying 23 = some (.struct #[{ name := "Pass", type := 3, offset := 0, embedded := false, tag := "", pkgPath := "", byteOffset := 0 }, { name := "Kind", type := 3, offset := 1, embedded := false, tag := "", pkgPath := "", byteOffset := 8 }, { name := "At", type := 3, offset := 2, embedded := false, tag := "", pkgPath := "", byteOffset := 16 }, { name := "More", type := 3, offset := 3, embedded := false, tag := "", pkgPath := "", byteOffset := 24 }]) := by kernel_rfl
theorem k3 : Tryz.prog.cellsOf 3 = 1 := by kernel_rfl
theorem tab_of {W : World} (h : laidMetH Tryz.prog Rows.checkShowRow.laid W) : ∀ w, Below W.heap.size W w → shown.Tab w := by
  rw [MakeChecks.laidMetH_plain _ _ _ (by kernel_rfl)] at h
  have h2 : laidMet Tryz.prog [("internal/strconv.uint64pow10", Lib.tabData .u64 Lib.pow10Tab)] W := h.tail.tail
  have h3 : Lib.TabIs Tryz.prog W "internal/strconv.uint64pow10" .u64 Lib.pow10Tab :=
    Lib.tabIs_of_head (g := 0) (t := 158) (e := 49) (n := 20) (by kernel_rfl) (by kernel_rfl) (by kernel_rfl) (by kernel_rfl) (by kernel_rfl) (by kernel_rfl) h2
  exact fun w hb => Go.Joins.tab_stays (g := 0) (by kernel_rfl) h3 hb (Nat.le_refl _)
/-- the variables can be laid so -/
theorem laid_met (os : Os) : laidMetH Tryz.prog Rows.checkShowRow.laid ((World.laidAll Tryz.prog os Rows.checkShowRow.laid).forCall (fun _ _ => 0) ⟨#[], #[.agg #[.int .i64 0, .int .i64 0, .int .i64 0, .int .i64 0], .agg #[.int .i64 0, .int .i64 0, .int .i64 0, .int .i64 0]], []⟩).memory := by
  rw [MakeChecks.laidMetH_plain _ _ _ (by kernel_rfl)]
  exact laidMet_laidAll #[.agg #[.int .i64 0, .int .i64 0, .int .i64 0, .int .i64 0], .agg #[.int .i64 0, .int .i64 0, .int .i64 0, .int .i64 0]] (by kernel_rfl) (by kernel_rfl)

set_option maxRecDepth 100000 in
theorem lifted (os : Os) (started : os.Started) (H : Type) (enc : TypeId × Value → H) :
    ReturnsInHanded {} Tryz.checked os 3 .any (fun w args => (Rows.checkShowSpec.pre enc Tryz.prog Tryz.f3 [] false w args ∧ laidMetH Tryz.prog Rows.checkShowRow.laid w) ∧ sizedMet enc Tryz.prog Tryz.f3 (OpenSpec.ofChange Rows.checkShowSpec) false w args)
      (Rows.checkShowSpec.post enc Tryz.prog Tryz.f3 false true false false) := by
  refine returnsInHanded_of_change_and (C := Tryz.checked) (X := fun w _ => laidMetH Tryz.prog Rows.checkShowRow.laid w) (fun _ _ _ hh h => h.of_heap hh) own started (by kernel_rfl) Tryz.func3
    (ChangeSpec.witness_at (enc := enc) (C := Tryz.checked) (os := os) (X := fun w _ => laidMetH Tryz.prog Rows.checkShowRow.laid w) false (World.laidAll Tryz.prog os Rows.checkShowRow.laid) #[.agg #[.int .i64 0, .int .i64 0, .int .i64 0, .int .i64 0], .agg #[.int .i64 0, .int .i64 0, .int .i64 0, .int .i64 0]] 8 (World.laidAll_os _ _ _) (by kernel_rfl) (by kernel_rfl) (by kernel_rfl) (by kernel_rfl) (by kernel_rfl) (laid_met os)) ?_
  intro W base args ds gs before hval0 hW _ _ hX _
  have hval : ∀ (j : Nat) t v, Tryz.f3.params[j]? = some t → args[j]? = some v → Value.okWide Tryz.prog W .any base t v := hval0
  have hW' := hW
  obtain ⟨p, q, hA0, hV, rfl, hfz, hnd⟩ := hW
  have hA : DataW.TrodAll enc Tryz.prog W 0 (fun _ => true) true Tryz.f3.params.toList args.toList ds p := hA0
  rw [Tryz.params3] at hA hval
  obtain ⟨v0, vs0, d0, ds0, p0, q0, hargs, rfl, rfl, h0, r0⟩ := trodAll_cons hA
  obtain ⟨v1, vs1, d1, ds1, p1, q1, rfl, rfl, rfl, h1, r1⟩ := trodAll_cons r0
  obtain ⟨rfl, rfl, rfl⟩ := trodAll_nil r1
  obtain rfl : args = #[v0, v1] := by cases args; simp_all
  obtain ⟨rfl, rfl⟩ := trodVars_none hV
  clear hA0 hval0
  simp only [List.append_nil] at hW'
  have h0k := h0
  have h1k := h1
  have hlt : ∀ x ∈ p0 ++ p1, x.block < W.heap.size := fun x hx => by simpa using hW'.lt x hx
  obtain ⟨fuel0, h0⟩ := h0
  obtain ⟨cs0, rfl, _⟩ := okWide_struct u23 (hval 0 23 v0 rfl rfl)
  rw [show (Value.agg cs0).cells.toList = cs0.toList from rfl] at h0
  obtain ⟨a, b, c, d, hcs0, fa, fb, fc, fd⟩ := four_wf u23 (by kernel_rfl) Tryz.underlying3 Tryz.underlying3 Tryz.underlying3 Tryz.underlying3 k3 k3 k3 k3 rfl rfl rfl rfl h0
  obtain rfl : cs0 = #[.int .i64 a, .int .i64 b, .int .i64 c, .int .i64 d] := by
    have := congrArg List.toArray hcs0
    simpa using this
  obtain ⟨fuel1, h1⟩ := h1
  obtain ⟨cs1, rfl, _⟩ := okWide_struct u23 (hval 1 23 v1 rfl rfl)
  rw [show (Value.agg cs1).cells.toList = cs1.toList from rfl] at h1
  obtain ⟨e, f, g, i, hcs1, fe, ff, fg, fi⟩ := four_wf u23 (by kernel_rfl) Tryz.underlying3 Tryz.underlying3 Tryz.underlying3 Tryz.underlying3 k3 k3 k3 k3 rfl rfl rfl rfl h1
  obtain rfl : cs1 = #[.int .i64 e, .int .i64 f, .int .i64 g, .int .i64 i] := by
    have := congrArg List.toArray hcs1
    simpa using this
  refine (shown.root_C called a b c d e f g i fa fb fc fd fe ff fg fi W (tab_of hX)).mono fun z W' ⟨he, hg⟩ => ?_
  subst he
  exact ⟨_, rfl, _, _, _, [], _, [], hW', trodAll_mk1 (shut_bool Tryz.underlying4 _), trodAll_cons_mk (Below.trod laidOut (by kernel_rfl) (of_decide_eq_true (by kernel_rfl)) h0k hg (fun x hx => hlt x (List.mem_append_left _ hx))) (trodAll_cons_mk (Below.trod laidOut (by kernel_rfl) (of_decide_eq_true (by kernel_rfl)) h1k hg (fun x hx => hlt x (List.mem_append_right _ hx))) trodAll_mk0), rfl, hg.frame _, fun h => by cases h⟩

theorem over : Rows.checkShowRow.holds Tryz.pinned (OpenSpec.ofChange Rows.checkShowSpec) :=
  OpenClaim.holds_of_wide 3 Tryz.f3 rfl rfl rfl rfl rfl rfl rfl ⟨rfl, rfl, rfl, rfl, rfl⟩ rfl rfl rfl rfl rfl (by kernel_rfl) Tryz.func3 (by kernel_rfl)
    (of_decide_eq_true (by kernel_rfl)) (by unfold Func.isWrapper; first | (rw [if_pos (by decide +kernel)]; kernel_rfl) | (rw [if_neg (by decide +kernel)]; exact ⟨rfl, rfl⟩))
    (fun os started H enc _ => lifted os started H enc)

/-- ████ THE STATEMENT: the row, tied to the program's text ████ -/
theorem proved : Rows.CheckShowCardSaid :=
  Claim7.holds_tied_plain_at .later [] [.data, .data, .data] true (true, "2f1b6a5a630f190678410fe0e1726d303a48e8f6cb543f901e36877925af2621") false
    over (fun _ h => by cases h) (by kernel_rfl) (fun _ h => by cases h) checkShow_row_tie rfl ⟨rfl, rfl⟩ (by kernel_rfl) rfl
    (fun f fn hf hfn => by
      obtain rfl : f = 3 := Option.some.inj ((show Tryz.prog.funcNamed Rows.checkShowRow.func = some 3 by kernel_rfl).symm.trans hf) |>.symm
      obtain rfl : fn = Tryz.f3 := (Option.some.inj (Tryz.func3.symm.trans hfn)).symm
      exact ⟨by kernel_rfl, fun j t ht => by
        rw [Tryz.params3] at ht
        rcases j with _ | _ | _ | j <;> simp at ht
        all_goals (subst ht; kernel_rfl)⟩)
    (by kernel_rfl)
#print axioms proved
end Go.Proofs.YtbecnapcgehliaaGreatDoor.checkShow
