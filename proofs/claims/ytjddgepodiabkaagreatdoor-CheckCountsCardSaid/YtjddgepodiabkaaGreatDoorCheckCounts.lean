/-
  'checkCounts': at every start, for all arguments, the law 'CheckCounts' returns true, and all reads as before. Conditions: those of the given row alone. The frame was written after the kit's own skeleton; the walk is the evaluator's runs, by a logic of residual programs.
-/
import Derived.Test.YtjddgepodiabkaaGreatDoorRows
import Derived.Test.YtjddgepodiabkaaGreatDoorCards
import Derived.Test.YtjddgepodiabkaaGreatDoorTie
import Derived.SevenTiedAt
import Derived.Lay
import Derived.LaidMore
import Derived.MakeChecks
import Derived.WalkKit
import Derived.ProofKit
import Derived.OpenShut
import Derived.Below
import Derived.Carry
import Derived.Test.YtjddgepodiabkaaGreatDoorCheckCountsRun
namespace Go.Proofs.YtjddgepodiabkaaGreatDoor.checkCounts
open Go.Gev Go.ChangeShapes Go.WideShapes Go.ChangeAt Go.RowKit
set_option linter.unusedVariables false
theorem own':ownKnob Tryz.prog.godebug=none:=by kernel_rfl
theorem laidOut:laidOutB Tryz.prog=true:=by kernel_rfl
theorem uWS:Tryz.prog.underlying 24=some (.slice 22):=by kernel_rfl
/-- the variables can be laid so -/
theorem laid_met (os:Os):laidMetH Tryz.prog Rows.checkCountsRow.laid ((World.laidAll Tryz.prog os Rows.checkCountsRow.laid).forCall (λ_ _=>0) ⟨#[],#[.slice none 0 0],[]⟩).memory:=by
 rw [MakeChecks.laidMetH_plain _ _ _ (by kernel_rfl)]
 exact laidMet_laidAll #[.slice none 0 0] (by kernel_rfl) (by kernel_rfl)
set_option maxRecDepth 100000 in
theorem lifted (os:Os) (started:os.Started) (H:Type) (enc:TypeId × Value→H) :
 ReturnsInHanded {} Tryz.checked os 4 .any (λw args=>(Rows.checkCountsSpec.pre enc Tryz.prog Tryz.f4 [] false w args∧laidMetH Tryz.prog Rows.checkCountsRow.laid w)∧sizedMet enc Tryz.prog Tryz.f4 (OpenSpec.ofChange Rows.checkCountsSpec) false w args)
  (Rows.checkCountsSpec.post enc Tryz.prog Tryz.f4 false true false false):=by
 refine returnsInHanded_of_change_and (C:=Tryz.checked) (X:=λw _=>laidMetH Tryz.prog Rows.checkCountsRow.laid w) (λ_ _ _ hh h=>h.of_heap hh) own' started (by kernel_rfl) Tryz.func4
  (ChangeSpec.witness_at (enc:=enc) (C:=Tryz.checked) (os:=os) (X:=λw _=>laidMetH Tryz.prog Rows.checkCountsRow.laid w) false (World.laidAll Tryz.prog os Rows.checkCountsRow.laid) #[.slice none 0 0] 8 (World.laidAll_os _ _ _) (by kernel_rfl) (by kernel_rfl) (by kernel_rfl) (by kernel_rfl) (by kernel_rfl) (laid_met os)) ?_
 intro W base args ds gs before hval0 hW _ _ hX _
 have hval:∀ (j:Nat) t v,Tryz.f4.params[j]?=some t→args[j]?=some v→Value.okWide Tryz.prog W .any base t v:=hval0
 have hW':=hW
 obtain ⟨p,q,hA0,hV,rfl,hfz,hnd⟩:=hW
 have hA:DataW.TrodAll enc Tryz.prog W 0 (λ_=>true) true Tryz.f4.params.toList args.toList ds p:=hA0
 rw [Tryz.params4] at hA hval
 obtain ⟨v0,vs0,d0,ds0,p0,q0,hargs,rfl,rfl,h0,r0⟩:=trodAll_cons hA
 obtain ⟨rfl,rfl,rfl⟩:=trodAll_nil r0
 obtain rfl:args=#[v0]:=by cases args;simp_all
 obtain ⟨rfl,rfl⟩:=trodVars_none hV
 clear hA0 hval0
 simp only [List.append_nil] at hW'
 have hlt:∀ x∈p0,x.block<W.heap.size:=λx hx=>by simpa using hW'.lt x hx
 have h0k:=h0
 obtain ⟨fuel0,h0⟩:=h0
 have hv0:IsWords W v0:=by
  obtain ⟨a,len,cap,rfl⟩:=okWide_slice uWS (hval 0 24 v0 rfl rfl)
  rw [show (Value.slice a len cap).cells.toList = [.slice a len cap] from rfl] at h0
  exact words_of uWS Tryz.underlying22 (by kernel_rfl) h0
 refine (called W v0 hv0).mono λz W' ⟨he,hg⟩=>?_
 subst he
 exact ⟨_,rfl,_,_,_,[],_,[],hW',trodAll_mk1 (shut_bool Tryz.underlying4 _),(trodAll_cons_mk (Below.trod laidOut (by kernel_rfl) (of_decide_eq_true (by kernel_rfl)) h0k hg hlt) trodAll_mk0),rfl,hg.frame _,λh=>by cases h⟩
theorem and_i {a b:Bool} (ha:a=true) (hb:b=true):(a&&b)=true:=by rw [ha,hb];rfl
theorem fact_inPlace:(Rows.checkCountsRow.inPlace==Tryz.prog.inPlace 4)=true:=by kernel_rfl
theorem fact_unfollowed:(Rows.checkCountsRow.unfollowed==Tryz.prog.unfollowed 4)=true:=by kernel_rfl
theorem fact_recurses:(Rows.checkCountsRow.recurses==Tryz.prog.recurses 4)=true:=by kernel_rfl
theorem fact_named:(Rows.checkCountsRow.named==Tryz.prog.varsNamed 4)=true:=by kernel_rfl
theorem fact_plainKeys:(Rows.checkCountsRow.plainKeys==Tryz.prog.plainKeys)=true:=by kernel_rfl
theorem fact_stopsHeard:Tryz.prog.stopsHeard=true:=by kernel_rfl
theorem fact_mayEnter:Tryz.prog.mayEnter=true:=by kernel_rfl
theorem fact_lifted:(Rows.checkCountsRow.lifted==Tryz.prog.liftsFinal)=true:=by kernel_rfl
theorem joined:joinedFacts Tryz.prog 4 Tryz.f4 Rows.checkCountsSpec Rows.checkCountsRow=true:=by
 unfold joinedFacts
 exact (and_i (and_i (and_i (and_i (and_i (and_i (and_i (and_i (and_i (and_i (and_i (and_i (and_i (and_i (and_i (and_i (and_i (and_i (and_i (and_i (and_i (and_i (and_i (and_i (and_i (and_i (and_i (and_i (and_i (and_i (and_i (by kernel_rfl) (by kernel_rfl)) (by kernel_rfl)) (by kernel_rfl)) (by kernel_rfl)) (by kernel_rfl)) (by kernel_rfl)) (by kernel_rfl)) (by kernel_rfl)) fact_inPlace) fact_unfollowed) fact_recurses) fact_named) (by kernel_rfl)) (by kernel_rfl)) (by kernel_rfl)) (by kernel_rfl)) (by kernel_rfl)) (by kernel_rfl)) (by kernel_rfl)) (by kernel_rfl)) (by kernel_rfl)) fact_plainKeys) (by kernel_rfl)) fact_stopsHeard) fact_mayEnter) fact_lifted) (by kernel_rfl)) (by kernel_rfl)) (by kernel_rfl)) (by kernel_rfl)) (by kernel_rfl))
theorem over:Rows.checkCountsRow.holds Tryz.pinned (OpenSpec.ofChange Rows.checkCountsSpec):=
 OpenClaim.holds_of_wide 4 Tryz.f4 rfl rfl rfl rfl rfl rfl rfl ⟨rfl,rfl,rfl,rfl,rfl⟩ rfl rfl rfl rfl rfl (by kernel_rfl) Tryz.func4 joined
  (of_decide_eq_true (by kernel_rfl)) (by unfold Func.isWrapper;first|(rw [if_pos (by decide +kernel)];kernel_rfl)|(rw [if_neg (by decide +kernel)];exact ⟨rfl,rfl⟩))
  (λos started H enc _=>lifted os started H enc)
/-- ████ THE STATEMENT: the row, tied to the program's text ████ -/
theorem proved:Rows.CheckCountsCardSaid:=
 Claim7.holds_tied_plain_at .later [] [.data,.data,.data] true (true, "ab6c38fe1697389e86d03ecc682011fcda7a5a81c8e2d0870dc39ae40bde8659") false
  over (λ_ h=>by cases h) (by kernel_rfl) (λ_ h=>by cases h) checkCounts_row_tie rfl ⟨rfl,rfl⟩ (by kernel_rfl) rfl
  (λf fn hf hfn=>by
   obtain rfl:f=4:=Option.some.inj ((show Tryz.prog.funcNamed Rows.checkCountsRow.func=some 4 by kernel_rfl).symm.trans hf) |>.symm
   obtain rfl:fn=Tryz.f4:=(Option.some.inj (Tryz.func4.symm.trans hfn)).symm
   exact ⟨by kernel_rfl,λj t ht=>by
    rw [Tryz.params4] at ht
    rcases j with _|_|j<;>simp at ht
    all_goals (subst ht;kernel_rfl)⟩)
  (by kernel_rfl)
#print axioms proved
end Go.Proofs.YtjddgepodiabkaaGreatDoor.checkCounts
