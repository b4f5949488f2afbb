/-
  'checkSpoils': at every start, for all arguments, the law 'CheckSpoils' returns true, and all reads as before. Conditions: those of the given row alone. The frame was written after the kit's own skeleton; the walk is the evaluator's runs, by a logic of residual programs.
-/
import Derived.Test.YtjddgepodiabkaaGreatDoorRows
import Derived.Test.YtjddgepodiabkaaGreatDoorCards
import Derived.Test.YtjddgepodiabkaaGreatDoorTie
import Derived.SevenTiedAt
import Derived.Lay
import Derived.LaidMore
import Derived.MakeChecks
import Derived.WalkKit
import Derived.ProofKit
import Derived.OpenShut
import Derived.Below
import Derived.Carry
import Derived.Test.YtjddgepodiabkaaGreatDoorCheckSpoilsRun
namespace Go.Proofs.YtjddgepodiabkaaGreatDoor.checkSpoils
open Go.Gev Go.ChangeShapes Go.WideShapes Go.ChangeAt Go.RowKit
set_option linter.unusedVariables false
theorem own':ownKnob Tryz.prog.godebug=none:=by kernel_rfl
theorem laidOut:laidOutB Tryz.prog=true:=by kernel_rfl
/-- the variables can be laid so -/
theorem laid_met(os:Os):laidMetH Tryz.prog Rows.checkSpoilsRow.laid ((World.laidAll Tryz.prog os Rows.checkSpoilsRow.laid).forCall (λ_ _=>0) ⟨#[],#[.int .i64 0,.int .u64 0],[]⟩).memory:=by
 rw[MakeChecks.laidMetH_plain _ _ _ (by kernel_rfl)]
 exact laidMet_laidAll #[.int .i64 0,.int .u64 0] (by kernel_rfl) (by kernel_rfl)
set_option maxRecDepth 100000 in
theorem lifted(os:Os)(started:os.Started)(H:Type)(enc:TypeId × Value→H) :
 ReturnsInHanded {} Tryz.checked os 3 .any (λw args=>(Rows.checkSpoilsSpec.pre enc Tryz.prog Tryz.f3 [] false w args∧laidMetH Tryz.prog Rows.checkSpoilsRow.laid w)∧sizedMet enc Tryz.prog Tryz.f3 (OpenSpec.ofChange Rows.checkSpoilsSpec) false w args)
  (Rows.checkSpoilsSpec.post enc Tryz.prog Tryz.f3 false true false false):=by
 refine returnsInHanded_of_change_and (C:=Tryz.checked) (X:=λw _=>laidMetH Tryz.prog Rows.checkSpoilsRow.laid w) (λ_ _ _ hh h=>h.of_heap hh) own' started (by kernel_rfl) Tryz.func3
  (ChangeSpec.witness_at (enc:=enc) (C:=Tryz.checked) (os:=os) (X:=λw _=>laidMetH Tryz.prog Rows.checkSpoilsRow.laid w) false (World.laidAll Tryz.prog os Rows.checkSpoilsRow.laid) #[.int .i64 0,.int .u64 0] 8 (World.laidAll_os _ _ _) (by kernel_rfl) (by kernel_rfl) (by kernel_rfl) (by kernel_rfl) (by kernel_rfl) (laid_met os)) ?_
 intro W base args ds gs before hval0 hW _ _ hX _
 have hval:∀(j:Nat) t v,Tryz.f3.params[j]?=some t→args[j]?=some v→Value.okWide Tryz.prog W .any base t v:=hval0
 have hW':=hW
 obtain⟨p,q,hA0,hV,rfl,hfz,hnd⟩:=hW
 have hA:DataW.TrodAll enc Tryz.prog W 0 (λ_=>true) true Tryz.f3.params.toList args.toList ds p:=hA0
 rw[Tryz.params3] at hA hval
 obtain⟨v0,vs0,d0,ds0,p0,q0,hargs,rfl,rfl,h0,r0⟩:=trodAll_cons hA
 obtain⟨v1,vs1,d1,ds1,p1,q1,rfl,rfl,rfl,h1,r1⟩:=trodAll_cons r0
 obtain⟨rfl,rfl,rfl⟩:=trodAll_nil r1
 obtain rfl:args=#[v0,v1]:=by cases args;simp_all
 obtain⟨rfl,rfl⟩:=trodVars_none hV
 clear hA0 hval0
 obtain⟨a0,rfl,rfl,rfl,w0⟩:=open_int Tryz.underlying3 (hval 0 3 v0 rfl rfl) h0
 obtain⟨a1,rfl,rfl,rfl,w1⟩:=open_int Tryz.underlying22 (hval 1 22 v1 rfl rfl) h1
 simp only[List.append_nil] at hW'
 obtain⟨u1,hu1⟩:=Int.eq_ofNat_of_zero_le (bounds_u64 w1).1
 have hb1:u1<18446744073709551616:=by have:=(bounds_u64 w1).2;omega
 subst hu1
 refine(called W a0 hb1).mono λz W' ⟨he,hg⟩=>?_
 subst he
 exact⟨_,rfl,_,_,_,[],_,[],hW',trodAll_mk1 (shut_bool Tryz.underlying4 _),(trodAll_cons_mk (shut_int Tryz.underlying3 w0) (trodAll_cons_mk (shut_int Tryz.underlying22 w1) trodAll_mk0)),rfl,hg.frame _,λh=>by cases h⟩
theorem and_i{a b:Bool}(ha:a=true)(hb:b=true):(a&&b)=true:=by rw[ha,hb];rfl
theorem fact_inPlace:(Rows.checkSpoilsRow.inPlace==Tryz.prog.inPlace 3)=true:=by kernel_rfl
theorem fact_unfollowed:(Rows.checkSpoilsRow.unfollowed==Tryz.prog.unfollowed 3)=true:=by kernel_rfl
theorem fact_recurses:(Rows.checkSpoilsRow.recurses==Tryz.prog.recurses 3)=true:=by kernel_rfl
theorem fact_named:(Rows.checkSpoilsRow.named==Tryz.prog.varsNamed 3)=true:=by kernel_rfl
theorem fact_plainKeys:(Rows.checkSpoilsRow.plainKeys==Tryz.prog.plainKeys)=true:=by kernel_rfl
theorem fact_stopsHeard:Tryz.prog.stopsHeard=true:=by kernel_rfl
theorem fact_mayEnter:Tryz.prog.mayEnter=true:=by kernel_rfl
theorem fact_lifted:(Rows.checkSpoilsRow.lifted==Tryz.prog.liftsFinal)=true:=by kernel_rfl
theorem joined:joinedFacts Tryz.prog 3 Tryz.f3 Rows.checkSpoilsSpec Rows.checkSpoilsRow=true:=by
 unfold joinedFacts
 exact(and_i (and_i (and_i (and_i (and_i (and_i (and_i (and_i (and_i (and_i (and_i (and_i (and_i (and_i (and_i (and_i (and_i (and_i (and_i (and_i (and_i (and_i (and_i (and_i (and_i (and_i (and_i (and_i (and_i (and_i (and_i (by kernel_rfl) (by kernel_rfl)) (by kernel_rfl)) (by kernel_rfl)) (by kernel_rfl)) (by kernel_rfl)) (by kernel_rfl)) (by kernel_rfl)) (by kernel_rfl)) fact_inPlace) fact_unfollowed) fact_recurses) fact_named) (by kernel_rfl)) (by kernel_rfl)) (by kernel_rfl)) (by kernel_rfl)) (by kernel_rfl)) (by kernel_rfl)) (by kernel_rfl)) (by kernel_rfl)) (by kernel_rfl)) fact_plainKeys) (by kernel_rfl)) fact_stopsHeard) fact_mayEnter) fact_lifted) (by kernel_rfl)) (by kernel_rfl)) (by kernel_rfl)) (by kernel_rfl)) (by kernel_rfl))
theorem over:Rows.checkSpoilsRow.holds Tryz.pinned (OpenSpec.ofChange Rows.checkSpoilsSpec):=
 OpenClaim.holds_of_wide 3 Tryz.f3 rfl rfl rfl rfl rfl rfl rfl ⟨rfl,rfl,rfl,rfl,rfl⟩ rfl rfl rfl rfl rfl (by kernel_rfl) Tryz.func3 joined
  (of_decide_eq_true (by kernel_rfl)) (by unfold Func.isWrapper;first|(rw[if_pos (by decide +kernel)];kernel_rfl)|(rw[if_neg (by decide +kernel)];exact⟨rfl,rfl⟩))
  (λos started H enc _=>lifted os started H enc)
/-- ████ THE STATEMENT: the row, tied to the program's text ████ -/
theorem proved:Rows.CheckSpoilsCardSaid:=
 Claim7.holds_tied_plain_at .later [] [.data,.data,.data] true (true, "ab6c38fe1697389e86d03ecc682011fcda7a5a81c8e2d0870dc39ae40bde8659") false
  over (λ_ h=>by cases h) (by kernel_rfl) (λ_ h=>by cases h) checkSpoils_row_tie rfl ⟨rfl,rfl⟩ (by kernel_rfl) rfl
  (λf fn hf hfn=>by
   obtain rfl:f=3:=Option.some.inj ((show Tryz.prog.funcNamed Rows.checkSpoilsRow.func=some 3 by kernel_rfl).symm.trans hf) |>.symm
   obtain rfl:fn=Tryz.f3:=(Option.some.inj (Tryz.func3.symm.trans hfn)).symm
   exact⟨by kernel_rfl,λj t ht=>by
    rw[Tryz.params3] at ht
    rcases j with _|_|_|j<;>simp at ht
    all_goals (subst ht;kernel_rfl)⟩)
  (by kernel_rfl)
#print axioms proved
end Go.Proofs.YtjddgepodiabkaaGreatDoor.checkSpoils
