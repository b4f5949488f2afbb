import Derived.Test.YtnbnmojckhcdeaaGreatDoorRows
import Derived.Test.YtnbnmojckhcdeaaGreatDoorCards
import Derived.Test.YtnbnmojckhcdeaaGreatDoorTie
import Derived.SevenTiedAt
import Derived.Lay
import Derived.LaidMore
import Derived.MakeChecks
import Derived.WalkKit
import Derived.ProofKit
import Derived.OpenShut
import Derived.Below
import Derived.Carry
import Derived.ChangeMaps5
import Derived.Test.YtnbnmojckhcdeaaGreatDoorTreeMovesRun
namespace Go.Proofs.YtnbnmojckhcdeaaGreatDoor.treeMoves
open Go.Gev Go.ChangeShapes Go.WideShapes Go.ChangeAt Go.RowKit
set_option linter.unusedVariables false
theorem own':ownKnob Tryz.prog.godebug=none:=by kernel_rfl
theorem laidOut:laidOutB Tryz.prog=true:=by kernel_rfl
theorem uOS:Tryz.prog.underlying 22=some (.slice 29):=by kernel_rfl
theorem uOp:Tryz.prog.underlying 29=some (.struct #[{ name := "Kind",type:=3,offset:=0,embedded:=false,tag := "",pkgPath := "",byteOffset:=0 },{ name := "A",type:=9,offset:=1,embedded:=false,tag := "",pkgPath := "",byteOffset:=8 },{ name := "B",type:=9,offset:=2,embedded:=false,tag := "",pkgPath := "",byteOffset:=24 },{ name := "At",type:=3,offset:=3,embedded:=false,tag := "",pkgPath := "",byteOffset:=40 },{ name := "N",type:=3,offset:=4,embedded:=false,tag := "",pkgPath := "",byteOffset:=48 },{ name := "Data",type:=27,offset:=5,embedded:=false,tag := "",pkgPath := "",byteOffset:=56 }]):=by kernel_rfl
/-- the variables can be laid so -/
theorem AG1(os:Os):laidMetH Tryz.prog Rows.treeMovesRow.laid ((World.laidAll Tryz.prog os Rows.treeMovesRow.laid).forCall (λ_ _=>0) ⟨#[],#[.slice none 0 0,.string ⟨#[]⟩,.string ⟨#[]⟩],[]⟩).memory:=by
 rw[MakeChecks.laidMetH_plain _ _ _ (by kernel_rfl)]
 exact laidMet_laidAll #[.slice none 0 0,.string ⟨#[]⟩,.string ⟨#[]⟩] (by kernel_rfl) (by kernel_rfl)
set_option maxRecDepth 100000 in
theorem lifted(os:Os)(started:os.Started)(H:Type)(enc:TypeId × Value→H) :
 ReturnsInHanded {} Tryz.checked os 5 .any (λw args=>(Rows.treeMovesSpec.pre enc Tryz.prog Tryz.f5 [] false w args∧laidMetH Tryz.prog Rows.treeMovesRow.laid w)∧sizedMet enc Tryz.prog Tryz.f5 (OpenSpec.ofChange Rows.treeMovesSpec) false w args)
  (Rows.treeMovesSpec.post enc Tryz.prog Tryz.f5 false true false false):=by
 refine returnsInHanded_of_change_and (C:=Tryz.checked) (X:=λw _=>laidMetH Tryz.prog Rows.treeMovesRow.laid w) (λ_ _ _ hh h=>h.of_heap hh) own' started (by kernel_rfl) Tryz.func5
  (ChangeSpec.witness_at (enc:=enc) (C:=Tryz.checked) (os:=os) (X:=λw _=>laidMetH Tryz.prog Rows.treeMovesRow.laid w) false (World.laidAll Tryz.prog os Rows.treeMovesRow.laid) #[.slice none 0 0,.string ⟨#[]⟩,.string ⟨#[]⟩] 8 (World.laidAll_os _ _ _) (by kernel_rfl) (by kernel_rfl) (by kernel_rfl) (by kernel_rfl) (by kernel_rfl) (AG1 os)) ?_
 intro W base args ds gs before hval0 hW _ _ hX _
 have hval:∀(j:Nat) t v,Tryz.f5.params[j]?=some t→args[j]?=some v→Value.okWide Tryz.prog W .any base t v:=hval0
 have hW':=hW
 obtain⟨p,q,hA0,hV,rfl,hfz,hnd⟩:=hW
 have hA:DataW.TrodAll enc Tryz.prog W 0 (λ_=>true) true Tryz.f5.params.toList args.toList ds p:=hA0
 rw[Tryz.params5] at hA hval
 obtain⟨v0,vs0,d0,ds0,p0,q0,hargs,rfl,rfl,h0,r0⟩:=trodAll_cons hA
 obtain⟨v1,vs1,d1,ds1,p1,q1,rfl,rfl,rfl,h1,r1⟩:=trodAll_cons r0
 obtain⟨v2,vs2,d2,ds2,p2,q2,rfl,rfl,rfl,h2,r2⟩:=trodAll_cons r1
 obtain⟨rfl,rfl,rfl⟩:=trodAll_nil r2
 obtain rfl:args=#[v0,v1,v2]:=by cases args;simp_all
 obtain⟨rfl,rfl⟩:=trodVars_none hV
 clear hA0 hval0
 obtain⟨a1,rfl,rfl,rfl,w1⟩:=ChangeMaps.open_string Tryz.underlying9 (hval 1 9 v1 rfl rfl) h1
 obtain⟨a2,rfl,rfl,rfl,w2⟩:=ChangeMaps.open_string Tryz.underlying9 (hval 2 9 v2 rfl rfl) h2
 simp only[List.append_nil] at hW'
 have hlt:∀x∈p0,x.block<W.heap.size:=λx hx=>by simpa using hW'.lt x hx
 have h0k:=h0
 obtain⟨fuel0,h0⟩:=h0
 have hv0:IsOps W v0:=by
  obtain⟨a,len,cap,rfl⟩:=okWide_slice uOS (hval 0 22 v0 rfl rfl)
  rw[show (Value.slice a len cap).cells.toList = [.slice a len cap] from rfl] at h0
  exact Bn1 uOS uOp Tryz.underlying3 Tryz.underlying9 Tryz.underlying9 Tryz.underlying3 Tryz.underlying3 Tryz.underlying27 Tryz.underlying5 (by kernel_rfl) (by kernel_rfl) (by kernel_rfl) (by kernel_rfl) (by kernel_rfl) (by kernel_rfl) (by kernel_rfl) (by kernel_rfl) rfl rfl rfl rfl rfl rfl h0
 refine(called W v0 a1 a2 hv0).mono λz W' ⟨he,hg⟩=>?_
 subst he
 exact⟨_,rfl,_,_,_,[],_,[],hW',trodAll_mk1 (shut_bool Tryz.underlying4 _),(trodAll_cons_mk (Below.trod laidOut (by kernel_rfl) (of_decide_eq_true (by kernel_rfl)) h0k hg hlt) (trodAll_cons_mk (ChangeMaps.shut_string Tryz.underlying9 w1) (trodAll_cons_mk (ChangeMaps.shut_string Tryz.underlying9 w2) trodAll_mk0))),rfl,hg.frame _,λh=>by cases h⟩
theorem M_7{a b:Bool}(ha:a=true)(hb:b=true):(a&&b)=true:=by rw[ha,hb];rfl
theorem l_d:(Rows.treeMovesRow.inPlace==Tryz.prog.inPlace 5)=true:=by kernel_rfl
theorem a_x:(Rows.treeMovesRow.unfollowed==Tryz.prog.unfollowed 5)=true:=by kernel_rfl
theorem h_w:(Rows.treeMovesRow.recurses==Tryz.prog.recurses 5)=true:=by kernel_rfl
theorem v_z:(Rows.treeMovesRow.named==Tryz.prog.varsNamed 5)=true:=by kernel_rfl
theorem d_x:(Rows.treeMovesRow.plainKeys==Tryz.prog.plainKeys)=true:=by kernel_rfl
theorem a_w:Tryz.prog.stopsHeard=true:=by kernel_rfl
theorem h_v:Tryz.prog.mayEnter=true:=by kernel_rfl
theorem o_2:(Rows.treeMovesRow.lifted==Tryz.prog.liftsFinal)=true:=by kernel_rfl
theorem joined:joinedFacts Tryz.prog 5 Tryz.f5 Rows.treeMovesSpec Rows.treeMovesRow=true:=by
 unfold joinedFacts
 exact(M_7 (M_7 (M_7 (M_7 (M_7 (M_7 (M_7 (M_7 (M_7 (M_7 (M_7 (M_7 (M_7 (M_7 (M_7 (M_7 (M_7 (M_7 (M_7 (M_7 (M_7 (M_7 (M_7 (M_7 (M_7 (M_7 (M_7 (M_7 (M_7 (M_7 (M_7 (by kernel_rfl) (by kernel_rfl)) (by kernel_rfl)) (by kernel_rfl)) (by kernel_rfl)) (by kernel_rfl)) (by kernel_rfl)) (by kernel_rfl)) (by kernel_rfl)) l_d) a_x) h_w) v_z) (by kernel_rfl)) (by kernel_rfl)) (by kernel_rfl)) (by kernel_rfl)) (by kernel_rfl)) (by kernel_rfl)) (by kernel_rfl)) (by kernel_rfl)) (by kernel_rfl)) d_x) (by kernel_rfl)) a_w) h_v) o_2) (by kernel_rfl)) (by kernel_rfl)) (by kernel_rfl)) (by kernel_rfl)) (by kernel_rfl))
theorem over:Rows.treeMovesRow.holds Tryz.pinned (OpenSpec.ofChange Rows.treeMovesSpec):=
 OpenClaim.holds_of_wide 5 Tryz.f5 rfl rfl rfl rfl rfl rfl rfl ⟨rfl,rfl,rfl,rfl,rfl⟩ rfl rfl rfl rfl rfl (by kernel_rfl) Tryz.func5 joined
  (of_decide_eq_true (by kernel_rfl)) (by unfold Func.isWrapper;first|(rw[if_pos (by decide +kernel)];kernel_rfl)|(rw[if_neg (by decide +kernel)];exact⟨rfl,rfl⟩))
  (λos started H enc _=>lifted os started H enc)
/-- ████ THE STATEMENT: the row, tied to the program's text ████ -/
theorem proved:Rows.TreeMovesCardSaid:=
 Claim7.holds_tied_plain_at .later [] [.data,.pinned] true (true, "0fca3fce416701086bb3c740c4c6a7497f4c56779a68a4da66625de49e83879e") true
  over (λ_ h=>by cases h) (by kernel_rfl) (λ_ h=>by cases h) treeMoves_row_tie rfl ⟨rfl,rfl⟩ (by kernel_rfl) rfl
  (λf fn hf hfn=>by
   obtain rfl:f=5:=Option.some.inj ((show Tryz.prog.funcNamed Rows.treeMovesRow.func=some 5 by kernel_rfl).symm.trans hf) |>.symm
   obtain rfl:fn=Tryz.f5:=(Option.some.inj (Tryz.func5.symm.trans hfn)).symm
   exact⟨by kernel_rfl,λj t ht=>by
    rw[Tryz.params5] at ht
    rcases j with _|_|_|_|j<;>simp at ht
    all_goals (subst ht;kernel_rfl)⟩)
  (by kernel_rfl)
#print axioms proved
end Go.Proofs.YtnbnmojckhcdeaaGreatDoor.treeMoves
