import Derived.Test.YtnbnmojckhcdeaaGreatDoorRows
import Derived.Test.YtnbnmojckhcdeaaGreatDoorCards
import Derived.Test.YtnbnmojckhcdeaaGreatDoorTie
import Derived.SevenTiedAt
import Derived.Lay
import Derived.LaidMore
import Derived.MakeChecks
import Derived.WalkKit
import Derived.ProofKit
import Derived.OpenShut
import Derived.Below
import Derived.Carry
import Derived.Test.YtnbnmojckhcdeaaGreatDoorTreeApartRun
namespace Go.Proofs.YtnbnmojckhcdeaaGreatDoor.treeApart
open Go.Gev Go.ChangeShapes Go.WideShapes Go.ChangeAt Go.RowKit
set_option linter.unusedVariables false
theorem own':ownKnob Tryz.prog.godebug=none:=by kernel_rfl
theorem laidOut:laidOutB Tryz.prog=true:=by kernel_rfl
theorem uOS:Tryz.prog.underlying 22=some (.slice 29):=by kernel_rfl
theorem uOp:Tryz.prog.underlying 29=some (.struct #[{ name := "Kind",type:=3,offset:=0,embedded:=false,tag := "",pkgPath := "",byteOffset:=0 },{ name := "A",type:=9,offset:=1,embedded:=false,tag := "",pkgPath := "",byteOffset:=8 },{ name := "B",type:=9,offset:=2,embedded:=false,tag := "",pkgPath := "",byteOffset:=24 },{ name := "At",type:=3,offset:=3,embedded:=false,tag := "",pkgPath := "",byteOffset:=40 },{ name := "N",type:=3,offset:=4,embedded:=false,tag := "",pkgPath := "",byteOffset:=48 },{ name := "Data",type:=27,offset:=5,embedded:=false,tag := "",pkgPath := "",byteOffset:=56 }]):=by kernel_rfl
/-- the variables can be laid so -/
theorem t_n(os:Os):laidMetH Tryz.prog Rows.treeApartRow.laid ((World.laidAll Tryz.prog os Rows.treeApartRow.laid).forCall (λ_ _=>0) ⟨#[],#[.slice none 0 0,.slice none 0 0],[]⟩).memory:=by
 rw[MakeChecks.laidMetH_plain _ _ _ (by kernel_rfl)]
 exact laidMet_laidAll #[.slice none 0 0,.slice none 0 0] (by kernel_rfl) (by kernel_rfl)
set_option maxRecDepth 100000 in
theorem lifted(os:Os)(started:os.Started)(H:Type)(enc:TypeId × Value→H) :
 ReturnsInHanded {} Tryz.checked os 4 .any (λw args=>(Rows.treeApartSpec.pre enc Tryz.prog Tryz.f4 [] false w args∧laidMetH Tryz.prog Rows.treeApartRow.laid w)∧sizedMet enc Tryz.prog Tryz.f4 (OpenSpec.ofChange Rows.treeApartSpec) false w args)
  (Rows.treeApartSpec.post enc Tryz.prog Tryz.f4 false true false false):=by
 refine returnsInHanded_of_change_and (C:=Tryz.checked) (X:=λw _=>laidMetH Tryz.prog Rows.treeApartRow.laid w) (λ_ _ _ hh h=>h.of_heap hh) own' started (by kernel_rfl) Tryz.func4
  (ChangeSpec.witness_at (enc:=enc) (C:=Tryz.checked) (os:=os) (X:=λw _=>laidMetH Tryz.prog Rows.treeApartRow.laid w) false (World.laidAll Tryz.prog os Rows.treeApartRow.laid) #[.slice none 0 0,.slice none 0 0] 8 (World.laidAll_os _ _ _) (by kernel_rfl) (by kernel_rfl) (by kernel_rfl) (by kernel_rfl) (by kernel_rfl) (t_n os)) ?_
 intro W base args ds gs before hval0 hW _ _ hX _
 have hval:∀(j:Nat) t v,Tryz.f4.params[j]?=some t→args[j]?=some v→Value.okWide Tryz.prog W .any base t v:=hval0
 have hW':=hW
 obtain⟨p,q,hA0,hV,rfl,hfz,hnd⟩:=hW
 have hA:DataW.TrodAll enc Tryz.prog W 0 (λ_=>true) true Tryz.f4.params.toList args.toList ds p:=hA0
 rw[Tryz.params4] at hA hval
 obtain⟨v0,vs0,d0,ds0,p0,q0,hargs,rfl,rfl,h0,r0⟩:=trodAll_cons hA
 obtain⟨v1,vs1,d1,ds1,p1,q1,rfl,rfl,rfl,h1,r1⟩:=trodAll_cons r0
 obtain⟨rfl,rfl,rfl⟩:=trodAll_nil r1
 obtain rfl:args=#[v0,v1]:=by cases args;simp_all
 obtain⟨rfl,rfl⟩:=trodVars_none hV
 clear hA0 hval0
 simp only[List.append_nil] at hW'
 have hlt:∀x∈p0++p1,x.block<W.heap.size:=λx hx=>by simpa using hW'.lt x hx
 have h0k:=h0
 obtain⟨fuel0,h0⟩:=h0
 have hv0:IsOps W v0:=by
  obtain⟨a,len,cap,rfl⟩:=okWide_slice uOS (hval 0 22 v0 rfl rfl)
  rw[show (Value.slice a len cap).cells.toList = [.slice a len cap] from rfl] at h0
  exact w_a uOS uOp Tryz.underlying3 Tryz.underlying9 Tryz.underlying9 Tryz.underlying3 Tryz.underlying3 Tryz.underlying27 Tryz.underlying5 (by kernel_rfl) (by kernel_rfl) (by kernel_rfl) (by kernel_rfl) (by kernel_rfl) (by kernel_rfl) (by kernel_rfl) (by kernel_rfl) rfl rfl rfl rfl rfl rfl h0
 have h1k:=h1
 obtain⟨fuel1,h1⟩:=h1
 have hv1:IsOps W v1:=by
  obtain⟨a,len,cap,rfl⟩:=okWide_slice uOS (hval 1 22 v1 rfl rfl)
  rw[show (Value.slice a len cap).cells.toList = [.slice a len cap] from rfl] at h1
  exact w_a uOS uOp Tryz.underlying3 Tryz.underlying9 Tryz.underlying9 Tryz.underlying3 Tryz.underlying3 Tryz.underlying27 Tryz.underlying5 (by kernel_rfl) (by kernel_rfl) (by kernel_rfl) (by kernel_rfl) (by kernel_rfl) (by kernel_rfl) (by kernel_rfl) (by kernel_rfl) rfl rfl rfl rfl rfl rfl h1
 refine(called W v0 v1 hv0 hv1).mono λz W' ⟨he,hg⟩=>?_
 subst he
 exact⟨_,rfl,_,_,_,[],_,[],hW',trodAll_mk1 (shut_bool Tryz.underlying4 _),(trodAll_cons_mk (Below.trod laidOut (by kernel_rfl) (of_decide_eq_true (by kernel_rfl)) h0k hg (λx hx=>hlt x (List.mem_append_left _ hx))) (trodAll_cons_mk (Below.trod laidOut (by kernel_rfl) (of_decide_eq_true (by kernel_rfl)) h1k hg (λx hx=>hlt x (List.mem_append_right _ hx))) trodAll_mk0)),rfl,hg.frame _,λh=>by cases h⟩
theorem G_u{a b:Bool}(ha:a=true)(hb:b=true):(a&&b)=true:=by rw[ha,hb];rfl
theorem X_n:(Rows.treeApartRow.inPlace==Tryz.prog.inPlace 4)=true:=by kernel_rfl
theorem Q_8:(Rows.treeApartRow.unfollowed==Tryz.prog.unfollowed 4)=true:=by kernel_rfl
theorem V_i:(Rows.treeApartRow.recurses==Tryz.prog.recurses 4)=true:=by kernel_rfl
theorem f_4:(Rows.treeApartRow.named==Tryz.prog.varsNamed 4)=true:=by kernel_rfl
theorem S_5:(Rows.treeApartRow.plainKeys==Tryz.prog.plainKeys)=true:=by kernel_rfl
theorem Q_7:Tryz.prog.stopsHeard=true:=by kernel_rfl
theorem V_h:Tryz.prog.mayEnter=true:=by kernel_rfl
theorem Z_r:(Rows.treeApartRow.lifted==Tryz.prog.liftsFinal)=true:=by kernel_rfl
theorem joined:joinedFacts Tryz.prog 4 Tryz.f4 Rows.treeApartSpec Rows.treeApartRow=true:=by
 unfold joinedFacts
 exact(G_u (G_u (G_u (G_u (G_u (G_u (G_u (G_u (G_u (G_u (G_u (G_u (G_u (G_u (G_u (G_u (G_u (G_u (G_u (G_u (G_u (G_u (G_u (G_u (G_u (G_u (G_u (G_u (G_u (G_u (G_u (by kernel_rfl) (by kernel_rfl)) (by kernel_rfl)) (by kernel_rfl)) (by kernel_rfl)) (by kernel_rfl)) (by kernel_rfl)) (by kernel_rfl)) (by kernel_rfl)) X_n) Q_8) V_i) f_4) (by kernel_rfl)) (by kernel_rfl)) (by kernel_rfl)) (by kernel_rfl)) (by kernel_rfl)) (by kernel_rfl)) (by kernel_rfl)) (by kernel_rfl)) (by kernel_rfl)) S_5) (by kernel_rfl)) Q_7) V_h) Z_r) (by kernel_rfl)) (by kernel_rfl)) (by kernel_rfl)) (by kernel_rfl)) (by kernel_rfl))
theorem over:Rows.treeApartRow.holds Tryz.pinned (OpenSpec.ofChange Rows.treeApartSpec):=
 OpenClaim.holds_of_wide 4 Tryz.f4 rfl rfl rfl rfl rfl rfl rfl ⟨rfl,rfl,rfl,rfl,rfl⟩ rfl rfl rfl rfl rfl (by kernel_rfl) Tryz.func4 joined
  (of_decide_eq_true (by kernel_rfl)) (by unfold Func.isWrapper;first|(rw[if_pos (by decide +kernel)];kernel_rfl)|(rw[if_neg (by decide +kernel)];exact⟨rfl,rfl⟩))
  (λos started H enc _=>lifted os started H enc)
/-- ████ THE STATEMENT: the row, tied to the program's text ████ -/
theorem proved:Rows.TreeApartCardSaid:=
 Claim7.holds_tied_plain_at .later [] [.data,.pinned] true (true, "0fca3fce416701086bb3c740c4c6a7497f4c56779a68a4da66625de49e83879e") true
  over (λ_ h=>by cases h) (by kernel_rfl) (λ_ h=>by cases h) treeApart_row_tie rfl ⟨rfl,rfl⟩ (by kernel_rfl) rfl
  (λf fn hf hfn=>by
   obtain rfl:f=4:=Option.some.inj ((show Tryz.prog.funcNamed Rows.treeApartRow.func=some 4 by kernel_rfl).symm.trans hf) |>.symm
   obtain rfl:fn=Tryz.f4:=(Option.some.inj (Tryz.func4.symm.trans hfn)).symm
   exact⟨by kernel_rfl,λj t ht=>by
    rw[Tryz.params4] at ht
    rcases j with _|_|_|j<;>simp at ht
    all_goals (subst ht;kernel_rfl)⟩)
  (by kernel_rfl)
#print axioms proved
end Go.Proofs.YtnbnmojckhcdeaaGreatDoor.treeApart
