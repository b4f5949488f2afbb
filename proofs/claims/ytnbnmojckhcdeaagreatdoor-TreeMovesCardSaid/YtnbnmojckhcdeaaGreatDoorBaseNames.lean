import Derived.Test.YtnbnmojckhcdeaaGreatDoorBaseSum
import Derived.Test.YtnbnmojckhcdeaaGreatDoorGevNm
import Derived.Maps.OwnIn
import Derived.OwnWalkIn
namespace Go.Proofs.YtnbnmojckhcdeaaGreatDoor.base
open Go Go.Gev Go.RowKit Go.Maps Go.Sort Go.Shelf
set_option maxRecDepth 100000 in
set_option maxHeartbeats 2000000 in
theorem AY6(W:World)(bt ot:Nat)(n:Int)(bm bi oi:Nat)(mb:Option Nat)(ks:List (List UInt8))(h1:W.cell? ⟨bt,ot+1,none⟩=some (.map (some bm)))
 (h2:(Instr.lookup 43 (.map (some bm)) (.int .i64 n) false).run Tryz.prog W=.ok (.pointer (some ⟨bi,oi,none⟩)) W)
 (h3:W.cell? ⟨bi,oi+2,none⟩=some (.map mb))
 (hk:∀W1 Bm,Below W.heap.size W W1→W1.cell? ⟨Bm,0,none⟩=some (.map mb)→Bm<W1.heap.size→∃N,N≤100000∧SeqGives Fence.wide 7 Tryz.prog 53 #[.pointer (some ⟨Bm,0,none⟩)] encStr (λss=>ss.Perm ks) N W1) :
 CallsIn Fence.wide 10 Tryz.prog 44 #[.pointer (some ⟨bt,ot,none⟩),.int .i64 n] W λe w'=>∃(v:Value) (ss:List (List UInt8)),e=.returned v∧ss.Perm (if n=1 then ks ++ [V_y] else ks) ∧
  w'.ownsRow W.heap.size 9 1 v ss.length ((ss.mergeSort (λx y=>decide (x≤y))).map encStr)∧(v=.slice none 0 0↔ss = [])∧Below W.heap.size W w':=by
 have hsort:=Av1 9
 refine callsIn_of_wp Tryz.func44 rfl trivial ?_ rfl
 simp only[Tryz.ntmps44,List.size_toArray,lcQ,List.length_nil,Nat.reduceAdd,Nat.reduceSub,Array.replicate_succ,Array.replicate_zero,List.push_toArray,List.append_toArray,naQ,caQ]
 gi_wp2
 refine⟨trivial,(AnyZ.keys_in (ρ:=R_9) { Aj5 with } Fence.wide _ trivial rfl mb W).mono ?_⟩
 rintro e W1 ⟨rfl,hW1⟩
 have hb1:Below W.heap.size W W1:=by rw[hW1];exact⟨rfl,rfl,rfl,by simp,λk hk=>heap_alloc_old W _ k hk⟩
 have hc1:W1.cell? ⟨W.heap.size,0,none⟩=some (.map mb):=by rw[hW1];simp only[World.cell?,heap_alloc_new];rfl
 have hs1:W.heap.size<W1.heap.size:=by rw[hW1];simp
 obtain⟨N,hN,hseq⟩:=hk W1 W.heap.size hb1 hc1 hs1
 clear hW1
 have eKey:=enters_of Tryz.func53 (by kernel_rfl) rfl
 have eCol:=enters_of Tryz.func51 (by kernel_rfl) rfl
 have eSort:=enters_of Tryz.func52 (by kernel_rfl) rfl
 gi_wp2
 refine⟨trivial,(AnyZ.collect_in (ρ:=W_z) { q_8 with } Fence.wide 9 trivial trivial rfl (by omega) 53 _ trivial eKey _ N (by unfold maxLen;omega) (by omega) W1 hseq.bounded).mono ?_⟩
 rintro e W2 ⟨v,ss,rfl,⟨hS,hlen⟩,hrow,hnil,hb⟩
 have hi9:Tryz.prog.info? 9=some Tryz.t9:=by kernel_rfl
 have hb2:Below W.heap.size W W2:=hb1.trans (hb.mono hb1.size)
 have hrow':W2.ownsRow W1.heap.size 9 1 v ss.length (ss.map encStr):=hrow
 by_cases hn:n=1
 ·subst hn
  gi_wp2_with (refine wpListIn_append_own _ rfl _ _ 32 rfl W1.heap.size 9 Tryz.t9 (.string ⟨#[]⟩) 1 16 Tryz.underlying32 hi9 rfl rfl rfl rfl (by decide) _ _ _ rfl (hrow'.alloc _) ⟨W2.heap.size,0,none⟩ 1 1 [encStr V_y] rfl rfl ?c1 ?c2 ?c3 ?c4 ?c5 ?_)
  case c1=>
   intro j u hu
   cases j with
   |zero=>
    simp only[gcZ,sjE] at hu
    subst hu
    show (W2.alloc _).cell? ⟨W2.heap.size,0,none⟩=_
    simp only[World.cell?,heap_alloc_new]
    rfl
   |succ j=>simp at hu
  case c2=>
   intro u hu
   simp only[msQ] at hu
   subst hu
   rfl
  case c3=>
   unfold maxLen
   omega
  case c4=>omega
  case c5=>
   have:=hb.size
   simp
   omega
  intro v' W3 hrow3 hg3 hne
  have hle:W.heap.size≤W2.heap.size:=hb2.size
  have hbW:Below W.heap.size W W3:=(hb2.alloc hle _).grown hg3 (by simp;omega) (λk e=>by
   have:=hrow'.lt k e
   omega)
  rcases hrow3.2 with⟨rfl,hz⟩|⟨gb,cap,cur,rfl,hbase,hgb,r1,r2,r3,r4⟩
  ·exact absurd rfl hne
  have hr4:cur.toList.take ((ss.length+1)*1)=(ss ++ [V_y]).map encStr:=by rw[r4];simp
  have hH:Holds encStr W3 gb 0 (ss ++ [V_y]).toArray:=holds_of_block hgb (by simpa using hr4)
  have hgl:gb<W3.heap.size:=(gaI.1 hgb).1
  have hsz:(ss ++ [V_y]).length<4611686018427387904:=by simp;omega
  have cS:=hsort.1 gb 0 cap (ss ++ [V_y]) W3 hH hgl hsz
  have hle2:(ss ++ [V_y]).length=ss.length+1:=by simp
  rw[hle2] at cS
  gi_wp2
  refine⟨trivial,cS.mono ?_⟩
  rintro e w' ⟨rfl,nn,os,rfl⟩
  gi_wp2
  go_ret
  have hp:(ss ++ [V_y]).Perm (ks ++ [V_y]):=hS.append_right _
  refine⟨.slice (some ⟨gb,0,none⟩) (ss.length+1) cap,rfl,ss ++ [V_y],hp,?_,by simp,hbW.grown (grownBy_sorted _) hbW.size (λj hj=>by cases hj;omega)⟩
  have:=ownsRow_sorted (n:=nn) (os:=os) (ss:=ss ++ [V_y]) (ts:=(ss ++ [V_y]).mergeSort λx y=>decide (x≤y)) (by simp) (show W.heap.size≤gb by omega) hgb (by simpa using r1) r2 r3
  rw[hle2] at this
  rw[hle2]
  exact this
 ·rcases hrow'.2 with⟨rfl,hz⟩|⟨gb,cap,cur,rfl,hbase,hgb,r1,r2,r3,r4⟩
  ·have hss:ss = []:=enZ hz
   subst hss
   gi_wp2
   refine⟨trivial,(hsort.2 none 0 W2).mono ?_⟩
   rintro e w' ⟨rfl,rfl⟩
   gi_wp2
   go_ret
   exact⟨.slice none 0 0,rfl,[],hS,by simpa using World.ownsRow_nil w' W.heap.size 9 1,by simp,hb2⟩
  ·have hH:Holds encStr W2 gb 0 ss.toArray:=holds_of_block hgb (by simpa using r4)
   have hgl:gb<W2.heap.size:=(gaI.1 hgb).1
   have hsz:ss.length<4611686018427387904:=by omega
   have cS:=hsort.1 gb 0 cap ss W2 hH hgl hsz
   gi_wp2
   refine⟨trivial,cS.mono ?_⟩
   rintro e w' ⟨rfl,nn,os,rfl⟩
   gi_wp2
   go_ret
   exact⟨.slice (some ⟨gb,0,none⟩) ss.length cap,rfl,ss,hS,ownsRow_sorted (by simp) (by omega) hgb r1 r2 r3,hnil,hb2.grown (grownBy_sorted _) hb2.size (λj hj=>by cases hj;omega)⟩
theorem p_s:NamesC Tryz.prog 44 43 9 9:=λW bt ot n bm bi oi mb ks h1 h2 h3 hk=>
 callsIn_wide.1 (AY6 W bt ot n bm bi oi mb ks h1 h2 h3 λW1 Bm hb hc hB=>by
  rcases hk with⟨rfl,rfl⟩|⟨b,nn,D0,rfl,hown,hp,hs⟩
  ·exact⟨0,by omega,λl J W' hW hJ hY h0=>by
    have:=AnyZ.keys_gives_nil (ρ:=R_9) { Aj5 with } Fence.wide 7 trivial rfl Bm W1 hB hc l J W' hW hJ hY h0
    exact this.mono λe w' hh=>by
     obtain⟨a,ss,rfl,c⟩:=hh
     exact⟨a,[],List.Perm.refl _,c⟩⟩
  ·have hown':W1.ownsMap Tryz.prog 9 (λ_=>some (.nil,[])) b nn D0:=by
    have hbl:=hown.lt
    obtain⟨es,clock,hbb,Ft,hs,hD⟩:=hown
    exact⟨es,clock,(hb.block b hbl).trans hbb,Ft,hs,hD⟩
   refine⟨Maps.size D0,hs,λl J W' hW hJ hY h0=>?_⟩
   refine(AnyZ.keys_gives (ρ:=R_9) { Aj5 with } Fence.wide 7 trivial rfl (by omega) Bm b nn D0 W1 hB hc hown' l J W' hW hJ hY h0).mono λe w' hh=>?_
   obtain⟨a,ss,hss,c⟩:=hh
   exact⟨a,ss,hss.trans hp,c⟩)
theorem i_m:SumOk Tryz.prog 44 (c_i 9):=
 Al5 (by kernel_rfl) Tryz.underlying43 (by kernel_rfl) (AO0 Tryz.underlying9) p_s
noncomputable def Bp8:List (Nat × SmK):=(44,c_i 9)::sums
theorem AL3:SumsOk Tryz.prog Bp8:=⟨i_m,Bc8⟩
end Go.Proofs.YtnbnmojckhcdeaaGreatDoor.base
