import Derived.Test.YtnbnmojckhcdeaaGreatDoorMoF
import Derived.Test.YtnbnmojckhcdeaaGreatDoorGevAr6
import Derived.Test.YtnbnmojckhcdeaaGreatDoorBaseClone
namespace Go.Proofs.YtnbnmojckhcdeaaGreatDoor.treeMoves
open Go Go.Gev Go.RowKit Go.Proofs.YtnbnmojckhcdeaaGreatDoor.base
set_option linter.unusedVariables false
noncomputable def R0(f:FuncId):List Value→Hs→An:=runK (tabF (Aw5 Tryz.prog 1000000 entries) AL2) 60 f
def KAw(R0:List Value→Hs→An):Runs0:=KI (λ_:Unit=>True) (λ_=>[]) (λ_=>[]) R0
def qAw(v:Value)(_:Hs):Bool:=match v with
 |.bool b=>b
 |_=>false
theorem kAw:z_u (R0 6) [] [] qAw=true:=by kernel_rfl
noncomputable def e_i:List (Nat × SmK):=(6,fmG (KAw (R0 6)))::AL2
theorem AL4:SumsOk Tryz.prog e_i:=⟨Bi9 (by kernel_rfl) (Bw8 follows base.named (u_e e_6) (sums:=AL2) u_c 60 6 _ _ _),u_c⟩
noncomputable def RT(d:Nat):RnK:=runK (tabF (Aw5 Tryz.prog 1000000 entries) e_i) d
theorem hit{f:FuncId}{g:SmK}(hb:Nat.beq f 1000000000=false)(hg:(P_n e_i).getK f=some g)(d:Nat){a:List Value}{h:Hs}{o:Out}(e:g a h=some o):RT (d+1) f a h=some o:=by
 show ifB (Nat.beq f 1000000000) none (Option.rec (motive:=λ_=>An) (Aw5 Tryz.prog 1000000 entries (RT d) f a h) (λg=>Option.rec (motive:=λ_=>An) (Aw5 Tryz.prog 1000000 entries (RT d) f a h) (λo=>some o) (g a h)) ((P_n e_i).getK f))=some o
 rw[hb,hg]
 show Option.rec (motive:=λ_=>An) _ (λo=>some o) (g a h)=some o
 rw[e]
theorem hitW{f:FuncId}{g:SmK}{Q:Value→Hs→Prop}(hb:Nat.beq f 1000000000=false)(hg:(P_n e_i).getK f=some g)(d:Nat){a:List Value}{h:Hs}(w:WP (g a h) Q):WP (RT (d+1) f a h) Q:=by
 obtain⟨v,h',e,q⟩:=w
 exact⟨v,h',hit hb hg d e,q⟩
theorem atAw:(P_n e_i).getK 6=some (fmG (KAw (R0 6))):=by kernel_rfl
theorem atCl:(P_n e_i).getK 9=some (a_o 45 49 5):=by kernel_rfl
theorem atNm:(P_n e_i).getK 44=some (c_i 9):=by kernel_rfl
theorem atSI:(P_n e_i).getK 28=some (U_z keyI Gev.eqI encZ Gev.leI 50 3):=by kernel_rfl
theorem atSS:(P_n e_i).getK 30=some (U_z keyS K_p Go.Proofs.encStr E_0 53 9):=by kernel_rfl
theorem AT9(s:Nat→Nat)(h:Hs):Emb s (J_3 []) h:=⟨λi b g=>by have:=P_a g;simp at this,λi hi=>by have hi:i<0:=hi;omega,λi i' b b' g=>by have:=P_a g;simp at this⟩
theorem awk(d:Nat)(h:Hs):WP (RT (d+1) 6 [] h) λv u=>v=.bool true∧Gev.Same h u:=by
 obtain⟨v0,h0',r,hq⟩:=z_x kAw
 refine(w_fm (λo ho=>hit rfl atAw d ho) () trivial (AT9 id h) .nil rfl (λj s2 hj E2 w2=>⟨rfl,rfl⟩) r).mono λv u ⟨g1,g2⟩=>?_
 cases v0 with
 |bool b=>
  have hb:b=true:=hq
  subst hb
  cases g1
  exact⟨rfl,g2.same (Nat.zero_le _)⟩
 |_=>cases hq
theorem at5(d:Nat)(args:List Value)(h:Hs):RT (d+1) 5 args h=r5 (RT d) 1000000 args h:=by kernel_rfl
theorem at7(d:Nat)(args:List Value)(h:Hs):RT (d+1) 7 args h=r7 (RT d) 1000000 args h:=by kernel_rfl
theorem at8(d:Nat)(args:List Value)(h:Hs):RT (d+1) 8 args h=r8 (RT d) 1000000 args h:=by kernel_rfl
theorem at10(d:Nat)(args:List Value)(h:Hs):RT (d+1) 10 args h=r10 (RT d) 1000000 args h:=by kernel_rfl
theorem at11(d:Nat)(args:List Value)(h:Hs):RT (d+1) 11 args h=r11 (RT d) 1000000 args h:=by kernel_rfl
theorem at12(d:Nat)(args:List Value)(h:Hs):RT (d+1) 12 args h=r12 (RT d) 1000000 args h:=by kernel_rfl
theorem at14(d:Nat)(args:List Value)(h:Hs):RT (d+1) 14 args h=r14 (RT d) 1000000 args h:=by kernel_rfl
theorem at16(d:Nat)(args:List Value)(h:Hs):RT (d+1) 16 args h=r16 (RT d) 1000000 args h:=by kernel_rfl
theorem at17(d:Nat)(args:List Value)(h:Hs):RT (d+1) 17 args h=r17 (RT d) 1000000 args h:=by kernel_rfl
theorem at18(d:Nat)(args:List Value)(h:Hs):RT (d+1) 18 args h=r18 (RT d) 1000000 args h:=by kernel_rfl
theorem at19(d:Nat)(args:List Value)(h:Hs):RT (d+1) 19 args h=r19 (RT d) 1000000 args h:=by kernel_rfl
theorem at20(d:Nat)(args:List Value)(h:Hs):RT (d+1) 20 args h=r20 (RT d) 1000000 args h:=by kernel_rfl
theorem at21(d:Nat)(args:List Value)(h:Hs):RT (d+1) 21 args h=r21 (RT d) 1000000 args h:=by kernel_rfl
theorem at22(d:Nat)(args:List Value)(h:Hs):RT (d+1) 22 args h=r22 (RT d) 1000000 args h:=by kernel_rfl
theorem at23(d:Nat)(args:List Value)(h:Hs):RT (d+1) 23 args h=r23 (RT d) 1000000 args h:=by kernel_rfl
theorem at24(d:Nat)(args:List Value)(h:Hs):RT (d+1) 24 args h=r24 (RT d) 1000000 args h:=by kernel_rfl
theorem at25(d:Nat)(args:List Value)(h:Hs):RT (d+1) 25 args h=r25 (RT d) 1000000 args h:=by kernel_rfl
theorem at26(d:Nat)(args:List Value)(h:Hs):RT (d+1) 26 args h=r26 (RT d) 1000000 args h:=by kernel_rfl
theorem at27(d:Nat)(args:List Value)(h:Hs):RT (d+1) 27 args h=r27 (RT d) 1000000 args h:=by kernel_rfl
theorem at29(d:Nat)(args:List Value)(h:Hs):RT (d+1) 29 args h=r29 (RT d) 1000000 args h:=by kernel_rfl
theorem at31(d:Nat)(args:List Value)(h:Hs):RT (d+1) 31 args h=r31 (RT d) 1000000 args h:=by kernel_rfl
theorem at33(d:Nat)(args:List Value)(h:Hs):RT (d+1) 33 args h=r33 (RT d) 1000000 args h:=by kernel_rfl
theorem at34(d:Nat)(args:List Value)(h:Hs):RT (d+1) 34 args h=r34 (RT d) 1000000 args h:=by kernel_rfl
theorem at35(d:Nat)(args:List Value)(h:Hs):RT (d+1) 35 args h=r35 (RT d) 1000000 args h:=by kernel_rfl
theorem at36(d:Nat)(args:List Value)(h:Hs):RT (d+1) 36 args h=r36 (RT d) 1000000 args h:=by kernel_rfl
theorem at37(d:Nat)(args:List Value)(h:Hs):RT (d+1) 37 args h=r37 (RT d) 1000000 args h:=by kernel_rfl
theorem at38(d:Nat)(args:List Value)(h:Hs):RT (d+1) 38 args h=r38 (RT d) 1000000 args h:=by kernel_rfl
theorem at39(d:Nat)(args:List Value)(h:Hs):RT (d+1) 39 args h=r39 (RT d) 1000000 args h:=by kernel_rfl
theorem at40(d:Nat)(args:List Value)(h:Hs):RT (d+1) 40 args h=r40 (RT d) 1000000 args h:=by kernel_rfl
theorem at41(d:Nat)(args:List Value)(h:Hs):RT (d+1) 41 args h=r41 (RT d) 1000000 args h:=by kernel_rfl
theorem at42(d:Nat)(args:List Value)(h:Hs):RT (d+1) 42 args h=r42 (RT d) 1000000 args h:=by kernel_rfl
theorem at43(d:Nat)(args:List Value)(h:Hs):RT (d+1) 43 args h=r43 (RT d) 1000000 args h:=by kernel_rfl
theorem at45(d:Nat)(args:List Value)(h:Hs):RT (d+1) 45 args h=r45 (RT d) 1000000 args h:=by kernel_rfl
theorem at46(d:Nat)(args:List Value)(h:Hs):RT (d+1) 46 args h=r46 (RT d) 1000000 args h:=by kernel_rfl
theorem at47(d:Nat)(args:List Value)(h:Hs):RT (d+1) 47 args h=r47 (RT d) 1000000 args h:=by kernel_rfl
theorem at54(d:Nat)(args:List Value)(h:Hs):RT (d+1) 54 args h=r54 (RT d) 1000000 args h:=by kernel_rfl
theorem at55(d:Nat)(args:List Value)(h:Hs):RT (d+1) 55 args h=r55 (RT d) 1000000 args h:=by kernel_rfl
theorem at56(d:Nat)(args:List Value)(h:Hs):RT (d+1) 56 args h=r56 (RT d) 1000000 args h:=by kernel_rfl
theorem at57(d:Nat)(args:List Value)(h:Hs):RT (d+1) 57 args h=r57 (RT d) 1000000 args h:=by kernel_rfl
theorem at63(d:Nat)(args:List Value)(h:Hs):RT (d+1) 63 args h=r63 (RT d) 1000000 args h:=by kernel_rfl
theorem at64(d:Nat)(args:List Value)(h:Hs):RT (d+1) 64 args h=r64 (RT d) 1000000 args h:=by kernel_rfl
theorem at65(d:Nat)(args:List Value)(h:Hs):RT (d+1) 65 args h=r65 (RT d) 1000000 args h:=by kernel_rfl
theorem at66(d:Nat)(args:List Value)(h:Hs):RT (d+1) 66 args h=r66 (RT d) 1000000 args h:=by kernel_rfl
theorem at87(d:Nat)(args:List Value)(h:Hs):RT (d+1) 87 args h=r87 (RT d) 1000000 args h:=by kernel_rfl
theorem at88(d:Nat)(args:List Value)(h:Hs):RT (d+1) 88 args h=r88 (RT d) 1000000 args h:=by kernel_rfl
theorem at100(d:Nat)(args:List Value)(h:Hs):RT (d+1) 100 args h=r100 (RT d) 1000000 args h:=by kernel_rfl
theorem at101(d:Nat)(args:List Value)(h:Hs):RT (d+1) 101 args h=r101 (RT d) 1000000 args h:=by kernel_rfl
theorem at107(d:Nat)(args:List Value)(h:Hs):RT (d+1) 107 args h=r107 (RT d) 1000000 args h:=by kernel_rfl
theorem at109(d:Nat)(args:List Value)(h:Hs):RT (d+1) 109 args h=r109 (RT d) 1000000 args h:=by kernel_rfl
theorem n6:(100000:Nat)<1000000:=by omega
theorem Bx3(d:Nat):CIxB (RT (d+1)) 109:=λD c h=>by rw[at109];exact AV9
theorem cIx(d:Nat):CIx (RT (d+2)) 107:=λD c h hD=>by rw[at107];exact AE7 (Bx3 d) hD
theorem cSIx(d:Nat):CIx (RT (d+3)) 101:=λD c h hD=>by rw[at101];exact Ar1 (cIx d) hD
theorem Bx1(d:Nat):CContains (RT (d+4)):=λD c h hD=>by rw[at88];exact o_g (cSIx d) hD
theorem Bx6(d:Nat):CName (RT (d+5)):=λD h hD=>by rw[at64];exact AY5 (Bx1 d) hD
theorem Bg7(d:Nat):CCount (RT (d+1)):=λD c h=>by rw[at100];exact AB5
theorem AS4(d:Nat):CSplitB (RT (d+4)):=λD c h hD=>by rw[at87];exact o_6 n6 (cSIx d) (Bg7 (d+2)) hD
theorem Bh5(d:Nat):CSplit (RT (d+5)):=λD c h hD=>by rw[at63];exact Av3 (AS4 d) hD
theorem z_e(d:Nat):CPSplit (RT (d+6)):=λD h hD=>by rw[at55];exact Ap5 n6 (Bh5 d) (Bx6 d) hD
theorem By1(d:Nat):CSuf (RT (d+1)) 65:=λD X h hD hX=>by rw[at65];exact Bp7 hD hX
theorem By2(d:Nat):CSuf (RT (d+2)) 56:=λD X h hD hX=>by rw[at56];exact Bc7 (By1 d) hD hX
theorem AS2(d:Nat):CLast (RT (d+7)):=λD h hD=>by rw[at39];exact AX4 (z_e d) (By2 (d+4)) hD
theorem AA9(d:Nat):CFind (RT (d+1)):=λh t n x s A hx hk=>by rw[at42];exact find_ok A hx hk
theorem Bx8(d:Nat):CPart (RT (d+2)):=λh t w k n x s A hw wl hx=>by rw[at66];exact Ba8 (AA9 d) A hw wl hx
theorem Bx2(d:Nat):CFree (RT (d+1)):=λh t A hm=>by rw[at34];exact AV4 n6 A hm
theorem AS6(d:Nat):CWithin (RT (d+1)):=λh t n m j A W hd hj jl=>by rw[at41];exact Az6 n6 A W hd hj jl
theorem AP6(g d:Nat)(cw:CWay (RT (d+6)) g):CParts (RT (d+7)) g:=λh t w k n l sl fol A W hw wl wr k8 kg hd hs hsi hl=>by rw[at57];exact AI3 n6 (Bx8 (d+4)) cw A W hw wl wr k8 kg hd hs hsi hl
theorem wayS(g d:Nat)(cp:CParts (RT (d+7)) g):CWay (RT (d+8)) (g+1):=λh t w k n s fol A W hw wl wr k8 kg hd hs=>by rw[at54];exact Bs4 (z_e (d+1)) cp A W hw wl wr k8 (by omega) hd hs
theorem wayG(d:Nat):∀g,CWay (RT (d+2*g+6)) g
 |0=>λh t w k n s fol A W hw wl wr k8 kg hd hs=>absurd kg (by omega)
 |g+1=>wayS g (d+2*g) (AP6 g (d+2*g) (wayG d g))
theorem z_j(d:Nat):CWayT (RT (d+25)):=λh t s fol A W hs=>by rw[at36];exact Be8 (wayG d 9) A W hs
theorem cDir(d:Nat):CDir (RT (d+26)):=λh t l sl A W hr hl=>by rw[at40];exact AT5 (AP6 9 (d+18) (wayG d 9)) A W hr hl
theorem AN6(d:Nat):CFresh (RT (d+27)):=λh t s A W hs=>by rw[at33];exact AE0 (AS2 (d+19)) (cDir d) (AA9 (d+25)) A W hs
theorem cOld(d:Nat):COld (RT (d+27)):=λh t s A W hs=>by rw[at37];exact Bm7 (AS2 (d+19)) (cDir d) (AA9 (d+25)) A W hs
theorem a_n(d:Nat):CFail (RT (d+1)):=λe h=>by rw[at17];exact AV1
theorem cPut(d:Nat):CPut (RT (d+1)):=λh t n m s x y A hx hk hs hy nd hB l0 l1=>by rw[at35];exact Bn8 A hx hk hs hy nd hB l0 l1
theorem AS1(d:Nat):CDrop (RT (d+1)):=λh t n m s x y A hx hk hs hy nd l0 l1=>by rw[at38];exact AT8 A hx hk hs hy nd l0 l1
theorem Bx7(d:Nat):COver (RT (d+1)):=λh t n m a b A ha hb=>by rw[at43];exact Ba7 A ha hb
theorem AS0(d:Nat):CCreate (RT (d+28)):=λh t s x q nb dv A W I l0 l1 hB hs=>by rw[at16];exact Aa9 (a_n (d+26)) (AN6 d) (Bx2 (d+26)) (cPut (d+26)) A W I l0 l1 hB hs
theorem AS5(d:Nat):CUp (RT (d+28)) 19 (λT a _=>Y_y T a):=λh t k a b p q dv A W hB ha hb=>by rw[at19];exact Ax5 (a_n (d+26)) (cOld d) (AS1 (d+26)) A W ha
theorem Bh4(d:Nat):CUp (RT (d+28)) 20 (λT a _=>g_c T a):=λh t k a b p q dv A W hB ha hb=>by rw[at20];exact AI9 (a_n (d+26)) (cOld d) (AS1 (d+26)) A W ha
theorem Bx4(d:Nat):CUp (RT (d+28)) 18 w_6:=λh t k a b p q dv A W hB ha hb=>by rw[at18];exact AX7 (a_n (d+26)) (z_j (d+2)) (AN6 d) (cPut (d+26)) A W hB ha hb
theorem cRen(d:Nat):CUp (RT (d+28)) 21 L_3:=λh t k a b p q dv A W hB ha hb=>by rw[at21];exact Aq5 (a_n (d+26)) (AS2 (d+20)) (cOld d) (cDir (d+1)) (AA9 (d+26)) (AS6 (d+26)) (Bx7 (d+26)) (AS1 (d+26)) (cPut (d+26)) A W hB ha hb
theorem cBC(d:Nat):CBClone (RT (d+1)):=λv D h hl r=>by rw[at14];exact y_0 hl r
theorem By0(d:Nat):CISize (RT (d+1)):=λh t n x A hx=>by rw[at45];exact AF2 A hx
theorem Bh3(d:Nat):CNames (RT (d+1)):=λh t n x A W hB hx hk=>hitW rfl atNm d (i_m A W hB hx hk)
theorem Bx5(d:Nat):CLook (RT (d+28)):=λh t k a b p q dv A W hB ha hk=>by rw[at22];exact AX9 (a_n (d+26)) (z_j (d+2)) (cBC (d+26)) (By0 (d+26)) (Bh3 (d+26)) A W hB ha hk
theorem cFit(d:Nat):CFitT (RT (d+1)):=λh t n m x A hx hm=>by rw[at47];exact Bi8 A hx hm
theorem Bh6(d:Nat):CWrite (RT (d+2)):=λh t n k a s s2 X q xv x A hx dl r rn xl al=>by rw[at46];exact AN3 (a_n d) (cFit d) A hx dl r rn xl al
theorem Bg9(d:Nat):CFileR (RT (d+28)):=λh t s s2 a n xv A W hs ha hn=>by rw[at23];exact AC9 (a_n (d+26)) (z_j (d+2)) (cBC (d+26)) A W hs ha hn
theorem Bh1(d:Nat):CFileW (RT (d+28)):=λh t s s2 X a n xv A W hs ha r rn xl=>by rw[at23];exact AD1 (a_n (d+26)) (z_j (d+2)) (Bh6 (d+25)) A W hs ha r rn xl
theorem Bh0(d:Nat):CFileT (RT (d+28)):=λh t s s2 a n xv A W hs hn=>by rw[at23];exact AD0 (a_n (d+26)) (z_j (d+2)) (cFit (d+26)) A W hs hn
theorem Bg8(d:Nat):CDoAll (RT (d+28)):=⟨a_n (d+27),AS0 d,cBC (d+27),Bx4 d,AS5 d,Bh4 d,cRen d,Bx5 d,Bg9 d,Bh1 d,Bh0 d⟩
theorem cDo(d:Nat):CDo (RT (d+29)):=λh t o xv A W hB ha hb hX hat hn r rn=>by rw[at10];exact By3 (Bg8 d) A W hB ha hb hX hat hn r rn
theorem cNew(d:Nat):CNew (RT (d+1)):=λn h hn=>by rw[at7];exact Bm0 hn
theorem Bg6(d:Nat):CCloneT (RT (d+1)):=λh t A W hB=>hitW rfl atCl d (h_c A W hB)
theorem cKI(d:Nat):CKeysI (RT (d+1)):=λh b=>by rw[at29];exact AF6
theorem cKS(d:Nat):CKeysS (RT (d+1)):=λh b=>by rw[at31];exact AF8
theorem cSI(d:Nat):CSortI (RT (d+1)):=λh k b es cl ks hb e1 e2=>hitW rfl atSI d (AK8 hb e1 e2)
theorem cSS(d:Nat):CSortS (RT (d+1)):=λh k m ks hb M=>hitW rfl atSS d (AK9 hb M)
theorem AS3(d:Nat):CPartsT (RT (d+2)):=λh t A W hB=>by rw[at12];exact Ap1 n6 (cKI d) (cKS d) (cSI d) (cSS d) (cBC d) A W hB
theorem cBEq(d:Nat):CBEq (RT (d+1)):=λh a b D r r2=>by rw[at26];exact Bg4 r r2
theorem cNEq(d:Nat):CNEq (RT (d+1)):=λh a b l hl r r2=>by rw[at27];exact Bl9 n6 hl r r2
theorem cSm1(d:Nat):CSm1 (RT (d+2)):=λh p d1 n1 d2 n2 hl r1 r2 q1 q2=>by rw[at25];exact Bo3 (cBEq d) (cNEq d) hl r1 r2 q1 q2
theorem cEqF(d:Nat):CEqF (RT (d+3)):=λh a b ps hl hn r r2=>by rw[at24];exact Bi4 n6 (cSm1 d) hl hn r r2
theorem Bx9(d:Nat):CSame (RT (d+4)):=λh t t' A A' W hB hB' eT em=>by rw[at11];exact Bc0 (AS3 (d+1)) (cEqF d) A A' W hB hB' eT em
theorem Bh2(d:Nat):CHeavy (RT (d+1)):=λh o dv r=>by rw[at8];exact AE3 r
theorem Bn0{h:Hs}{v:Value}{M:List (OpW × List UInt8)}(r:Rd h v 6 (M.map λe=>opCs e.1))(q:∀e∈M,Rd h e.1.d 1 (ones (B_9 e.2))∧Gev.In64 e.1.m∧Gev.In64 e.1.n):OpsAt h v (M.map λe=>(opCs e.1,(⟨e.1.k,e.1.a,e.1.b,e.1.m,e.1.n,e.2⟩:OpA))):=by
 refine⟨by rw[List.map_map];exact r,λe he=>?_⟩
 obtain⟨x,hx,rfl⟩:=List.mem_map.1 he
 obtain⟨a,b,c⟩:=q x hx
 exact⟨x.1.d,rfl,a,b,c⟩
theorem ran{v1:Value}{a b:List UInt8}{M:List (OpW × List UInt8)}{h:Hs}(r:Rd h v1 6 (M.map λe=>opCs e.1))(q:∀e∈M,Rd h e.1.d 1 (ones (B_9 e.2))∧Gev.In64 e.1.m∧Gev.In64 e.1.n) :
 WP (RT 51 5 [v1,sV a,sV b] h) (yesQ h):=by
 rw[at5]
 exact AH0 (N:=1000000) (by omega) (cNew 49) (Bh2 49) (Bg6 49) (cDo 21) (Bx9 46) (Bn0 r q) (awk 49 _)
theorem called(w:World)(v1:Value)(s1 s2:ByteArray)(hv1:IsOps w v1):Calls Tryz.prog 5 #[v1,.string s1,.string s2] w λe w'=>e=.returned (.bool true)∧Below w.heap.size w w':=by
 obtain⟨a,rfl⟩:∃a:List UInt8,s1=⟨a.toArray⟩:=⟨s1.data.toList,by cases s1;simp⟩
 obtain⟨b,rfl⟩:∃a:List UInt8,s2=⟨a.toArray⟩:=⟨s2.data.toList,by cases s2;simp⟩
 have RA:HR w.heap.size (λ_=>none) ⟨.e,0,0⟩ w:=⟨lR _,λ_ _=>rfl,(λid b hb=>by rw[Tr.get_e] at hb;cases hb),(λid id' b b' H H' hb=>by rw[Tr.get_e] at hb;cases hb)⟩
 obtain⟨x1,h1,ρ1,M1,le1,r1,R1,f1,rd1,q1,g1,n1⟩:=AR5 RA (λid b hb=>by rw[Tr.get_e] at hb;cases hb) hv1
 have hl:VL ρ1 [x1,sV a,sV b] (#[v1,.string ⟨a.toArray⟩,.string ⟨b.toArray⟩]:Array Value).toList:=.cons r1 (.cons (.string _) (.cons (.string _) .nil))
 obtain⟨v,h',e,rfl,rfl⟩:=ran (a:=a) (b:=b) rd1 q1
 refine(i_3 follows base.named (u_e e_6) AL4 51 5 _ #[v1,.string ⟨a.toArray⟩,.string ⟨b.toArray⟩] _ h' _ w.heap.size ρ1 w e hl R1).mono λe w' hq=>?_
 obtain⟨v',ρ',q1,q2,q3⟩:=hq
 exact⟨by rw[q1,q2.bool_inv],q3.below⟩
end Go.Proofs.YtnbnmojckhcdeaaGreatDoor.treeMoves
