import Derived.Test.YtnbnmojckhcdeaaGreatDoorApF
import Derived.Test.YtnbnmojckhcdeaaGreatDoorGevAr6
import Derived.Test.YtnbnmojckhcdeaaGreatDoorBaseClone
namespace Go.Proofs.YtnbnmojckhcdeaaGreatDoor.treeApart
open Go Go.Gev Go.RowKit Go.Proofs.YtnbnmojckhcdeaaGreatDoor.base
set_option linter.unusedVariables false
noncomputable def R0(f:FuncId):List Value→Hs→An:=runK (tabF (q_t Tryz.prog 1000000 entries) u_0) 60 f
def KAw(R0:List Value→Hs→An):Runs0:=KI (λ_:Unit=>True) (λ_=>[]) (λ_=>[]) R0
def qAw(v:Value)(_:Hs):Bool:=match v with
 |.bool b=>b
 |_=>false
theorem kAw:j_1 (R0 6) [] [] qAw=true:=by kernel_rfl
noncomputable def T_c:List (Nat × SmK):=(6,fmG (KAw (R0 6)))::u_0
theorem u_4:SumsOk Tryz.prog T_c:=⟨Ae5 (by kernel_rfl) (Ar8 follows base.named (e_k T_3) (sums:=u_0) e_j 60 6 _ _ _),e_j⟩
noncomputable def RT(d:Nat):RnK:=runK (tabF (q_t Tryz.prog 1000000 entries) T_c) d
theorem hit{f:FuncId}{g:SmK}(hb:Nat.beq f 1000000000=false)(hg:(I_n T_c).getK f=some g)(d:Nat){a:List Value}{h:Hs}{o:Out}(e:g a h=some o):RT (d+1) f a h=some o:=by
 show ifB (Nat.beq f 1000000000) none (Option.rec (motive:=λ_=>An) (q_t Tryz.prog 1000000 entries (RT d) f a h) (λg=>Option.rec (motive:=λ_=>An) (q_t Tryz.prog 1000000 entries (RT d) f a h) (λo=>some o) (g a h)) ((I_n T_c).getK f))=some o
 rw[hb,hg]
 show Option.rec (motive:=λ_=>An) _ (λo=>some o) (g a h)=some o
 rw[e]
theorem hitW{f:FuncId}{g:SmK}{Q:Value→Hs→Prop}(hb:Nat.beq f 1000000000=false)(hg:(I_n T_c).getK f=some g)(d:Nat){a:List Value}{h:Hs}(w:WP (g a h) Q):WP (RT (d+1) f a h) Q:=by
 obtain⟨v,h',e,q⟩:=w
 exact⟨v,h',hit hb hg d e,q⟩
theorem atAw:(I_n T_c).getK 6=some (fmG (KAw (R0 6))):=by kernel_rfl
theorem atCl:(I_n T_c).getK 9=some (Q_z 45 49 5):=by kernel_rfl
theorem atNm:(I_n T_c).getK 44=some (R_8 9):=by kernel_rfl
theorem atSI:(I_n T_c).getK 28=some (M_c keyI Gev.eqI encZ Gev.leI 50 3):=by kernel_rfl
theorem atSS:(I_n T_c).getK 30=some (M_c keyS F_d Go.Proofs.encStr B_0 53 9):=by kernel_rfl
theorem x_i(s:Nat→Nat)(h:Hs):Emb s (E_u []) h:=⟨λi b g=>by have:=I_a g;simp at this,λi hi=>by have hi:i<0:=hi;omega,λi i' b b' g=>by have:=I_a g;simp at this⟩
theorem awk(d:Nat)(h:Hs):WP (RT (d+1) 6 [] h) λv u=>v=.bool true∧Gev.Same h u:=by
 obtain⟨v0,h0',r,hq⟩:=j_2 kAw
 refine(w_fm (λo ho=>hit rfl atAw d ho) () trivial (x_i id h) .nil rfl (λj s2 hj E2 w2=>⟨rfl,rfl⟩) r).mono λv u ⟨g1,g2⟩=>?_
 cases v0 with
 |bool b=>
  have hb:b=true:=hq
  subst hb
  cases g1
  exact⟨rfl,g2.same (Nat.zero_le _)⟩
 |_=>cases hq
theorem at4(d:Nat)(args:List Value)(h:Hs):RT (d+1) 4 args h=r4 (RT d) 1000000 args h:=by kernel_rfl
theorem at7(d:Nat)(args:List Value)(h:Hs):RT (d+1) 7 args h=r7 (RT d) 1000000 args h:=by kernel_rfl
theorem at8(d:Nat)(args:List Value)(h:Hs):RT (d+1) 8 args h=r8 (RT d) 1000000 args h:=by kernel_rfl
theorem at10(d:Nat)(args:List Value)(h:Hs):RT (d+1) 10 args h=r10 (RT d) 1000000 args h:=by kernel_rfl
theorem at11(d:Nat)(args:List Value)(h:Hs):RT (d+1) 11 args h=r11 (RT d) 1000000 args h:=by kernel_rfl
theorem at12(d:Nat)(args:List Value)(h:Hs):RT (d+1) 12 args h=r12 (RT d) 1000000 args h:=by kernel_rfl
theorem at14(d:Nat)(args:List Value)(h:Hs):RT (d+1) 14 args h=r14 (RT d) 1000000 args h:=by kernel_rfl
theorem at16(d:Nat)(args:List Value)(h:Hs):RT (d+1) 16 args h=r16 (RT d) 1000000 args h:=by kernel_rfl
theorem at17(d:Nat)(args:List Value)(h:Hs):RT (d+1) 17 args h=r17 (RT d) 1000000 args h:=by kernel_rfl
theorem at18(d:Nat)(args:List Value)(h:Hs):RT (d+1) 18 args h=r18 (RT d) 1000000 args h:=by kernel_rfl
theorem at19(d:Nat)(args:List Value)(h:Hs):RT (d+1) 19 args h=r19 (RT d) 1000000 args h:=by kernel_rfl
theorem at20(d:Nat)(args:List Value)(h:Hs):RT (d+1) 20 args h=r20 (RT d) 1000000 args h:=by kernel_rfl
theorem at21(d:Nat)(args:List Value)(h:Hs):RT (d+1) 21 args h=r21 (RT d) 1000000 args h:=by kernel_rfl
theorem at22(d:Nat)(args:List Value)(h:Hs):RT (d+1) 22 args h=r22 (RT d) 1000000 args h:=by kernel_rfl
theorem at23(d:Nat)(args:List Value)(h:Hs):RT (d+1) 23 args h=r23 (RT d) 1000000 args h:=by kernel_rfl
theorem at24(d:Nat)(args:List Value)(h:Hs):RT (d+1) 24 args h=r24 (RT d) 1000000 args h:=by kernel_rfl
theorem at25(d:Nat)(args:List Value)(h:Hs):RT (d+1) 25 args h=r25 (RT d) 1000000 args h:=by kernel_rfl
theorem at26(d:Nat)(args:List Value)(h:Hs):RT (d+1) 26 args h=r26 (RT d) 1000000 args h:=by kernel_rfl
theorem at27(d:Nat)(args:List Value)(h:Hs):RT (d+1) 27 args h=r27 (RT d) 1000000 args h:=by kernel_rfl
theorem at29(d:Nat)(args:List Value)(h:Hs):RT (d+1) 29 args h=r29 (RT d) 1000000 args h:=by kernel_rfl
theorem at31(d:Nat)(args:List Value)(h:Hs):RT (d+1) 31 args h=r31 (RT d) 1000000 args h:=by kernel_rfl
theorem at33(d:Nat)(args:List Value)(h:Hs):RT (d+1) 33 args h=r33 (RT d) 1000000 args h:=by kernel_rfl
theorem at34(d:Nat)(args:List Value)(h:Hs):RT (d+1) 34 args h=r34 (RT d) 1000000 args h:=by kernel_rfl
theorem at35(d:Nat)(args:List Value)(h:Hs):RT (d+1) 35 args h=r35 (RT d) 1000000 args h:=by kernel_rfl
theorem at36(d:Nat)(args:List Value)(h:Hs):RT (d+1) 36 args h=r36 (RT d) 1000000 args h:=by kernel_rfl
theorem at37(d:Nat)(args:List Value)(h:Hs):RT (d+1) 37 args h=r37 (RT d) 1000000 args h:=by kernel_rfl
theorem at38(d:Nat)(args:List Value)(h:Hs):RT (d+1) 38 args h=r38 (RT d) 1000000 args h:=by kernel_rfl
theorem at39(d:Nat)(args:List Value)(h:Hs):RT (d+1) 39 args h=r39 (RT d) 1000000 args h:=by kernel_rfl
theorem at40(d:Nat)(args:List Value)(h:Hs):RT (d+1) 40 args h=r40 (RT d) 1000000 args h:=by kernel_rfl
theorem at41(d:Nat)(args:List Value)(h:Hs):RT (d+1) 41 args h=r41 (RT d) 1000000 args h:=by kernel_rfl
theorem at42(d:Nat)(args:List Value)(h:Hs):RT (d+1) 42 args h=r42 (RT d) 1000000 args h:=by kernel_rfl
theorem at43(d:Nat)(args:List Value)(h:Hs):RT (d+1) 43 args h=r43 (RT d) 1000000 args h:=by kernel_rfl
theorem at45(d:Nat)(args:List Value)(h:Hs):RT (d+1) 45 args h=r45 (RT d) 1000000 args h:=by kernel_rfl
theorem at46(d:Nat)(args:List Value)(h:Hs):RT (d+1) 46 args h=r46 (RT d) 1000000 args h:=by kernel_rfl
theorem at47(d:Nat)(args:List Value)(h:Hs):RT (d+1) 47 args h=r47 (RT d) 1000000 args h:=by kernel_rfl
theorem at54(d:Nat)(args:List Value)(h:Hs):RT (d+1) 54 args h=r54 (RT d) 1000000 args h:=by kernel_rfl
theorem at55(d:Nat)(args:List Value)(h:Hs):RT (d+1) 55 args h=r55 (RT d) 1000000 args h:=by kernel_rfl
theorem at56(d:Nat)(args:List Value)(h:Hs):RT (d+1) 56 args h=r56 (RT d) 1000000 args h:=by kernel_rfl
theorem at57(d:Nat)(args:List Value)(h:Hs):RT (d+1) 57 args h=r57 (RT d) 1000000 args h:=by kernel_rfl
theorem at63(d:Nat)(args:List Value)(h:Hs):RT (d+1) 63 args h=r63 (RT d) 1000000 args h:=by kernel_rfl
theorem at64(d:Nat)(args:List Value)(h:Hs):RT (d+1) 64 args h=r64 (RT d) 1000000 args h:=by kernel_rfl
theorem at65(d:Nat)(args:List Value)(h:Hs):RT (d+1) 65 args h=r65 (RT d) 1000000 args h:=by kernel_rfl
theorem at66(d:Nat)(args:List Value)(h:Hs):RT (d+1) 66 args h=r66 (RT d) 1000000 args h:=by kernel_rfl
theorem at87(d:Nat)(args:List Value)(h:Hs):RT (d+1) 87 args h=r87 (RT d) 1000000 args h:=by kernel_rfl
theorem at88(d:Nat)(args:List Value)(h:Hs):RT (d+1) 88 args h=r88 (RT d) 1000000 args h:=by kernel_rfl
theorem at100(d:Nat)(args:List Value)(h:Hs):RT (d+1) 100 args h=r100 (RT d) 1000000 args h:=by kernel_rfl
theorem at101(d:Nat)(args:List Value)(h:Hs):RT (d+1) 101 args h=r101 (RT d) 1000000 args h:=by kernel_rfl
theorem at107(d:Nat)(args:List Value)(h:Hs):RT (d+1) 107 args h=r107 (RT d) 1000000 args h:=by kernel_rfl
theorem at109(d:Nat)(args:List Value)(h:Hs):RT (d+1) 109 args h=r109 (RT d) 1000000 args h:=by kernel_rfl
theorem n6:(100000:Nat)<1000000:=by omega
theorem As3(d:Nat):CIxB (RT (d+1)) 109:=λD c h=>by rw[at109];exact x_5
theorem cIx(d:Nat):CIx (RT (d+2)) 107:=λD c h hD=>by rw[at107];exact s_8 (As3 d) hD
theorem cSIx(d:Nat):CIx (RT (d+3)) 101:=λD c h hD=>by rw[at101];exact p_f (cIx d) hD
theorem As1(d:Nat):CContains (RT (d+4)):=λD c h hD=>by rw[at88];exact Z_k (cSIx d) hD
theorem As6(d:Nat):CName (RT (d+5)):=λD h hD=>by rw[at64];exact y_r (As1 d) hD
theorem Ac4(d:Nat):CCount (RT (d+1)):=λD c h=>by rw[at100];exact r_8
theorem w_3(d:Nat):CSplitB (RT (d+4)):=λD c h hD=>by rw[at87];exact Z_u n6 (cSIx d) (Ac4 (d+2)) hD
theorem Ad2(d:Nat):CSplit (RT (d+5)):=λD c h hD=>by rw[at63];exact q_j (w_3 d) hD
theorem j_n(d:Nat):CPSplit (RT (d+6)):=λD h hD=>by rw[at55];exact o_z n6 (Ad2 d) (As6 d) hD
theorem At1(d:Nat):CSuf (RT (d+1)) 65:=λD X h hD hX=>by rw[at65];exact Ak8 hD hX
theorem At2(d:Nat):CSuf (RT (d+2)) 56:=λD X h hD hX=>by rw[at56];exact z_w (At1 d) hD hX
theorem w_2(d:Nat):CLast (RT (d+7)):=λD h hD=>by rw[at39];exact y_g (j_n d) (At2 (d+4)) hD
theorem r_2(d:Nat):CFind (RT (d+1)):=λh t n x s A hx hk=>by rw[at42];exact find_ok A hx hk
theorem As8(d:Nat):CPart (RT (d+2)):=λh t w k n x s A hw wl hx=>by rw[at66];exact z_d (r_2 d) A hw wl hx
theorem As2(d:Nat):CFree (RT (d+1)):=λh t A hm=>by rw[at34];exact x_y n6 A hm
theorem w_5(d:Nat):CWithin (RT (d+1)):=λh t n m j A W hd hj jl=>by rw[at41];exact r_o n6 A W hd hj jl
theorem w_b(g d:Nat)(cw:CWay (RT (d+6)) g):CParts (RT (d+7)) g:=λh t w k n l sl fol A W hw wl wr k8 kg hd hs hsi hl=>by rw[at57];exact t_7 n6 (As8 (d+4)) cw A W hw wl wr k8 kg hd hs hsi hl
theorem wayS(g d:Nat)(cp:CParts (RT (d+7)) g):CWay (RT (d+8)) (g+1):=λh t w k n s fol A W hw wl wr k8 kg hd hs=>by rw[at54];exact An4 (j_n (d+1)) cp A W hw wl wr k8 (by omega) hd hs
theorem wayG(d:Nat):∀g,CWay (RT (d+2*g+6)) g
 |0=>λh t w k n s fol A W hw wl wr k8 kg hd hs=>absurd kg (by omega)
 |g+1=>wayS g (d+2*g) (w_b g (d+2*g) (wayG d g))
theorem j_s(d:Nat):CWayT (RT (d+25)):=λh t s fol A W hs=>by rw[at36];exact Aa6 (wayG d 9) A W hs
theorem cDir(d:Nat):CDir (RT (d+26)):=λh t l sl A W hr hl=>by rw[at40];exact x_e (w_b 9 (d+18) (wayG d 9)) A W hr hl
theorem v_q(d:Nat):CFresh (RT (d+27)):=λh t s A W hs=>by rw[at33];exact s_z (w_2 (d+19)) (cDir d) (r_2 (d+25)) A W hs
theorem cOld(d:Nat):COld (RT (d+27)):=λh t s A W hs=>by rw[at37];exact Ai1 (w_2 (d+19)) (cDir d) (r_2 (d+25)) A W hs
theorem Q_y(d:Nat):CFail (RT (d+1)):=λe h=>by rw[at17];exact x_v
theorem cPut(d:Nat):CPut (RT (d+1)):=λh t n m s x y A hx hk hs hy nd hB l0 l1=>by rw[at35];exact Ai9 A hx hk hs hy nd hB l0 l1
theorem w_1(d:Nat):CDrop (RT (d+1)):=λh t n m s x y A hx hk hs hy nd l0 l1=>by rw[at38];exact x_h A hx hk hs hy nd l0 l1
theorem As7(d:Nat):COver (RT (d+1)):=λh t n m a b A ha hb=>by rw[at43];exact z_c A ha hb
theorem w_z(d:Nat):CCreate (RT (d+28)):=λh t s x q nb dv A W I l0 l1 hB hs=>by rw[at16];exact k_h (Q_y (d+26)) (v_q d) (As2 (d+26)) (cPut (d+26)) A W I l0 l1 hB hs
theorem w_4(d:Nat):CUp (RT (d+28)) 19 (λT a _=>P_q T a):=λh t k a b p q dv A W hB ha hb=>by rw[at19];exact q_0 (Q_y (d+26)) (cOld d) (w_1 (d+26)) A W ha
theorem Ad1(d:Nat):CUp (RT (d+28)) 20 (λT a _=>U_r T a):=λh t k a b p q dv A W hB ha hb=>by rw[at20];exact u_d (Q_y (d+26)) (cOld d) (w_1 (d+26)) A W ha
theorem As4(d:Nat):CUp (RT (d+28)) 18 g_s:=λh t k a b p q dv A W hB ha hb=>by rw[at18];exact y_j (Q_y (d+26)) (j_s (d+2)) (v_q d) (cPut (d+26)) A W hB ha hb
theorem cRen(d:Nat):CUp (RT (d+28)) 21 P_k:=λh t k a b p q dv A W hB ha hb=>by rw[at21];exact o_9 (Q_y (d+26)) (w_2 (d+20)) (cOld d) (cDir (d+1)) (r_2 (d+26)) (w_5 (d+26)) (As7 (d+26)) (w_1 (d+26)) (cPut (d+26)) A W hB ha hb
theorem cBC(d:Nat):CBClone (RT (d+1)):=λv D h hl r=>by rw[at14];exact j_a hl r
theorem At0(d:Nat):CISize (RT (d+1)):=λh t n x A hx=>by rw[at45];exact t_d A hx
theorem Ad0(d:Nat):CNames (RT (d+1)):=λh t n x A W hB hx hk=>hitW rfl atNm d (V_w A W hB hx hk)
theorem As5(d:Nat):CLook (RT (d+28)):=λh t k a b p q dv A W hB ha hk=>by rw[at22];exact y_l (Q_y (d+26)) (j_s (d+2)) (cBC (d+26)) (At0 (d+26)) (Ad0 (d+26)) A W hB ha hk
theorem cFit(d:Nat):CFitT (RT (d+1)):=λh t n m x A hx hm=>by rw[at47];exact Ae4 A hx hm
theorem Ad3(d:Nat):CWrite (RT (d+2)):=λh t n k a s s2 X q xv x A hx dl r rn xl al=>by rw[at46];exact v_n (Q_y d) (cFit d) A hx dl r rn xl al
theorem Ac6(d:Nat):CFileR (RT (d+28)):=λh t s s2 a n xv A W hs ha hn=>by rw[at23];exact s_n (Q_y (d+26)) (j_s (d+2)) (cBC (d+26)) A W hs ha hn
theorem Ac8(d:Nat):CFileW (RT (d+28)):=λh t s s2 X a n xv A W hs ha r rn xl=>by rw[at23];exact s_p (Q_y (d+26)) (j_s (d+2)) (Ad3 (d+25)) A W hs ha r rn xl
theorem Ac7(d:Nat):CFileT (RT (d+28)):=λh t s s2 a n xv A W hs hn=>by rw[at23];exact s_o (Q_y (d+26)) (j_s (d+2)) (cFit (d+26)) A W hs hn
theorem Ac5(d:Nat):CDoAll (RT (d+28)):=⟨Q_y (d+27),w_z d,cBC (d+27),As4 d,w_4 d,Ad1 d,cRen d,As5 d,Ac6 d,Ac8 d,Ac7 d⟩
theorem cDo(d:Nat):CDo (RT (d+29)):=λh t o xv A W hB ha hb hX hat hn r rn=>by rw[at10];exact At3 (Ac5 d) A W hB ha hb hX hat hn r rn
theorem cNew(d:Nat):CNew (RT (d+1)):=λn h hn=>by rw[at7];exact Ah4 hn
theorem Ac3(d:Nat):CCloneT (RT (d+1)):=λh t A W hB=>hitW rfl atCl d (V_b A W hB)
theorem cKI(d:Nat):CKeysI (RT (d+1)):=λh b=>by rw[at29];exact t_h
theorem cKS(d:Nat):CKeysS (RT (d+1)):=λh b=>by rw[at31];exact t_j
theorem cSI(d:Nat):CSortI (RT (d+1)):=λh k b es cl ks hb e1 e2=>hitW rfl atSI d (u_w hb e1 e2)
theorem cSS(d:Nat):CSortS (RT (d+1)):=λh k m ks hb M=>hitW rfl atSS d (u_x hb M)
theorem j_o(d:Nat):CPartsT (RT (d+2)):=λh t A W hB=>by rw[at12];exact o_w n6 (cKI d) (cKS d) (cSI d) (cSS d) (cBC d) A W hB
theorem cBEq(d:Nat):CBEq (RT (d+1)):=λh a b D r r2=>by rw[at26];exact Ac1 r r2
theorem cNEq(d:Nat):CNEq (RT (d+1)):=λh a b l hl r r2=>by rw[at27];exact Ah3 n6 hl r r2
theorem cSm1(d:Nat):CSm1 (RT (d+2)):=λh p d1 n1 d2 n2 hl r1 r2 q1 q2=>by rw[at25];exact Aj4 (cBEq d) (cNEq d) hl r1 r2 q1 q2
theorem cEqF(d:Nat):CEqF (RT (d+3)):=λh a b ps hl hn r r2=>by rw[at24];exact Ae0 n6 (cSm1 d) hl hn r r2
theorem As9(d:Nat):CSame (RT (d+4)):=λh t t' A A' W hB hB' eT em=>by rw[at11];exact z_o (j_o (d+1)) (cEqF d) A A' W hB hB' eT em
theorem Ac9(d:Nat):CHeavy (RT (d+1)):=λh o dv r=>by rw[at8];exact s_4 r
theorem v_9{h:Hs}{v:Value}{M:List (OpW × List UInt8)}(r:Rd h v 6 (M.map λe=>opCs e.1))(q:∀e∈M,Rd h e.1.d 1 (ones (A_s e.2))∧Gev.In64 e.1.m∧Gev.In64 e.1.n):OpsAt h v (M.map λe=>(opCs e.1,(⟨e.1.k,e.1.a,e.1.b,e.1.m,e.1.n,e.2⟩:OpA))):=by
 refine⟨by rw[List.map_map];exact r,λe he=>?_⟩
 obtain⟨x,hx,rfl⟩:=List.mem_map.1 he
 obtain⟨a,b,c⟩:=q x hx
 exact⟨x.1.d,rfl,a,b,c⟩
theorem ran{v1 v2:Value}{M M2:List (OpW × List UInt8)}{h:Hs}(r:Rd h v1 6 (M.map λe=>opCs e.1))(q:∀e∈M,Rd h e.1.d 1 (ones (A_s e.2))∧Gev.In64 e.1.m∧Gev.In64 e.1.n)(r2:Rd h v2 6 (M2.map λe=>opCs e.1))(q2:∀e∈M2,Rd h e.1.d 1 (ones (A_s e.2))∧Gev.In64 e.1.m∧Gev.In64 e.1.n) :
 WP (RT 51 4 [v1,v2] h) (yesQ h):=by
 rw[at4]
 exact r_u (N:=1000000) (by omega) (cNew 49) (Ac9 49) (Ac3 49) (cDo 21) (As9 46) (j_o 48) (v_9 r q) (v_9 r2 q2) (awk 49 _)
theorem called(w:World)(v1 v2:Value)(hv1:IsOps w v1)(hv2:IsOps w v2):Calls Tryz.prog 4 #[v1,v2] w λe w'=>e=.returned (.bool true)∧Below w.heap.size w w':=by
 have RA:HR w.heap.size (λ_=>none) ⟨.e,0,0⟩ w:=⟨Nat.le_refl _,λ_ _=>rfl,(λid b hb=>by rw[Tr.get_e] at hb;cases hb),(λid id' b b' H H' hb=>by rw[Tr.get_e] at hb;cases hb)⟩
 obtain⟨x1,h1,ρ1,M1,le1,r1,R1,f1,rd1,q1,g1,n1⟩:=i_4 RA (λid b hb=>by rw[Tr.get_e] at hb;cases hb) hv1
 obtain⟨x2,h2,ρ2,M2,le2,r2,R2,f2,rd2,q2,g2,n2⟩:=i_4 R1 f1 hv2
 have hl:VL ρ2 [x1,x2] (#[v1,v2]:Array Value).toList:=.cons (VR.mono le2 r1) (.cons r2 .nil)
 obtain⟨v,h',e,rfl,rfl⟩:=ran (rd1.grow n2 g2) (λe he=>⟨(q1 e he).1.grow n2 g2,(q1 e he).2⟩) rd2 q2
 refine(V_7 follows base.named (e_k T_3) u_4 51 4 _ #[v1,v2] _ h' _ w.heap.size ρ2 w e hl R2).mono λe w' hq=>?_
 obtain⟨v',ρ',q1,q2,q3⟩:=hq
 exact⟨by rw[q1,q2.bool_inv],q3.below⟩
end Go.Proofs.YtnbnmojckhcdeaaGreatDoor.treeApart
