import Derived.Test.YtnbnmojckhcdeaaGreatDoorTrF
import Derived.Test.YtnbnmojckhcdeaaGreatDoorGevAr6
import Derived.Test.YtnbnmojckhcdeaaGreatDoorBaseClone
namespace Go.Proofs.YtnbnmojckhcdeaaGreatDoor.treeRefused
open Go Go.Gev Go.RowKit Go.Proofs.YtnbnmojckhcdeaaGreatDoor.base
set_option linter.unusedVariables false
noncomputable def R0(f:FuncId):List Value→Hs→An:=runK (tabF (b_l Tryz.prog 1000000 entries) f_h) 60 f
def KAw(R0:List Value→Hs→An):Runs0:=KI (λ_:Unit=>True) (λ_=>[]) (λ_=>[]) R0
def qAw(v:Value)(_:Hs):Bool:=match v with
 |.bool b=>b
 |_=>false
theorem kAw:W_4 (R0 6) [] [] qAw=true:=by kernel_rfl
noncomputable def L_l:List (Nat × SmK):=(6,fmG (KAw (R0 6)))::f_h
theorem f_j:SumsOk Tryz.prog L_l:=⟨l_7 (by kernel_rfl) (p_y follows base.named (T_p L_r) (sums:=f_h) T_o 60 6 _ _ _),T_o⟩
noncomputable def RT(d:Nat):RnK:=runK (tabF (b_l Tryz.prog 1000000 entries) L_l) d
theorem hit{f:FuncId}{g:SmK}(hb:Nat.beq f 1000000000=false)(hg:(D_3 L_l).getK f=some g)(d:Nat){a:List Value}{h:Hs}{o:Out}(e:g a h=some o):RT (d+1) f a h=some o:=by
 show ifB (Nat.beq f 1000000000) none (Option.rec (motive:=λ_=>An) (b_l Tryz.prog 1000000 entries (RT d) f a h) (λg=>Option.rec (motive:=λ_=>An) (b_l Tryz.prog 1000000 entries (RT d) f a h) (λo=>some o) (g a h)) ((D_3 L_l).getK f))=some o
 rw[hb,hg]
 show Option.rec (motive:=λ_=>An) _ (λo=>some o) (g a h)=some o
 rw[e]
theorem hitW{f:FuncId}{g:SmK}{Q:Value→Hs→Prop}(hb:Nat.beq f 1000000000=false)(hg:(D_3 L_l).getK f=some g)(d:Nat){a:List Value}{h:Hs}(w:WP (g a h) Q):WP (RT (d+1) f a h) Q:=by
 obtain⟨v,h',e,q⟩:=w
 exact⟨v,h',hit hb hg d e,q⟩
theorem atAw:(D_3 L_l).getK 6=some (fmG (KAw (R0 6))):=by kernel_rfl
theorem atCl:(D_3 L_l).getK 9=some (J_z 45 49 5):=by kernel_rfl
theorem atNm:(D_3 L_l).getK 44=some (K_t 9):=by kernel_rfl
theorem atSI:(D_3 L_l).getK 28=some (G_i keyI Gev.eqI encZ Gev.leI 50 3):=by kernel_rfl
theorem atSS:(D_3 L_l).getK 30=some (G_i keyS B_4 Go.Proofs.encStr A_o 53 9):=by kernel_rfl
theorem h_y(s:Nat→Nat)(h:Hs):Emb s (B_x []) h:=⟨λi b g=>by have:=D_x g;simp at this,λi hi=>by have hi:i<0:=hi;omega,λi i' b b' g=>by have:=D_x g;simp at this⟩
theorem awk(d:Nat)(h:Hs):WP (RT (d+1) 6 [] h) λv u=>v=.bool true∧Gev.Same h u:=by
 obtain⟨v0,h0',r,hq⟩:=W_5 kAw
 refine(w_fm (λo ho=>hit rfl atAw d ho) () trivial (h_y id h) .nil rfl (λj s2 hj E2 w2=>⟨rfl,rfl⟩) r).mono λv u ⟨g1,g2⟩=>?_
 cases v0 with
 |bool b=>
  have hb:b=true:=hq
  subst hb
  cases g1
  exact⟨rfl,g2.same (Nat.zero_le _)⟩
 |_=>cases hq
theorem at3(d:Nat)(args:List Value)(h:Hs):RT (d+1) 3 args h=r3 (RT d) 1000000 args h:=by kernel_rfl
theorem at7(d:Nat)(args:List Value)(h:Hs):RT (d+1) 7 args h=r7 (RT d) 1000000 args h:=by kernel_rfl
theorem at8(d:Nat)(args:List Value)(h:Hs):RT (d+1) 8 args h=r8 (RT d) 1000000 args h:=by kernel_rfl
theorem at10(d:Nat)(args:List Value)(h:Hs):RT (d+1) 10 args h=r10 (RT d) 1000000 args h:=by kernel_rfl
theorem at11(d:Nat)(args:List Value)(h:Hs):RT (d+1) 11 args h=r11 (RT d) 1000000 args h:=by kernel_rfl
theorem at12(d:Nat)(args:List Value)(h:Hs):RT (d+1) 12 args h=r12 (RT d) 1000000 args h:=by kernel_rfl
theorem at14(d:Nat)(args:List Value)(h:Hs):RT (d+1) 14 args h=r14 (RT d) 1000000 args h:=by kernel_rfl
theorem at16(d:Nat)(args:List Value)(h:Hs):RT (d+1) 16 args h=r16 (RT d) 1000000 args h:=by kernel_rfl
theorem at17(d:Nat)(args:List Value)(h:Hs):RT (d+1) 17 args h=r17 (RT d) 1000000 args h:=by kernel_rfl
theorem at18(d:Nat)(args:List Value)(h:Hs):RT (d+1) 18 args h=r18 (RT d) 1000000 args h:=by kernel_rfl
theorem at19(d:Nat)(args:List Value)(h:Hs):RT (d+1) 19 args h=r19 (RT d) 1000000 args h:=by kernel_rfl
theorem at20(d:Nat)(args:List Value)(h:Hs):RT (d+1) 20 args h=r20 (RT d) 1000000 args h:=by kernel_rfl
theorem at21(d:Nat)(args:List Value)(h:Hs):RT (d+1) 21 args h=r21 (RT d) 1000000 args h:=by kernel_rfl
theorem at22(d:Nat)(args:List Value)(h:Hs):RT (d+1) 22 args h=r22 (RT d) 1000000 args h:=by kernel_rfl
theorem at23(d:Nat)(args:List Value)(h:Hs):RT (d+1) 23 args h=r23 (RT d) 1000000 args h:=by kernel_rfl
theorem at24(d:Nat)(args:List Value)(h:Hs):RT (d+1) 24 args h=r24 (RT d) 1000000 args h:=by kernel_rfl
theorem at25(d:Nat)(args:List Value)(h:Hs):RT (d+1) 25 args h=r25 (RT d) 1000000 args h:=by kernel_rfl
theorem at26(d:Nat)(args:List Value)(h:Hs):RT (d+1) 26 args h=r26 (RT d) 1000000 args h:=by kernel_rfl
theorem at27(d:Nat)(args:List Value)(h:Hs):RT (d+1) 27 args h=r27 (RT d) 1000000 args h:=by kernel_rfl
theorem at29(d:Nat)(args:List Value)(h:Hs):RT (d+1) 29 args h=r29 (RT d) 1000000 args h:=by kernel_rfl
theorem at31(d:Nat)(args:List Value)(h:Hs):RT (d+1) 31 args h=r31 (RT d) 1000000 args h:=by kernel_rfl
theorem at33(d:Nat)(args:List Value)(h:Hs):RT (d+1) 33 args h=r33 (RT d) 1000000 args h:=by kernel_rfl
theorem at34(d:Nat)(args:List Value)(h:Hs):RT (d+1) 34 args h=r34 (RT d) 1000000 args h:=by kernel_rfl
theorem at35(d:Nat)(args:List Value)(h:Hs):RT (d+1) 35 args h=r35 (RT d) 1000000 args h:=by kernel_rfl
theorem at36(d:Nat)(args:List Value)(h:Hs):RT (d+1) 36 args h=r36 (RT d) 1000000 args h:=by kernel_rfl
theorem at37(d:Nat)(args:List Value)(h:Hs):RT (d+1) 37 args h=r37 (RT d) 1000000 args h:=by kernel_rfl
theorem at38(d:Nat)(args:List Value)(h:Hs):RT (d+1) 38 args h=r38 (RT d) 1000000 args h:=by kernel_rfl
theorem at39(d:Nat)(args:List Value)(h:Hs):RT (d+1) 39 args h=r39 (RT d) 1000000 args h:=by kernel_rfl
theorem at40(d:Nat)(args:List Value)(h:Hs):RT (d+1) 40 args h=r40 (RT d) 1000000 args h:=by kernel_rfl
theorem at41(d:Nat)(args:List Value)(h:Hs):RT (d+1) 41 args h=r41 (RT d) 1000000 args h:=by kernel_rfl
theorem at42(d:Nat)(args:List Value)(h:Hs):RT (d+1) 42 args h=r42 (RT d) 1000000 args h:=by kernel_rfl
theorem at43(d:Nat)(args:List Value)(h:Hs):RT (d+1) 43 args h=r43 (RT d) 1000000 args h:=by kernel_rfl
theorem at45(d:Nat)(args:List Value)(h:Hs):RT (d+1) 45 args h=r45 (RT d) 1000000 args h:=by kernel_rfl
theorem at46(d:Nat)(args:List Value)(h:Hs):RT (d+1) 46 args h=r46 (RT d) 1000000 args h:=by kernel_rfl
theorem at47(d:Nat)(args:List Value)(h:Hs):RT (d+1) 47 args h=r47 (RT d) 1000000 args h:=by kernel_rfl
theorem at54(d:Nat)(args:List Value)(h:Hs):RT (d+1) 54 args h=r54 (RT d) 1000000 args h:=by kernel_rfl
theorem at55(d:Nat)(args:List Value)(h:Hs):RT (d+1) 55 args h=r55 (RT d) 1000000 args h:=by kernel_rfl
theorem at56(d:Nat)(args:List Value)(h:Hs):RT (d+1) 56 args h=r56 (RT d) 1000000 args h:=by kernel_rfl
theorem at57(d:Nat)(args:List Value)(h:Hs):RT (d+1) 57 args h=r57 (RT d) 1000000 args h:=by kernel_rfl
theorem at63(d:Nat)(args:List Value)(h:Hs):RT (d+1) 63 args h=r63 (RT d) 1000000 args h:=by kernel_rfl
theorem at64(d:Nat)(args:List Value)(h:Hs):RT (d+1) 64 args h=r64 (RT d) 1000000 args h:=by kernel_rfl
theorem at65(d:Nat)(args:List Value)(h:Hs):RT (d+1) 65 args h=r65 (RT d) 1000000 args h:=by kernel_rfl
theorem at66(d:Nat)(args:List Value)(h:Hs):RT (d+1) 66 args h=r66 (RT d) 1000000 args h:=by kernel_rfl
theorem at87(d:Nat)(args:List Value)(h:Hs):RT (d+1) 87 args h=r87 (RT d) 1000000 args h:=by kernel_rfl
theorem at88(d:Nat)(args:List Value)(h:Hs):RT (d+1) 88 args h=r88 (RT d) 1000000 args h:=by kernel_rfl
theorem at100(d:Nat)(args:List Value)(h:Hs):RT (d+1) 100 args h=r100 (RT d) 1000000 args h:=by kernel_rfl
theorem at101(d:Nat)(args:List Value)(h:Hs):RT (d+1) 101 args h=r101 (RT d) 1000000 args h:=by kernel_rfl
theorem at107(d:Nat)(args:List Value)(h:Hs):RT (d+1) 107 args h=r107 (RT d) 1000000 args h:=by kernel_rfl
theorem at109(d:Nat)(args:List Value)(h:Hs):RT (d+1) 109 args h=r109 (RT d) 1000000 args h:=by kernel_rfl
theorem n6:(100000:Nat)<1000000:=by omega
theorem p_3(d:Nat):CIxB (RT (d+1)) 109:=λD c h=>by rw[at109];exact i_q
theorem cIx(d:Nat):CIx (RT (d+2)) 107:=λD c h hD=>by rw[at107];exact d_q (p_3 d) hD
theorem cSIx(d:Nat):CIx (RT (d+3)) 101:=λD c h hD=>by rw[at101];exact a_i (cIx d) hD
theorem p_1(d:Nat):CContains (RT (d+4)):=λD c h hD=>by rw[at88];exact Q_a (cSIx d) hD
theorem p_6(d:Nat):CName (RT (d+5)):=λD h hD=>by rw[at64];exact j_d (p_1 d) hD
theorem l_l(d:Nat):CCount (RT (d+1)):=λD c h=>by rw[at100];exact c_s
theorem h_j(d:Nat):CSplitB (RT (d+4)):=λD c h hD=>by rw[at87];exact Q_l n6 (cSIx d) (l_l (d+2)) hD
theorem l_t(d:Nat):CSplit (RT (d+5)):=λD c h hD=>by rw[at63];exact b_b (h_j d) hD
theorem W_t(d:Nat):CPSplit (RT (d+6)):=λD h hD=>by rw[at55];exact Z_2 n6 (l_t d) (p_6 d) hD
theorem q_b(d:Nat):CSuf (RT (d+1)) 65:=λD X h hD hX=>by rw[at65];exact n_0 hD hX
theorem q_c(d:Nat):CSuf (RT (d+2)) 56:=λD X h hD hX=>by rw[at56];exact k_j (q_b d) hD hX
theorem h_g(d:Nat):CLast (RT (d+7)):=λD h hD=>by rw[at39];exact i_2 (W_t d) (q_c (d+4)) hD
theorem c_m(d:Nat):CFind (RT (d+1)):=λh t n x s A hx hk=>by rw[at42];exact find_ok A hx hk
theorem p_8(d:Nat):CPart (RT (d+2)):=λh t w k n x s A hw wl hx=>by rw[at66];exact j_z (c_m d) A hw wl hx
theorem p_2(d:Nat):CFree (RT (d+1)):=λh t A hm=>by rw[at34];exact i_l n6 A hm
theorem h_l(d:Nat):CWithin (RT (d+1)):=λh t n m j A W hd hj jl=>by rw[at41];exact b_8 n6 A W hd hj jl
theorem g_n(g d:Nat)(cw:CWay (RT (d+6)) g):CParts (RT (d+7)) g:=λh t w k n l sl fol A W hw wl wr k8 kg hd hs hsi hl=>by rw[at57];exact e_o n6 (p_8 (d+4)) cw A W hw wl wr k8 kg hd hs hsi hl
theorem wayS(g d:Nat)(cp:CParts (RT (d+7)) g):CWay (RT (d+8)) (g+1):=λh t w k n s fol A W hw wl wr k8 kg hd hs=>by rw[at54];exact o_q (W_t (d+1)) cp A W hw wl wr k8 (by omega) hd hs
theorem wayG(d:Nat):∀g,CWay (RT (d+2*g+6)) g
 |0=>λh t w k n s fol A W hw wl wr k8 kg hd hs=>absurd kg (by omega)
 |g+1=>wayS g (d+2*g) (g_n g (d+2*g) (wayG d g))
theorem W_x(d:Nat):CWayT (RT (d+25)):=λh t s fol A W hs=>by rw[at36];exact k_3 (wayG d 9) A W hs
theorem cDir(d:Nat):CDir (RT (d+26)):=λh t l sl A W hr hl=>by rw[at40];exact h_u (g_n 9 (d+18) (wayG d 9)) A W hr hl
theorem f_5(d:Nat):CFresh (RT (d+27)):=λh t s A W hs=>by rw[at33];exact d_j (h_g (d+19)) (cDir d) (c_m (d+25)) A W hs
theorem cOld(d:Nat):COld (RT (d+27)):=λh t s A W hs=>by rw[at37];exact m_7 (h_g (d+19)) (cDir d) (c_m (d+25)) A W hs
theorem J_y(d:Nat):CFail (RT (d+1)):=λe h=>by rw[at17];exact i_i
theorem cPut(d:Nat):CPut (RT (d+1)):=λh t n m s x y A hx hk hs hy nd hB l0 l1=>by rw[at35];exact n_h A hx hk hs hy nd hB l0 l1
theorem h_f(d:Nat):CDrop (RT (d+1)):=λh t n m s x y A hx hk hs hy nd l0 l1=>by rw[at38];exact h_x A hx hk hs hy nd l0 l1
theorem p_7(d:Nat):COver (RT (d+1)):=λh t n m a b A ha hb=>by rw[at43];exact j_y A ha hb
theorem h_e(d:Nat):CCreate (RT (d+28)):=λh t s x q nb dv A W I l0 l1 hB hs=>by rw[at16];exact X_e (J_y (d+26)) (f_5 d) (p_2 (d+26)) (cPut (d+26)) A W I l0 l1 hB hs
theorem h_k(d:Nat):CUp (RT (d+28)) 19 (λT a _=>I_1 T a):=λh t k a b p q dv A W hB ha hb=>by rw[at19];exact b_r (J_y (d+26)) (cOld d) (h_f (d+26)) A W ha
theorem l_s(d:Nat):CUp (RT (d+28)) 20 (λT a _=>M_b T a):=λh t k a b p q dv A W hB ha hb=>by rw[at20];exact e_u (J_y (d+26)) (cOld d) (h_f (d+26)) A W ha
theorem p_4(d:Nat):CUp (RT (d+28)) 18 U_8:=λh t k a b p q dv A W hB ha hb=>by rw[at18];exact i_5 (J_y (d+26)) (W_x (d+2)) (f_5 d) (cPut (d+26)) A W hB ha hb
theorem cRen(d:Nat):CUp (RT (d+28)) 21 I_w:=λh t k a b p q dv A W hB ha hb=>by rw[at21];exact a_c (J_y (d+26)) (h_g (d+20)) (cOld d) (cDir (d+1)) (c_m (d+26)) (h_l (d+26)) (p_7 (d+26)) (h_f (d+26)) (cPut (d+26)) A W hB ha hb
theorem cBC(d:Nat):CBClone (RT (d+1)):=λv D h hl r=>by rw[at14];exact W_h hl r
theorem q_a(d:Nat):CISize (RT (d+1)):=λh t n x A hx=>by rw[at45];exact d_v A hx
theorem l_r(d:Nat):CNames (RT (d+1)):=λh t n x A W hB hx hk=>hitW rfl atNm d (N_b A W hB hx hk)
theorem p_5(d:Nat):CLook (RT (d+28)):=λh t k a b p q dv A W hB ha hk=>by rw[at22];exact i_7 (J_y (d+26)) (W_x (d+2)) (cBC (d+26)) (q_a (d+26)) (l_r (d+26)) A W hB ha hk
theorem cFit(d:Nat):CFitT (RT (d+1)):=λh t n m x A hx hm=>by rw[at47];exact l_6 A hx hm
theorem l_u(d:Nat):CWrite (RT (d+2)):=λh t n k a s s2 X q xv x A hx dl r rn xl al=>by rw[at46];exact f_2 (J_y d) (cFit d) A hx dl r rn xl al
theorem l_n(d:Nat):CFileR (RT (d+28)):=λh t s s2 a n xv A W hs ha hn=>by rw[at23];exact c_8 (J_y (d+26)) (W_x (d+2)) (cBC (d+26)) A W hs ha hn
theorem l_p(d:Nat):CFileW (RT (d+28)):=λh t s s2 X a n xv A W hs ha r rn xl=>by rw[at23];exact d_a (J_y (d+26)) (W_x (d+2)) (l_u (d+25)) A W hs ha r rn xl
theorem l_o(d:Nat):CFileT (RT (d+28)):=λh t s s2 a n xv A W hs hn=>by rw[at23];exact c_9 (J_y (d+26)) (W_x (d+2)) (cFit (d+26)) A W hs hn
theorem l_m(d:Nat):CDoAll (RT (d+28)):=⟨J_y (d+27),h_e d,cBC (d+27),p_4 d,h_k d,l_s d,cRen d,p_5 d,l_n d,l_p d,l_o d⟩
theorem cDo(d:Nat):CDo (RT (d+29)):=λh t o xv A W hB ha hb hX hat hn r rn=>by rw[at10];exact q_d (l_m d) A W hB ha hb hX hat hn r rn
theorem cNew(d:Nat):CNew (RT (d+1)):=λn h hn=>by rw[at7];exact m_0 hn
theorem l_k(d:Nat):CCloneT (RT (d+1)):=λh t A W hB=>hitW rfl atCl d (M_s A W hB)
theorem cKI(d:Nat):CKeysI (RT (d+1)):=λh b=>by rw[at29];exact d_z
theorem cKS(d:Nat):CKeysS (RT (d+1)):=λh b=>by rw[at31];exact d_1
theorem cSI(d:Nat):CSortI (RT (d+1)):=λh k b es cl ks hb e1 e2=>hitW rfl atSI d (f_d hb e1 e2)
theorem cSS(d:Nat):CSortS (RT (d+1)):=λh k m ks hb M=>hitW rfl atSS d (f_e hb M)
theorem h_h(d:Nat):CPartsT (RT (d+2)):=λh t A W hB=>by rw[at12];exact Z_0 n6 (cKI d) (cKS d) (cSI d) (cSS d) (cBC d) A W hB
theorem cBEq(d:Nat):CBEq (RT (d+1)):=λh a b D r r2=>by rw[at26];exact l_i r r2
theorem cNEq(d:Nat):CNEq (RT (d+1)):=λh a b l hl r r2=>by rw[at27];exact m_z n6 hl r r2
theorem cSm1(d:Nat):CSm1 (RT (d+2)):=λh p d1 n1 d2 n2 hl r1 r2 q1 q2=>by rw[at25];exact n_m (cBEq d) (cNEq d) hl r1 r2 q1 q2
theorem cEqF(d:Nat):CEqF (RT (d+3)):=λh a b ps hl hn r r2=>by rw[at24];exact l_2 n6 (cSm1 d) hl hn r r2
theorem p_9(d:Nat):CSame (RT (d+4)):=λh t t' A A' W hB hB' eT em=>by rw[at11];exact k_b (h_h (d+1)) (cEqF d) A A' W hB hB' eT em
theorem l_q(d:Nat):CHeavy (RT (d+1)):=λh o dv r=>by rw[at8];exact d_m r
theorem n_a{h:Hs}{v:Value}{M:List (OpW × List UInt8)}(r:Rd h v 6 (M.map λe=>opCs e.1))(q:∀e∈M,Rd h e.1.d 1 (ones (A_d e.2))∧Gev.In64 e.1.m∧Gev.In64 e.1.n):OpsAt h v (M.map λe=>(opCs e.1,(⟨e.1.k,e.1.a,e.1.b,e.1.m,e.1.n,e.2⟩:OpA))):=by
 refine⟨by rw[List.map_map];exact r,λe he=>?_⟩
 obtain⟨x,hx,rfl⟩:=List.mem_map.1 he
 obtain⟨a,b,c⟩:=q x hx
 exact⟨x.1.d,rfl,a,b,c⟩
theorem ran{v1:Value}{M:List (OpW × List UInt8)}{n:Int}{h:Hs}(hn:Gev.In64 n)(r:Rd h v1 6 (M.map λe=>opCs e.1))(q:∀e∈M,Rd h e.1.d 1 (ones (A_d e.2))∧Gev.In64 e.1.m∧Gev.In64 e.1.n) :
 WP (RT 51 3 [.int .i64 n,v1] h) (yesQ h):=by
 rw[at3]
 exact V_o (N:=1000000) (by omega) (cNew 49) (l_q 49) (l_k 49) (cDo 21) (p_9 46) hn (n_a r q) (awk 49 _)
theorem called(w:World)(n:Int)(v1:Value)(hn:Gev.In64 n)(hv1:IsOps w v1):Calls Tryz.prog 3 #[.int .i64 n,v1] w λe w'=>e=.returned (.bool true)∧Below w.heap.size w w':=by
 have RA:HR w.heap.size (λ_=>none) ⟨.e,0,0⟩ w:=⟨Nat.le_refl _,λ_ _=>rfl,(λid b hb=>by rw[Tr.get_e] at hb;cases hb),(λid id' b b' H H' hb=>by rw[Tr.get_e] at hb;cases hb)⟩
 obtain⟨x1,h1,ρ1,M1,le1,r1,R1,f1,rd1,q1,g1,n1⟩:=g_9 RA (λid b hb=>by rw[Tr.get_e] at hb;cases hb) hv1
 have hl:VL ρ1 [.int .i64 n,x1] (#[.int .i64 n,v1]:Array Value).toList:=.cons (.int _ _) (.cons r1 .nil)
 obtain⟨v,h',e,rfl,rfl⟩:=ran hn rd1 q1
 refine(N_l follows base.named (T_p L_r) f_j 51 3 _ #[.int .i64 n,v1] _ h' _ w.heap.size ρ1 w e hl R1).mono λe w' hq=>?_
 obtain⟨v',ρ',q1,q2,q3⟩:=hq
 exact⟨by rw[q1,q2.bool_inv],q3.below⟩
end Go.Proofs.YtnbnmojckhcdeaaGreatDoor.treeRefused
