/- The run of 'CheckSpoils' at whatever input. -/
import Derived.Test.YtjddgepodiabkaaGreatDoorCheckSpoilsD
import Derived.Test.YtjddgepodiabkaaGreatDoorGevAr3
namespace Go.Proofs.YtjddgepodiabkaaGreatDoor.checkSpoils
open Go Go.Gev Go.RowKit
set_option linter.unusedVariables false
theorem follows:Tryz.prog.follows .mixedOrders=true:=by kernel_rfl
theorem names:(Tryz.prog.funcs.toList.all λfn=>!fn.body.isSome || !(fn.name == "runtime.NumGoroutine"))=true:=by decide +kernel
theorem named_:Named Tryz.prog:=λf fn hf hb=>by
 have hm:fn∈Tryz.prog.funcs.toList:=by
  obtain⟨h1,h2⟩:=Array.getElem?_eq_some_iff.1 hf
  rw[←h2];simp
 have h:=List.all_eq_true.1 names fn hm
 rw[hb] at h
 simpa using h
noncomputable def R0(f:FuncId):List Value→Hs→An:=runK (tabF (tabOf Tryz.prog 1000000 entries) []) 60 f
noncomputable def awG:List Value→Hs→An:=runK (tabF (tabOf Tryz.prog 1000000 entries) []) 60 5
theorem kIt:allN (λn=>chkRun (R0 71) (aIt n) [] (qIt n)) 100=true:=by kernel_rfl
theorem rnsI:ItR R0:=λn hn=>allN_ok kIt n hn
theorem rnsC:CkR R0:=⟨by kernel_rfl,by kernel_rfl,by kernel_rfl⟩
noncomputable def sumsT:List (Nat × SmK):=[(71,fmG (KIt (R0 71))),(84,fmG (KCk (R0 84))),(5,awG)]
theorem sOk{ι:Type}{f:FuncId}{p:ι→Prop}{a:ι→List Value}{A:ι→List SB}(hf:(FF Tryz.prog f).isSome=true):SumOk Tryz.prog f (fmG (KI p a A (R0 f))):=fm_sum hf (KI_ok follows named_ (tabOf_ok entries_ok) (sums:=[]) trivial 60 f p a A)
theorem awOk{f:FuncId}{g:SmK}(hf:(FF Tryz.prog f).isSome=true)(hg:∀a h v h',g a h=some (.val v h')→runK (tabF (tabOf Tryz.prog 1000000 entries) []) 60 f a h=some (.val v h')):SumOk Tryz.prog f g:=⟨Option.isSome_iff_exists.1 hf,λa a' v h h' B ρ w hr hl Rl=>runF_ok follows named_ (tabOf_ok entries_ok) (sums:=[]) trivial 60 f a a' v h h' B ρ w (hg _ _ _ _ hr) hl Rl⟩
theorem awSum:SumOk Tryz.prog 5 awG:=awOk (by kernel_rfl) λ_ _ _ _ h=>by unfold awG at h;exact h
theorem sumsT_ok:SumsOk Tryz.prog sumsT:=by
 refine⟨sOk (by kernel_rfl),sOk (by kernel_rfl),?_,trivial⟩
 dsimp only
 exact awSum
noncomputable def RT(d:Nat):RnK:=runK (tabF (tabOf Tryz.prog 1000000 entries) sumsT) d
theorem hit{f:FuncId}{g:SmK}(hb:Nat.beq f 1000000000=false)(hg:(mkTabS sumsT).getK f=some g)(d:Nat){a:List Value}{h:Hs}{o:Out}(e:g a h=some o):RT (d+1) f a h=some o:=by
 show ifB (Nat.beq f 1000000000) none (Option.rec (motive:=λ_=>An) (tabOf Tryz.prog 1000000 entries (RT d) f a h) (λg=>Option.rec (motive:=λ_=>An) (tabOf Tryz.prog 1000000 entries (RT d) f a h) (λo=>some o) (g a h)) ((mkTabS sumsT).getK f))=some o
 rw[hb,hg]
 show Option.rec (motive:=λ_=>An) _ (λo=>some o) (g a h)=some o
 rw[e]
theorem at82(d:Nat)(args:List Value)(h:Hs):RT (d+1) 82 args h=r82 (RT d) 1000000 args h:=by kernel_rfl
theorem at57(d:Nat)(args:List Value)(h:Hs):RT (d+1) 57 args h=r57 (RT d) 1000000 args h:=by kernel_rfl
theorem at37(d:Nat)(args:List Value)(h:Hs):RT (d+1) 37 args h=r37 (RT d) 1000000 args h:=by kernel_rfl
theorem at35(d:Nat)(args:List Value)(h:Hs):RT (d+1) 35 args h=r35 (RT d) 1000000 args h:=by kernel_rfl
theorem at38(d:Nat)(args:List Value)(h:Hs):RT (d+1) 38 args h=r38 (RT d) 1000000 args h:=by kernel_rfl
theorem at36(d:Nat)(args:List Value)(h:Hs):RT (d+1) 36 args h=r36 (RT d) 1000000 args h:=by kernel_rfl
theorem at12(d:Nat)(args:List Value)(h:Hs):RT (d+1) 12 args h=r12 (RT d) 1000000 args h:=by kernel_rfl
theorem at19(d:Nat)(args:List Value)(h:Hs):RT (d+1) 19 args h=r19 (RT d) 1000000 args h:=by kernel_rfl
theorem at17(d:Nat)(args:List Value)(h:Hs):RT (d+1) 17 args h=r17 (RT d) 1000000 args h:=by kernel_rfl
theorem at14(d:Nat)(args:List Value)(h:Hs):RT (d+1) 14 args h=r14 (RT d) 1000000 args h:=by kernel_rfl
theorem at22(d:Nat)(args:List Value)(h:Hs):RT (d+1) 22 args h=r22 (RT d) 1000000 args h:=by kernel_rfl
theorem at46(d:Nat)(args:List Value)(h:Hs):RT (d+1) 46 args h=r46 (RT d) 1000000 args h:=by kernel_rfl
theorem at15(d:Nat)(args:List Value)(h:Hs):RT (d+1) 15 args h=r15 (RT d) 1000000 args h:=by kernel_rfl
theorem at62(d:Nat)(args:List Value)(h:Hs):RT (d+1) 62 args h=r62 (RT d) 1000000 args h:=by kernel_rfl
theorem at43(d:Nat)(args:List Value)(h:Hs):RT (d+1) 43 args h=r43 (RT d) 1000000 args h:=by kernel_rfl
theorem at42(d:Nat)(args:List Value)(h:Hs):RT (d+1) 42 args h=r42 (RT d) 1000000 args h:=by kernel_rfl
theorem at40(d:Nat)(args:List Value)(h:Hs):RT (d+1) 40 args h=r40 (RT d) 1000000 args h:=by kernel_rfl
theorem at41(d:Nat)(args:List Value)(h:Hs):RT (d+1) 41 args h=r41 (RT d) 1000000 args h:=by kernel_rfl
theorem at54(d:Nat)(args:List Value)(h:Hs):RT (d+1) 54 args h=r54 (RT d) 1000000 args h:=by kernel_rfl
theorem at59(d:Nat)(args:List Value)(h:Hs):RT (d+1) 59 args h=r59 (RT d) 1000000 args h:=by kernel_rfl
theorem at58(d:Nat)(args:List Value)(h:Hs):RT (d+1) 58 args h=r58 (RT d) 1000000 args h:=by kernel_rfl
theorem at61(d:Nat)(args:List Value)(h:Hs):RT (d+1) 61 args h=r61 (RT d) 1000000 args h:=by kernel_rfl
theorem at83(d:Nat)(args:List Value)(h:Hs):RT (d+1) 83 args h=r83 (RT d) 1000000 args h:=by kernel_rfl
theorem at60(d:Nat)(args:List Value)(h:Hs):RT (d+1) 60 args h=r60 (RT d) 1000000 args h:=by kernel_rfl
theorem at39(d:Nat)(args:List Value)(h:Hs):RT (d+1) 39 args h=r39 (RT d) 1000000 args h:=by kernel_rfl
theorem at18(d:Nat)(args:List Value)(h:Hs):RT (d+1) 18 args h=r18 (RT d) 1000000 args h:=by kernel_rfl
theorem at47(d:Nat)(args:List Value)(h:Hs):RT (d+1) 47 args h=r47 (RT d) 1000000 args h:=by kernel_rfl
theorem at67(d:Nat)(args:List Value)(h:Hs):RT (d+1) 67 args h=r67 (RT d) 1000000 args h:=by kernel_rfl
theorem at65(d:Nat)(args:List Value)(h:Hs):RT (d+1) 65 args h=r65 (RT d) 1000000 args h:=by kernel_rfl
theorem at66(d:Nat)(args:List Value)(h:Hs):RT (d+1) 66 args h=r66 (RT d) 1000000 args h:=by kernel_rfl
theorem at63(d:Nat)(args:List Value)(h:Hs):RT (d+1) 63 args h=r63 (RT d) 1000000 args h:=by kernel_rfl
theorem at64(d:Nat)(args:List Value)(h:Hs):RT (d+1) 64 args h=r64 (RT d) 1000000 args h:=by kernel_rfl
theorem at48(d:Nat)(args:List Value)(h:Hs):RT (d+1) 48 args h=r48 (RT d) 1000000 args h:=by kernel_rfl
theorem at44(d:Nat)(args:List Value)(h:Hs):RT (d+1) 44 args h=r44 (RT d) 1000000 args h:=by kernel_rfl
theorem at53(d:Nat)(args:List Value)(h:Hs):RT (d+1) 53 args h=r53 (RT d) 1000000 args h:=by kernel_rfl
theorem at23(d:Nat)(args:List Value)(h:Hs):RT (d+1) 23 args h=r23 (RT d) 1000000 args h:=by kernel_rfl
theorem at109(d:Nat)(args:List Value)(h:Hs):RT (d+1) 109 args h=r109 (RT d) 1000000 args h:=by kernel_rfl
theorem at106(d:Nat)(args:List Value)(h:Hs):RT (d+1) 106 args h=r106 (RT d) 1000000 args h:=by kernel_rfl
theorem at101(d:Nat)(args:List Value)(h:Hs):RT (d+1) 101 args h=r101 (RT d) 1000000 args h:=by kernel_rfl
theorem at96(d:Nat)(args:List Value)(h:Hs):RT (d+1) 96 args h=r96 (RT d) 1000000 args h:=by kernel_rfl
theorem at93(d:Nat)(args:List Value)(h:Hs):RT (d+1) 93 args h=r93 (RT d) 1000000 args h:=by kernel_rfl
theorem at85(d:Nat)(args:List Value)(h:Hs):RT (d+1) 85 args h=r85 (RT d) 1000000 args h:=by kernel_rfl
theorem at70(d:Nat)(args:List Value)(h:Hs):RT (d+1) 70 args h=r70 (RT d) 1000000 args h:=by kernel_rfl
theorem at68(d:Nat)(args:List Value)(h:Hs):RT (d+1) 68 args h=r68 (RT d) 1000000 args h:=by kernel_rfl
theorem at69(d:Nat)(args:List Value)(h:Hs):RT (d+1) 69 args h=r69 (RT d) 1000000 args h:=by kernel_rfl
theorem at51(d:Nat)(args:List Value)(h:Hs):RT (d+1) 51 args h=r51 (RT d) 1000000 args h:=by kernel_rfl
theorem at45(d:Nat)(args:List Value)(h:Hs):RT (d+1) 45 args h=r45 (RT d) 1000000 args h:=by kernel_rfl
theorem at49(d:Nat)(args:List Value)(h:Hs):RT (d+1) 49 args h=r49 (RT d) 1000000 args h:=by kernel_rfl
theorem at24(d:Nat)(args:List Value)(h:Hs):RT (d+1) 24 args h=r24 (RT d) 1000000 args h:=by kernel_rfl
theorem at25(d:Nat)(args:List Value)(h:Hs):RT (d+1) 25 args h=r25 (RT d) 1000000 args h:=by kernel_rfl
theorem at26(d:Nat)(args:List Value)(h:Hs):RT (d+1) 26 args h=r26 (RT d) 1000000 args h:=by kernel_rfl
theorem at50(d:Nat)(args:List Value)(h:Hs):RT (d+1) 50 args h=r50 (RT d) 1000000 args h:=by kernel_rfl
theorem at27(d:Nat)(args:List Value)(h:Hs):RT (d+1) 27 args h=r27 (RT d) 1000000 args h:=by kernel_rfl
theorem at52(d:Nat)(args:List Value)(h:Hs):RT (d+1) 52 args h=r52 (RT d) 1000000 args h:=by kernel_rfl
theorem at28(d:Nat)(args:List Value)(h:Hs):RT (d+1) 28 args h=r28 (RT d) 1000000 args h:=by kernel_rfl
theorem at29(d:Nat)(args:List Value)(h:Hs):RT (d+1) 29 args h=r29 (RT d) 1000000 args h:=by kernel_rfl
theorem at30(d:Nat)(args:List Value)(h:Hs):RT (d+1) 30 args h=r30 (RT d) 1000000 args h:=by kernel_rfl
theorem at31(d:Nat)(args:List Value)(h:Hs):RT (d+1) 31 args h=r31 (RT d) 1000000 args h:=by kernel_rfl
theorem at56(d:Nat)(args:List Value)(h:Hs):RT (d+1) 56 args h=r56 (RT d) 1000000 args h:=by kernel_rfl
theorem at81(d:Nat)(args:List Value)(h:Hs):RT (d+1) 81 args h=r81 (RT d) 1000000 args h:=by kernel_rfl
theorem at34(d:Nat)(args:List Value)(h:Hs):RT (d+1) 34 args h=r34 (RT d) 1000000 args h:=by kernel_rfl
theorem at33(d:Nat)(args:List Value)(h:Hs):RT (d+1) 33 args h=r33 (RT d) 1000000 args h:=by kernel_rfl
theorem at95(d:Nat)(args:List Value)(h:Hs):RT (d+1) 95 args h=r95 (RT d) 1000000 args h:=by kernel_rfl
theorem at91(d:Nat)(args:List Value)(h:Hs):RT (d+1) 91 args h=r91 (RT d) 1000000 args h:=by kernel_rfl
theorem at90(d:Nat)(args:List Value)(h:Hs):RT (d+1) 90 args h=r90 (RT d) 1000000 args h:=by kernel_rfl
theorem at75(d:Nat)(args:List Value)(h:Hs):RT (d+1) 75 args h=r75 (RT d) 1000000 args h:=by kernel_rfl
theorem at77(d:Nat)(args:List Value)(h:Hs):RT (d+1) 77 args h=r77 (RT d) 1000000 args h:=by kernel_rfl
theorem at72(d:Nat)(args:List Value)(h:Hs):RT (d+1) 72 args h=r72 (RT d) 1000000 args h:=by kernel_rfl
theorem at55(d:Nat)(args:List Value)(h:Hs):RT (d+1) 55 args h=r55 (RT d) 1000000 args h:=by kernel_rfl
theorem at32(d:Nat)(args:List Value)(h:Hs):RT (d+1) 32 args h=r32 (RT d) 1000000 args h:=by kernel_rfl
theorem at9(d:Nat)(args:List Value)(h:Hs):RT (d+1) 9 args h=r9 (RT d) 1000000 args h:=by kernel_rfl
theorem at8(d:Nat)(args:List Value)(h:Hs):RT (d+1) 8 args h=r8 (RT d) 1000000 args h:=by kernel_rfl
theorem at7(d:Nat)(args:List Value)(h:Hs):RT (d+1) 7 args h=r7 (RT d) 1000000 args h:=by kernel_rfl
theorem at16(d:Nat)(args:List Value)(h:Hs):RT (d+1) 16 args h=r16 (RT d) 1000000 args h:=by kernel_rfl
theorem at20(d:Nat)(args:List Value)(h:Hs):RT (d+1) 20 args h=r20 (RT d) 1000000 args h:=by kernel_rfl
theorem at21(d:Nat)(args:List Value)(h:Hs):RT (d+1) 21 args h=r21 (RT d) 1000000 args h:=by kernel_rfl
theorem at13(d:Nat)(args:List Value)(h:Hs):RT (d+1) 13 args h=r13 (RT d) 1000000 args h:=by kernel_rfl
theorem at6(d:Nat)(args:List Value)(h:Hs):RT (d+1) 6 args h=r6 (RT d) 1000000 args h:=by kernel_rfl
theorem at3(d:Nat)(args:List Value)(h:Hs):RT (d+1) 3 args h=r3 (RT d) 1000000 args h:=by kernel_rfl
theorem fmsC(d:Nat):CkF (RT (d+1)) R0:=λ_ _ _ e=>hit rfl rfl d e
theorem fmsI(d:Nat):ItF (RT (d+1)) R0:=λ_ _ _ e=>hit rfl rfl d e
theorem cRot(d:Nat):CRot (RT (d+1)):=λx h hx=>by rw[at82];exact rotate_ok hx
theorem cSealOn(d:Nat):CSealOn (RT (d+2)):=λs l v h a b c r=>by rw[at57];exact sealOn_ok (cRot d) a b r (by omega) (by omega)
theorem cSealOf(d:Nat):CSealOf (RT (d+3)):=λl v h a b r=>by rw[at37];exact sealOf_ok (cSealOn d) a b r
theorem cIn(d:Nat):CIn (RT (d+1)):=λa b c h=>by rw[at35];exact in_ok
theorem cBits(d:Nat):CBits (RT (d+1)):=λg h x=>by rw[at38];exact bits_ok x
theorem cData(d:Nat):CData (RT (d+2)):=λg h x=>by rw[at36];exact data_ok (cBits d) x
theorem cGood(d:Nat):CGood (RT (d+3)):=λg h=>by rw[at12];exact good_ok (cIn (d+1)) (cData d)
theorem cDataF(d:Nat):CDataF (RT (d+4)):=λg h x=>by rw[at19];exact dataF_ok (cGood d) (cData (d+1)) x
theorem cNode(d:Nat):CNode (RT (d+4)):=λg i h x hi=>by rw[at17];exact node_ok (cGood d) (cIn (d+2)) (cBits (d+2)) x hi
theorem cLost(d:Nat):CLost (RT (d+5)):=λg h x=>by rw[at14];exact lost_ok (cGood (d+1)) (cNode d) x
theorem cBitsF(d:Nat):CBitsF (RT (d+4)):=λg h x=>by rw[at22];exact bitsF_ok (cGood d) (cBits (d+2)) x
theorem cBooks(d:Nat):CBooks (RT (d+4)):=λg i h x hi=>by rw[at46];exact books_ok (cGood d) (cIn (d+2)) x hi
theorem cHeadPut(d:Nat):CHeadPut (RT (d+4)):=λg ph h hp=>by rw[at15];exact⟨λx=>headPut_ok (cGood d) (cSealOf d) hp x,λx=>headPut_no (cGood d) x⟩
theorem cEqW(d:Nat):CEqW (RT (d+1)):=λa b v w h ha r1 r2=>by rw[at62];exact eqW_ok (by omega) ha r1 r2
theorem cHeadGet(d:Nat):CHeadGet (RT (d+5)):=λl v h hl r=>by rw[at43];exact headGet_ok (cHeadPut d) (cEqW (d+3)) (by omega) hl r
theorem cFind(d:Nat):CFind (RT (d+6)):=λl v h hl hb r=>by rw[at42];exact find_ok (cHeadGet d) hl hb r
theorem cCloneW(d:Nat):CCloneW (RT (d+1)):=λl v h hb r=>by rw[at40];exact cloneW_ok hb r
theorem cThere(d:Nat):CThere (RT (d+1)):=λv l i h hb hi r=>by rw[at41];exact there_ok hb hi r
theorem cHas(d:Nat):CHas (RT (d+2)):=λB i v h sm hb hi r=>by rw[at54];exact has_ok (cThere d) sm hb hi r
theorem cNin(d:Nat):CNin (RT (d+1)):=λa b c h=>by rw[at59];exact nin_ok
theorem cFree(d:Nat):CFree (RT (d+1)):=λn a c h _=>by rw[at58];exact free_ok
theorem cFits1(d:Nat):CFits1 (RT (d+2)):=λr h=>by rw[at61];exact fits1_ok (cNin d)
theorem cIdxR(d:Nat):CIdxR (RT (d+1)) (RT d):=λg p l v h hl hp r=>by rw[at83];exact idxR_ok (by omega) hl hp r
theorem cContR(d:Nat):CContR (RT (d+2)) (RT d):=λg p l v h hl hp r=>by rw[at60];exact containsR_ok (cIdxR d) hl hp r
theorem cFitsN(d:Nat):CFitsN (RT (d+5)):=λn a c h hl r=>by rw[at39];exact fitsN_ok (cNin (d+3)) (cFree (d+3)) (cContR (d+2)) (cFits1 d) hl r
theorem cNodePut(d:Nat):CNodePut (RT (d+6)):=λn a c h hl r=>by rw[at18];exact⟨λx=>nodePut_ok (cFitsN d) (cSealOf (d+2)) (by omega) hl r x,λx=>nodePut_no (cFitsN d) hl r x⟩
theorem cNodeGet(d:Nat):CNodeGet (RT (d+7)):=λl v h hl hb r=>by rw[at47];exact nodeGet_ok (cNodePut d) (cEqW (d+5)) (by omega) hl hb r
theorem cEqR(d:Nat):CEqR (RT (d+1)):=λa b v w h ha r1 r2=>by rw[at67];exact eqR_ok (by omega) ha r1 r2
theorem cBlocks(d:Nat):CBlocks (RT (d+1)):=λn a c h dm r=>by rw[at65];exact blocks_ok (by omega) dm r
theorem cNeeds(d:Nat):CNeeds (RT (d+1)):=λn a c h dm=>by rw[at66];exact needs_ok dm
theorem cSized(d:Nat):CSized (RT (d+2)):=λg n a c h dm=>by rw[at63];exact sized_ok (cNin d) dm
theorem cPlaced(d:Nat):CPlaced (RT (d+6)):=λg n a c h x dm r=>by rw[at64];exact placed_ok (cLost d) (cEqR (d+4)) (cDataF (d+1)) (by omega) x dm r
theorem cNodeGood(d:Nat):CNodeGood (RT (d+7)):=λg n a c h x dm r=>by rw[at48];exact nodeGood_ok (cGood (d+3)) (cNin (d+5)) (cFree (d+5)) (cSized (d+4)) (cPlaced d) (cBlocks (d+5)) (cNeeds (d+5)) (by omega) x dm r
theorem cBlock(d:Nat):CBlock (RT (d+2)):=λg l s i h hb r hi=>by rw[at44];exact block_ok (cCloneW d) hb r hi
theorem cImgBits(d:Nat):CImgBits (RT (d+5)):=λg l s h x hl r=>by rw[at53];exact imgBits_ok (cBitsF d) (cBlock (d+2)) (by omega) x hl r
theorem cOpen(d:Nat):COpen (RT (d+7)):=λl v h hl hb r=>by rw[at23];exact⟨λg ho=>open_ok (cFind d) (cCloneW (d+5)) hl hb r ho,λho=>open_no (cFind d) hl hb r ho⟩
theorem cIdxB(d:Nat):CIdxB (RT (d+1)):=λD c h=>by rw[at109];exact idxB_ok
theorem cIndex(d:Nat):CIndex (RT (d+2)):=λD c h hD=>by rw[at106];exact index_ok (cIdxB d) hD
theorem cSIndex(d:Nat):CSIndex (RT (d+3)):=λD c h hD=>by rw[at101];exact sindex_ok (cIndex d) hD
theorem cContains(d:Nat):CContains (RT (d+4)):=λD c h hD=>by rw[at96];exact contains_ok (cSIndex d) hD
theorem cNamed(d:Nat):CNamed (RT (d+5)):=λD h hD=>by rw[at93];exact named_ok (cContains d) hD
theorem cSlotGood(d:Nat):CSlotGood (RT (d+6)):=λn D h hD=>by rw[at85];exact slotGood_ok (cNamed d) hD
theorem cSlotPut(d:Nat):CSlotPut (RT (d+7)):=λn D h hD=>by rw[at70];exact⟨λm e g=>by subst e;exact slotPut_ok (cSlotGood d) (cSealOf (d+3)) (by omega) hD g,λno=>slotPut_no (cSlotGood d) hD no⟩
theorem cWB(d:Nat):CWB (RT (d+2)):=λh p x s D c B hD=>by rw[at68];exact wb_ok rnsC (fmsC d) B hD
theorem cBStr(d:Nat):CBStr (RT (d+1)):=λh p x s D B hD hs=>by rw[at69];exact bstr_ok B hD hs
theorem cSlotGet(d:Nat):CSlotGet (RT (d+8)):=λl v h hl hb r=>by rw[at51];exact slotGet_ok (cWB (d+5)) (cBStr (d+6)) (cSlotPut d) (cEqW (d+6)) (by omega) hl hb r
theorem cTell(d:Nat):CTell (RT (d+1)):=λh p g sw sn ss sg so l f B hl=>by rw[at45];exact tell_ok B hl
theorem cLostArea(d:Nat):CLostArea (RT (d+6)):=λh p g n a c x dm ra hp r=>by rw[at49];exact lostArea_ok (cLost d) (cEqR (d+4)) x dm ra hp r
theorem cKHeads(d:Nat):CKHeads (RT (d+6)):=λh p g sw sn ss sg so l W x hW sm r rx B hl=>by rw[at24];exact heads_ok (cBlock (d+3)) (cHeadGet d) (cTell (d+4)) x hW sm r rx B hl
theorem cKBooks(d:Nat):CKBooks (RT (d+5)):=λh p g sw sn ss sg so l W x hW sm r rx B hl=>by rw[at25];exact kbooks_ok (cBooks d) (cTell (d+3)) (by omega) x hW sm r rx B hl
theorem cKNode(d:Nat):CKNode (RT (d+8)):=λh p g sw sg so bn bs NS SS l W n x hW sm r B hl RW dj rx hn hs=>by rw[at26];exact knode_ok (cNode (d+3)) (cBlock (d+5)) (cNodeGet d) (cNodeGood d) (cLostArea (d+1)) (cTell (d+6)) x hW sm r B hl RW dj rx hn hs
theorem cKBlocks(d:Nat):CKBlocks (RT (d+1)):=λh T p g sw sn ss sg so l k D NS n B A hn hd=>by rw[at50];exact kblocks_ok (by omega) B A hn hd
theorem cKShared(d:Nat):CKShared (RT (d+2)):=λh p g sw sn ss sg so l k D NS B hl A dk=>by rw[at27];exact shared_ok (by omega) (cKBlocks d) (cTell d) B hl A dk
theorem cItoa(d:Nat):CItoa (RT (d+1)):=itoa_ok rnsI (fmsI d)
theorem cKSlot(d:Nat):CKSlot (RT (d+2)):=λh T p g sw sn ss sg so l k D NS dir a n s tw B A hk ha=>by rw[at52];exact kslot_ok (cItoa d) B A hk ha
theorem cKSlots(d:Nat):CKSlots (RT (d+9)):=λh p g sw sn ss so l k D NS W B hl A dk hW sm r rx=>by rw[at28];exact kslots_ok (by omega) (cKBlocks (d+7)) (cTell (d+7)) (cBlock (d+6)) (cSlotGet d) (cKSlot (d+6)) B hl A dk hW sm r rx
theorem cKReach(d:Nat):CKReach (RT (d+2)):=λh p g sw sn ss sg so l k D NS G B hl A k65 rg xg gl gk=>by rw[at29];exact kreach_ok (by omega) (cTell d) B hl A k65 rg xg gl gk
theorem cKLinks(d:Nat):CKLinks (RT (d+2)):=λh p g sw sn ss sg so l k D NS G B hl A k65 rg xg gl=>by rw[at30];exact klinks_ok (by omega) (cTell d) B hl A k65 rg xg gl
theorem cKTaken(d:Nat):CKTaken (RT (d+6)):=λh p g sw sn ss sg so l k D NS W B hl A dk hW sm r rx=>by rw[at31];exact ktaken_ok (by omega) (cKBlocks (d+4)) (cTell (d+4)) (cDataF (d+1)) (cImgBits d) (cHas (d+3)) B hl A dk hW sm r rx
theorem cLen64(d:Nat):CLen64 (RT (d+1)):=λn h h2=>by rw[at81];exact len64_ok h2
theorem cLen(d:Nat):CLen (RT (d+2)):=λn h h2=>by rw[at56];exact len_ok (cLen64 d) h2
theorem cOr(d:Nat):COr (RT (d+1)):=λl v h hl r=>by rw[at34];exact or_ok (by omega) hl r
theorem cCmp(d:Nat):CCmp (RT (d+2)):=λf g h bf bg=>by rw[at33];exact cmp_ok (cOr d) bf bg
theorem cOrd2(d:Nat):COrd2 (RT (d+3)):=λl v p i j h s hij hj r=>by rw[at95];exact ord2_ok (cCmp d) s hij hj r
theorem cMed(d:Nat):CMed (RT (d+4)):=λl v p i j k h s a b c r=>by rw[at91];exact med_ok (cOrd2 d) s a b c r
theorem cMedA(d:Nat):CMedA (RT (d+5)):=λl v p i h s a b r=>by rw[at90];exact medA_ok (cMed d) s a b r
theorem cChoose(d:Nat):CChoose (RT (d+6)):=λl v h s hl r=>by rw[at75];exact choose_ok (cMed (d+1)) (cMedA d) s hl r
theorem cPart(d:Nat):CPart (RT (d+3)):=λl v h s hl r=>by rw[at77];exact part_ok (by omega) (cCmp d) s hl r
theorem cIns(d:Nat):CIns (RT (d+3)):=λl v h s r=>by rw[at72];exact ins_ok (by omega) (cCmp d) s r
theorem cPdq(d:Nat):CPdq (RT (d+7)):=λl v k h s hk r=>by rw[at55];exact pdq_ok (by omega) (cIns (d+3)) (cChoose d) (cPart (d+3)) s hk r
theorem cSort(d:Nat):CSort (RT (d+8)):=λl v h s r=>by rw[at32];exact sort_ok (cLen (d+5)) (cPdq d) s r
theorem cRun(d:Nat):CRun (RT (d+10)):=λW v h sm hW r=>by rw[at9];exact run_ok (by omega) (cOpen (d+2)) (cKHeads (d+3)) (cKBooks (d+4)) (cKNode (d+1)) (cKShared (d+7)) (cKSlots d) (cKReach (d+7)) (cKLinks (d+7)) (cKTaken (d+3)) (cSort (d+1)) sm hW r
theorem d_c(d:Nat):CFine (RT (d+11)):=λW v h sm hW r=>by rw[at8];exact X_o (cRun d) sm hW r
theorem Z_v(d:Nat):CPlain64 (RT (d+1)):=λh=>by rw[at7];exact N_z
theorem d_b(d:Nat):CBack (RT (d+4)):=λg h x=>by rw[at16];exact W_x (cGood d) x
theorem T_q(d:Nat):CBitsNew (RT (d+1)):=λn h hn=>by rw[at20];exact M_p hn
theorem T_r(d:Nat):CBitsSet (RT (d+2)):=λl yes is v w h hl hb hi hm r1 r2=>by rw[at21];exact M_q (cCloneW d) (cThere d) (by omega) hl hb hi hm r1 r2
theorem cPut(d:Nat):CPut (RT (d+1)):=λh t fl at_ ws W v p b n hW hn h1 h2 r hv hp hb hpb ho hob=>by rw[at13];exact a_4 hW hn h1 h2 r hv hp hb hpb ho hob
theorem d_d(d:Nat):CMake (RT (d+7)):=λg h x=>by rw[at6];exact X_8 (cGood (d+3)) (cLost (d+1)) (cHeadPut (d+2)) (d_b (d+2)) (cNode (d+2)) (cNodePut d) (cDataF (d+2)) (T_q (d+5)) (T_r (d+4)) (cBitsF (d+2)) (cPut (d+5)) (by omega) x
theorem awAt:(mkTabS sumsT).getK 5=some awG:=by kernel_rfl
theorem awake0:awG [] ⟨.e,0,0⟩=some (.val (.bool true) ⟨.e,0,0⟩):=by kernel_rfl
theorem called(w:World)(a:Int){v:Nat}(hv:v<18446744073709551616):Calls Tryz.prog 3 #[.int .i64 a,.int .u64 (.ofNat v)] w λe w'=>e=.returned (.bool true)∧Below w.heap.size w w':=by
 have RA:HR w.heap.size (λ_=>none) ⟨.e,0,0⟩ w:=⟨Nat.le_refl _,λ_ _=>rfl,(λid b hb=>by rw[Tr.get_e] at hb;cases hb),(λid id' b b' H H' hb=>by rw[Tr.get_e] at hb;cases hb)⟩
 have ran:RT 51 3 [.int .i64 a,.int .u64 (.ofNat v)] ⟨.e,0,0⟩=some (.val (.bool true) ⟨.e,0,0⟩):=by
  rw[at3]
  exact O_l (Z_v 49) (d_d 43) (cRun 40) (d_c 39) hv (hit (g:=awG) rfl awAt 49 awake0)
 refine(runF_ok follows named_ (tabOf_ok entries_ok) sumsT_ok 51 3 _ #[.int .i64 a,.int .u64 (.ofNat v)] _ ⟨.e,0,0⟩ _ w.heap.size (λ_=>none) w ran (.cons (.int _ _) (.cons (.int _ _) .nil)) RA).mono λe w' hq=>?_
 obtain⟨v',ρ',q1,q2,q3⟩:=hq
 exact⟨by rw[q1,q2.bool_inv],q3.below⟩
end Go.Proofs.YtjddgepodiabkaaGreatDoor.checkSpoils
