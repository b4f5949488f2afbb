/- The run of 'ImageMakes' at whatever input. -/
import Derived.Test.YtdgcebfncbmbfaaGreatDoorImE
import Derived.Test.YtdgcebfncbmbfaaGreatDoorGevAr3
import Derived.Test.YtdgcebfncbmbfaaGreatDoorBaseSum
namespace Go.Proofs.YtdgcebfncbmbfaaGreatDoor.imageMakes
open Go Go.Gev Go.RowKit Go.Proofs.YtdgcebfncbmbfaaGreatDoor.base
set_option linter.unusedVariables false
noncomputable def R0 (f : FuncId) : List Value → Hs → An := runK (tabF (Q_s Tryz.prog 1000000 entries) sums) 60 f
noncomputable def awG : List Value → Hs → An := runK (tabF (Q_s Tryz.prog 1000000 entries) sums) 60 4
theorem kBld : allN (fun k => H_n (R0 41) (aBld k) mBld (qBld k)) 61 = true := by kernel_rfl
theorem kNew : allN (fun k => H_n (R0 13) (aNw k) [] (qNw k)) 61 = true := by kernel_rfl
theorem m_j : allN (fun k => H_n (R0 12) aSm (mSm k) qSm) 61 = true := by kernel_rfl
theorem rns : ImR R0 := ⟨fun k hk => Q_u kBld k hk, fun k hk => Q_u kNew k hk, fun k hk => Q_u m_j k hk⟩
theorem rnsZ : GzR R0 := by unfold GzR; kernel_rfl
noncomputable def Z_p : List (Nat × SmK) := [(41, fmG (KBld (R0 41))), (13, fmG (KNw (R0 13))), (12, fmG (KSm (R0 12))), (69, fmG (KGz (R0 69))), (4, awG)]
theorem sOk {ι : Type} {f : FuncId} {p : ι → Prop} {a : ι → List Value} {A : ι → List SB} (hf : (FF Tryz.prog f).isSome = true) : SumOk Tryz.prog f (fmG (KI p a A (R0 f))) := k_k hf (m_d follows base.named (M_l H_t) (sums := sums) Y_h 60 f p a A)
theorem awOk {f : FuncId} {g : SmK} (hf : (FF Tryz.prog f).isSome = true) (hg : ∀ a h v h', g a h = some (.val v h') → runK (tabF (Q_s Tryz.prog 1000000 entries) sums) 60 f a h = some (.val v h')) : SumOk Tryz.prog f g := ⟨Option.isSome_iff_exists.1 hf, fun a a' v h h' B ρ w hr hl Rl => Q_k follows base.named (M_l H_t) (sums := sums) Y_h 60 f a a' v h h' B ρ w (hg _ _ _ _ hr) hl Rl⟩
theorem l_3 : SumOk Tryz.prog 4 awG := awOk (by kernel_rfl) fun _ _ _ _ h => by unfold awG at h; exact h
theorem b_l : SumsOk Tryz.prog Z_p := by
 refine ⟨sOk (by kernel_rfl), sOk (by kernel_rfl), sOk (by kernel_rfl), sOk (by kernel_rfl), ?_, trivial⟩
 dsimp only
 exact l_3
noncomputable def RT (d : Nat) : RnK := runK (tabF (Q_s Tryz.prog 1000000 entries) Z_p) d
theorem hit {f : FuncId} {g : SmK} (hb : Nat.beq f 1000000000 = false) (hg : (I_e Z_p).getK f = some g) (d : Nat) {a : List Value} {h : Hs} {o : Out} (e : g a h = some o) : RT (d + 1) f a h = some o := by
 show ifB (Nat.beq f 1000000000) none (Option.rec (motive := fun _ => An) (Q_s Tryz.prog 1000000 entries (RT d) f a h) (fun g => Option.rec (motive := fun _ => An) (Q_s Tryz.prog 1000000 entries (RT d) f a h) (fun o => some o) (g a h)) ((I_e Z_p).getK f)) = some o
 rw [hb, hg]
 show Option.rec (motive := fun _ => An) _ (fun o => some o) (g a h) = some o
 rw [e]
theorem at103 (d : Nat) (args : List Value) (h : Hs) : RT (d + 1) 103 args h = r103 (RT d) 1000000 args h := by kernel_rfl
theorem at79 (d : Nat) (args : List Value) (h : Hs) : RT (d + 1) 79 args h = r79 (RT d) 1000000 args h := by kernel_rfl
theorem at51 (d : Nat) (args : List Value) (h : Hs) : RT (d + 1) 51 args h = r51 (RT d) 1000000 args h := by kernel_rfl
theorem at26 (d : Nat) (args : List Value) (h : Hs) : RT (d + 1) 26 args h = r26 (RT d) 1000000 args h := by kernel_rfl
theorem at52 (d : Nat) (args : List Value) (h : Hs) : RT (d + 1) 52 args h = r52 (RT d) 1000000 args h := by kernel_rfl
theorem at27 (d : Nat) (args : List Value) (h : Hs) : RT (d + 1) 27 args h = r27 (RT d) 1000000 args h := by kernel_rfl
theorem at6 (d : Nat) (args : List Value) (h : Hs) : RT (d + 1) 6 args h = r6 (RT d) 1000000 args h := by kernel_rfl
theorem at22 (d : Nat) (args : List Value) (h : Hs) : RT (d + 1) 22 args h = r22 (RT d) 1000000 args h := by kernel_rfl
theorem at20 (d : Nat) (args : List Value) (h : Hs) : RT (d + 1) 20 args h = r20 (RT d) 1000000 args h := by kernel_rfl
theorem at17 (d : Nat) (args : List Value) (h : Hs) : RT (d + 1) 17 args h = r17 (RT d) 1000000 args h := by kernel_rfl
theorem at25 (d : Nat) (args : List Value) (h : Hs) : RT (d + 1) 25 args h = r25 (RT d) 1000000 args h := by kernel_rfl
theorem at19 (d : Nat) (args : List Value) (h : Hs) : RT (d + 1) 19 args h = r19 (RT d) 1000000 args h := by kernel_rfl
theorem at18 (d : Nat) (args : List Value) (h : Hs) : RT (d + 1) 18 args h = r18 (RT d) 1000000 args h := by kernel_rfl
theorem at84 (d : Nat) (args : List Value) (h : Hs) : RT (d + 1) 84 args h = r84 (RT d) 1000000 args h := by kernel_rfl
theorem at55 (d : Nat) (args : List Value) (h : Hs) : RT (d + 1) 55 args h = r55 (RT d) 1000000 args h := by kernel_rfl
theorem at28 (d : Nat) (args : List Value) (h : Hs) : RT (d + 1) 28 args h = r28 (RT d) 1000000 args h := by kernel_rfl
theorem at29 (d : Nat) (args : List Value) (h : Hs) : RT (d + 1) 29 args h = r29 (RT d) 1000000 args h := by kernel_rfl
theorem at23 (d : Nat) (args : List Value) (h : Hs) : RT (d + 1) 23 args h = r23 (RT d) 1000000 args h := by kernel_rfl
theorem at54 (d : Nat) (args : List Value) (h : Hs) : RT (d + 1) 54 args h = r54 (RT d) 1000000 args h := by kernel_rfl
theorem at24 (d : Nat) (args : List Value) (h : Hs) : RT (d + 1) 24 args h = r24 (RT d) 1000000 args h := by kernel_rfl
theorem at81 (d : Nat) (args : List Value) (h : Hs) : RT (d + 1) 81 args h = r81 (RT d) 1000000 args h := by kernel_rfl
theorem at80 (d : Nat) (args : List Value) (h : Hs) : RT (d + 1) 80 args h = r80 (RT d) 1000000 args h := by kernel_rfl
theorem at83 (d : Nat) (args : List Value) (h : Hs) : RT (d + 1) 83 args h = r83 (RT d) 1000000 args h := by kernel_rfl
theorem at104 (d : Nat) (args : List Value) (h : Hs) : RT (d + 1) 104 args h = r104 (RT d) 1000000 args h := by kernel_rfl
theorem at82 (d : Nat) (args : List Value) (h : Hs) : RT (d + 1) 82 args h = r82 (RT d) 1000000 args h := by kernel_rfl
theorem at53 (d : Nat) (args : List Value) (h : Hs) : RT (d + 1) 53 args h = r53 (RT d) 1000000 args h := by kernel_rfl
theorem at21 (d : Nat) (args : List Value) (h : Hs) : RT (d + 1) 21 args h = r21 (RT d) 1000000 args h := by kernel_rfl
theorem at16 (d : Nat) (args : List Value) (h : Hs) : RT (d + 1) 16 args h = r16 (RT d) 1000000 args h := by kernel_rfl
theorem at5 (d : Nat) (args : List Value) (h : Hs) : RT (d + 1) 5 args h = r5 (RT d) 1000000 args h := by kernel_rfl
theorem at7 (d : Nat) (args : List Value) (h : Hs) : RT (d + 1) 7 args h = r7 (RT d) 1000000 args h := by kernel_rfl
theorem at105 (d : Nat) (args : List Value) (h : Hs) : RT (d + 1) 105 args h = r105 (RT d) 1000000 args h := by kernel_rfl
theorem at85 (d : Nat) (args : List Value) (h : Hs) : RT (d + 1) 85 args h = r85 (RT d) 1000000 args h := by kernel_rfl
theorem at58 (d : Nat) (args : List Value) (h : Hs) : RT (d + 1) 58 args h = r58 (RT d) 1000000 args h := by kernel_rfl
theorem at56 (d : Nat) (args : List Value) (h : Hs) : RT (d + 1) 56 args h = r56 (RT d) 1000000 args h := by kernel_rfl
theorem at57 (d : Nat) (args : List Value) (h : Hs) : RT (d + 1) 57 args h = r57 (RT d) 1000000 args h := by kernel_rfl
theorem at30 (d : Nat) (args : List Value) (h : Hs) : RT (d + 1) 30 args h = r30 (RT d) 1000000 args h := by kernel_rfl
theorem at32 (d : Nat) (args : List Value) (h : Hs) : RT (d + 1) 32 args h = r32 (RT d) 1000000 args h := by kernel_rfl
theorem at65 (d : Nat) (args : List Value) (h : Hs) : RT (d + 1) 65 args h = r65 (RT d) 1000000 args h := by kernel_rfl
theorem at64 (d : Nat) (args : List Value) (h : Hs) : RT (d + 1) 64 args h = r64 (RT d) 1000000 args h := by kernel_rfl
theorem at106 (d : Nat) (args : List Value) (h : Hs) : RT (d + 1) 106 args h = r106 (RT d) 1000000 args h := by kernel_rfl
theorem at88 (d : Nat) (args : List Value) (h : Hs) : RT (d + 1) 88 args h = r88 (RT d) 1000000 args h := by kernel_rfl
theorem at89 (d : Nat) (args : List Value) (h : Hs) : RT (d + 1) 89 args h = r89 (RT d) 1000000 args h := by kernel_rfl
theorem at86 (d : Nat) (args : List Value) (h : Hs) : RT (d + 1) 86 args h = r86 (RT d) 1000000 args h := by kernel_rfl
theorem at87 (d : Nat) (args : List Value) (h : Hs) : RT (d + 1) 87 args h = r87 (RT d) 1000000 args h := by kernel_rfl
theorem at66 (d : Nat) (args : List Value) (h : Hs) : RT (d + 1) 66 args h = r66 (RT d) 1000000 args h := by kernel_rfl
theorem at38 (d : Nat) (args : List Value) (h : Hs) : RT (d + 1) 38 args h = r38 (RT d) 1000000 args h := by kernel_rfl
theorem at90 (d : Nat) (args : List Value) (h : Hs) : RT (d + 1) 90 args h = r90 (RT d) 1000000 args h := by kernel_rfl
theorem at68 (d : Nat) (args : List Value) (h : Hs) : RT (d + 1) 68 args h = r68 (RT d) 1000000 args h := by kernel_rfl
theorem at40 (d : Nat) (args : List Value) (h : Hs) : RT (d + 1) 40 args h = r40 (RT d) 1000000 args h := by kernel_rfl
theorem at59 (d : Nat) (args : List Value) (h : Hs) : RT (d + 1) 59 args h = r59 (RT d) 1000000 args h := by kernel_rfl
theorem at33 (d : Nat) (args : List Value) (h : Hs) : RT (d + 1) 33 args h = r33 (RT d) 1000000 args h := by kernel_rfl
theorem at61 (d : Nat) (args : List Value) (h : Hs) : RT (d + 1) 61 args h = r61 (RT d) 1000000 args h := by kernel_rfl
theorem at62 (d : Nat) (args : List Value) (h : Hs) : RT (d + 1) 62 args h = r62 (RT d) 1000000 args h := by kernel_rfl
theorem at34 (d : Nat) (args : List Value) (h : Hs) : RT (d + 1) 34 args h = r34 (RT d) 1000000 args h := by kernel_rfl
theorem at63 (d : Nat) (args : List Value) (h : Hs) : RT (d + 1) 63 args h = r63 (RT d) 1000000 args h := by kernel_rfl
theorem at31 (d : Nat) (args : List Value) (h : Hs) : RT (d + 1) 31 args h = r31 (RT d) 1000000 args h := by kernel_rfl
theorem at36 (d : Nat) (args : List Value) (h : Hs) : RT (d + 1) 36 args h = r36 (RT d) 1000000 args h := by kernel_rfl
theorem at37 (d : Nat) (args : List Value) (h : Hs) : RT (d + 1) 37 args h = r37 (RT d) 1000000 args h := by kernel_rfl
theorem at35 (d : Nat) (args : List Value) (h : Hs) : RT (d + 1) 35 args h = r35 (RT d) 1000000 args h := by kernel_rfl
theorem at9 (d : Nat) (args : List Value) (h : Hs) : RT (d + 1) 9 args h = r9 (RT d) 1000000 args h := by kernel_rfl
theorem at8 (d : Nat) (args : List Value) (h : Hs) : RT (d + 1) 8 args h = r8 (RT d) 1000000 args h := by kernel_rfl
theorem at10 (d : Nat) (args : List Value) (h : Hs) : RT (d + 1) 10 args h = r10 (RT d) 1000000 args h := by kernel_rfl
theorem at39 (d : Nat) (args : List Value) (h : Hs) : RT (d + 1) 39 args h = r39 (RT d) 1000000 args h := by kernel_rfl
theorem at11 (d : Nat) (args : List Value) (h : Hs) : RT (d + 1) 11 args h = r11 (RT d) 1000000 args h := by kernel_rfl
theorem at3 (d : Nat) (args : List Value) (h : Hs) : RT (d + 1) 3 args h = r3 (RT d) 1000000 args h := by kernel_rfl
theorem cRot (d : Nat) : CRot (RT (d + 1)) := fun x h hx => by rw [at103]; exact a_x hx
theorem i_4 (d : Nat) : CSealOn (RT (d + 2)) := fun s l v h a b c r => by rw [at79]; exact V_g (cRot d) a b r (by omega) (by omega)
theorem Z_0 (d : Nat) : CSealOf (RT (d + 3)) := fun l v h a b r => by rw [at51]; exact U_7 (i_4 d) a b r
theorem cIn (d : Nat) : CIn (RT (d + 1)) := fun a b c h => by rw [at26]; exact m_g
theorem i_o (d : Nat) : CBits (RT (d + 1)) := fun g h x => by rw [at52]; exact h_m x
theorem l_l (d : Nat) : CData (RT (d + 2)) := fun g h x => by rw [at27]; exact i_r (i_o d) x
theorem J_x (d : Nat) : CGood (RT (d + 3)) := fun g h => by rw [at6]; exact g_z (cIn (d + 1)) (l_l d)
theorem f_x (d : Nat) : CDataF (RT (d + 4)) := fun g h x => by rw [at22]; exact b_s (J_x d) (l_l (d + 1)) x
theorem c_l (d : Nat) : CNode (RT (d + 4)) := fun g i h x hi => by rw [at20]; exact g_i (J_x d) (cIn (d + 2)) (i_o (d + 2)) x hi
theorem k_t (d : Nat) : CLost (RT (d + 5)) := fun g h x => by rw [at17]; exact f_5 (J_x (d + 1)) (c_l d) x
theorem l_0 (d : Nat) : CBitsF (RT (d + 4)) := fun g h x => by rw [at25]; exact c_i (J_x d) (i_o (d + 2)) x
theorem m_s (d : Nat) : CBack (RT (d + 4)) := fun g h x => by rw [at19]; exact i_z (J_x d) x
theorem R_8 (d : Nat) : CHeadPut (RT (d + 4)) := fun g ph h hp => by rw [at18]; exact ⟨fun x => T_7 (J_x d) (Z_0 d) hp x, fun x => S_5 (J_x d) x⟩
theorem cEqW (d : Nat) : CEqW (RT (d + 1)) := fun a b v w h ha r1 r2 => by rw [at84]; exact k_1 (by omega) ha r1 r2
theorem c_h (d : Nat) : CHeadGet (RT (d + 5)) := fun l v h hl r => by rw [at55]; exact S_6 (R_8 d) (cEqW (d + 3)) (by omega) hl r
theorem k_c (d : Nat) : CFind (RT (d + 6)) := fun l v h hl hb r => by rw [at28]; exact find_ok (c_h d) hl hb r
theorem Q_o (d : Nat) : CCloneW (RT (d + 1)) := fun l v h hb r => by rw [at29]; exact V_2 hb r
theorem e_l (d : Nat) : CBitsNew (RT (d + 1)) := fun n h hn => by rw [at23]; exact S_u hn
theorem k_z (d : Nat) : CThere (RT (d + 1)) := fun v l i h hb hi r => by rw [at54]; exact b_o hb hi r
theorem b_q (d : Nat) : CBitsSet (RT (d + 2)) := fun l yes is v w h hl hb hi hm r1 r2 => by rw [at24]; exact S_4 (Q_o d) (k_z d) (by omega) hl hb hi hm r1 r2
theorem cNin (d : Nat) : CNin (RT (d + 1)) := fun a b c h => by rw [at81]; exact l_o
theorem k_l (d : Nat) : CFree (RT (d + 1)) := fun n a c h _ => by rw [at80]; exact g_0
theorem k_8 (d : Nat) : CFits1 (RT (d + 2)) := fun r h => by rw [at83]; exact c_r (cNin d)
theorem m_a (d : Nat) : CIdxR (RT (d + 1)) (RT d) := fun g p l v h hl hp r => by rw [at104]; exact h_u (by omega) hl hp r
theorem k_b (d : Nat) : CContR (RT (d + 2)) (RT d) := fun g p l v h hl hp r => by rw [at82]; exact N_h (m_a d) hl hp r
theorem e_3 (d : Nat) : CFitsN (RT (d + 5)) := fun n a c h hl r => by rw [at53]; exact a_7 (cNin (d + 3)) (k_l (d + 3)) (k_b (d + 2)) (k_8 d) hl r
theorem R_0 (d : Nat) : CNodePut (RT (d + 6)) := fun n a c h hl r => by rw [at21]; exact ⟨fun x => S_8 (e_3 d) (Z_0 (d + 2)) (by omega) hl r x, fun x => U_q (e_3 d) hl r x⟩
theorem cPut (d : Nat) : CPut (RT (d + 1)) := fun h t fl at_ ws W v p b n hW hn h1 h2 r hv hp hb hpb ho hob => by rw [at16]; exact l_v hW hn h1 h2 r hv hp hb hpb ho hob
theorem m_h (d : Nat) : CMake (RT (d + 7)) := fun g h x => by rw [at5]; exact g_p (J_x (d + 3)) (k_t (d + 1)) (R_8 (d + 2)) (m_s (d + 2)) (c_l (d + 2)) (R_0 d) (f_x (d + 2)) (e_l (d + 5)) (b_q (d + 4)) (l_0 (d + 2)) (cPut (d + 5)) (by omega) x
theorem l_9 (d : Nat) : COpen (RT (d + 7)) := fun l v h hl hb r => by rw [at7]; exact ⟨fun g ho => i_f (k_c d) (Q_o (d + 5)) hl hb r ho, fun ho => g_a (k_c d) hl hb r ho⟩
theorem R_w (d : Nat) : CGoodNeg (RT (d + 2)) := fun b n c k h x => by rw [at6]; exact U_e (cIn d) x
theorem j_m (d : Nat) : CMakeNo (RT (d + 4)) := fun b n c k h x => by rw [at5]; exact W_y (J_x d) (R_w (d + 1)) x
theorem l_6 (d : Nat) : CTurn (RT (d + 1)) := fun x h hx => by rw [at105]; exact f_8 hx
theorem l_g (d : Nat) : CSealR (RT (d + 2)) := fun s l v h a b c r => by rw [at85]; exact e_n (l_6 d) a b r (by omega) (by omega)
theorem cOfR (d : Nat) : COfR (RT (d + 3)) := fun l v h a b r => by rw [at58]; exact k_q (l_g d) a b r
theorem j_4 (d : Nat) : CBitB (RT (d + 1)) := fun g h x => by rw [at56]; exact g_m x
theorem l_d (d : Nat) : CMagic (RT (d + 1)) := fun h => by rw [at57]; exact d_r
theorem J_b (d : Nat) : CGoodR (RT (d + 2)) := fun g h => by rw [at30]; exact d_n (j_4 d)
theorem m_r (d : Nat) : CPutR (RT (d + 4)) := fun g ph h hp => by rw [at32]; exact ⟨fun x => i_l (J_b (d + 1)) (l_d (d + 2)) (cOfR d) hp x, fun x => i_3 (J_b (d + 1)) x⟩
theorem Z_f (d : Nat) : CBlock (RT (d + 2)) := fun g l s i h hb r hi => by rw [at65]; exact e_h (Q_o d) hb r hi
theorem fms (d : Nat) : ImF (RT (d + 1)) R0 := ⟨fun _ _ _ e => hit rfl rfl d e, fun _ _ _ e => hit rfl rfl d e, fun _ _ _ e => hit rfl rfl d e⟩
theorem S_g (d : Nat) : CNodeGet (RT (d + 7)) := fun l v h hl hb r => by rw [at64]; exact U_k (R_0 d) (cEqW (d + 5)) (by omega) hl hb r
theorem cEqR (d : Nat) : CEqR (RT (d + 1)) := fun a b v w h ha r1 r2 => by rw [at106]; exact k_f (by omega) ha r1 r2
theorem i_u (d : Nat) : CBlocks (RT (d + 1)) := fun n a c h dm r => by rw [at88]; exact V_4 (by omega) dm r
theorem j_u (d : Nat) : CNeeds (RT (d + 1)) := fun n a c h dm => by rw [at89]; exact b_t dm
theorem k_i (d : Nat) : CSized (RT (d + 2)) := fun g n a c h dm => by rw [at86]; exact e_g (cNin d) dm
theorem g_o (d : Nat) : CPlaced (RT (d + 6)) := fun g n a c h x dm r => by rw [at87]; exact Z_x (k_t d) (cEqR (d + 4)) (f_x (d + 1)) (by omega) x dm r
theorem N_r (d : Nat) : CNodeGood (RT (d + 7)) := fun g n a c h x dm r => by rw [at66]; exact P_q (J_x (d + 3)) (cNin (d + 5)) (k_l (d + 5)) (k_i (d + 4)) (g_o d) (i_u (d + 5)) (j_u (d + 5)) (by omega) x dm r
theorem L_x (d : Nat) : CImgNode (RT (d + 8)) := fun g l s i h x hl sm r hi => by rw [at38]; exact ⟨fun n hn => U_a (c_l (d + 3)) (Z_f (d + 5)) (S_g d) (N_r d) x hl sm r hi hn, fun hn => T_b (c_l (d + 3)) (Z_f (d + 5)) (S_g d) (N_r d) x hl sm r hi hn⟩
theorem i_5 (d : Nat) : CCounts (RT (d + 1)) := fun l v h hc hb r => by rw [at90]; exact Z_g (by omega) hc hb r
theorem cAt (d : Nat) : CAt (RT (d + 2)) := fun l i v h hc hb hi r => by rw [at68]; exact m_b (i_5 d) (by omega) hc hb hi r
theorem l_e (d : Nat) : CSlots (RT (d + 9)) := fun g l s i dd h x hl sm r hi hd ty sz hk => by rw [at40]; exact b_n (L_x d) (cAt (d + 6)) (Z_f (d + 6)) (i_8 rnsZ fun _ _ _ e => hit rfl rfl (d + 7) e) (by omega) x hl sm r hi hd ty sz hk
theorem Z_b (d : Nat) : CBitsR (RT (d + 3)) := fun g h x => by rw [at59]; exact c_g (J_b d) (j_4 (d + 1)) x
theorem f_l (d : Nat) : CNodeR (RT (d + 4)) := fun g i h x hi => by rw [at33]; exact c_9 (J_b (d + 1)) (Z_b d) x hi
theorem f_c (d : Nat) : CLostR (RT (d + 5)) := fun g h x => by rw [at61]; exact b_v (J_b (d + 2)) (f_l d) x
theorem k_5 (d : Nat) : CDataR (RT (d + 6)) := fun g h x => by rw [at62]; exact d_g (J_b (d + 3)) (f_c d) x
theorem W_z (d : Nat) : CPutNodeR (RT (d + 4)) := fun n a c h hl r hx z _ => by rw [at34]; exact Q_3 (cOfR d) (by omega) hl r hx z
theorem l_2 (d : Nat) : CSetR (RT (d + 1)) := fun l is v w h hl hb hi hm r1 r2 => by rw [at63]; exact g_d (by omega) hl hb hi hm r1 r2
theorem k_0 (d : Nat) : CPutI (RT (d + 1)) := fun h t fl g s v W ws p at_ hW ha hw r1 r2 n1 n2 hp ho => by rw [at31]; exact g_9 (by omega) hW ha hw r1 r2 n1 n2 hp ho
theorem Z_3 (d : Nat) : CSetBitsI (RT (d + 4)) := fun h t fl g s v W ws p x hW hw r1 r2 n1 n2 hp ho => by rw [at36]; exact Q_a (by omega) (Z_b d) (k_0 (d + 2)) x hW hw r1 r2 n1 n2 hp ho
theorem b_3 (d : Nat) : CBitsOfR (RT (d + 7)) := fun g h x => by rw [at37]; exact W_s (Z_b (d + 3)) (k_5 d) (l_2 (d + 5)) (by omega) x
theorem S_s (d : Nat) : CLostNodeR (RT (d + 6)) := fun g h x => by rw [at35]; exact P_d (f_c d) x
theorem j_0 (d : Nat) : CMakeR (RT (d + 8)) := fun g h x => by rw [at9]; exact d_2 (J_b (d + 5)) (m_r (d + 3)) (k_0 (d + 6)) (f_l (d + 3)) (W_z (d + 3)) (S_s (d + 1)) (b_3 d) (Z_3 (d + 3)) x
theorem m_p (d : Nat) : CSame (RT (d + 1)) := fun a b v w h ha r1 r2 => by rw [at8]; exact j_a (by omega) ha r1 r2
theorem m_x (d : Nat) : COwnG (RT (d + 1)) := fun g h => by rw [at10]; exact g_4
theorem j_t (d : Nat) : CContD (RT (d + 9)) := fun g l s i n h x hl sm r hi hd ty => by rw [at39]; exact e_u (L_x d) x hl sm r hi hd ty
theorem m_o (d : Nat) : CTree (RT (d + 10)) := fun g s h x r => by rw [at11]; exact g_6 (L_x (d + 1)) (j_t d) (l_e d) (by omega) x (m_c rns (fms (d + 8)) x.1.n1 x.1.n2) r
theorem awake1 (b : Blk) : awG [] ⟨.n (some b) .e .e, 1, 0⟩ = some (.val (.bool true) ⟨.n (some b) .e .e, 1, 0⟩) := by kernel_rfl
theorem awAt : (I_e Z_p).getK 4 = some awG := by kernel_rfl
theorem ran (b n c k : Int) : RT 51 3 [gI b n c k] ⟨.e, 0, 0⟩ = some (.val (.bool true) ⟨.e, 0, 0⟩) := by
 rw [at3]
 exact c_8 rns (fms 49) (J_x 47) (R_w 48) (m_h 43) (j_m 46) (l_9 43) (m_x 49) (j_0 42) (m_p 49) (m_o 40) (fun cs => hit (g := awG) rfl awAt 49 (awake1 _))
theorem called (w : World) (b n c k : Int) : Calls Tryz.prog 3 #[gI b n c k] w fun e w' => e = .returned (.bool true) ∧ Below w.heap.size w w' := by
 have RA : HR w.heap.size (fun _ => none) ⟨.e, 0, 0⟩ w := ⟨Nat.le_refl _, fun _ _ => rfl, (fun id b hb => by rw [Tr.get_e] at hb; cases hb), (fun id id' b b' H H' hb => by rw [Tr.get_e] at hb; cases hb)⟩
 have hg : VR (fun _ => none) (gI b n c k) (gI b n c k) := VR.agg_of (.cons (.int _ _) (.cons (.int _ _) (.cons (.int _ _) (.cons (.int _ _) .nil))))
 have hl : VL (fun _ => none) [gI b n c k] (#[gI b n c k] : Array Value).toList := .cons hg .nil
 refine (Q_k follows base.named (M_l H_t) b_l 51 3 _ #[gI b n c k] _ ⟨.e, 0, 0⟩ _ w.heap.size _ w (ran b n c k) hl RA).mono fun e w' hq => ?_
 obtain ⟨v', ρ', q1, q2, q3⟩ := hq
 exact ⟨by rw [q1, q2.bool_inv], q3.below⟩
end Go.Proofs.YtdgcebfncbmbfaaGreatDoor.imageMakes
