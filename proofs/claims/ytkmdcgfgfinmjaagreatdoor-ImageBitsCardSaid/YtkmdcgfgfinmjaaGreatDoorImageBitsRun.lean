/- The run of 'ImageBits' at whatever input. -/
import Derived.Test.YtkmdcgfgfinmjaaGreatDoorImBHb
import Derived.Test.YtkmdcgfgfinmjaaGreatDoorBaseSum
namespace Go.Proofs.YtkmdcgfgfinmjaaGreatDoor.imageBits
open Go Go.Gev Go.RowKit Go.Proofs.YtkmdcgfgfinmjaaGreatDoor.base
set_option linter.unusedVariables false
/-- runs of a depth -/
noncomputable def RT (d : Nat) : RnK := runK (tabS (tabOf Tryz.prog 1000000 entries) sums) d
theorem at111 (d : Nat) (args : List Value) (h : Hs) : RT (d + 1) 111 args h = r111 (RT d) 1000000 args h := by kernel_rfl
theorem at86 (d : Nat) (args : List Value) (h : Hs) : RT (d + 1) 86 args h = r86 (RT d) 1000000 args h := by kernel_rfl
theorem at57 (d : Nat) (args : List Value) (h : Hs) : RT (d + 1) 57 args h = r57 (RT d) 1000000 args h := by kernel_rfl
theorem at32 (d : Nat) (args : List Value) (h : Hs) : RT (d + 1) 32 args h = r32 (RT d) 1000000 args h := by kernel_rfl
theorem at58 (d : Nat) (args : List Value) (h : Hs) : RT (d + 1) 58 args h = r58 (RT d) 1000000 args h := by kernel_rfl
theorem at33 (d : Nat) (args : List Value) (h : Hs) : RT (d + 1) 33 args h = r33 (RT d) 1000000 args h := by kernel_rfl
theorem at10 (d : Nat) (args : List Value) (h : Hs) : RT (d + 1) 10 args h = r10 (RT d) 1000000 args h := by kernel_rfl
theorem at11 (d : Nat) (args : List Value) (h : Hs) : RT (d + 1) 11 args h = r11 (RT d) 1000000 args h := by kernel_rfl
theorem at25 (d : Nat) (args : List Value) (h : Hs) : RT (d + 1) 25 args h = r25 (RT d) 1000000 args h := by kernel_rfl
theorem at22 (d : Nat) (args : List Value) (h : Hs) : RT (d + 1) 22 args h = r22 (RT d) 1000000 args h := by kernel_rfl
theorem at29 (d : Nat) (args : List Value) (h : Hs) : RT (d + 1) 29 args h = r29 (RT d) 1000000 args h := by kernel_rfl
theorem at24 (d : Nat) (args : List Value) (h : Hs) : RT (d + 1) 24 args h = r24 (RT d) 1000000 args h := by kernel_rfl
theorem at23 (d : Nat) (args : List Value) (h : Hs) : RT (d + 1) 23 args h = r23 (RT d) 1000000 args h := by kernel_rfl
theorem at91 (d : Nat) (args : List Value) (h : Hs) : RT (d + 1) 91 args h = r91 (RT d) 1000000 args h := by kernel_rfl
theorem at61 (d : Nat) (args : List Value) (h : Hs) : RT (d + 1) 61 args h = r61 (RT d) 1000000 args h := by kernel_rfl
theorem at30 (d : Nat) (args : List Value) (h : Hs) : RT (d + 1) 30 args h = r30 (RT d) 1000000 args h := by kernel_rfl
theorem at31 (d : Nat) (args : List Value) (h : Hs) : RT (d + 1) 31 args h = r31 (RT d) 1000000 args h := by kernel_rfl
theorem at27 (d : Nat) (args : List Value) (h : Hs) : RT (d + 1) 27 args h = r27 (RT d) 1000000 args h := by kernel_rfl
theorem at60 (d : Nat) (args : List Value) (h : Hs) : RT (d + 1) 60 args h = r60 (RT d) 1000000 args h := by kernel_rfl
theorem at28 (d : Nat) (args : List Value) (h : Hs) : RT (d + 1) 28 args h = r28 (RT d) 1000000 args h := by kernel_rfl
theorem at88 (d : Nat) (args : List Value) (h : Hs) : RT (d + 1) 88 args h = r88 (RT d) 1000000 args h := by kernel_rfl
theorem at87 (d : Nat) (args : List Value) (h : Hs) : RT (d + 1) 87 args h = r87 (RT d) 1000000 args h := by kernel_rfl
theorem at90 (d : Nat) (args : List Value) (h : Hs) : RT (d + 1) 90 args h = r90 (RT d) 1000000 args h := by kernel_rfl
theorem at112 (d : Nat) (args : List Value) (h : Hs) : RT (d + 1) 112 args h = r112 (RT d) 1000000 args h := by kernel_rfl
theorem at89 (d : Nat) (args : List Value) (h : Hs) : RT (d + 1) 89 args h = r89 (RT d) 1000000 args h := by kernel_rfl
theorem at59 (d : Nat) (args : List Value) (h : Hs) : RT (d + 1) 59 args h = r59 (RT d) 1000000 args h := by kernel_rfl
theorem at26 (d : Nat) (args : List Value) (h : Hs) : RT (d + 1) 26 args h = r26 (RT d) 1000000 args h := by kernel_rfl
theorem at21 (d : Nat) (args : List Value) (h : Hs) : RT (d + 1) 21 args h = r21 (RT d) 1000000 args h := by kernel_rfl
theorem at7 (d : Nat) (args : List Value) (h : Hs) : RT (d + 1) 7 args h = r7 (RT d) 1000000 args h := by kernel_rfl
theorem at8 (d : Nat) (args : List Value) (h : Hs) : RT (d + 1) 8 args h = r8 (RT d) 1000000 args h := by kernel_rfl
theorem at113 (d : Nat) (args : List Value) (h : Hs) : RT (d + 1) 113 args h = r113 (RT d) 1000000 args h := by kernel_rfl
theorem at93 (d : Nat) (args : List Value) (h : Hs) : RT (d + 1) 93 args h = r93 (RT d) 1000000 args h := by kernel_rfl
theorem at66 (d : Nat) (args : List Value) (h : Hs) : RT (d + 1) 66 args h = r66 (RT d) 1000000 args h := by kernel_rfl
theorem at64 (d : Nat) (args : List Value) (h : Hs) : RT (d + 1) 64 args h = r64 (RT d) 1000000 args h := by kernel_rfl
theorem at65 (d : Nat) (args : List Value) (h : Hs) : RT (d + 1) 65 args h = r65 (RT d) 1000000 args h := by kernel_rfl
theorem at36 (d : Nat) (args : List Value) (h : Hs) : RT (d + 1) 36 args h = r36 (RT d) 1000000 args h := by kernel_rfl
theorem at38 (d : Nat) (args : List Value) (h : Hs) : RT (d + 1) 38 args h = r38 (RT d) 1000000 args h := by kernel_rfl
theorem at92 (d : Nat) (args : List Value) (h : Hs) : RT (d + 1) 92 args h = r92 (RT d) 1000000 args h := by kernel_rfl
theorem at62 (d : Nat) (args : List Value) (h : Hs) : RT (d + 1) 62 args h = r62 (RT d) 1000000 args h := by kernel_rfl
theorem at63 (d : Nat) (args : List Value) (h : Hs) : RT (d + 1) 63 args h = r63 (RT d) 1000000 args h := by kernel_rfl
theorem at35 (d : Nat) (args : List Value) (h : Hs) : RT (d + 1) 35 args h = r35 (RT d) 1000000 args h := by kernel_rfl
theorem at13 (d : Nat) (args : List Value) (h : Hs) : RT (d + 1) 13 args h = r13 (RT d) 1000000 args h := by kernel_rfl
theorem at34 (d : Nat) (args : List Value) (h : Hs) : RT (d + 1) 34 args h = r34 (RT d) 1000000 args h := by kernel_rfl
theorem at12 (d : Nat) (args : List Value) (h : Hs) : RT (d + 1) 12 args h = r12 (RT d) 1000000 args h := by kernel_rfl
theorem at4 (d : Nat) (args : List Value) (h : Hs) : RT (d + 1) 4 args h = r4 (RT d) 1000000 args h := by kernel_rfl
theorem awake1 (b : Blk) : RT 999 6 [] ⟨.n (some b) .e .e, 1, 0⟩ = some (.val (.bool true) ⟨.n (some b) .e .e, 1, 0⟩) := by kernel_rfl
theorem cRot (d : Nat) : CRot (RT (d + 1)) := fun x h hx => by rw [at111]; exact rotate_ok hx
theorem cSealOn (d : Nat) : CSealOn (RT (d + 2)) := fun s l v h a b c r => by rw [at86]; exact sealOn_ok (cRot d) a b r (by omega) (by omega)
theorem cSealOf (d : Nat) : CSealOf (RT (d + 3)) := fun l v h a b r => by rw [at57]; exact sealOf_ok (cSealOn d) a b r
theorem cIn (d : Nat) : CIn (RT (d + 1)) := fun a b c h => by rw [at32]; exact in_ok
theorem cBits (d : Nat) : CBits (RT (d + 1)) := fun g h x => by rw [at58]; exact bits_ok x
theorem cData (d : Nat) : CData (RT (d + 2)) := fun g h x => by rw [at33]; exact data_ok (cBits d) x
theorem cGood (d : Nat) : CGood (RT (d + 3)) := fun g h => by rw [at10]; exact good_ok (cIn (d + 1)) (cData d)
theorem cDataF (d : Nat) : CDataF (RT (d + 4)) := fun g h x => by rw [at11]; exact dataF_ok (cGood d) (cData (d + 1)) x
theorem cNode (d : Nat) : CNode (RT (d + 4)) := fun g i h x hi => by rw [at25]; exact node_ok (cGood d) (cIn (d + 2)) (cBits (d + 2)) x hi
theorem cLost (d : Nat) : CLost (RT (d + 5)) := fun g h x => by rw [at22]; exact lost_ok (cGood (d + 1)) (cNode d) x
theorem cBitsF (d : Nat) : CBitsF (RT (d + 4)) := fun g h x => by rw [at29]; exact bitsF_ok (cGood d) (cBits (d + 2)) x
theorem cBack (d : Nat) : CBack (RT (d + 4)) := fun g h x => by rw [at24]; exact back_ok (cGood d) x
theorem cHeadPut (d : Nat) : CHeadPut (RT (d + 4)) := fun g ph h hp => by rw [at23]; exact ⟨fun x => headPut_ok (cGood d) (cSealOf d) hp x, fun x => headPut_no (cGood d) x⟩
theorem cEqW (d : Nat) : CEqW (RT (d + 1)) := fun a b v w h ha r1 r2 => by rw [at91]; exact eqW_ok (by omega) ha r1 r2
theorem cHeadGet (d : Nat) : CHeadGet (RT (d + 5)) := fun l v h hl r => by rw [at61]; exact headGet_ok (cHeadPut d) (cEqW (d + 3)) (by omega) hl r
theorem cFind (d : Nat) : CFind (RT (d + 6)) := fun l v h hl hb r => by rw [at30]; exact find_ok (cHeadGet d) hl hb r
theorem cCloneW (d : Nat) : CCloneW (RT (d + 1)) := fun l v h hb r => by rw [at31]; exact cloneW_ok hb r
theorem cBitsNew (d : Nat) : CBitsNew (RT (d + 1)) := fun n h hn => by rw [at27]; exact bitsNew_ok hn
theorem cThere (d : Nat) : CThere (RT (d + 1)) := fun v l i h hb hi r => by rw [at60]; exact there_ok hb hi r
theorem cBitsSet (d : Nat) : CBitsSet (RT (d + 2)) := fun l yes is v w h hl hb hi hm r1 r2 => by rw [at28]; exact bitsSet_ok (cCloneW d) (cThere d) (by omega) hl hb hi hm r1 r2
theorem cNin (d : Nat) : CNin (RT (d + 1)) := fun a b c h => by rw [at88]; exact nin_ok
theorem cFree (d : Nat) : CFree (RT (d + 1)) := fun n a c h _ => by rw [at87]; exact free_ok
theorem cFits1 (d : Nat) : CFits1 (RT (d + 2)) := fun r h => by rw [at90]; exact fits1_ok (cNin d)
theorem cIdxR (d : Nat) : CIdxR (RT (d + 1)) (RT d) := fun g p l v h hl hp r => by rw [at112]; exact idxR_ok (by omega) hl hp r
theorem cContR (d : Nat) : CContR (RT (d + 2)) (RT d) := fun g p l v h hl hp r => by rw [at89]; exact containsR_ok (cIdxR d) hl hp r
theorem cFitsN (d : Nat) : CFitsN (RT (d + 5)) := fun n a c h hl r => by rw [at59]; exact fitsN_ok (cNin (d + 3)) (cFree (d + 3)) (cContR (d + 2)) (cFits1 d) hl r
theorem cNodePut (d : Nat) : CNodePut (RT (d + 6)) := fun n a c h hl r => by rw [at26]; exact ⟨fun x => nodePut_ok (cFitsN d) (cSealOf (d + 2)) (by omega) hl r x, fun x => nodePut_no (cFitsN d) hl r x⟩
theorem cPut (d : Nat) : CPut (RT (d + 1)) := fun h t fl at_ ws W v p b n hW hn h1 h2 r hv hp hb hpb ho hob => by rw [at21]; exact put_ok hW hn h1 h2 r hv hp hb hpb ho hob
theorem cMake (d : Nat) : CMake (RT (d + 7)) := fun g h x => by rw [at7]; exact make_ok (cGood (d + 3)) (cLost (d + 1)) (cHeadPut (d + 2)) (cBack (d + 2)) (cNode (d + 2)) (cNodePut d) (cDataF (d + 2)) (cBitsNew (d + 5)) (cBitsSet (d + 4)) (cBitsF (d + 2)) (cPut (d + 5)) (by omega) x
theorem cOpen (d : Nat) : COpen (RT (d + 7)) := fun l v h hl hb r => by rw [at8]; exact ⟨fun g ho => open_ok (cFind d) (cCloneW (d + 5)) hl hb r ho, fun ho => open_no (cFind d) hl hb r ho⟩
theorem cGoodNeg (d : Nat) : CGoodNeg (RT (d + 2)) := fun b n c k h x => by rw [at10]; exact goodNeg_ok (cIn d) x
theorem cMakeNo (d : Nat) : CMakeNo (RT (d + 4)) := fun b n c k h x => by rw [at7]; exact makeNo_ok (cGood d) (cGoodNeg (d + 1)) x
theorem cTurn (d : Nat) : CTurn (RT (d + 1)) := fun x h hx => by rw [at113]; exact turn_ok hx
theorem cSealR (d : Nat) : CSealR (RT (d + 2)) := fun s l v h a b c r => by rw [at93]; exact sealR_ok (cTurn d) a b r (by omega) (by omega)
theorem cOfR (d : Nat) : COfR (RT (d + 3)) := fun l v h a b r => by rw [at66]; exact ofR_ok (cSealR d) a b r
theorem cBitB (d : Nat) : CBitB (RT (d + 1)) := fun g h x => by rw [at64]; exact bitB_ok x
theorem cMagic (d : Nat) : CMagic (RT (d + 1)) := fun h => by rw [at65]; exact magic_ok
theorem cGoodR (d : Nat) : CGoodR (RT (d + 2)) := fun g h => by rw [at36]; exact goodR_ok (cBitB d)
theorem cPutR (d : Nat) : CPutR (RT (d + 4)) := fun g ph h hp => by rw [at38]; exact ⟨fun x => putR_ok (cGoodR (d + 1)) (cMagic (d + 2)) (cOfR d) hp x, fun x => putR_no (cGoodR (d + 1)) x⟩
theorem cSameR (d : Nat) : CSameR (RT (d + 1)) := fun a b v w h ha r1 r2 => by rw [at92]; exact sameR_ok (by omega) ha r1 r2
theorem cWhole (d : Nat) : CWhole (RT (d + 1)) := fun l v h hb r => by rw [at62]; exact whole_ok hb r
theorem cGetR (d : Nat) : CGetR (RT (d + 5)) := fun l v h hl r => by rw [at63]; exact getR_ok (cPutR d) (cSameR (d + 3)) (by omega) hl r
theorem cFindR (d : Nat) : CFindR (RT (d + 6)) := fun l v h hl hb r => by rw [at35]; exact findR_ok (cWhole (d + 4)) (cGetR d) hl hb r
theorem cOpenR (d : Nat) : COpenR (RT (d + 7)) := fun l v h hl hb r => by rw [at13]; exact ⟨fun g ho => openR_ok (cFindR d) hl hb r ho, fun ho => openR_no (cFindR d) hl hb r ho⟩
theorem cBlock (d : Nat) : CBlock (RT (d + 2)) := fun g l s i h hb r hi => by rw [at34]; exact block_ok (cCloneW d) hb r hi
theorem cImgBits (d : Nat) : CImgBits (RT (d + 5)) := fun g l s h x hl r => by rw [at12]; exact imgBits_ok (cBitsF d) (cBlock (d + 2)) (by omega) x hl r
theorem ran (b n c k a : Int) : RT 1000 4 [gI b n c k, .int .i64 a] ⟨.e, 0, 0⟩ = some (.val (.bool true) ⟨.e, 0, 0⟩) := by
  rw [at4]
  exact bitsLaw_ok (cGood 996) (cGoodNeg 997) (cMake 992) (cMakeNo 995) (cOpen 992) (cDataF 995) (cImgBits 994) (cOpenR 992) (fun cs => awake1 _)
theorem called (w : World) (b n c k a : Int) : Calls Tryz.prog 4 #[gI b n c k, .int .i64 a] w fun e w' => e = .returned (.bool true) ∧ Below w.heap.size w w' := by
  have R0 : HR w.heap.size (fun _ => none) ⟨.e, 0, 0⟩ w := ⟨Nat.le_refl _, fun _ _ => rfl, (fun id b hb => by rw [Tr.get_e] at hb; cases hb), (fun id id' b b' H H' hb => by rw [Tr.get_e] at hb; cases hb)⟩
  have hg : VR (fun _ => none) (gI b n c k) (gI b n c k) := VR.agg_of (.cons (.int _ _) (.cons (.int _ _) (.cons (.int _ _) (.cons (.int _ _) .nil))))
  have hl : VL (fun _ => none) [gI b n c k, .int .i64 a] (#[gI b n c k, .int .i64 a] : Array Value).toList := .cons hg (.cons (.int _ _) .nil)
  refine (runS_ok follows named (tabOf_ok entries_ok) sums_ok 1000 4 _ #[gI b n c k, .int .i64 a] _ ⟨.e, 0, 0⟩ _ w.heap.size _ w (ran b n c k a) hl R0).mono fun e w' hq => ?_
  obtain ⟨v', ρ', q1, q2, q3⟩ := hq
  exact ⟨by rw [q1, q2.bool_inv], q3.below⟩
end Go.Proofs.YtkmdcgfgfinmjaaGreatDoor.imageBits
