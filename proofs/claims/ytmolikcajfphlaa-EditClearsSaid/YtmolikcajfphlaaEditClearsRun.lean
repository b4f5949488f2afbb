/- The run of 'EditClears' at whatever input. -/
import Derived.Test.YtmolikcajfphlaaEcD
import Derived.Test.YtmolikcajfphlaaGevAr3
namespace Go.Proofs.Ytmolikcajfphlaa.editClears
open Go Go.Gev Go.RowKit
set_option linter.unusedVariables false
theorem follows : Try.prog.follows .mixedOrders = true := by kernel_rfl
theorem names : (Try.prog.funcs.toList.all fun fn => !fn.body.isSome || !(fn.name == "runtime.NumGoroutine")) = true := by decide +kernel
theorem named_ : Named Try.prog := fun f fn hf hb => by
 have hm : fn ∈ Try.prog.funcs.toList := by
  obtain ⟨h1, h2⟩ := Array.getElem?_eq_some_iff.1 hf
  rw [← h2]; simp
 have h := List.all_eq_true.1 names fn hm
 rw [hb] at h
 simpa using h
noncomputable def R0 (f : FuncId) : List Value → Hs → An := runK (tabF (tabOf Try.prog 1000000 entries) []) 60 f
noncomputable def awG : List Value → Hs → An := runK (tabF (tabOf Try.prog 1000000 entries) []) 60 5
theorem kTake : allN (fun k => chkRun (R0 61) (aTake (Nat.succ k)) (pT B0) (qTake (Nat.succ k))) 20 = true := by kernel_rfl
theorem rns : EdR R0 where
 made := by kernel_rfl
 ednew := by kernel_rfl
 pnew := by kernel_rfl
 take0 := by kernel_rfl
 take := fun k hk => allN_ok kTake k hk
noncomputable def sumsT : List (Nat × SmK) := [(7, fmG (KMade (R0 7))), (6, fmG (KEdNew (R0 6))), (60, fmG (KPNew (R0 60))), (61, fmG (KTake (R0 61))), (5, awG)]
theorem sOk {ι : Type} {f : FuncId} {p : ι → Prop} {a : ι → List Value} {A : ι → List SB} (hf : (FF Try.prog f).isSome = true) : SumOk Try.prog f (fmG (KI p a A (R0 f))) := fm_sum hf (KI_ok follows named_ (tabOf_ok entries_ok) (sums := []) trivial 60 f p a A)
theorem awOk {f : FuncId} {g : SmK} (hf : (FF Try.prog f).isSome = true) (hg : ∀ a h v h', g a h = some (.val v h') → runK (tabF (tabOf Try.prog 1000000 entries) []) 60 f a h = some (.val v h')) : SumOk Try.prog f g := ⟨Option.isSome_iff_exists.1 hf, fun a a' v h h' B ρ w hr hl Rl => runF_ok follows named_ (tabOf_ok entries_ok) (sums := []) trivial 60 f a a' v h h' B ρ w (hg _ _ _ _ hr) hl Rl⟩
theorem awSum : SumOk Try.prog 5 awG := awOk (by kernel_rfl) fun _ _ _ _ h => by unfold awG at h; exact h
theorem sumsT_ok : SumsOk Try.prog sumsT := by
 refine ⟨sOk (by kernel_rfl), sOk (by kernel_rfl), sOk (by kernel_rfl), sOk (by kernel_rfl), ?_, trivial⟩
 dsimp only
 exact awSum
noncomputable def RT (d : Nat) : RnK := runK (tabF (tabOf Try.prog 1000000 entries) sumsT) d
theorem hit {f : FuncId} {g : SmK} (hb : Nat.beq f 1000000000 = false) (hg : (mkTabS sumsT).getK f = some g) (d : Nat) {a : List Value} {h : Hs} {o : Out} (e : g a h = some o) : RT (d + 1) f a h = some o := by
 show ifB (Nat.beq f 1000000000) none (Option.rec (motive := fun _ => An) (tabOf Try.prog 1000000 entries (RT d) f a h) (fun g => Option.rec (motive := fun _ => An) (tabOf Try.prog 1000000 entries (RT d) f a h) (fun o => some o) (g a h)) ((mkTabS sumsT).getK f)) = some o
 rw [hb, hg]
 show Option.rec (motive := fun _ => An) _ (fun o => some o) (g a h) = some o
 rw [e]
theorem at87 (d : Nat) (args : List Value) (h : Hs) : RT (d + 1) 87 args h = r87 (RT d) 1000000 args h := by kernel_rfl
theorem at75 (d : Nat) (args : List Value) (h : Hs) : RT (d + 1) 75 args h = r75 (RT d) 1000000 args h := by kernel_rfl
theorem at59 (d : Nat) (args : List Value) (h : Hs) : RT (d + 1) 59 args h = r59 (RT d) 1000000 args h := by kernel_rfl
theorem at51 (d : Nat) (args : List Value) (h : Hs) : RT (d + 1) 51 args h = r51 (RT d) 1000000 args h := by kernel_rfl
theorem at52 (d : Nat) (args : List Value) (h : Hs) : RT (d + 1) 52 args h = r52 (RT d) 1000000 args h := by kernel_rfl
theorem at71 (d : Nat) (args : List Value) (h : Hs) : RT (d + 1) 71 args h = r71 (RT d) 1000000 args h := by kernel_rfl
theorem at42 (d : Nat) (args : List Value) (h : Hs) : RT (d + 1) 42 args h = r42 (RT d) 1000000 args h := by kernel_rfl
theorem at47 (d : Nat) (args : List Value) (h : Hs) : RT (d + 1) 47 args h = r47 (RT d) 1000000 args h := by kernel_rfl
theorem at22 (d : Nat) (args : List Value) (h : Hs) : RT (d + 1) 22 args h = r22 (RT d) 1000000 args h := by kernel_rfl
theorem at44 (d : Nat) (args : List Value) (h : Hs) : RT (d + 1) 44 args h = r44 (RT d) 1000000 args h := by kernel_rfl
theorem at50 (d : Nat) (args : List Value) (h : Hs) : RT (d + 1) 50 args h = r50 (RT d) 1000000 args h := by kernel_rfl
theorem at64 (d : Nat) (args : List Value) (h : Hs) : RT (d + 1) 64 args h = r64 (RT d) 1000000 args h := by kernel_rfl
theorem at19 (d : Nat) (args : List Value) (h : Hs) : RT (d + 1) 19 args h = r19 (RT d) 1000000 args h := by kernel_rfl
theorem at63 (d : Nat) (args : List Value) (h : Hs) : RT (d + 1) 63 args h = r63 (RT d) 1000000 args h := by kernel_rfl
theorem at32 (d : Nat) (args : List Value) (h : Hs) : RT (d + 1) 32 args h = r32 (RT d) 1000000 args h := by kernel_rfl
theorem at49 (d : Nat) (args : List Value) (h : Hs) : RT (d + 1) 49 args h = r49 (RT d) 1000000 args h := by kernel_rfl
theorem at54 (d : Nat) (args : List Value) (h : Hs) : RT (d + 1) 54 args h = r54 (RT d) 1000000 args h := by kernel_rfl
theorem at53 (d : Nat) (args : List Value) (h : Hs) : RT (d + 1) 53 args h = r53 (RT d) 1000000 args h := by kernel_rfl
theorem at74 (d : Nat) (args : List Value) (h : Hs) : RT (d + 1) 74 args h = r74 (RT d) 1000000 args h := by kernel_rfl
theorem at86 (d : Nat) (args : List Value) (h : Hs) : RT (d + 1) 86 args h = r86 (RT d) 1000000 args h := by kernel_rfl
theorem at73 (d : Nat) (args : List Value) (h : Hs) : RT (d + 1) 73 args h = r73 (RT d) 1000000 args h := by kernel_rfl
theorem at58 (d : Nat) (args : List Value) (h : Hs) : RT (d + 1) 58 args h = r58 (RT d) 1000000 args h := by kernel_rfl
theorem at26 (d : Nat) (args : List Value) (h : Hs) : RT (d + 1) 26 args h = r26 (RT d) 1000000 args h := by kernel_rfl
theorem at33 (d : Nat) (args : List Value) (h : Hs) : RT (d + 1) 33 args h = r33 (RT d) 1000000 args h := by kernel_rfl
theorem at72 (d : Nat) (args : List Value) (h : Hs) : RT (d + 1) 72 args h = r72 (RT d) 1000000 args h := by kernel_rfl
theorem at17 (d : Nat) (args : List Value) (h : Hs) : RT (d + 1) 17 args h = r17 (RT d) 1000000 args h := by kernel_rfl
theorem at57 (d : Nat) (args : List Value) (h : Hs) : RT (d + 1) 57 args h = r57 (RT d) 1000000 args h := by kernel_rfl
theorem at55 (d : Nat) (args : List Value) (h : Hs) : RT (d + 1) 55 args h = r55 (RT d) 1000000 args h := by kernel_rfl
theorem at56 (d : Nat) (args : List Value) (h : Hs) : RT (d + 1) 56 args h = r56 (RT d) 1000000 args h := by kernel_rfl
theorem at23 (d : Nat) (args : List Value) (h : Hs) : RT (d + 1) 23 args h = r23 (RT d) 1000000 args h := by kernel_rfl
theorem at34 (d : Nat) (args : List Value) (h : Hs) : RT (d + 1) 34 args h = r34 (RT d) 1000000 args h := by kernel_rfl
theorem at31 (d : Nat) (args : List Value) (h : Hs) : RT (d + 1) 31 args h = r31 (RT d) 1000000 args h := by kernel_rfl
theorem at12 (d : Nat) (args : List Value) (h : Hs) : RT (d + 1) 12 args h = r12 (RT d) 1000000 args h := by kernel_rfl
theorem at25 (d : Nat) (args : List Value) (h : Hs) : RT (d + 1) 25 args h = r25 (RT d) 1000000 args h := by kernel_rfl
theorem at24 (d : Nat) (args : List Value) (h : Hs) : RT (d + 1) 24 args h = r24 (RT d) 1000000 args h := by kernel_rfl
theorem at8 (d : Nat) (args : List Value) (h : Hs) : RT (d + 1) 8 args h = r8 (RT d) 1000000 args h := by kernel_rfl
theorem at10 (d : Nat) (args : List Value) (h : Hs) : RT (d + 1) 10 args h = r10 (RT d) 1000000 args h := by kernel_rfl
theorem at27 (d : Nat) (args : List Value) (h : Hs) : RT (d + 1) 27 args h = r27 (RT d) 1000000 args h := by kernel_rfl
theorem at9 (d : Nat) (args : List Value) (h : Hs) : RT (d + 1) 9 args h = r9 (RT d) 1000000 args h := by kernel_rfl
theorem at28 (d : Nat) (args : List Value) (h : Hs) : RT (d + 1) 28 args h = r28 (RT d) 1000000 args h := by kernel_rfl
theorem at11 (d : Nat) (args : List Value) (h : Hs) : RT (d + 1) 11 args h = r11 (RT d) 1000000 args h := by kernel_rfl
theorem at62 (d : Nat) (args : List Value) (h : Hs) : RT (d + 1) 62 args h = r62 (RT d) 1000000 args h := by kernel_rfl
theorem at29 (d : Nat) (args : List Value) (h : Hs) : RT (d + 1) 29 args h = r29 (RT d) 1000000 args h := by kernel_rfl
theorem at30 (d : Nat) (args : List Value) (h : Hs) : RT (d + 1) 30 args h = r30 (RT d) 1000000 args h := by kernel_rfl
theorem at3 (d : Nat) (args : List Value) (h : Hs) : RT (d + 1) 3 args h = r3 (RT d) 1000000 args h := by kernel_rfl
theorem fms (d : Nat) : EdF (RT (d + 1)) R0 where
 made := fun _ _ _ e => hit rfl rfl d e
 ednew := fun _ _ _ e => hit rfl rfl d e
 pnew := fun _ _ _ e => hit rfl rfl d e
 take := fun _ _ _ e => hit rfl rfl d e
theorem cRot (d : Nat) : CRot (RT (d + 1)) := fun x h hx => by rw [at87]; exact rotate_ok hx
theorem cSealOn (d : Nat) : CSealOn (RT (d + 2)) := fun s l v h a b c r => by rw [at75]; exact sealOn_ok (cRot d) a b r (by omega) (by omega)
theorem cSealOf (d : Nat) : CSealOf (RT (d + 3)) := fun l v h a b r => by rw [at59]; exact sealOf_ok (cSealOn d) a b r
theorem cIn (d : Nat) : CIn (RT (d + 1)) := fun a b c h => by rw [at51]; exact in_ok
theorem cBits (d : Nat) : CBits (RT (d + 1)) := fun g h x => by rw [at52]; exact bits_ok x
theorem cData (d : Nat) : CData (RT (d + 2)) := fun g h x => by rw [at71]; exact data_ok (cBits d) x
theorem cGood (d : Nat) : CGood (RT (d + 3)) := fun g h => by rw [at42]; exact good_ok (cIn (d + 1)) (cData d)
theorem cDataF (d : Nat) : CDataF (RT (d + 4)) := fun g h x => by rw [at47]; exact dataF_ok (cGood d) (cData (d + 1)) x
theorem cNode (d : Nat) : CNode (RT (d + 4)) := fun g i h x hi => by rw [at22]; exact node_ok (cGood d) (cIn (d + 2)) (cBits (d + 2)) x hi
theorem cLost (d : Nat) : CLost (RT (d + 5)) := fun g h x => by rw [at44]; exact lost_ok (cGood (d + 1)) (cNode d) x
theorem cBitsF (d : Nat) : CBitsF (RT (d + 4)) := fun g h x => by rw [at50]; exact bitsF_ok (cGood d) (cBits (d + 2)) x
theorem cEqW (d : Nat) : CEqW (RT (d + 1)) := fun a b v w h ha r1 r2 => by rw [at64]; exact eqW_ok (by omega) ha r1 r2
theorem cCloneW (d : Nat) : CCloneW (RT (d + 1)) := fun l v h hb r => by rw [at19]; exact cloneW_ok hb r
theorem cThere (d : Nat) : CThere (RT (d + 1)) := fun v l i h hb hi r => by rw [at63]; exact there_ok hb hi r
theorem cBitsSet (d : Nat) : CBitsSet (RT (d + 2)) := fun l yes is v w h hl hb hi hm r1 r2 => by rw [at49]; exact bitsSet_ok (cCloneW d) (cThere d) (by omega) hl hb hi hm r1 r2
theorem cHas (d : Nat) : CHas (RT (d + 2)) := fun B i v h sm hb hi r => by rw [at32]; exact has_ok (cThere d) sm hb hi r
theorem cNin (d : Nat) : CNin (RT (d + 1)) := fun a b c h => by rw [at54]; exact nin_ok
theorem cFree (d : Nat) : CFree (RT (d + 1)) := fun n a c h _ => by rw [at53]; exact free_ok
theorem cFits1 (d : Nat) : CFits1 (RT (d + 2)) := fun r h => by rw [at74]; exact fits1_ok (cNin d)
theorem cIdxR (d : Nat) : CIdxR (RT (d + 1)) (RT d) := fun g p l v h hl hp r => by rw [at86]; exact idxR_ok (by omega) hl hp r
theorem cContR (d : Nat) : CContR (RT (d + 2)) (RT d) := fun g p l v h hl hp r => by rw [at73]; exact containsR_ok (cIdxR d) hl hp r
theorem cFitsN (d : Nat) : CFitsN (RT (d + 5)) := fun n a c h hl r => by rw [at58]; exact fitsN_ok (cNin (d + 3)) (cFree (d + 3)) (cContR (d + 2)) (cFits1 d) hl r
theorem cNodePut (d : Nat) : CNodePut (RT (d + 6)) := fun n a c h hl r => by rw [at26]; exact ⟨fun x => nodePut_ok (cFitsN d) (cSealOf (d + 2)) (by omega) hl r x, fun x => nodePut_no (cFitsN d) hl r x⟩
theorem cNodeGet (d : Nat) : CNodeGet (RT (d + 7)) := fun l v h hl hb r => by rw [at33]; exact nodeGet_ok (cNodePut d) (cEqW (d + 5)) (by omega) hl hb r
theorem cEqR (d : Nat) : CEqR (RT (d + 1)) := fun a b v w h ha r1 r2 => by rw [at72]; exact eqR_ok (by omega) ha r1 r2
theorem cBlocks (d : Nat) : CBlocks (RT (d + 1)) := fun n a c h dm r => by rw [at17]; exact blocks_ok (by omega) dm r
theorem cNeeds (d : Nat) : CNeeds (RT (d + 1)) := fun n a c h dm => by rw [at57]; exact needs_ok dm
theorem cSized (d : Nat) : CSized (RT (d + 2)) := fun g n a c h dm => by rw [at55]; exact sized_ok (cNin d) dm
theorem cPlaced (d : Nat) : CPlaced (RT (d + 6)) := fun g n a c h x dm r => by rw [at56]; exact placed_ok (cLost d) (cEqR (d + 4)) (cDataF (d + 1)) (by omega) x dm r
theorem cNodeGood (d : Nat) : CNodeGood (RT (d + 7)) := fun g n a c h x dm r => by rw [at23]; exact nodeGood_ok (cGood (d + 3)) (cNin (d + 5)) (cFree (d + 5)) (cSized (d + 4)) (cPlaced d) (cBlocks (d + 5)) (cNeeds (d + 5)) (by omega) x dm r
theorem cBlock (d : Nat) : CBlock (RT (d + 2)) := fun g l s i h hb r hi => by rw [at34]; exact block_ok (cCloneW d) hb r hi
theorem cImgBits (d : Nat) : CImgBits (RT (d + 5)) := fun g l s h x hl r => by rw [at31]; exact imgBits_ok (cBitsF d) (cBlock (d + 2)) (by omega) x hl r
theorem cImgNode (d : Nat) : CImgNode (RT (d + 8)) := fun g l s i h x hl sm r hi => by rw [at12]; exact ⟨fun n hn => imgNode_ok (cNode (d + 3)) (cBlock (d + 5)) (cNodeGet d) (cNodeGood d) x hl sm r hi hn, fun hn => imgNode_no (cNode (d + 3)) (cBlock (d + 5)) (cNodeGet d) (cNodeGood d) x hl sm r hi hn⟩
theorem cEdPut (d : Nat) : CEdPut (RT (d + 1)) := fun h g p b c s0 W a ws v E ha hw r => by rw [at25]; exact edPut_ok E ha hw r
theorem cMark (d : Nat) : CMark (RT (d + 6)) := fun h g p b c s0 W yes rs v E hr hm r => by rw [at24]; exact mark_ok (cImgBits d) (cBitsSet (d + 3)) (cBitsF (d + 1)) (cEdPut (d + 4)) (by omega) E hr hm r
theorem cSetNode (d : Nat) : CSetNode (RT (d + 9)) := fun h g p b c s0 W i n a c' E dm r hi => by rw [at8]; exact ⟨fun old i1 i2 dg ho => setNode_ok (cNode (d + 4)) (cNodeGood (d + 1)) (cImgNode d) (cMark (d + 2)) (cNodePut (d + 2)) (cEdPut (d + 7)) E dm r i1 i2 dg ho, fun no => setNode_no (cNode (d + 4)) (cNodeGood (d + 1)) E dm r hi no⟩
theorem cClear (d : Nat) : CClear (RT (d + 10)) := fun h g p b c s0 W i old E i1 i2 ho => by rw [at10]; exact clear_ok (cSetNode d) E i1 i2 ho
theorem cMay (d : Nat) : CMay (RT (d + 1)) := fun n h => by rw [at27]; exact may_ok
theorem cCounts (d : Nat) : CCounts (RT (d + 1)) := fun l v h hc hb r => by rw [at62]; exact counts_ok (by omega) hc hb r
theorem cTotal (d : Nat) : CTotal (RT (d + 2)) := fun l v h hc hb r => by rw [at29]; exact total_ok (cCounts d) (by omega) hc hb r
theorem cAt (d : Nat) : CAt (RT (d + 2)) := fun l i v h hc hb hi r => by rw [at30]; exact at_ok (cCounts d) (by omega) hc hb hi r
theorem cFill (d : Nat) : CFill (RT (d + 10)) (RT (d + 9)) := fun h g p b c s0 W n x D v l E hd ty hD r tk gd => by rw [at9]; exact fill_ok (cImgNode (d + 1)) (cMay (d + 8)) (cSetNode d) (cTotal (d + 7)) (cAt (d + 7)) (cEdPut (d + 8)) (by omega) E hd ty hD r tk gd
theorem cTake0 (d : Nat) : CTake0 (RT (d + 6)) := fun h p b c k s0 W v hk E hB r => by
 rw [at28]
 exact etake_ok (cImgBits d) (cBitsSet (d + 3)) (by omega) E (by decide) (fun r hr => by cases hr) (by rw [hB]; exact poolOk_B0 rns (fms (d + 4)) hk) r
theorem cWrites (d : Nat) : CWrites (RT (d + 6)) := fun h g p b c s0 W W0 E r0 l0 sm0 be => by rw [at11]; exact writes_ok (cImgBits d) (cHas (d + 3)) (by omega) E r0 l0 sm0 be
theorem awake0 : awG [] ⟨.e, 0, 0⟩ = some (.val (.bool true) ⟨.e, 0, 0⟩) := by kernel_rfl
theorem awake1 (b : Blk) : awG [] ⟨Tr.set .e 0 (some b), 1, 1⟩ = some (.val (.bool true) ⟨Tr.set .e 0 (some b), 1, 1⟩) := by kernel_rfl
def Start (h : Hs) : Prop := h = ⟨.e, 0, 0⟩ ∨ ∃ b, h = ⟨Tr.set .e 0 (some b), 1, 1⟩
theorem awAt : (mkTabS sumsT).getK 5 = some awG := by kernel_rfl
theorem awk (d : Nat) {h : Hs} (s : Start h) : RT (d + 1) 5 [] ⟨h.hp, h.nx, h.nx⟩ = some (.val (.bool true) ⟨h.hp, h.nx, h.nx⟩) := by
 rcases s with rfl | ⟨b, rfl⟩
 ·exact hit (g := awG) rfl awAt d awake0
 ·exact hit (g := awG) rfl awAt d (awake1 b)
theorem ran {v1 : Value} {X : List UInt8} {n : Int} {h : Hs} (s : Start h) (r1 : Rd h v1 1 (ones (byteVs X))) (i1 : ∀ i, vId v1 = some i → i < h.nx) :
 RT 51 3 [v1, .int .i64 n] h = some (.val (.bool true) h) := by
 rw [at3]
 by_cases ok : OkC X.length n
 ·obtain ⟨k1, k2, k3⟩ := ok
  obtain ⟨n, rfl⟩ := Int.eq_ofNat_of_zero_le (show 0 ≤ n by omega)
  exact clears_ok (N := 1000000) (by omega) rns (fms 49) (cSetNode 41) (cFill 40) (cTake0 43) (cClear 40) (cWrites 44) (cImgNode 42) r1 (awk 49 s) i1 (by omega) (by omega) k1
 ·exact clearsNo_ok r1 (awk 49 s) ok
theorem called (w : World) (v1 : Value) (n : Int) (hv1 : IsBytes w v1) : Calls Try.prog 3 #[v1, .int .i64 n] w fun e w' => e = .returned (.bool true) ∧ Below w.heap.size w w' := by
 have RA : HR w.heap.size (fun _ => none) ⟨.e, 0, 0⟩ w := ⟨Nat.le_refl _, fun _ _ => rfl, (fun id b hb => by rw [Tr.get_e] at hb; cases hb), (fun id id' b b' H H' hb => by rw [Tr.get_e] at hb; cases hb)⟩
 obtain ⟨x1, h1, ρ1, X1, e1, le1, r1, R1, f1, rd1, id1, g1, n1⟩ := arg_bytes RA (fun id b hb => by rw [Tr.get_e] at hb; cases hb) hv1
 have s : Start h1 := by
  rcases e1 with rfl | ⟨b, rfl⟩
  ·exact .inl rfl
  ·exact .inr ⟨b, rfl⟩
 have hl : VL ρ1 [x1, .int .i64 n] (#[v1, .int .i64 n] : Array Value).toList := .cons r1 (.cons (.int _ _) .nil)
 refine (runF_ok follows named_ (tabOf_ok entries_ok) sumsT_ok 51 3 _ #[v1, .int .i64 n] _ h1 _ w.heap.size ρ1 w (ran s rd1 id1) hl R1).mono fun e w' hq => ?_
 obtain ⟨v', ρ', q1, q2, q3⟩ := hq
 exact ⟨by rw [q1, q2.bool_inv], q3.below⟩
end Go.Proofs.Ytmolikcajfphlaa.editClears
