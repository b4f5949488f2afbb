/- The run of 'EditSlots' at whatever input. -/
import Derived.Test.YtmolikcajfphlaaEsE
import Derived.Test.YtmolikcajfphlaaGevAr4
namespace Go.Proofs.Ytmolikcajfphlaa.editSlots
open Go Go.Gev Go.RowKit
set_option linter.unusedVariables false
theorem follows : Try.prog.follows .mixedOrders = true := by kernel_rfl
theorem names : (Try.prog.funcs.toList.all fun fn => !fn.body.isSome || !(fn.name == "runtime.NumGoroutine")) = true := by decide +kernel
theorem named_ : Named Try.prog := fun f fn hf hb => by
 have hm : fn ∈ Try.prog.funcs.toList := by
  obtain ⟨h1, h2⟩ := Array.getElem?_eq_some_iff.1 hf
  rw [← h2]; simp
 have h := List.all_eq_true.1 names fn hm
 rw [hb] at h
 simpa using h
noncomputable def R0 (f : FuncId) : List Value → Hs → An := runK (tabF (tabOf Try.prog 1000000 entries) []) 60 f
noncomputable def awG : List Value → Hs → An := runK (tabF (tabOf Try.prog 1000000 entries) []) 60 5
theorem kTake : allN (fun k => chkRun (R0 61) (aTake (Nat.succ k)) (pT B0) (qTake (Nat.succ k))) 20 = true := by kernel_rfl
theorem rns : EdR R0 where
 made := by kernel_rfl
 ednew := by kernel_rfl
 pnew := by kernel_rfl
 take0 := by kernel_rfl
 take := fun k hk => allN_ok kTake k hk
theorem kGrow : allN (fun n => chkRun (R0 13) (aGrow n) eT (qGrow n)) 13 = true := by kernel_rfl
theorem rnsS : SlR R0 := ⟨fun n hn => allN_ok kGrow n hn⟩
theorem rnsC : CkR R0 := ⟨by kernel_rfl, by kernel_rfl, by kernel_rfl⟩
noncomputable def sumsT : List (Nat × SmK) := [(13, fmG (KGrow (R0 13))), (85, fmG (KCk (R0 85))), (7, fmG (KMade (R0 7))), (6, fmG (KEdNew (R0 6))), (60, fmG (KPNew (R0 60))), (61, fmG (KTake (R0 61))), (5, awG)]
theorem sOk {ι : Type} {f : FuncId} {p : ι → Prop} {a : ι → List Value} {A : ι → List SB} (hf : (FF Try.prog f).isSome = true) : SumOk Try.prog f (fmG (KI p a A (R0 f))) := fm_sum hf (KI_ok follows named_ (tabOf_ok entries_ok) (sums := []) trivial 60 f p a A)
theorem awOk {f : FuncId} {g : SmK} (hf : (FF Try.prog f).isSome = true) (hg : ∀ a h v h', g a h = some (.val v h') → runK (tabF (tabOf Try.prog 1000000 entries) []) 60 f a h = some (.val v h')) : SumOk Try.prog f g := ⟨Option.isSome_iff_exists.1 hf, fun a a' v h h' B ρ w hr hl Rl => runF_ok follows named_ (tabOf_ok entries_ok) (sums := []) trivial 60 f a a' v h h' B ρ w (hg _ _ _ _ hr) hl Rl⟩
theorem awSum : SumOk Try.prog 5 awG := awOk (by kernel_rfl) fun _ _ _ _ h => by unfold awG at h; exact h
theorem sumsT_ok : SumsOk Try.prog sumsT := by
 refine ⟨sOk (by kernel_rfl), sOk (by kernel_rfl), sOk (by kernel_rfl), sOk (by kernel_rfl), sOk (by kernel_rfl), sOk (by kernel_rfl), ?_, trivial⟩
 dsimp only
 exact awSum
noncomputable def RT (d : Nat) : RnK := runK (tabF (tabOf Try.prog 1000000 entries) sumsT) d
theorem hit {f : FuncId} {g : SmK} (hb : Nat.beq f 1000000000 = false) (hg : (mkTabS sumsT).getK f = some g) (d : Nat) {a : List Value} {h : Hs} {o : Out} (e : g a h = some o) : RT (d + 1) f a h = some o := by
 show ifB (Nat.beq f 1000000000) none (Option.rec (motive := fun _ => An) (tabOf Try.prog 1000000 entries (RT d) f a h) (fun g => Option.rec (motive := fun _ => An) (tabOf Try.prog 1000000 entries (RT d) f a h) (fun o => some o) (g a h)) ((mkTabS sumsT).getK f)) = some o
 rw [hb, hg]
 show Option.rec (motive := fun _ => An) _ (fun o => some o) (g a h) = some o
 rw [e]
theorem at87 (d : Nat) (args : List Value) (h : Hs) : RT (d + 1) 87 args h = r87 (RT d) 1000000 args h := by kernel_rfl
theorem at75 (d : Nat) (args : List Value) (h : Hs) : RT (d + 1) 75 args h = r75 (RT d) 1000000 args h := by kernel_rfl
theorem at59 (d : Nat) (args : List Value) (h : Hs) : RT (d + 1) 59 args h = r59 (RT d) 1000000 args h := by kernel_rfl
theorem at51 (d : Nat) (args : List Value) (h : Hs) : RT (d + 1) 51 args h = r51 (RT d) 1000000 args h := by kernel_rfl
theorem at52 (d : Nat) (args : List Value) (h : Hs) : RT (d + 1) 52 args h = r52 (RT d) 1000000 args h := by kernel_rfl
theorem at71 (d : Nat) (args : List Value) (h : Hs) : RT (d + 1) 71 args h = r71 (RT d) 1000000 args h := by kernel_rfl
theorem at42 (d : Nat) (args : List Value) (h : Hs) : RT (d + 1) 42 args h = r42 (RT d) 1000000 args h := by kernel_rfl
theorem at47 (d : Nat) (args : List Value) (h : Hs) : RT (d + 1) 47 args h = r47 (RT d) 1000000 args h := by kernel_rfl
theorem at22 (d : Nat) (args : List Value) (h : Hs) : RT (d + 1) 22 args h = r22 (RT d) 1000000 args h := by kernel_rfl
theorem at44 (d : Nat) (args : List Value) (h : Hs) : RT (d + 1) 44 args h = r44 (RT d) 1000000 args h := by kernel_rfl
theorem at64 (d : Nat) (args : List Value) (h : Hs) : RT (d + 1) 64 args h = r64 (RT d) 1000000 args h := by kernel_rfl
theorem at19 (d : Nat) (args : List Value) (h : Hs) : RT (d + 1) 19 args h = r19 (RT d) 1000000 args h := by kernel_rfl
theorem at54 (d : Nat) (args : List Value) (h : Hs) : RT (d + 1) 54 args h = r54 (RT d) 1000000 args h := by kernel_rfl
theorem at53 (d : Nat) (args : List Value) (h : Hs) : RT (d + 1) 53 args h = r53 (RT d) 1000000 args h := by kernel_rfl
theorem at74 (d : Nat) (args : List Value) (h : Hs) : RT (d + 1) 74 args h = r74 (RT d) 1000000 args h := by kernel_rfl
theorem at86 (d : Nat) (args : List Value) (h : Hs) : RT (d + 1) 86 args h = r86 (RT d) 1000000 args h := by kernel_rfl
theorem at73 (d : Nat) (args : List Value) (h : Hs) : RT (d + 1) 73 args h = r73 (RT d) 1000000 args h := by kernel_rfl
theorem at58 (d : Nat) (args : List Value) (h : Hs) : RT (d + 1) 58 args h = r58 (RT d) 1000000 args h := by kernel_rfl
theorem at26 (d : Nat) (args : List Value) (h : Hs) : RT (d + 1) 26 args h = r26 (RT d) 1000000 args h := by kernel_rfl
theorem at33 (d : Nat) (args : List Value) (h : Hs) : RT (d + 1) 33 args h = r33 (RT d) 1000000 args h := by kernel_rfl
theorem at72 (d : Nat) (args : List Value) (h : Hs) : RT (d + 1) 72 args h = r72 (RT d) 1000000 args h := by kernel_rfl
theorem at17 (d : Nat) (args : List Value) (h : Hs) : RT (d + 1) 17 args h = r17 (RT d) 1000000 args h := by kernel_rfl
theorem at57 (d : Nat) (args : List Value) (h : Hs) : RT (d + 1) 57 args h = r57 (RT d) 1000000 args h := by kernel_rfl
theorem at55 (d : Nat) (args : List Value) (h : Hs) : RT (d + 1) 55 args h = r55 (RT d) 1000000 args h := by kernel_rfl
theorem at56 (d : Nat) (args : List Value) (h : Hs) : RT (d + 1) 56 args h = r56 (RT d) 1000000 args h := by kernel_rfl
theorem at23 (d : Nat) (args : List Value) (h : Hs) : RT (d + 1) 23 args h = r23 (RT d) 1000000 args h := by kernel_rfl
theorem at34 (d : Nat) (args : List Value) (h : Hs) : RT (d + 1) 34 args h = r34 (RT d) 1000000 args h := by kernel_rfl
theorem at12 (d : Nat) (args : List Value) (h : Hs) : RT (d + 1) 12 args h = r12 (RT d) 1000000 args h := by kernel_rfl
theorem at25 (d : Nat) (args : List Value) (h : Hs) : RT (d + 1) 25 args h = r25 (RT d) 1000000 args h := by kernel_rfl
theorem at62 (d : Nat) (args : List Value) (h : Hs) : RT (d + 1) 62 args h = r62 (RT d) 1000000 args h := by kernel_rfl
theorem at30 (d : Nat) (args : List Value) (h : Hs) : RT (d + 1) 30 args h = r30 (RT d) 1000000 args h := by kernel_rfl
theorem at95 (d : Nat) (args : List Value) (h : Hs) : RT (d + 1) 95 args h = r95 (RT d) 1000000 args h := by kernel_rfl
theorem at91 (d : Nat) (args : List Value) (h : Hs) : RT (d + 1) 91 args h = r91 (RT d) 1000000 args h := by kernel_rfl
theorem at84 (d : Nat) (args : List Value) (h : Hs) : RT (d + 1) 84 args h = r84 (RT d) 1000000 args h := by kernel_rfl
theorem at67 (d : Nat) (args : List Value) (h : Hs) : RT (d + 1) 67 args h = r67 (RT d) 1000000 args h := by kernel_rfl
theorem at39 (d : Nat) (args : List Value) (h : Hs) : RT (d + 1) 39 args h = r39 (RT d) 1000000 args h := by kernel_rfl
theorem at15 (d : Nat) (args : List Value) (h : Hs) : RT (d + 1) 15 args h = r15 (RT d) 1000000 args h := by kernel_rfl
theorem at38 (d : Nat) (args : List Value) (h : Hs) : RT (d + 1) 38 args h = r38 (RT d) 1000000 args h := by kernel_rfl
theorem at68 (d : Nat) (args : List Value) (h : Hs) : RT (d + 1) 68 args h = r68 (RT d) 1000000 args h := by kernel_rfl
theorem at69 (d : Nat) (args : List Value) (h : Hs) : RT (d + 1) 69 args h = r69 (RT d) 1000000 args h := by kernel_rfl
theorem at40 (d : Nat) (args : List Value) (h : Hs) : RT (d + 1) 40 args h = r40 (RT d) 1000000 args h := by kernel_rfl
theorem at14 (d : Nat) (args : List Value) (h : Hs) : RT (d + 1) 14 args h = r14 (RT d) 1000000 args h := by kernel_rfl
theorem at16 (d : Nat) (args : List Value) (h : Hs) : RT (d + 1) 16 args h = r16 (RT d) 1000000 args h := by kernel_rfl
theorem at4 (d : Nat) (args : List Value) (h : Hs) : RT (d + 1) 4 args h = r4 (RT d) 1000000 args h := by kernel_rfl
theorem fms (d : Nat) : EdF (RT (d + 1)) R0 where
 made := fun _ _ _ e => hit rfl rfl d e
 ednew := fun _ _ _ e => hit rfl rfl d e
 pnew := fun _ _ _ e => hit rfl rfl d e
 take := fun _ _ _ e => hit rfl rfl d e
theorem cRot (d : Nat) : CRot (RT (d + 1)) := fun x h hx => by rw [at87]; exact rotate_ok hx
theorem cSealOn (d : Nat) : CSealOn (RT (d + 2)) := fun s l v h a b c r => by rw [at75]; exact sealOn_ok (cRot d) a b r (by omega) (by omega)
theorem cSealOf (d : Nat) : CSealOf (RT (d + 3)) := fun l v h a b r => by rw [at59]; exact sealOf_ok (cSealOn d) a b r
theorem cIn (d : Nat) : CIn (RT (d + 1)) := fun a b c h => by rw [at51]; exact in_ok
theorem cBits (d : Nat) : CBits (RT (d + 1)) := fun g h x => by rw [at52]; exact bits_ok x
theorem cData (d : Nat) : CData (RT (d + 2)) := fun g h x => by rw [at71]; exact data_ok (cBits d) x
theorem cGood (d : Nat) : CGood (RT (d + 3)) := fun g h => by rw [at42]; exact good_ok (cIn (d + 1)) (cData d)
theorem cDataF (d : Nat) : CDataF (RT (d + 4)) := fun g h x => by rw [at47]; exact dataF_ok (cGood d) (cData (d + 1)) x
theorem cNode (d : Nat) : CNode (RT (d + 4)) := fun g i h x hi => by rw [at22]; exact node_ok (cGood d) (cIn (d + 2)) (cBits (d + 2)) x hi
theorem cLost (d : Nat) : CLost (RT (d + 5)) := fun g h x => by rw [at44]; exact lost_ok (cGood (d + 1)) (cNode d) x
theorem cEqW (d : Nat) : CEqW (RT (d + 1)) := fun a b v w h ha r1 r2 => by rw [at64]; exact eqW_ok (by omega) ha r1 r2
theorem cCloneW (d : Nat) : CCloneW (RT (d + 1)) := fun l v h hb r => by rw [at19]; exact cloneW_ok hb r
theorem cNin (d : Nat) : CNin (RT (d + 1)) := fun a b c h => by rw [at54]; exact nin_ok
theorem cFree (d : Nat) : CFree (RT (d + 1)) := fun n a c h _ => by rw [at53]; exact free_ok
theorem cFits1 (d : Nat) : CFits1 (RT (d + 2)) := fun r h => by rw [at74]; exact fits1_ok (cNin d)
theorem cIdxR (d : Nat) : CIdxR (RT (d + 1)) (RT d) := fun g p l v h hl hp r => by rw [at86]; exact idxR_ok (by omega) hl hp r
theorem cContR (d : Nat) : CContR (RT (d + 2)) (RT d) := fun g p l v h hl hp r => by rw [at73]; exact containsR_ok (cIdxR d) hl hp r
theorem cFitsN (d : Nat) : CFitsN (RT (d + 5)) := fun n a c h hl r => by rw [at58]; exact fitsN_ok (cNin (d + 3)) (cFree (d + 3)) (cContR (d + 2)) (cFits1 d) hl r
theorem cNodePut (d : Nat) : CNodePut (RT (d + 6)) := fun n a c h hl r => by rw [at26]; exact ⟨fun x => nodePut_ok (cFitsN d) (cSealOf (d + 2)) (by omega) hl r x, fun x => nodePut_no (cFitsN d) hl r x⟩
theorem cNodeGet (d : Nat) : CNodeGet (RT (d + 7)) := fun l v h hl hb r => by rw [at33]; exact nodeGet_ok (cNodePut d) (cEqW (d + 5)) (by omega) hl hb r
theorem cEqR (d : Nat) : CEqR (RT (d + 1)) := fun a b v w h ha r1 r2 => by rw [at72]; exact eqR_ok (by omega) ha r1 r2
theorem cBlocks (d : Nat) : CBlocks (RT (d + 1)) := fun n a c h dm r => by rw [at17]; exact blocks_ok (by omega) dm r
theorem cNeeds (d : Nat) : CNeeds (RT (d + 1)) := fun n a c h dm => by rw [at57]; exact needs_ok dm
theorem cSized (d : Nat) : CSized (RT (d + 2)) := fun g n a c h dm => by rw [at55]; exact sized_ok (cNin d) dm
theorem cPlaced (d : Nat) : CPlaced (RT (d + 6)) := fun g n a c h x dm r => by rw [at56]; exact placed_ok (cLost d) (cEqR (d + 4)) (cDataF (d + 1)) (by omega) x dm r
theorem cNodeGood (d : Nat) : CNodeGood (RT (d + 7)) := fun g n a c h x dm r => by rw [at23]; exact nodeGood_ok (cGood (d + 3)) (cNin (d + 5)) (cFree (d + 5)) (cSized (d + 4)) (cPlaced d) (cBlocks (d + 5)) (cNeeds (d + 5)) (by omega) x dm r
theorem cBlock (d : Nat) : CBlock (RT (d + 2)) := fun g l s i h hb r hi => by rw [at34]; exact block_ok (cCloneW d) hb r hi
theorem cImgNode (d : Nat) : CImgNode (RT (d + 8)) := fun g l s i h x hl sm r hi => by rw [at12]; exact ⟨fun n hn => imgNode_ok (cNode (d + 3)) (cBlock (d + 5)) (cNodeGet d) (cNodeGood d) x hl sm r hi hn, fun hn => imgNode_no (cNode (d + 3)) (cBlock (d + 5)) (cNodeGet d) (cNodeGood d) x hl sm r hi hn⟩
theorem cEdPut (d : Nat) : CEdPut (RT (d + 1)) := fun h g p b c s0 W a ws v E ha hw r => by rw [at25]; exact edPut_ok E ha hw r
theorem cCounts (d : Nat) : CCounts (RT (d + 1)) := fun l v h hc hb r => by rw [at62]; exact counts_ok (by omega) hc hb r
theorem cAt (d : Nat) : CAt (RT (d + 2)) := fun l i v h hc hb hi r => by rw [at30]; exact at_ok (cCounts d) (by omega) hc hb hi r
theorem fmsS (d : Nat) : SlF (RT (d + 1)) R0 := ⟨fun _ _ _ e => hit rfl rfl d e⟩
theorem fmsC (d : Nat) : CkF (RT (d + 1)) R0 := fun _ _ _ e => hit rfl rfl d e
theorem cIdxB (d : Nat) : CIdxB (RT (d + 1)) := fun D c h => by rw [at95]; exact idxB_ok
theorem cIndex (d : Nat) : CIndex (RT (d + 2)) := fun D c h hD => by rw [at91]; exact index_ok (cIdxB d) hD
theorem cSIndex (d : Nat) : CSIndex (RT (d + 3)) := fun D c h hD => by rw [at84]; exact sindex_ok (cIndex d) hD
theorem cContains (d : Nat) : CContains (RT (d + 4)) := fun D c h hD => by rw [at67]; exact contains_ok (cSIndex d) hD
theorem cNamed (d : Nat) : CNamed (RT (d + 5)) := fun D h hD => by rw [at39]; exact named_ok (cContains d) hD
theorem cSlotGood (d : Nat) : CSlotGood (RT (d + 6)) := fun n D h hD => by rw [at15]; exact slotGood_ok (cNamed d) hD
theorem cSlotPut (d : Nat) : CSlotPut (RT (d + 7)) := fun n D h hD => by rw [at38]; exact ⟨fun m e g => by subst e; exact slotPut_ok (cSlotGood d) (cSealOf (d + 3)) (by omega) hD g, fun no => slotPut_no (cSlotGood d) hD no⟩
theorem cWB (d : Nat) : CWB (RT (d + 2)) := fun h p x s D c B hD => by rw [at68]; exact wb_ok rnsC (fmsC d) B hD
theorem cBStr (d : Nat) : CBStr (RT (d + 1)) := fun h p x s D B hD hs => by rw [at69]; exact bstr_ok B hD hs
theorem cSlotGet (d : Nat) : CSlotGet (RT (d + 8)) := fun l v h hl hb r => by rw [at40]; exact slotGet_ok (cWB (d + 5)) (cBStr (d + 6)) (cSlotPut d) (cEqW (d + 6)) (by omega) hl hb r
theorem cSetSlot (d : Nat) : CSetSlot (RT (d + 9)) := fun h g p b c s0 W dir dd i n D E hd ty dl hD => by rw [at14]; exact ⟨fun m at_ e hi gd ha hat => by subst e; exact setSlot_ok (cImgNode d) (cSlotGood (d + 2)) (cAt (d + 6)) (cSlotPut (d + 1)) (cEdPut (d + 7)) E hd ty dl hD hi gd ha hat, fun hi no => setSlot_no (cImgNode d) (cSlotGood (d + 2)) E hd ty hD hi no⟩
theorem cSlots (d : Nat) : CSlots (RT (d + 9)) := fun g l s i dd h x hl sm r hi hd ty sz hk => by rw [at16]; exact slots_ok (cImgNode d) (cAt (d + 6)) (cBlock (d + 6)) (cSlotGet d) (by omega) x hl sm r hi hd ty sz hk
theorem awake0 : awG [] ⟨.e, 0, 0⟩ = some (.val (.bool true) ⟨.e, 0, 0⟩) := by kernel_rfl
theorem awake1 (b : Blk) : awG [] ⟨Tr.set .e 0 (some b), 1, 1⟩ = some (.val (.bool true) ⟨Tr.set .e 0 (some b), 1, 1⟩) := by kernel_rfl
def Start (h : Hs) : Prop := h = ⟨.e, 0, 0⟩ ∨ ∃ b, h = ⟨Tr.set .e 0 (some b), 1, 1⟩
theorem awAt : (mkTabS sumsT).getK 5 = some awG := by kernel_rfl
theorem awk (d : Nat) {h : Hs} (s : Start h) : RT (d + 1) 5 [] ⟨h.hp, h.nx, h.nx⟩ = some (.val (.bool true) ⟨h.hp, h.nx, h.nx⟩) := by
 rcases s with rfl | ⟨b, rfl⟩
 ·exact hit (g := awG) rfl awAt d awake0
 ·exact hit (g := awG) rfl awAt d (awake1 b)
theorem ran {v1 : Value} {L : List (Int × List UInt8)} {n : Int} {h : Hs} (s : Start h) (r1 : Rd h v1 2 (slotLs L)) (hl : L.length ≤ maxLen) (hs : ∀ x ∈ L, x.2.length ≤ maxLen) :
 RT 51 4 [v1, .int .i64 n] h = some (.val (.bool true) h) := by
 have mL : maxLen = 9223372036854775807 := by decide
 rw [mL] at hl hs
 rw [at4]
 by_cases ok : OkS L.length n
 ·obtain ⟨k1, k2, k3⟩ := ok
  obtain ⟨n, rfl⟩ := Int.eq_ofNat_of_zero_le k2
  exact slots_law (N := 1000000) (by omega) rns (fms 49) rnsS (fmsS 49) (cSetSlot 41) (cSlotGood 44) (cSlots 41) (cImgNode 42) (cBlocks 49) r1 (awk 49 s) k1 (by omega) hs
 ·exact slotsNo_law r1 hl (awk 49 s) ok
theorem called (w : World) (v1 : Value) (n : Int) (hv1 : IsSlots w v1) : Calls Try.prog 4 #[v1, .int .i64 n] w fun e w' => e = .returned (.bool true) ∧ Below w.heap.size w w' := by
 have RA : HR w.heap.size (fun _ => none) ⟨.e, 0, 0⟩ w := ⟨Nat.le_refl _, fun _ _ => rfl, (fun id b hb => by rw [Tr.get_e] at hb; cases hb), (fun id id' b b' H H' hb => by rw [Tr.get_e] at hb; cases hb)⟩
 obtain ⟨x1, h1, ρ1, X1, e1, le1, r1, R1, f1, rd1, b1, b2, g1, n1⟩ := arg_slots RA (fun id b hb => by rw [Tr.get_e] at hb; cases hb) hv1
 have s : Start h1 := by
  rcases e1 with rfl | ⟨b, rfl⟩
  ·exact .inl rfl
  ·exact .inr ⟨b, rfl⟩
 have hl : VL ρ1 [x1, .int .i64 n] (#[v1, .int .i64 n] : Array Value).toList := .cons r1 (.cons (.int _ _) .nil)
 refine (runF_ok follows named_ (tabOf_ok entries_ok) sumsT_ok 51 4 _ #[v1, .int .i64 n] _ h1 _ w.heap.size ρ1 w (ran s rd1 b1 b2) hl R1).mono fun e w' hq => ?_
 obtain ⟨v', ρ', q1, q2, q3⟩ := hq
 exact ⟨by rw [q1, q2.bool_inv], q3.below⟩
end Go.Proofs.Ytmolikcajfphlaa.editSlots
