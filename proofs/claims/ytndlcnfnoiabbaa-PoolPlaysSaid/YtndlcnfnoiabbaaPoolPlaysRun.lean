/- The run of 'PoolPlays' at whatever input. -/
import Derived.Test.YtndlcnfnoiabbaaPtD
import Derived.Test.YtndlcnfnoiabbaaGevAr7
namespace Go.Proofs.Ytndlcnfnoiabbaa.poolPlays
open Go Go.Gev Go.RowKit
set_option linter.unusedVariables false
theorem follows : Try.prog.follows .mixedOrders = true := by kernel_rfl
theorem names : (Try.prog.funcs.toList.all fun fn => !fn.body.isSome || !(fn.name == "runtime.NumGoroutine")) = true := by decide +kernel
theorem named_ : Named Try.prog := fun f fn hf hb => by
 have hm : fn ∈ Try.prog.funcs.toList := by
  obtain ⟨h1, h2⟩ := Array.getElem?_eq_some_iff.1 hf
  rw [← h2]; simp
 have h := List.all_eq_true.1 names fn hm
 rw [hb] at h
 simpa using h
noncomputable def R0 (f : FuncId) : List Value → Hs → An := runK (tabF (tabOf Try.prog 1000000 entries) []) 60 f
def KAw (R0 : List Value → Hs → An) : Runs0 := KI (fun _ : Unit => True) (fun _ => []) (fun _ => []) R0
def qAw (v : Value) (_ : Hs) : Bool := match v with
 | .bool b => b
 | _ => false
theorem kAw : chkRun (R0 4) [] [] qAw = true := by kernel_rfl
noncomputable def sumsT : List (Nat × SmK) := [(4, fmG (KAw (R0 4)))]
theorem sumsT_ok : SumsOk Try.prog sumsT := ⟨fm_sum (by kernel_rfl) (KI_ok follows named_ (tabOf_ok entries_ok) (sums := []) trivial 60 4 _ _ _), trivial⟩
noncomputable def RT (d : Nat) : RnK := runK (tabF (tabOf Try.prog 1000000 entries) sumsT) d
theorem hit {f : FuncId} {g : SmK} (hb : Nat.beq f 1000000000 = false) (hg : (mkTabS sumsT).getK f = some g) (d : Nat) {a : List Value} {h : Hs} {o : Out} (e : g a h = some o) : RT (d + 1) f a h = some o := by
 show ifB (Nat.beq f 1000000000) none (Option.rec (motive := fun _ => An) (tabOf Try.prog 1000000 entries (RT d) f a h) (fun g => Option.rec (motive := fun _ => An) (tabOf Try.prog 1000000 entries (RT d) f a h) (fun o => some o) (g a h)) ((mkTabS sumsT).getK f)) = some o
 rw [hb, hg]
 show Option.rec (motive := fun _ => An) _ (fun o => some o) (g a h) = some o
 rw [e]
theorem atAw : (mkTabS sumsT).getK 4 = some (fmG (KAw (R0 4))) := by kernel_rfl
theorem emb_nil (s : Nat → Nat) (h : Hs) : Emb s (smallH []) h := ⟨fun i b g => by have := smallH_lt g; simp at this, fun i hi => by have hi : i < 0 := hi; omega, fun i i' b b' g => by have := smallH_lt g; simp at this⟩
theorem awk (d : Nat) (h : Hs) : WP (RT (d + 1) 4 [] h) fun v u => v = .bool true ∧ Gev.Same h u := by
 obtain ⟨v0, h0', r, hq⟩ := chkRun_ok kAw
 refine (w_fm (fun o ho => hit rfl atAw d ho) () trivial (emb_nil id h) .nil rfl (fun j s2 hj E2 w2 => ⟨rfl, rfl⟩) r).mono fun v u ⟨g1, g2⟩ => ?_
 cases v0 with
 | bool b =>
  have hb : b = true := hq
  subst hb
  cases g1
  exact ⟨rfl, g2.same (Nat.zero_le _)⟩
 | _ => cases hq
theorem at3 (d : Nat) (args : List Value) (h : Hs) : RT (d + 1) 3 args h = r3 (RT d) 1000000 args h := by kernel_rfl
theorem at23 (d : Nat) (args : List Value) (h : Hs) : RT (d + 1) 23 args h = r23 (RT d) 1000000 args h := by kernel_rfl
theorem at41 (d : Nat) (args : List Value) (h : Hs) : RT (d + 1) 41 args h = r41 (RT d) 1000000 args h := by kernel_rfl
theorem at24 (d : Nat) (args : List Value) (h : Hs) : RT (d + 1) 24 args h = r24 (RT d) 1000000 args h := by kernel_rfl
theorem at5 (d : Nat) (args : List Value) (h : Hs) : RT (d + 1) 5 args h = r5 (RT d) 1000000 args h := by kernel_rfl
theorem at8 (d : Nat) (args : List Value) (h : Hs) : RT (d + 1) 8 args h = r8 (RT d) 1000000 args h := by kernel_rfl
theorem at38 (d : Nat) (args : List Value) (h : Hs) : RT (d + 1) 38 args h = r38 (RT d) 1000000 args h := by kernel_rfl
theorem at25 (d : Nat) (args : List Value) (h : Hs) : RT (d + 1) 25 args h = r25 (RT d) 1000000 args h := by kernel_rfl
theorem at37 (d : Nat) (args : List Value) (h : Hs) : RT (d + 1) 37 args h = r37 (RT d) 1000000 args h := by kernel_rfl
theorem at16 (d : Nat) (args : List Value) (h : Hs) : RT (d + 1) 16 args h = r16 (RT d) 1000000 args h := by kernel_rfl
theorem at17 (d : Nat) (args : List Value) (h : Hs) : RT (d + 1) 17 args h = r17 (RT d) 1000000 args h := by kernel_rfl
theorem at40 (d : Nat) (args : List Value) (h : Hs) : RT (d + 1) 40 args h = r40 (RT d) 1000000 args h := by kernel_rfl
theorem at21 (d : Nat) (args : List Value) (h : Hs) : RT (d + 1) 21 args h = r21 (RT d) 1000000 args h := by kernel_rfl
theorem at7 (d : Nat) (args : List Value) (h : Hs) : RT (d + 1) 7 args h = r7 (RT d) 1000000 args h := by kernel_rfl
theorem at6 (d : Nat) (args : List Value) (h : Hs) : RT (d + 1) 6 args h = r6 (RT d) 1000000 args h := by kernel_rfl
theorem at26 (d : Nat) (args : List Value) (h : Hs) : RT (d + 1) 26 args h = r26 (RT d) 1000000 args h := by kernel_rfl
theorem at27 (d : Nat) (args : List Value) (h : Hs) : RT (d + 1) 27 args h = r27 (RT d) 1000000 args h := by kernel_rfl
theorem at19 (d : Nat) (args : List Value) (h : Hs) : RT (d + 1) 19 args h = r19 (RT d) 1000000 args h := by kernel_rfl
theorem at20 (d : Nat) (args : List Value) (h : Hs) : RT (d + 1) 20 args h = r20 (RT d) 1000000 args h := by kernel_rfl
theorem at34 (d : Nat) (args : List Value) (h : Hs) : RT (d + 1) 34 args h = r34 (RT d) 1000000 args h := by kernel_rfl
theorem at9 (d : Nat) (args : List Value) (h : Hs) : RT (d + 1) 9 args h = r9 (RT d) 1000000 args h := by kernel_rfl
theorem at28 (d : Nat) (args : List Value) (h : Hs) : RT (d + 1) 28 args h = r28 (RT d) 1000000 args h := by kernel_rfl
theorem at30 (d : Nat) (args : List Value) (h : Hs) : RT (d + 1) 30 args h = r30 (RT d) 1000000 args h := by kernel_rfl
theorem at18 (d : Nat) (args : List Value) (h : Hs) : RT (d + 1) 18 args h = r18 (RT d) 1000000 args h := by kernel_rfl
theorem at32 (d : Nat) (args : List Value) (h : Hs) : RT (d + 1) 32 args h = r32 (RT d) 1000000 args h := by kernel_rfl
theorem at43 (d : Nat) (args : List Value) (h : Hs) : RT (d + 1) 43 args h = r43 (RT d) 1000000 args h := by kernel_rfl
theorem at31 (d : Nat) (args : List Value) (h : Hs) : RT (d + 1) 31 args h = r31 (RT d) 1000000 args h := by kernel_rfl
theorem at44 (d : Nat) (args : List Value) (h : Hs) : RT (d + 1) 44 args h = r44 (RT d) 1000000 args h := by kernel_rfl
theorem at33 (d : Nat) (args : List Value) (h : Hs) : RT (d + 1) 33 args h = r33 (RT d) 1000000 args h := by kernel_rfl
theorem at39 (d : Nat) (args : List Value) (h : Hs) : RT (d + 1) 39 args h = r39 (RT d) 1000000 args h := by kernel_rfl
theorem at46 (d : Nat) (args : List Value) (h : Hs) : RT (d + 1) 46 args h = r46 (RT d) 1000000 args h := by kernel_rfl
theorem at50 (d : Nat) (args : List Value) (h : Hs) : RT (d + 1) 50 args h = r50 (RT d) 1000000 args h := by kernel_rfl
theorem at60 (d : Nat) (args : List Value) (h : Hs) : RT (d + 1) 60 args h = r60 (RT d) 1000000 args h := by kernel_rfl
theorem at47 (d : Nat) (args : List Value) (h : Hs) : RT (d + 1) 47 args h = r47 (RT d) 1000000 args h := by kernel_rfl
theorem at42 (d : Nat) (args : List Value) (h : Hs) : RT (d + 1) 42 args h = r42 (RT d) 1000000 args h := by kernel_rfl
theorem at29 (d : Nat) (args : List Value) (h : Hs) : RT (d + 1) 29 args h = r29 (RT d) 1000000 args h := by kernel_rfl
theorem at49 (d : Nat) (args : List Value) (h : Hs) : RT (d + 1) 49 args h = r49 (RT d) 1000000 args h := by kernel_rfl
theorem at45 (d : Nat) (args : List Value) (h : Hs) : RT (d + 1) 45 args h = r45 (RT d) 1000000 args h := by kernel_rfl
theorem at10 (d : Nat) (args : List Value) (h : Hs) : RT (d + 1) 10 args h = r10 (RT d) 1000000 args h := by kernel_rfl
theorem at12 (d : Nat) (args : List Value) (h : Hs) : RT (d + 1) 12 args h = r12 (RT d) 1000000 args h := by kernel_rfl
theorem at13 (d : Nat) (args : List Value) (h : Hs) : RT (d + 1) 13 args h = r13 (RT d) 1000000 args h := by kernel_rfl
theorem at36 (d : Nat) (args : List Value) (h : Hs) : RT (d + 1) 36 args h = r36 (RT d) 1000000 args h := by kernel_rfl
theorem at35 (d : Nat) (args : List Value) (h : Hs) : RT (d + 1) 35 args h = r35 (RT d) 1000000 args h := by kernel_rfl
theorem at11 (d : Nat) (args : List Value) (h : Hs) : RT (d + 1) 11 args h = r11 (RT d) 1000000 args h := by kernel_rfl
theorem at14 (d : Nat) (args : List Value) (h : Hs) : RT (d + 1) 14 args h = r14 (RT d) 1000000 args h := by kernel_rfl
theorem at15 (d : Nat) (args : List Value) (h : Hs) : RT (d + 1) 15 args h = r15 (RT d) 1000000 args h := by kernel_rfl
theorem n6 : (100000 : Nat) < 1000000 := by omega
theorem n7 : (1000000 : Nat) ≤ 1000000 := Nat.le_refl _
theorem cIn (d : Nat) : CIn (RT (d + 1)) := fun a b c h => by rw [at23]; exact in_ok
theorem cBits (d : Nat) : CBits (RT (d + 1)) := fun g h x => by rw [at41]; exact bits_ok x
theorem cData (d : Nat) : CData (RT (d + 2)) := fun g h x => by rw [at24]; exact data_ok (cBits d) x
theorem cGood (d : Nat) : CGood (RT (d + 3)) := fun g h => by rw [at5]; exact good_ok (cIn (d + 1)) (cData d)
theorem cGoodNeg (d : Nat) : CGoodNeg (RT (d + 2)) := fun b n c k h x => by rw [at5]; exact goodNeg_ok (cIn d) x
theorem cDataF (d : Nat) : CDataF (RT (d + 4)) := fun g h x => by rw [at8]; exact dataF_ok (cGood d) (cData (d + 1)) x
theorem cCloneW (d : Nat) : CCloneW (RT (d + 1)) := fun l v h hb r => by rw [at38]; exact cloneW_ok hb r
theorem cThere (d : Nat) : CThere (RT (d + 1)) := fun v l i h hb hi r => by rw [at37]; exact there_ok hb hi r
theorem cBitsNew (d : Nat) : CBitsNew (RT (d + 1)) := fun n h hn => by rw [at25]; exact bitsNew_ok hn
theorem cHas (d : Nat) : CHas (RT (d + 2)) := fun B i v h sm hb hi r => by rw [at16]; exact has_ok (cThere d) sm hb hi r
theorem cBitsSet (d : Nat) : CBitsSet (RT (d + 2)) := fun l yes is v w h hl hb hi hm r1 r2 => by rw [at17]; exact bitsSet_ok (cCloneW d) (cThere d) n6 hl hb hi hm r1 r2
theorem cNext (d : Nat) : CNext (RT (d + 3)) := fun B yes a e v h sm hb he r => by rw [at40]; exact next_ok (cThere (d + 1)) (cHas d) n7 sm hb he r
theorem cCount (d : Nat) : CCount (RT (d + 3)) := fun B v h sm hb r => by rw [at21]; exact count_ok (cHas d) n7 sm hb r
theorem cEmpty (d : Nat) : CEmpty (RT (d + 5)) := fun g h x => by rw [at7]; exact empty_ok (cDataF d) (cBitsNew (d + 3)) (cBitsSet (d + 2)) n7 x
theorem cRows (d : Nat) : CRows (RT (d + 5)) := fun g p v W h A => by rw [at27]; exact rows_ok (cDataF d) (cNext (d + 1)) n7 A
theorem cCountsI (d : Nat) : CCountsI (RT (d + 1)) := fun l v h hb r => by rw [at44]; exact countsI_ok n6 hb r
theorem cTotal (d : Nat) : CTotal (RT (d + 2)) := fun l v h hc hb r => by rw [at33]; exact total_ok (counts_of (cCountsI d)) n6 hc hb r
theorem cFreeP (d : Nat) : CFreeP (RT (d + 6)) := fun g p v W h A => by rw [at19]; exact free_okP (cRows d) (cTotal (d + 3)) A
theorem cBitsP (d : Nat) : CBitsP (RT (d + 3)) := fun g p v W h A => by rw [at20]; exact bits_okP (cBitsSet d) A
theorem cGroup (d : Nat) : CGroup (RT (d + 5)) := fun g p v W c h A => by rw [at26]; exact group_ok (cDataF d) A
theorem cNewP (d : Nat) : CNewP (RT (d + 4)) := fun g v W h x xb ln sm r => by rw [at6]; exact new_okP (cGood d) (cBitsSet (d + 1)) x xb ln sm r
theorem cMark (d : Nat) : CMarkP (RT (d + 3)) := fun g p v W yes l s h A hl hr r hne => by rw [at34]; exact mark_okP (cBitsSet d) n7 A hl hr r hne
theorem cMark0 (d : Nat) : CMark0 (RT (d + 1)) := fun g p yes s h hs => by rw [at34]; exact mark0_ok n7 hs
theorem cIns (d : Nat) : CIns (RT (d + 1)) (RT d) := fun l b c f caps k h hl hc hb ho cm => by rw [at47]; exact ins_ok n7 hl hc hb ho cm
theorem cInsN (d : Nat) : CInsN (RT (d + 1)) := fun fn h => by rw [at47]; exact insN_ok n7
theorem cStab (d : Nat) : CStab (RT (d + 2)) (RT d) := fun l b c f caps k h hl hc hb ho cm => by rw [at42]; exact stab_ok (cIns d) n7 hl hc hb ho cm
theorem cStabN (d : Nat) : CStabN (RT (d + 2)) := fun fn h => by rw [at42]; exact stabN_ok (cInsN d) n7
theorem cSortS (d : Nat) : CSortS (RT (d + 3)) (RT d) := fun l b c f caps k h hl hc hb ho cm => by rw [at29]; exact sortS_ok (cStab d) hl hc hb ho cm
theorem cSortSN (d : Nat) : CSortSN (RT (d + 3)) := fun fn h => by rw [at29]; exact sortSN_ok (cStabN d)
theorem cLen64 (d : Nat) : CLen64 (RT (d + 1)) := fun n h h2 => by rw [at60]; exact len64_ok h2
theorem cLen (d : Nat) : CLen (RT (d + 2)) := fun n h h2 => by rw [at50]; exact len_ok (cLen64 d) h2
theorem cPdq (d : Nat) : CPdq (RT (d + 2)) (RT d) := fun l b c n f caps k h hl hc hb ho cm => by rw [at49]; exact pdq_ok (cIns d) n7 hl hc hb ho cm
theorem cPdqN (d : Nat) : CPdqN (RT (d + 2)) := fun n fn h => by rw [at49]; exact pdqN_ok (cInsN d) n7
theorem cSortF (d : Nat) : CSortF (RT (d + 3)) (RT d) := fun l b c f caps k h hl hc hb ho cm => by rw [at45]; exact sortF_ok (cLen d) (cPdq d) hl hc hb ho cm
theorem cSortFN (d : Nat) : CSortFN (RT (d + 3)) := fun fn h => by rw [at45]; exact sortFN_ok (cLen d) (cPdqN d)
theorem cAp1 (d : Nat) : CAp1 (RT (d + 1)) := fun r q h hr hq => by rw [at46]; exact ap1_ok hr hq
theorem cApart (d : Nat) : CApart (RT (d + 5)) := fun l v h hl r => by rw [at39]; exact apart_ok (cCountsI (d + 3)) (cSortF (d + 1)) (cSortFN (d + 1)) (cAp1 d) n7 hl r
theorem cNaN (d : Nat) : CNaN (RT (d + 1)) := fun a h => by rw [at43]; exact nan_ok
theorem cCompare (d : Nat) : CCompare (RT (d + 2)) := fun a b h => by rw [at31]; exact compare_ok (cNaN d)
theorem cNear (d : Nat) : CNear (RT (d + 1)) := fun r f o a b fa fb h hf ho ha hb Ha Hb => by rw [at28]; exact near_ok hf ho ha hb Ha Hb
theorem cCmpT (d : Nat) : CCmpT (RT (d + 3)) (RT d) := fun r q f o n a b c e fa fb fc fd h hf ho ha hb hc hd Ha Hb Hc Hd => by rw [at30]; exact cmpT_ok (cNear (d + 1)) (cCompare d) hf ho ha hb hc hd Ha Hb Hc Hd
theorem cEnough (d : Nat) : CEnough (RT (d + 1)) := fun l n v h hl hn hr r => by rw [at32]; exact enough_ok n7 hl hn hr r
theorem cTake (d : Nat) : CTake (RT (d + 7)) := fun g p v W c n mo h A hrl hc hn hmo => by rw [at9]; exact take_ok (cGroup (d + 1)) (cRows (d + 1)) (cSortS (d + 3)) (cSortSN (d + 3)) (cCmpT d) (cEnough (d + 5)) (cTotal (d + 4)) (cMark (d + 3)) (cMark0 (d + 5)) A hrl hc hn hmo
theorem cTakeNo (d : Nat) : CTakeNo (RT (d + 7)) := fun g p v W c n mo h A hb => by rw [at9]; exact takeNo_ok (cGroup (d + 1)) A hb
theorem cGive (d : Nat) : CGive (RT (d + 6)) := fun g p v W l s h A hl hb r hne => by rw [at18]; exact give_ok (cDataF (d + 1)) (cApart d) (cNext (d + 2)) (cMark (d + 2)) n7 A hl hb r hne
theorem cLongest (d : Nat) : CLongest (RT (d + 3)) := fun B a e n most S v h sm hb ae he hn hm hS hp r => by rw [at10]; exact longest_ok (cHas d) n7 sm hb ae he hn hm hS hp r
theorem cOwn (d : Nat) : COwn (RT (d + 1)) := fun l v h hl r => by rw [at12]; exact own_ok n7 hl r
theorem cCountsR (d : Nat) : CCountsR (RT (d + 1)) := fun l v h hl r => by rw [at36]; exact countsR_ok n7 hl r
theorem cBlocks0 (d : Nat) : CBlocks0 (RT (d + 1)) := fun l v h hc hl r => by rw [at35]; exact blocks0_ok n7 hc hl r
theorem cTotalR (d : Nat) : CTotalR (RT (d + 2)) := fun l v h hl r => by rw [at11]; exact totalR_ok (cCountsR d) (cBlocks0 d) hl r
theorem cMergeR (d : Nat) : CMergeR (RT (d + 2)) := fun l v h hc hl nt r => by rw [at14]; exact mergeR_ok (cCountsR d) n7 hc hl nt r
theorem cApartR (d : Nat) : CApartR (RT (d + 1)) := fun l v h hc hl dd r => by rw [at15]; exact apartR_ok n7 hc hl dd r
theorem cAlike (d : Nat) : CAlike (RT (d + 1)) := fun l v w h hl r r2 => by rw [at13]; exact alike_ok n7 hl r r2
theorem acts_at {h : Hs} {v : Value} {M : List (ActV × List (Int × Int))} (r : Rd h v 5 (M.map fun e => atC e.1)) (q : ∀ e ∈ M, Rd h e.1.d 2 (e.2.map rnC) ∧ (∀ r ∈ e.2, Gev.In64 r.1 ∧ Gev.In64 r.2) ∧ (∃ a c, e.1.d = .slice a e.2.length c) ∧ Gev.In64 e.1.c ∧ Gev.In64 e.1.n ∧ Gev.In64 e.1.mo) : ActsAt h v (M.map fun e => (⟨e.1.op, e.1.c, e.1.n, e.1.mo, e.1.d, e.2⟩ : ActW)) := by
 refine ⟨by rw [List.map_map]; exact r, fun e he => ?_⟩
 obtain ⟨x, hx, rfl⟩ := List.mem_map.1 he
 obtain ⟨a, b, c, d1, d2, d3⟩ := q x hx
 exact ⟨c, a, d1, d2, d3, b⟩
theorem ran {b n c k : Int} {v1 : Value} {M : List (ActV × List (Int × Int))} {h : Hs} (r : Rd h v1 5 (M.map fun e => atC e.1)) (q : ∀ e ∈ M, Rd h e.1.d 2 (e.2.map rnC) ∧ (∀ r ∈ e.2, Gev.In64 r.1 ∧ Gev.In64 r.2) ∧ (∃ a c, e.1.d = .slice a e.2.length c) ∧ Gev.In64 e.1.c ∧ Gev.In64 e.1.n ∧ Gev.In64 e.1.mo) :
 WP (RT 51 3 [gI b n c k, v1] h) (yesQ h) := by
 rw [at3]
 rcases bad_or b n c k with x | ⟨g, e, _, x⟩
 ·exact plays_bad (cGood 47) (cGoodNeg 48) x (awk 49)
 ·rw [e]
  exact plays_ok (cGood 47) (cDataF 46) (cEmpty 45) (cNewP 46) (cTakeNo 43) (cTake 43) (cGive 44) (cLongest 47) (cHas 48) (cBitsSet 48) (cFreeP 44) (cBitsP 47) (cCount 47) (cOwn 49) (cTotalR 48) (cMergeR 48) (cAlike 49) (cApartR 49) n7 (acts_at r q) (awk 49)
theorem called (w : World) (b n c k : Int) (v1 : Value) (hv1 : IsActs w v1) : Calls Try.prog 3 #[gI b n c k, v1] w fun e w' => e = .returned (.bool true) ∧ Below w.heap.size w w' := by
 have RA : HR w.heap.size (fun _ => none) ⟨.e, 0, 0⟩ w := ⟨Nat.le_refl _, fun _ _ => rfl, (fun id b hb => by rw [Tr.get_e] at hb; cases hb), (fun id id' b b' H H' hb => by rw [Tr.get_e] at hb; cases hb)⟩
 obtain ⟨x1, h1, ρ1, M1, le1, r1, R1, f1, rd1, q1, g1, n1⟩ := arg_acts RA (fun id b hb => by rw [Tr.get_e] at hb; cases hb) hv1
 have hg : VR ρ1 (gI b n c k) (gI b n c k) := VR.agg_of (.cons (.int _ _) (.cons (.int _ _) (.cons (.int _ _) (.cons (.int _ _) .nil))))
 have hl : VL ρ1 [gI b n c k, x1] (#[gI b n c k, v1] : Array Value).toList := .cons hg (.cons r1 .nil)
 obtain ⟨v, h', e, rfl, rfl⟩ := ran (b := b) (n := n) (c := c) (k := k) rd1 q1
 refine (runF_ok follows named_ (tabOf_ok entries_ok) sumsT_ok 51 3 _ #[gI b n c k, v1] _ h' _ w.heap.size ρ1 w e hl R1).mono fun e w' hq => ?_
 obtain ⟨v', ρ', q1, q2, q3⟩ := hq
 exact ⟨by rw [q1, q2.bool_inv], q3.below⟩
end Go.Proofs.Ytndlcnfnoiabbaa.poolPlays
