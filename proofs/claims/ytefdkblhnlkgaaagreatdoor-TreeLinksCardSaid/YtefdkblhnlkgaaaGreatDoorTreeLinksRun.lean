/- The run of 'TreeLinks' at whatever input. -/
import Derived.Test.YtefdkblhnlkgaaaGreatDoorTlC
import Derived.Test.YtefdkblhnlkgaaaGreatDoorGevAr3
import Derived.Test.YtefdkblhnlkgaaaGreatDoorBaseNames
namespace Go.Proofs.YtefdkblhnlkgaaaGreatDoor.treeLinks
open Go Go.Gev Go.RowKit Go.Proofs.YtefdkblhnlkgaaaGreatDoor.base
set_option linter.unusedVariables false
/-- small runs -/
noncomputable def R0 (f : FuncId) : List Value → Hs → An := runK (tabF (tabOf Tryz.prog 1000000 entries) sumsN) 60 f
noncomputable def awG : List Value → Hs → An := runK (tabF (tabOf Tryz.prog 1000000 entries) sumsN) 60 5
theorem kDo : allN (fun k => chkRun (R0 7) (aDo k) (mDo k) (qDo k)) 44 = true := by kernel_rfl
theorem kWy : allN (fun k => chkRun (R0 31) (aWy k) (mWy k) (qWy k)) 80 = true := by kernel_rfl
theorem kSm : allN (fun k => chkRun (R0 8) (aSm k) (mSm k) qSm) 8 = true := by kernel_rfl
theorem rns : RnsL R0 where
  new := by kernel_rfl
  dos := fun k hk => allN_ok kDo k hk
  way := fun k hk => allN_ok kWy k hk
  same := fun k hk => allN_ok kSm k hk
  sepN := by kernel_rfl
  sepD := by kernel_rfl
  sepW := by kernel_rfl
  sepS := by kernel_rfl
noncomputable def sumsT : List (Nat × SmK) := [(6, fmG (KNewT (R0 6))), (7, fmG (KDo (R0 7))), (31, fmG (KWy (R0 31))), (8, fmG (KSm (R0 8))), (5, awG)]
theorem sOk {ι : Type} {f : FuncId} {p : ι → Prop} {a : ι → List Value} {A : ι → List SB} (hf : (FF Tryz.prog f).isSome = true) : SumOk Tryz.prog f (fmG (KI p a A (R0 f))) := fm_sum hf (KI_ok follows named (tabOf_ok entries_ok) (sums := sumsN) sumsN_ok 60 f p a A)
theorem awOk {f : FuncId} {g : SmK} (hf : (FF Tryz.prog f).isSome = true) (hg : ∀ a h v h', g a h = some (.val v h') → runK (tabF (tabOf Tryz.prog 1000000 entries) sumsN) 60 f a h = some (.val v h')) : SumOk Tryz.prog f g := ⟨Option.isSome_iff_exists.1 hf, fun a a' v h h' B ρ w hr hl Rl => runF_ok follows named (tabOf_ok entries_ok) sumsN_ok 60 f a a' v h h' B ρ w (hg _ _ _ _ hr) hl Rl⟩
theorem awSum : SumOk Tryz.prog 5 awG := awOk (by kernel_rfl) fun _ _ _ _ h => by unfold awG at h; exact h
theorem sumsT_ok : SumsOk Tryz.prog sumsT := by
  refine ⟨sOk (by kernel_rfl), sOk (by kernel_rfl), sOk (by kernel_rfl), sOk (by kernel_rfl), ?_, trivial⟩
  dsimp only
  exact awSum
/-- runs of a depth -/
noncomputable def RT (d : Nat) : RnK := runK (tabF (tabOf Tryz.prog 1000000 entries) sumsT) d
theorem hit {f : FuncId} {g : SmK} (hb : Nat.beq f 1000000000 = false) (hg : (mkTabS sumsT).getK f = some g) (d : Nat) {a : List Value} {h : Hs} {o : Out} (e : g a h = some o) : RT (d + 1) f a h = some o := by
  show ifB (Nat.beq f 1000000000) none (Option.rec (motive := fun _ => An) (tabOf Tryz.prog 1000000 entries (RT d) f a h) (fun g => Option.rec (motive := fun _ => An) (tabOf Tryz.prog 1000000 entries (RT d) f a h) (fun o => some o) (g a h)) ((mkTabS sumsT).getK f)) = some o
  rw [hb, hg]
  show Option.rec (motive := fun _ => An) _ (fun o => some o) (g a h) = some o
  rw [e]
theorem miss {f : FuncId} {g : SmK} (hb : Nat.beq f 1000000000 = false) (hg : (mkTabS sumsT).getK f = some g) (d : Nat) {a : List Value} {h : Hs} (e : g a h = none) : RT (d + 1) f a h = tabOf Tryz.prog 1000000 entries (RT d) f a h := by
  show ifB (Nat.beq f 1000000000) none (Option.rec (motive := fun _ => An) (tabOf Tryz.prog 1000000 entries (RT d) f a h) (fun g => Option.rec (motive := fun _ => An) (tabOf Tryz.prog 1000000 entries (RT d) f a h) (fun o => some o) (g a h)) ((mkTabS sumsT).getK f)) = _
  rw [hb, hg]
  show Option.rec (motive := fun _ => An) _ (fun o => some o) (g a h) = _
  rw [e]
theorem at4 (d : Nat) (args : List Value) (h : Hs) : RT (d + 1) 4 args h = r4 (RT d) 1000000 args h := by kernel_rfl
theorem at12 (d : Nat) (args : List Value) (h : Hs) : RT (d + 1) 12 args h = r12 (RT d) 1000000 args h := by kernel_rfl
theorem at42 (d : Nat) (args : List Value) (h : Hs) : RT (d + 1) 42 args h = r42 (RT d) 1000000 args h := by kernel_rfl
theorem at41 (d : Nat) (args : List Value) (h : Hs) : RT (d + 1) 41 args h = r41 (RT d) 1000000 args h := by kernel_rfl
theorem at19 (d : Nat) (args : List Value) (h : Hs) : RT (d + 1) 19 args h = r19 (RT d) 1000000 args h := by kernel_rfl
theorem at18 (d : Nat) (args : List Value) (h : Hs) : RT (d + 1) 18 args h = r18 (RT d) 1000000 args h := by kernel_rfl
theorem at40 (d : Nat) (args : List Value) (h : Hs) : RT (d + 1) 40 args h = r40 (RT d) 1000000 args h := by kernel_rfl
theorem at13 (d : Nat) (args : List Value) (h : Hs) : RT (d + 1) 13 args h = r13 (RT d) 1000000 args h := by kernel_rfl
theorem fms (d : Nat) : FmsL (RT (d + 1)) R0 where
  new := fun _ _ _ e => hit rfl rfl d e
  dos := fun _ _ _ e => hit rfl rfl d e
  way := fun _ _ _ e => hit rfl rfl d e
  same := fun _ _ _ e => hit rfl rfl d e
theorem cFit (d : Nat) : CFit (RT (d + 1)) := fun b n k dv mm up l D h a1 a2 a3 a4 a5 => by rw [at42]; exact fit_ok a1 a2 a3 a4 a5
theorem cWrite (d : Nat) : CWrite (RT (d + 2)) := fun p b a n A dv mm up l xv D X h x hx hxd h0 ha hD => by rw [at41]; exact write_ok (cFit d) x hx hxd h0 ha hD
theorem cWriteN (d : Nat) : CWriteN (RT (d + 1)) := fun p b a n xc xa A dv mm up l D h x => by rw [at41]; exact writeN_ok x
theorem cFileW (d : Nat) : CFileW (RT (d + 3)) (RT (d + 2)) := fun p b a n A dv mm up l xv D X h x hx hxd h0 ha hD wy => by rw [at19]; exact fileW_ok (cWrite d) x hx hxd h0 ha hD wy
theorem cFileN (d : Nat) : CFileN (RT (d + 3)) (RT (d + 2)) := fun p b a n xc xa A dv mm up l D h x wy => by rw [at19]; exact fileN_ok (cWriteN (d + 1)) x wy
theorem cBC (d : Nat) : CBClone (RT (d + 1)) := fun v D h hl r => by rw [at13]; exact bclone_ok hl r
theorem cFileR (d : Nat) : CFileR (RT (d + 3)) (RT (d + 2)) := fun p b a n A dv mm up l D h x hD wy => by rw [at19]; exact fileR_ok (cBC (d + 1)) x hD wy
theorem cSize (d : Nat) : CISize (RT (d + 1)) := fun b D dv mm up l h it bl hd => by rw [at40]; exact isize_ok it bl hd
theorem cLook (d : Nat) : CLookS (RT (d + 3)) (RT (d + 2)) := fun p b n A dv mm up D h x wy => by rw [at18]; exact lookS_ok (cSize (d + 1)) x wy
theorem op_ne {N : Nat} {s : Nat → Nat} {wk : Bool} {k j a n : Nat} {A B C xv : Value} (g : VW N s wk (op2 j A B) (opV k C a n xv)) : k = j := by
  unfold op2 opV at g
  generalize e : Value.agg #[.int .i64 (.ofNat k), C, .string ⟨#[]⟩, .int .i64 (.ofNat a), .int .i64 (.ofNat n), xv] = x at g
  cases g with
  | agg xs ys hs hh =>
    injection e with e
    subst e
    have := hh 0 (by simp) (by simp)
    generalize e : (#[.int .i64 (.ofNat k), C, .string ⟨#[]⟩, .int .i64 (.ofNat a), .int .i64 (.ofNat n), xv] : Array Value)[0] = x at this
    have e : Value.int .i64 (.ofNat k) = x := e
    have this : VW N s wk (.int .i64 (.ofNat j)) x := this
    cases this
    injection e with _ e
    have e : (k : Int) = (j : Int) := e
    omega
theorem aDo_op (j : Nat) : ∃ c A B, aDo j = [p0, op2 c A B] ∧ c < 5 := by
  unfold aDo
  cases Nat.ble 8 j with
  | true => exact ⟨4, _, _, rfl, by decide⟩
  | false => cases j with
    | zero => exact ⟨2, _, _, rfl, by decide⟩
    | succ j => exact ⟨3, _, _, rfl, by decide⟩
theorem do_none {f : List Value → Hs → An} {v xv A : Value} {k a n : Nat} {h : Hs} (hk : 5 ≤ k) : fmG (KDo f) [v, opV k A a n xv] h = none := by
  cases e : fmG (KDo f) [v, opV k A a n xv] h with
  | none => rfl
  | some o =>
    exfalso
    have : ∃ v h', o = .val v h' := by
      unfold fmG at e
      split at e
      · injection e with e; exact ⟨_, _, e.symm⟩
      · cases e
    obtain ⟨v, h', rfl⟩ := this
    obtain ⟨s2, args2, h02, h02', v02, ⟨j, hj, q1, q2, q3⟩, E2, w2, u2, F2⟩ := fmG_inv e
    subst q1
    obtain ⟨c, B, C, e1, hc⟩ := aDo_op j
    rw [e1] at w2
    cases w2 with
    | cons _ t => cases t with
      | cons h2 _ => have := op_ne h2; omega
theorem tabDo (R : RnK) (a : List Value) (h : Hs) : tabOf Tryz.prog 1000000 entries R 7 a h = r7 R 1000000 a h := by kernel_rfl
theorem atDo (d : Nat) {v xv A : Value} {k a n : Nat} {h : Hs} (hk : 5 ≤ k) : RT (d + 1) 7 [v, opV k A a n xv] h = r7 (RT d) 1000000 [v, opV k A a n xv] h := by
  rw [miss rfl rfl d (do_none (f := R0 7) hk), tabDo]
theorem dos (d : Nat) : Dos (RT (d + 4)) (RT (d + 2)) where
  w := fun p b a n A dv mm up l xv D X h x hx hxd h0 ha hD wy => by rw [atDo (d + 3) (by decide)]; exact doW_ok (cFileW d) x hx hxd h0 ha hD wy
  n := fun p b a n xc xa A dv mm up l D h x wy => by rw [atDo (d + 3) (by decide)]; exact doN_ok (cFileN d) x wy
  r := fun p b a n A dv mm up l D h x hD wy => by rw [atDo (d + 3) (by decide)]; exact doR_ok (cFileR d) x hD wy
  s := fun p b n A dv mm up D h x wy => by rw [atDo (d + 3) (by decide)]; exact doS_ok (cLook d) x wy
theorem cFail (d : Nat) : CFail (RT (d + 1)) := fun e h => by rw [at12]; exact fail_ok
theorem cLookG (d : Nat) : CLookG (RT (d + 3)) (RT (d + 2)) := fun p A h wy => by rw [at18]; exact lookG_ok (cFail (d + 1)) wy
theorem cDoG (d : Nat) : CDoG (RT (d + 4)) (RT (d + 2)) := fun p A h wy => by rw [atDo (d + 3) (by decide)]; exact doG_ok (cLookG d) wy
theorem awake0 : awG [] ⟨.e, 0, 0⟩ = some (.val (.bool true) ⟨.e, 0, 0⟩) := by kernel_rfl
theorem awake1 (b : Blk) : awG [] ⟨Tr.set .e 0 (some b), 1, 1⟩ = some (.val (.bool true) ⟨Tr.set .e 0 (some b), 1, 1⟩) := by kernel_rfl
/-- the memory that the evaluator begins with -/
def Start (h : Hs) : Prop := h = ⟨.e, 0, 0⟩ ∨ ∃ b, h = ⟨Tr.set .e 0 (some b), 1, 1⟩
theorem awAt : (mkTabS sumsT).getK 5 = some awG := by kernel_rfl
theorem awk (d : Nat) {h : Hs} (s : Start h) : RT (d + 1) 5 [] ⟨h.hp, h.nx, h.nx⟩ = some (.val (.bool true) ⟨h.hp, h.nx, h.nx⟩) := by
  rcases s with rfl | ⟨b, rfl⟩
  · exact hit (g := awG) rfl awAt d awake0
  · exact hit (g := awG) rfl awAt d (awake1 b)
theorem ran {v1 : Value} {X : List UInt8} {n e : Int} {h : Hs} (s : Start h) (r1 : Rd h v1 1 (ones (byteVs X))) (i1 : ∀ i, vId v1 = some i → i < h.nx) :
    RT 51 4 [.int .i64 n, v1, .int .i64 e] h = some (.val (.bool true) h) := by
  rw [at4]
  by_cases ok : OkL n X.length e
  · obtain ⟨k1, k2, k3, k4, k5⟩ := ok
    obtain ⟨n, rfl⟩ := Int.eq_ofNat_of_zero_le (show 0 ≤ n by omega)
    obtain ⟨e, rfl⟩ := Int.eq_ofNat_of_zero_le k4
    exact links_ok (N := 1000000) (by omega) rns (fms 49) (fms 47) (dos 46) (cDoG 46) r1 (awk 49 s) i1 (by omega) (by omega) k3 (by omega)
  · exact linksNo_ok r1 (awk 49 s) ok
theorem called (w : World) (n : Int) (v1 : Value) (e : Int) (hv1 : IsBytes w v1) : Calls Tryz.prog 4 #[.int .i64 n, v1, .int .i64 e] w fun e w' => e = .returned (.bool true) ∧ Below w.heap.size w w' := by
  have RA : HR w.heap.size (fun _ => none) ⟨.e, 0, 0⟩ w := ⟨Nat.le_refl _, fun _ _ => rfl, (fun id b hb => by rw [Tr.get_e] at hb; cases hb), (fun id id' b b' H H' hb => by rw [Tr.get_e] at hb; cases hb)⟩
  obtain ⟨x1, h1, ρ1, X1, e1, le1, r1, R1, f1, rd1, id1, g1, n1⟩ := arg_bytes RA (fun id b hb => by rw [Tr.get_e] at hb; cases hb) hv1
  have s : Start h1 := by
    rcases e1 with rfl | ⟨b, rfl⟩
    · exact .inl rfl
    · exact .inr ⟨b, rfl⟩
  have hl : VL ρ1 [.int .i64 n, x1, .int .i64 e] (#[.int .i64 n, v1, .int .i64 e] : Array Value).toList := .cons (.int _ _) (.cons r1 (.cons (.int _ _) .nil))
  refine (runF_ok follows named (tabOf_ok entries_ok) sumsT_ok 51 4 _ #[.int .i64 n, v1, .int .i64 e] _ h1 _ w.heap.size ρ1 w (ran s rd1 id1) hl R1).mono fun e w' hq => ?_
  obtain ⟨v', ρ', q1, q2, q3⟩ := hq
  exact ⟨by rw [q1, q2.bool_inv], q3.below⟩
end Go.Proofs.YtefdkblhnlkgaaaGreatDoor.treeLinks
