/- The run of 'PoolBack' at whatever input. -/
import Derived.Test.YtadlfpgipdjegaaPbA
namespace Go.Proofs.Ytadlfpgipdjegaa.poolBack
open Go Go.Gev Go.RowKit
set_option linter.unusedVariables false
theorem follows : Try.prog.follows .mixedOrders = true := by kernel_rfl
theorem names : (Try.prog.funcs.toList.all fun fn => !fn.body.isSome || !(fn.name == "runtime.NumGoroutine")) = true := by decide +kernel
theorem named : Named Try.prog := fun f fn hf hb => by
  have hm : fn ∈ Try.prog.funcs.toList := by
    obtain ⟨h1, h2⟩ := Array.getElem?_eq_some_iff.1 hf
    rw [← h2]; simp
  have h := List.all_eq_true.1 names fn hm
  rw [hb] at h
  simpa using h
/-- small runs -/
noncomputable def R0 (f : FuncId) : List Value → Hs → An := runK (tabF (tabOf Try.prog 1000000 entries) []) 60 f
noncomputable def awG : List Value → Hs → An := runK (tabOf Try.prog 1000000 entries) 60 4
noncomputable def allN (f : Nat → Bool) (n : Nat) : Bool := Nat.rec (motive := fun _ => Bool) true (fun k ih => andK ih (f k)) n
theorem allN_ok {f : Nat → Bool} : ∀ {n : Nat}, allN f n = true → ∀ k, k < n → f k = true := by
  intro n
  induction n with
  | zero => intro _ k hk; omega
  | succ n ih =>
    intro h k hk
    obtain ⟨h1, h2⟩ := andK_true h
    by_cases e : k = n
    · subst e; exact h2
    · exact ih h1 k (by omega)
theorem kFree : allN (fun k => chkRun (R0 8) (aFree k) (pT k) (qFree k)) 38 = true := by kernel_rfl
theorem kTake : allN (fun k => chkRun (R0 9) (aTake (.ofNat (Nat.succ k))) (pT 0) (qTake (Nat.succ k))) 37 = true := by kernel_rfl
theorem kGive : allN (fun k => chkRun (R0 10) (aGive k) (mGive k) qGive) 38 = true := by kernel_rfl
theorem kSub : allN (fun k => embK [0, 2] (pT k) (smallH (pG k))) 38 = true := by kernel_rfl
theorem rns : Rns R0 where
  sub := fun k hk => allN_ok kSub k (by omega)
  free := fun k hk => allN_ok kFree k (by omega)
  neg := fun j => by kernel_rfl
  take0 := by kernel_rfl
  take := fun k h1 h2 => by
    obtain ⟨j, rfl⟩ : ∃ j, k = Nat.succ j := ⟨k - 1, by omega⟩
    exact allN_ok kTake j (by omega)
  give := fun k hk => allN_ok kGive k (by omega)
  bits := by kernel_rfl
  count := by kernel_rfl
  empty := by kernel_rfl
  new := by kernel_rfl
  group := by kernel_rfl
  rows := by kernel_rfl
theorem rns2 : Rns2 R0 where
  total := by kernel_rfl
  sort := by kernel_rfl
noncomputable def sums : List (Nat × SmK) := [(8, fmG (KFree (R0 8))), (9, fmG (KTake (R0 9))), (10, fmG (KGive (R0 10))), (12, fmG (KBits (R0 12))),
  (11, fmG (KCount (R0 11))), (7, fmG (KEmpty (R0 7))), (6, fmG (KNew (R0 6))), (19, fmG (KGroup (R0 19))), (18, fmG (KRows (R0 18))),
  (17, fmG (KTotal (R0 17))), (21, fmG (KSort (R0 21))), (4, awG)]
theorem sOk {ι : Type} {f : FuncId} {p : ι → Prop} {a : ι → List Value} {A : ι → List SB} (hf : (FF Try.prog f).isSome = true) : SumOk Try.prog f (fmG (KI p a A (R0 f))) := fm_sum hf (KI_ok follows named (tabOf_ok entries_ok) (sums := []) trivial 60 f p a A)
theorem sums_ok : SumsOk Try.prog sums := ⟨sOk (by kernel_rfl), sOk (by kernel_rfl), sOk (by kernel_rfl), sOk (by kernel_rfl), sOk (by kernel_rfl), sOk (by kernel_rfl), sOk (by kernel_rfl), sOk (by kernel_rfl), sOk (by kernel_rfl), sOk (by kernel_rfl), sOk (by kernel_rfl),
  SumOk.of_run follows named (tabOf_ok entries_ok) (by kernel_rfl) 60 fun _ _ _ _ h => h, trivial⟩
/-- runs of a depth -/
noncomputable def RT (d : Nat) : RnK := runK (tabF (tabOf Try.prog 1000000 entries) sums) d
theorem hit {f : FuncId} {g : SmK} (hb : Nat.beq f 1000000000 = false) (hg : (mkTabS sums).getK f = some g) (d : Nat) {a : List Value} {h : Hs} {o : Out} (e : g a h = some o) : RT (d + 1) f a h = some o := by
  show ifB (Nat.beq f 1000000000) none (Option.rec (motive := fun _ => An) (tabOf Try.prog 1000000 entries (RT d) f a h) (fun g => Option.rec (motive := fun _ => An) (tabOf Try.prog 1000000 entries (RT d) f a h) (fun o => some o) (g a h)) ((mkTabS sums).getK f)) = some o
  rw [hb, hg]
  show Option.rec (motive := fun _ => An) _ (fun o => some o) (g a h) = some o
  rw [e]
theorem miss {f : FuncId} {g : SmK} (hb : Nat.beq f 1000000000 = false) (hg : (mkTabS sums).getK f = some g) (d : Nat) {a : List Value} {h : Hs} (e : g a h = none) : RT (d + 1) f a h = tabOf Try.prog 1000000 entries (RT d) f a h := by
  show ifB (Nat.beq f 1000000000) none (Option.rec (motive := fun _ => An) (tabOf Try.prog 1000000 entries (RT d) f a h) (fun g => Option.rec (motive := fun _ => An) (tabOf Try.prog 1000000 entries (RT d) f a h) (fun o => some o) (g a h)) ((mkTabS sums).getK f)) = _
  rw [hb, hg]
  show Option.rec (motive := fun _ => An) _ (fun o => some o) (g a h) = _
  rw [e]
theorem at3 (d : Nat) (args : List Value) (h : Hs) : RT (d + 1) 3 args h = r3 (RT d) 1000000 args h := by kernel_rfl
theorem at24 (d : Nat) (args : List Value) (h : Hs) : RT (d + 1) 24 args h = r24 (RT d) 1000000 args h := by kernel_rfl
theorem at5 (d : Nat) (args : List Value) (h : Hs) : RT (d + 1) 5 args h = r5 (RT d) 1000000 args h := by kernel_rfl
theorem fms (d : Nat) : Fms (RT (d + 1)) R0 where
  free := fun _ _ _ e => hit rfl rfl d e
  take := fun _ _ _ e => hit rfl rfl d e
  give := fun _ _ _ e => hit rfl rfl d e
  bits := fun _ _ _ e => hit rfl rfl d e
  count := fun _ _ _ e => hit rfl rfl d e
  empty := fun _ _ _ e => hit rfl rfl d e
  new := fun _ _ _ e => hit rfl rfl d e
theorem fms2 (d : Nat) : Fms2 (RT (d + 1)) R0 where
  group := fun _ _ _ e => hit rfl rfl d e
  rows := fun _ _ _ e => hit rfl rfl d e
theorem fms3 (d : Nat) : Fms3 (RT (d + 1)) R0 where
  total := fun _ _ _ e => hit rfl rfl d e
  sort := fun _ _ _ e => hit rfl rfl d e
theorem cPlain (d : Nat) : CPlain80 (RT (d + 1)) := fun h => by rw [at5]; exact plain80_ok
theorem cEnough (d : Nat) : CEnough (RT (d + 1)) := fun v n h a b r => by rw [at24]; exact enough_ok (N := 1000000) (by omega) a b r
theorem tab78 (R : RnK) (args : List Value) (h : Hs) : tabOf Try.prog 1000000 entries R 9 args h = r9 R 1000000 args h := by kernel_rfl
theorem cBig (d : Nat) : CBig (RT (d + 2)) := fun N p n h a b x => by
  rw [miss rfl rfl (d + 1) (take_none (R0 := R0 9) a)]
  rw [tab78]
  exact big_ok rns (fms2 d) rns2 (fms3 d) (cEnough d) a b x x.rd.2 x.rd.1
theorem awake0 : awG [] ⟨.e, 0, 0⟩ = some (.val (.bool true) ⟨.e, 0, 0⟩) := by kernel_rfl
theorem awake1 (b : Blk) : awG [] ⟨.n (some b) .e .e, 1, 1⟩ = some (.val (.bool true) ⟨.n (some b) .e .e, 1, 1⟩) := by kernel_rfl
theorem awk0 (d : Nat) : RT (d + 1) 4 [] ⟨.e, 0, 0⟩ = some (.val (.bool true) ⟨.e, 0, 0⟩) := hit rfl rfl d awake0
theorem awk1 (d : Nat) (b : Blk) : RT (d + 1) 4 [] ⟨.n (some b) .e .e, 1, 1⟩ = some (.val (.bool true) ⟨.n (some b) .e .e, 1, 1⟩) := hit rfl rfl d (awake1 b)
theorem ran {v : Value} {L : List Int} {h : Hs} (hh : h = ⟨.e, 0, 0⟩ ∨ ∃ b, h = ⟨.n (some b) .e .e, 1, 1⟩) (r : Rd h v 1 (iL L)) (hL : ∀ n ∈ L, n ≤ 9223372036854775807) : RT 51 3 [v] h = some (.val (.bool true) h) := by
  rw [at3]
  refine back_ok (N := 1000000) (by omega) rns (fms 49) (cBig 48) (cPlain 49) r hL ?_
  rcases hh with rfl | ⟨b, rfl⟩
  · dsimp only
    exact awk0 49
  · dsimp only
    exact awk1 49 b
theorem called (w : World) (v : Value) (hv : IsIntsB w v) : Calls Try.prog 3 #[v] w fun e w' => e = .returned (.bool true) ∧ Below w.heap.size w w' := by
  obtain ⟨v0, h0, ρ, L, hh, s, hr, R, hL⟩ := ints_argB hv
  have hl : VL ρ [v0] (#[v] : Array Value).toList := .cons hr .nil
  refine (runF_ok follows named (tabOf_ok entries_ok) sums_ok 51 3 [v0] #[v] _ h0 _ w.heap.size ρ w (ran hh s hL) hl R).mono fun e w' hq => ?_
  obtain ⟨v', ρ', q1, q2, q3⟩ := hq
  exact ⟨by rw [q1, q2.bool_inv], q3.below⟩
end Go.Proofs.Ytadlfpgipdjegaa.poolBack
