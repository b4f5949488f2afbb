/- Contracts of functions, by the logic of residual programs. -/
import Derived.Test.YtefdkblhnlkgaaaGreatDoorTlB
namespace Go.Proofs.YtefdkblhnlkgaaaGreatDoor.treeLinks
open Go Go.Gev
set_option linter.unusedVariables false
/-! ### a file of several names: '0' .. -/
def nmV (i : Nat) : Value := sV [47, UInt8.ofNat (48 + i)]
def nsF (j k : Nat) : List MapEntry := match k with
  | 0 => []
  | k + 1 => ⟨sV [UInt8.ofNat (48 + j)], wI 3, j⟩ :: nsF (j + 1) k
/-- names j .. n-1 -/
def nsK (n j : Nat) : List MapEntry := nsF j (n - j)
def op2 (k : Nat) (A B : Value) : Value := .agg #[.int .i64 (.ofNat k), A, B, .int .i64 (.ofNat 0), .int .i64 (.ofNat 0), .slice none 0 0]
def emS : Value := .string ⟨#[]⟩
noncomputable section
/-- pairs (n, j), j < n, in a row -/
def tri (n j : Nat) : Nat := (n - 1) * n / 2 + j
/-- the pair of a number -/
def pairs : List (Nat × Nat) := [(1,0),(2,0),(2,1),(3,0),(3,1),(3,2),(4,0),(4,1),(4,2),(4,3),(5,0),(5,1),(5,2),(5,3),(5,4),(6,0),(6,1),(6,2),(6,3),(6,4),(6,5),(7,0),(7,1),(7,2),(7,3),(7,4),(7,5),(7,6),(8,0),(8,1),(8,2),(8,3),(8,4),(8,5),(8,6),(8,7)]
def prN (k : Nat) : Nat := match nthO pairs k with | some p => p.1 | none => 1
def prJ (k : Nat) : Nat := match nthO pairs k with | some p => p.2 | none => 0
theorem pr_ok : ∀ n j, n < 9 → j < n → nthO pairs (tri n j) = some (n, j) ∧ tri n j < 36 := by
  intro n j hn hj
  have : ∀ n, n < 9 → ∀ j, j < n → nthO pairs (tri n j) = some (n, j) ∧ tri n j < 36 := by decide
  exact this n hn j hj
/-- Do: a file is made (0), named anew (1 .. 7), a name is taken away (8 ..) -/
def aDo (k : Nat) : List Value := match Nat.ble 8 k with
  | true => [p0, op2 4 (nmV (prJ (k - 8))) emS]
  | false => match k with
    | 0 => [p0, op2 2 (nmV 0) emS]
    | k + 1 => [p0, op2 3 (nmV 0) (nmV (k + 1))]
def mDo (k : Nat) : List SB := match Nat.ble 8 k with
  | true => tF (nsK (prN (k - 8)) (prJ (k - 8))) (prN (k - 8)) (prN (k - 8) - prJ (k - 8)) dunno
  | false => match k with
    | 0 => tN 2 0
    | k + 1 => tF (nsK (k + 1) 0) (k + 1) (k + 1) nilV
/-- what it comes to -/
def okR (v : Value) : Bool := eqV v (.agg #[wI 0, wI 3, wI 0, wI 0, wI 0, nilV, nilV])
def qDo (k : Nat) (v : Value) (h : Hs) : Bool := andK (okR v) (match Nat.ble 8 k with
  | true => match Nat.beq (prJ (k - 8) + 1) (prN (k - 8)) with
    | true => embK (lN h 0) (tN 3 (prN (k - 8))) h
    | false => embK [0, 1, 2, 3, 4, 5, 6] (tF (nsK (prN (k - 8)) (prJ (k - 8) + 1)) (prN (k - 8)) (prN (k - 8) - prJ (k - 8) - 1) dunno) h
  | false => match k with
    | 0 => embK (lF h 0) (tF (nsK 1 0) 1 1 nilV) h
    | k + 1 => embK [0, 1, 2, 3, 4, 5, 6] (tF (nsK (k + 2) 0) (k + 2) (k + 2) nilV) h)
/-- way: to name i of n (with either flag), to a name that is gone -/
def aWy (k : Nat) : List Value := match Nat.ble 72 k with
  | true => [p0, nmV 0, .bool false]
  | false => [p0, nmV (prJ (k / 2)), .bool (Nat.beq (k % 2) 1)]
def mWy (k : Nat) : List SB := match Nat.ble 72 k with
  | true => tN 3 (k - 71)
  | false => tF (nsK (prN (k / 2)) 0) (prN (k / 2)) (prN (k / 2)) dunno
def qWy (k : Nat) (v : Value) (h : Hs) : Bool := match Nat.ble 72 k with
  | true => andK (eqV v (.tuple #[wI 0, wI 2])) (andK (Nat.beq h.nx 6) (Nat.ble 6 h.lo))
  | false => andK (eqV v (.tuple #[wI 3, wI 0])) (andK (Nat.beq h.nx 7) (Nat.ble 7 h.lo))
/-- two empty trees -/
def shI (d : Nat) : SB := .row 45 0 true [wI 2, .slice none 0 0, .map (some d), wI 1, wI 0]
def mSm (k : Nat) : List SB := tN 3 (k + 1) ++ [.row 41 0 true [wI 10, .map (some 7)], .mp [⟨wI 1, wP 8 0, 0⟩, ⟨wI 2, wP 9 0, 1⟩] 2, shI 10, shI 11, .mp [] 0, .mp [] 0]
def aSm (_ : Nat) : List Value := [p0, .pointer (some ⟨6, 0, none⟩)]
def qSm (v : Value) (h : Hs) : Bool := andK (eqV v (.bool true)) (andK (Nat.beq h.nx 12) (Nat.ble 12 h.lo))
end
def KDo (R0 : List Value → Hs → An) : Runs0 := KI (fun k => k < 44) aDo mDo R0
def KWy (R0 : List Value → Hs → An) : Runs0 := KI (fun k => k < 80) aWy mWy R0
def KSm (R0 : List Value → Hs → An) : Runs0 := KI (fun k => k < 8) aSm mSm R0
structure RnsL (R0 : FuncId → List Value → Hs → An) : Prop where
  new : chkRun (R0 6) (aNewT 0) [] qNewT = true
  dos : ∀ k, k < 44 → chkRun (R0 7) (aDo k) (mDo k) (qDo k) = true
  way : ∀ k, k < 80 → chkRun (R0 31) (aWy k) (mWy k) (qWy k) = true
  same : ∀ k, k < 8 → chkRun (R0 8) (aSm k) (mSm k) qSm = true
  sepN : sepK 1 aNewT (fun _ => []) = true
  sepD : sepK 44 aDo mDo = true
  sepW : sepK 80 aWy mWy = true
  sepS : sepK 8 aSm mSm = true
structure FmsL (R : RnK) (R0 : FuncId → List Value → Hs → An) : Prop where
  new : Ans R 6 (KNewT (R0 6))
  dos : Ans R 7 (KDo (R0 7))
  way : Ans R 31 (KWy (R0 31))
  same : Ans R 8 (KSm (R0 8))
section
variable {R : RnK} {R0 : FuncId → List Value → Hs → An} {N p : Nat} {h : Hs}
theorem okR_eq {v : Value} (h : okR v = true) : v = .agg #[wI 0, wI 3, wI 0, wI 0, wI 0, nilV, nilV] := eqV_eq h
def resO : Value := .agg #[wI 0, wI 3, wI 0, wI 0, wI 0, nilV, nilV]
theorem VW.resO_inv {n : Nat} {s : Nat → Nat} {v : Value} (g : VW n s false resO v) : v = resO := by
  unfold resO wI nilV at g
  cases g with
  | agg xs ys hs hh =>
    have l : ys.size = 7 := by rw [← hs]; rfl
    have e : ∀ i (a : i < 7), ys[i]'(by omega) = (#[.int .i64 (.ofNat 0), .int .i64 (.ofNat 3), .int .i64 (.ofNat 0), .int .i64 (.ofNat 0), .int .i64 (.ofNat 0), .slice none 0 0, .slice none 0 0] : Array Value)[i]'(by simpa using a) := fun i a => by
      have := hh i (by simpa using a) (by omega)
      match i, a, this with
      | 0, _, this => exact VW.int_inv this
      | 1, _, this => exact VW.int_inv this
      | 2, _, this => exact VW.int_inv this
      | 3, _, this => exact VW.int_inv this
      | 4, _, this => exact VW.int_inv this
      | 5, _, this => exact VW.nilslice_inv this
      | 6, _, this => exact VW.nilslice_inv this
    unfold resO wI nilV
    congr 1
    exact Array.ext l fun i h1 h2 => e i (by omega)
theorem newL_w (rn : RnsL R0) (fm : FmsL R R0) : WP (R 6 [.int .i64 (.ofNat 10)] h) fun v u => ∃ p, v = pV p ∧ At h.nx p (tN 2 0) u ∧ Same h u := by
  have E : Emb id (smallH []) h := ⟨fun i b g => by have := smallH_lt g; simp at this, fun i hi => by have hi : i < 0 := hi; omega, fun i i' b b' g => by have := smallH_lt g; simp at this⟩
  obtain ⟨v0, h0', r, hq⟩ := chkRun_ok rn.new
  unfold qNewT at hq
  split at hq
  · rename_i t
    obtain ⟨a1, a2⟩ := andK_true hq
    refine (w_fmN (fun o ho => fm.new _ _ o ho) 0 (by decide) E (.cons (.int _ _) .nil) rfl rn.sepN r).mono fun v u ⟨g1, g2⟩ => ?_
    obtain ⟨yp, _⟩ := g1.ptr_inv
    have E' := g2.emb E r.nx (embK_ok a1) (holdK_ok r.hold)
    refine ⟨_, yp, ⟨_, rfl, E', fun id _ => ?_⟩, g2.same (Nat.zero_le _)⟩
    show h.nx ≤ nextS _ 0 h.nx _
    unfold nextS
    rw [if_neg (by omega)]; omega
  · cases hq
theorem op2_w {n : Nat} {s : Nat → Nat} {k : Nat} {A B : List UInt8} : VW n s true (op2 k (sV A) (sV B)) (op2 k (sV A) (sV B)) :=
  VWl.agg (.cons (.int _ _) (.cons (.string _) (.cons (.string _) (.cons (.int _ _) (.cons (.int _ _) (.cons .nilslice .nil))))))
theorem makeL_w (rn : RnsL R0) (fm : FmsL R R0) (hN : N ≤ h.nx) (x : At N p (tN 2 0) h) : WP (R 7 [pV p, op2 2 (nmV 0) emS] h) fun v u => v = resO ∧ At N p (tF (nsK 1 0) 1 1 nilV) u ∧ MvN N h u := by
  obtain ⟨s, rfl, E, hs⟩ := x
  obtain ⟨v0, h0', r, hq⟩ := chkRun_ok (rn.dos 0 (by decide))
  obtain ⟨a1, a2⟩ := andK_true hq
  have e0 := okR_eq a1
  subst e0
  refine (w_fmN (fun o ho => fm.dos _ _ o ho) 0 (by decide) E (.cons (.ptr 0 0 (by show 0 < 6; decide)) (.cons (op2_w (A := [47, 48]) (B := [])) .nil)) rfl rn.sepD r).mono fun v u ⟨g1, g2⟩ => ?_
  have E' := g2.emb E r.nx (embK_ok a2) (holdK_ok r.hold)
  refine ⟨VW.resO_inv g1, ⟨_, ?_, E', fun id _ => nextS_ge hs hN _⟩, g2.mv hs hN⟩
  show nextS s 6 h.nx 0 = s 0
  rfl
theorem linkL_w (rn : RnsL R0) (fm : FmsL R R0) {k : Nat} (hk : k < 7) (hN : N ≤ h.nx) (x : At N p (tF (nsK (k + 1) 0) (k + 1) (k + 1) nilV) h) : WP (R 7 [pV p, op2 3 (nmV 0) (nmV (k + 1))] h) fun v u => v = resO ∧ At N p (tF (nsK (k + 2) 0) (k + 2) (k + 2) nilV) u ∧ MvN N h u := by
  obtain ⟨s, rfl, E, hs⟩ := x
  have hb : Nat.ble 8 (k + 1) = false := by cases e : Nat.ble 8 (k + 1) with | false => rfl | true => have := Nat.le_of_ble_eq_true e; omega
  have em : mDo (k + 1) = tF (nsK (k + 1) 0) (k + 1) (k + 1) nilV := by unfold mDo; rw [hb]
  have ea : aDo (k + 1) = [p0, op2 3 (nmV 0) (nmV (k + 1))] := by unfold aDo; rw [hb]
  obtain ⟨v0, h0', r, hq⟩ := chkRun_ok (rn.dos (k + 1) (by omega))
  unfold qDo at hq
  rw [hb] at hq
  obtain ⟨a1, a2⟩ := andK_true hq
  have e0 := okR_eq a1
  subst e0
  have pk : pinK (aDo (k + 1)) (mDo (k + 1)) = true := by
    rw [ea, em]
    have : ∀ k, k < 7 → pinK [p0, op2 3 (nmV 0) (nmV (k + 1))] (tF (nsK (k + 1) 0) (k + 1) (k + 1) nilV) = true := fun k hk => allN_ok (n := 7) (f := fun k => pinK [p0, op2 3 (nmV 0) (nmV (k + 1))] (tF (nsK (k + 1) 0) (k + 1) (k + 1) nilV)) rfl k hk
    exact this k hk
  have E1 : Emb s (smallH (mDo (k + 1))) h := by rw [em]; exact E
  have w1 : VWs (mDo (k + 1)).length s (aDo (k + 1)) [pV (s 0), op2 3 (nmV 0) (nmV (k + 1))] := by rw [ea, em]; exact .cons (.ptr 0 0 (by show 0 < 7; decide)) (.cons op2_w .nil)
  have hl : (mDo (k + 1)).length = 7 := by rw [em]; rfl
  have hs' : ∀ id, id < (smallH (mDo (k + 1))).nx → N ≤ s id := fun id hid => hs id (by rw [show (smallH (mDo (k + 1))).nx = 7 from hl] at hid; exact hid)
  refine (w_fmN (fun o ho => fm.dos _ _ o ho) (k + 1) (by omega) E1 w1 pk rn.sepD r).mono fun v u ⟨g1, g2⟩ => ?_
  have E' := g2.emb E1 r.nx (embK_ok a2) (holdK_ok r.hold)
  refine ⟨VW.resO_inv g1, ⟨_, ?_, E', fun id _ => nextS_ge hs' hN _⟩, g2.mv hs' hN⟩
  show nextS s (mDo (k + 1)).length h.nx 0 = s 0
  rw [hl]
  rfl
theorem dropL_w (rn : RnsL R0) (fm : FmsL R R0) {n j : Nat} (hn : n < 9) (hj : j < n) (hN : N ≤ h.nx) (x : At N p (tF (nsK n j) n (n - j) dunno) h) : WP (R 7 [pV p, op2 4 (nmV j) emS] h) fun v u => v = resO ∧ (if j + 1 = n then At N p (tN 3 n) u else At N p (tF (nsK n (j + 1)) n (n - j - 1) dunno) u) ∧ MvN N h u := by
  obtain ⟨s, rfl, E, hs⟩ := x
  obtain ⟨t1, t2⟩ := pr_ok n j hn hj
  generalize hk : tri n j = k at t1 t2
  have hb : Nat.ble 8 (k + 8) = true := Nat.ble_eq_true_of_le (by omega)
  have hn1 : prN (k + 8 - 8) = n := by rw [Nat.add_sub_cancel]; unfold prN; rw [t1]
  have hj1 : prJ (k + 8 - 8) = j := by rw [Nat.add_sub_cancel]; unfold prJ; rw [t1]
  have em : mDo (k + 8) = tF (nsK n j) n (n - j) dunno := by unfold mDo; rw [hb, hn1, hj1]
  have ea : aDo (k + 8) = [p0, op2 4 (nmV j) emS] := by unfold aDo; rw [hb, hj1]
  obtain ⟨v0, h0', r, hq⟩ := chkRun_ok (rn.dos (k + 8) (by omega))
  unfold qDo at hq
  rw [hb, hn1, hj1] at hq
  obtain ⟨a1, a2⟩ := andK_true hq
  have e0 := okR_eq a1
  subst e0
  have pk : pinK (aDo (k + 8)) (mDo (k + 8)) = true := by
    have : ∀ k, k < 36 → pinK (aDo (k + 8)) (mDo (k + 8)) = true := fun k hk => allN_ok (n := 36) (f := fun k => pinK (aDo (k + 8)) (mDo (k + 8))) rfl k hk
    exact this k t2
  have E1 : Emb s (smallH (mDo (k + 8))) h := by rw [em]; exact E
  have w1 : VWs (mDo (k + 8)).length s (aDo (k + 8)) [pV (s 0), op2 4 (nmV j) emS] := by rw [ea, em]; exact .cons (.ptr 0 0 (by show 0 < 7; decide)) (.cons (op2_w (B := [])) .nil)
  have hl : (mDo (k + 8)).length = 7 := by rw [em]; rfl
  have hs' : ∀ id, id < (smallH (mDo (k + 8))).nx → N ≤ s id := fun id hid => hs id (by rw [show (smallH (mDo (k + 8))).nx = 7 from hl] at hid; exact hid)
  refine (w_fmN (fun o ho => fm.dos _ _ o ho) (k + 8) (by omega) E1 w1 pk rn.sepD r).mono fun v u ⟨g1, g2⟩ => ?_
  have ge : ∀ id, N ≤ nextS s (mDo (k + 8)).length h.nx id := fun id => nextS_ge hs' hN _
  have e00 : nextS s (mDo (k + 8)).length h.nx 0 = s 0 := by rw [hl]; rfl
  refine ⟨VW.resO_inv g1, ?_, g2.mv hs' hN⟩
  by_cases e : j + 1 = n
  · rw [show Nat.beq (j + 1) n = true from by rw [e]; exact Nat.beq_refl _] at a2
    rw [if_pos e]
    have E' := g2.emb E1 r.nx (embK_ok a2) (holdK_ok r.hold)
    refine ⟨_, ?_, E', fun id _ => ge _⟩
    exact e00
  · rw [show Nat.beq (j + 1) n = false from by cases q : Nat.beq (j + 1) n with | false => rfl | true => exact absurd (Nat.eq_of_beq_eq_true q) e] at a2
    rw [if_neg e]
    have E' := g2.emb E1 r.nx (embK_ok a2) (holdK_ok r.hold)
    refine ⟨_, ?_, E', fun id _ => ge _⟩
    exact e00
end
section
variable {R : RnK} {R0 : FuncId → List Value → Hs → An} {N p : Nat} {h : Hs}
theorem wayL (rn : RnsL R0) (fm : FmsL R R0) {n i : Nat} (hn : n < 9) (hi : i < n) (x : At N p (tF (nsK n 0) n n dunno) h) : WayTo R p (nmV i) h := by
  intro u h1 h2 fl
  obtain ⟨s, rfl, E, hs⟩ := x.ext h1 h2
  obtain ⟨t1, t2⟩ := pr_ok n i hn hi
  have main : ∀ c, c < 2 → WP (R 31 [.pointer (some ⟨s 0, 0, none⟩), nmV i, .bool (Nat.beq c 1)] u) fun v u' => v = .tuple #[.int .i64 (.ofNat 3), .int .i64 (.ofNat 0)] ∧ Sm u u' := by
    intro c hc
    obtain ⟨k, hk⟩ : ∃ k, k = tri n i * 2 + c := ⟨_, rfl⟩
    have hk2 : k < 72 := by omega
    have hd : k / 2 = tri n i := by omega
    have hm : k % 2 = c := by omega
    have hb : Nat.ble 72 k = false := by cases e : Nat.ble 72 k with | false => rfl | true => have := Nat.le_of_ble_eq_true e; omega
    have hn1 : prN (k / 2) = n := by rw [hd]; unfold prN; rw [t1]
    have hj1 : prJ (k / 2) = i := by rw [hd]; unfold prJ; rw [t1]
    have em : mWy k = tF (nsK n 0) n n dunno := by unfold mWy; rw [hb, hn1]
    have ea : aWy k = [p0, nmV i, .bool (Nat.beq c 1)] := by unfold aWy; rw [hb, hj1, hm]
    obtain ⟨v0, h0', r, hq⟩ := chkRun_ok (rn.way k (by omega))
    unfold qWy at hq
    rw [hb] at hq
    obtain ⟨a1, a2⟩ := andK_true hq
    obtain ⟨a2, a3⟩ := andK_true a2
    have e0 := eqV_eq a1
    subst e0
    have pk : pinK (aWy k) (mWy k) = true := by
      have : ∀ k, k < 72 → pinK (aWy k) (mWy k) = true := fun k hk => allN_ok (n := 72) (f := fun k => pinK (aWy k) (mWy k)) rfl k hk
      exact this k hk2
    have E1 : Emb s (smallH (mWy k)) u := by rw [em]; exact E
    have hl : (mWy k).length = 7 := by rw [em]; rfl
    have w1 : VWs (mWy k).length s (aWy k) [pV (s 0), nmV i, .bool (Nat.beq c 1)] := by rw [ea, em]; exact .cons (.ptr 0 0 (by show 0 < 7; decide)) (.cons (.string _) (.cons (.bool _) .nil))
    refine (w_fmN (fun o ho => fm.way _ _ o ho) k (by omega) E1 w1 pk rn.sepW r).mono fun v u' ⟨g1, g2⟩ => ?_
    obtain ⟨y, z, rfl, y1, z1⟩ := g1.tup2_inv
    rw [VW.int_inv (show VW _ _ _ (.int .i64 (.ofNat 3)) y from y1), VW.int_inv (show VW _ _ _ (.int .i64 (.ofNat 0)) z from z1)]
    exact ⟨rfl, g2.sm (by rw [hl]; exact Nat.eq_of_beq_eq_true a2) (by rw [hl]; exact Nat.le_of_ble_eq_true a3)⟩
  cases fl with
  | false => exact main 0 (by decide)
  | true => exact main 1 (by decide)
theorem goneL (rn : RnsL R0) (fm : FmsL R R0) {n : Nat} (hn : n < 9) (h0 : 0 < n) (x : At N p (tN 3 n) h) : WP (R 31 [pV p, nmV 0, .bool false] h) fun v u' => v = .tuple #[.int .i64 (.ofNat 0), .int .i64 (.ofNat 2)] ∧ Sm h u' := by
  obtain ⟨s, rfl, E, hs⟩ := x
  obtain ⟨k, hk⟩ : ∃ k, k = n + 71 := ⟨_, rfl⟩
  have hb : Nat.ble 72 k = true := Nat.ble_eq_true_of_le (by omega)
  have em : mWy k = tN 3 n := by unfold mWy; rw [hb, show k - 71 = n by omega]
  have ea : aWy k = [p0, nmV 0, .bool false] := by unfold aWy; rw [hb]
  obtain ⟨v0, h0', r, hq⟩ := chkRun_ok (rn.way k (by omega))
  unfold qWy at hq
  rw [hb] at hq
  obtain ⟨a1, a2⟩ := andK_true hq
  obtain ⟨a2, a3⟩ := andK_true a2
  have e0 := eqV_eq a1
  subst e0
  have pk : pinK (aWy k) (mWy k) = true := by
    have : ∀ k, k < 80 → pinK (aWy k) (mWy k) = true := fun k hk => allN_ok (n := 80) (f := fun k => pinK (aWy k) (mWy k)) rfl k hk
    exact this k (by omega)
  have E1 : Emb s (smallH (mWy k)) h := by rw [em]; exact E
  have hl : (mWy k).length = 6 := by rw [em]; rfl
  have w1 : VWs (mWy k).length s (aWy k) [pV (s 0), nmV 0, .bool false] := by rw [ea, em]; exact .cons (.ptr 0 0 (by show 0 < 6; decide)) (.cons (.string _) (.cons (.bool _) .nil))
  refine (w_fmN (fun o ho => fm.way _ _ o ho) k (by omega) E1 w1 pk rn.sepW r).mono fun v u' ⟨g1, g2⟩ => ?_
  obtain ⟨y, z, rfl, y1, z1⟩ := g1.tup2_inv
  rw [VW.int_inv (show VW _ _ _ (.int .i64 (.ofNat 0)) y from y1), VW.int_inv (show VW _ _ _ (.int .i64 (.ofNat 2)) z from z1)]
  exact ⟨rfl, g2.sm (by rw [hl]; exact Nat.eq_of_beq_eq_true a2) (by rw [hl]; exact Nat.le_of_ble_eq_true a3)⟩
end
theorem BW.mono {n n' : Nat} {s s' : Nat → Nat} (hn : n ≤ n') (hs : ∀ id, id < n → s' id = s id) {b0 b : Blk} (h : BW n s b0 b) : BW n' s' b0 b := by
  cases h with
  | row c0 c n0 n1 e u rw0 rw fl0 fl hrw hfl hc => exact .row _ _ _ _ _ _ _ _ _ _ hrw hfl fun i v0 hv => (hc i v0 hv).imp fun v q => ⟨q.1, q.2.mono hn hs⟩
  | mp es es' cl h => exact .mp _ _ _ (h.mono hn hs)
/-- two trees, side by side -/
def sU (s s2 : Nat → Nat) (id : Nat) : Nat := if id < 6 then s id else s2 (id - 6)
theorem tN_rw {c1 c2 i : Nat} {x : SB} (h : (tN c1 c2)[i]? = some x) : isRw x.blk = true := by
  match i, h with
  | 0, h => injection h with h; subst h; rfl
  | 1, h => injection h with h; subst h; rfl
  | 2, h => injection h with h; subst h; rfl
  | 3, h => injection h with h; subst h; rfl
  | 4, h => injection h with h; subst h; rfl
  | 5, h => injection h with h; subst h; rfl
  | i + 6, h => cases h
theorem two_emb {n M : Nat} {s s2 : Nat → Nat} {h : Hs} (E : Emb s (smallH (tN 3 n)) h) (hs : ∀ id, id < 6 → s id < M) (E2 : Emb s2 (smallH (tN 2 0)) h) (hs2 : ∀ id, id < 6 → M ≤ s2 id) (k : Nat) (hk : k + 1 = n) : Emb (sU s s2) (smallH (mSm k)) h := by
  subst hk
  have inj1 : ∀ (t : Nat → Nat) (c1 c2 : Nat), Emb t (smallH (tN c1 c2)) h → ∀ i j, i < 6 → j < 6 → i ≠ j → t i ≠ t j := fun t c1 c2 E i j hi hj hij => by
    have g : ∀ i, i < 6 → ∃ x, (tN c1 c2)[i]? = some x := fun i hi => ⟨_, List.getElem?_eq_getElem (show i < (tN c1 c2).length from hi)⟩
    obtain ⟨x, hx⟩ := g i hi
    obtain ⟨y, hy⟩ := g j hj
    exact E.inj i j x.blk y.blk (by rw [smallH_get, hx]; rfl) (by rw [smallH_get, hy]; rfl) (tN_rw hx) hij
  have ge2 : ∀ (i : Nat) (x : SB), (tN 2 0)[i]? = some x → ∃ y, h.hp.get (s2 i) = some y ∧ BW 6 s2 x.blk y := fun i x hx => (E2.at_ i x.blk (by rw [smallH_get, hx]; rfl)).2
  refine ⟨fun id b0 g => ?_, fun id hid => ?_, fun i j b b' g g' _ hij => ?_⟩
  · have hid := smallH_lt g
    have hid : id < 12 := hid
    refine ⟨hid, ?_⟩
    by_cases h6 : id < 6
    · have e : (mSm k)[id]? = (tN 3 (k + 1))[id]? := List.getElem?_append_left h6
      rw [smallH_get, e] at g
      obtain ⟨_, y, q1, q2⟩ := E.at_ id b0 (by rw [smallH_get]; exact g)
      refine ⟨y, by unfold sU; rw [if_pos h6]; exact q1, q2.mono (by show 6 ≤ 12; omega) fun i hi => ?_⟩
      unfold sU
      have hi : i < 6 := hi
      rw [if_pos hi]
    · have eU : sU s s2 id = s2 (id - 6) := by unfold sU; rw [if_neg h6]
      rw [eU]
      rw [smallH_get] at g
      obtain ⟨j, rfl⟩ : ∃ j, id = 6 + j := ⟨id - 6, by omega⟩
      rw [Nat.add_sub_cancel_left]
      have u : ∀ i, i < 6 → s2 i = sU s s2 (6 + i) := fun i hi => by unfold sU; rw [if_neg (by omega), Nat.add_sub_cancel_left]
      have dir : ∀ (i d : Nat), d < 6 → (tN 2 0)[i]? = some (dirI d) → ∃ y, h.hp.get (s2 i) = some y ∧ BW 12 (sU s s2) (shI (6 + d)).blk y := fun i d hd hx => by
        obtain ⟨y, q1, q2⟩ := ge2 i _ hx
        have := row_holds (L' := [wI 2, .slice none 0 0, .map (some (s2 d)), wI 1, wI 0]) q1 q2 rfl fun i v v' hv w => match i, hv with
          | 0, hv => by injection hv with hv; subst hv; unfold wI at w; cases w; rfl
          | 1, hv => by injection hv with hv; subst hv; cases w; rfl
          | 2, hv => by injection hv with hv; subst hv; cases w; rfl
          | 3, hv => by injection hv with hv; subst hv; unfold wI at w; cases w; rfl
          | 4, hv => by injection hv with hv; subst hv; unfold wI at w; cases w; rfl
          | i + 5, hv => by cases hv
        exact holds_row this rfl fun i v hv => match i, hv with
          | 0, hv => ⟨_, rfl, by injection hv with hv; subst hv; exact .int _ _⟩
          | 1, hv => ⟨_, rfl, by injection hv with hv; subst hv; exact .nilslice⟩
          | 2, hv => ⟨_, rfl, by injection hv with hv; subst hv; rw [u d hd]; exact .map (6 + d) (by omega)⟩
          | 3, hv => ⟨_, rfl, by injection hv with hv; subst hv; exact .int _ _⟩
          | 4, hv => ⟨_, rfl, by injection hv with hv; subst hv; exact .int _ _⟩
          | i + 5, hv => by cases hv
      match j, hid with
      | 0, _ =>
        injection g with g; subst g
        obtain ⟨y, q1, q2⟩ := ge2 0 _ rfl
        have := row_holds (L' := [wI 10, .map (some (s2 1))]) q1 q2 rfl fun i v v' hv w => match i, hv with
          | 0, hv => by injection hv with hv; subst hv; unfold wI at w; cases w; rfl
          | 1, hv => by injection hv with hv; subst hv; cases w; rfl
          | i + 2, hv => by cases hv
        exact holds_row this rfl fun i v hv => match i, hv with
          | 0, hv => ⟨_, rfl, by injection hv with hv; subst hv; exact .int _ _⟩
          | 1, hv => ⟨_, rfl, by injection hv with hv; subst hv; rw [u 1 (by decide)]; exact .map 7 (by show 7 < 12; decide)⟩
          | i + 2, hv => by cases hv
      | 1, _ =>
        injection g with g; subst g
        obtain ⟨y, q1, q2⟩ := ge2 1 _ rfl
        cases q2 with
        | mp _ es' _ hm =>
          cases hm with
          | cons k1 h1 v1 t1 => cases t1 with
            | cons k2 h2 v2 t2 => cases t2 with
              | nil =>
                rename_i e1 e2
                refine ⟨_, q1, .mp _ _ _ (.cons k1 h1 ?_ (.cons k2 h2 ?_ .nil))⟩
                · obtain ⟨a1, a2, a3⟩ := e1
                  simp only at v1 ⊢
                  unfold wP at v1 ⊢
                  cases v1
                  rw [u 2 (by decide)]
                  exact .ptr 8 0 (by show 8 < 12; decide)
                · obtain ⟨a1, a2, a3⟩ := e2
                  simp only at v2 ⊢
                  unfold wP at v2 ⊢
                  cases v2
                  rw [u 3 (by decide)]
                  exact .ptr 9 0 (by show 9 < 12; decide)
      | 2, _ => injection g with g; subst g; exact dir 2 4 (by decide) rfl
      | 3, _ => injection g with g; subst g; exact dir 3 5 (by decide) rfl
      | 4, _ =>
        injection g with g; subst g
        obtain ⟨y, q1, q2⟩ := ge2 4 _ rfl
        cases q2 with
        | mp _ es' _ hm => exact ⟨_, q1, .mp _ _ _ (by cases hm; exact .nil)⟩
      | 5, _ =>
        injection g with g; subst g
        obtain ⟨y, q1, q2⟩ := ge2 5 _ rfl
        cases q2 with
        | mp _ es' _ hm => exact ⟨_, q1, .mp _ _ _ (by cases hm; exact .nil)⟩
      | j + 6, hj => omega
  · have hid : id < 12 := hid
    unfold sU
    split
    · exact E.lt id ‹_›
    · exact E2.lt (id - 6) (by show id - 6 < 6; omega)
  · have hi : i < 12 := smallH_lt g
    have hj : j < 12 := smallH_lt g'
    unfold sU
    split <;> split
    · exact inj1 s _ _ E i j ‹_› ‹_› hij
    · have := hs i ‹_›; have := hs2 (j - 6) (by omega); omega
    · have := hs j ‹_›; have := hs2 (i - 6) (by omega); omega
    · exact inj1 s2 _ _ E2 (i - 6) (j - 6) (by omega) (by omega) (by omega)
theorem sameL_w {R : RnK} {R0 : FuncId → List Value → Hs → An} {N p p2 n : Nat} {h1 h : Hs} (rn : RnsL R0) (fm : FmsL R R0) (hn : n < 9) (h0 : 0 < n) (x : At N p (tN 3 n) h1) (e : h1.nx ≤ h.nx) (g : ∀ id, id < h1.nx → h.hp.get id = h1.hp.get id) (x2 : At h1.nx p2 (tN 2 0) h) :
    WP (R 8 [pV p, pV p2] h) fun v u => v = .bool true ∧ Sm h u := by
  obtain ⟨s, rfl, E, _⟩ := x
  obtain ⟨s2, rfl, E2, hs2⟩ := x2
  have EU := two_emb (E.ext e g) (fun id hid => E.lt id hid) E2 hs2 (n - 1) (by omega)
  obtain ⟨v0, h0', r, hq⟩ := chkRun_ok (rn.same (n - 1) (by omega))
  unfold qSm at hq
  obtain ⟨a1, a2⟩ := andK_true hq
  obtain ⟨a2, a3⟩ := andK_true a2
  have e0 := eqV_eq a1
  subst e0
  refine (w_fmN (fun o ho => fm.same _ _ o ho) (n - 1) (by omega) EU (.cons (.ptr 0 0 (by show 0 < 12; decide)) (.cons (.ptr 6 0 (by show 6 < 12; decide)) .nil)) (allN_ok (n := 8) (f := fun k => pinK (aSm k) (mSm k)) rfl _ (by omega)) rn.sepS r).mono fun v u ⟨g1, g2⟩ => ?_
  exact ⟨VW.bool_inv g1, g2.sm (Nat.eq_of_beq_eq_true a2) (Nat.le_of_ble_eq_true a3)⟩
theorem nm8 {i : Nat} (hi : i < 9) (K : Value → An) : kTo8 (.int .i64 (.ofNat i)) K = K (.int .u8 (.ofNat i)) := by
  match i, hi with
  | 0, _ => rfl
  | 1, _ => rfl
  | 2, _ => rfl
  | 3, _ => rfl
  | 4, _ => rfl
  | 5, _ => rfl
  | 6, _ => rfl
  | 7, _ => rfl
  | 8, _ => rfl
theorem nmA {i : Nat} (hi : i < 9) (K : Value → An) : kU8 .add (.int .u8 (.ofNat 48)) (.int .u8 (.ofNat i)) K = K (.int .u8 (.ofNat (48 + i))) := by
  match i, hi with
  | 0, _ => rfl
  | 1, _ => rfl
  | 2, _ => rfl
  | 3, _ => rfl
  | 4, _ => rfl
  | 5, _ => rfl
  | 6, _ => rfl
  | 7, _ => rfl
  | 8, _ => rfl
theorem nmB {i : Nat} (hi : i < 9) : [Value.int .u8 (.ofNat (48 + i))] = byteVs [UInt8.ofNat (48 + i)] := by
  match i, hi with
  | 0, _ => rfl
  | 1, _ => rfl
  | 2, _ => rfl
  | 3, _ => rfl
  | 4, _ => rfl
  | 5, _ => rfl
  | 6, _ => rfl
  | 7, _ => rfl
  | 8, _ => rfl
theorem nmS {i : Nat} : s2 .add (.string ⟨#[47]⟩) (.string ⟨[UInt8.ofNat (48 + i)].toArray⟩) = some (nmV i) := by
  show some (Value.string _) = some (Value.string _)
  congr 2
/-- "/" and a figure -/
theorem w_name {h0 h : Hs} {S : List Nat} {m : List Th} {Q : Value → Hs → Prop} {i : Nat} {F : Value → Hs → An} (H : Sto h0 S h m) (hi : i < 9) (kk : ∀ h' t, Sto h0 S h' (t :: m) → h'.nx = h.nx + 1 → (∀ id, id < h.nx → h'.hp.get id = h.hp.get id) → WP (F (.string ⟨[47, UInt8.ofNat (48 + i)].toArray⟩) h') Q) :
    WP (kTo8 (.int .i64 (.ofNat i)) fun x65 => kU8 .add (.int .u8 (.ofNat 48)) x65 fun x66 => after (fun x67 h68 => after (fun x69 h70 => obK (fun x71 => F x71 h70) (s2 .add (.string ⟨#[47]⟩) x69)) (ret1 h68 (toStr1 h68 x67))) (oMkrow 5 1 1 [(.int .u8 (.ofNat 0))] [(0, 1, .c x66)] enE h)) Q := by
  rw [nm8 hi, nmA hi]
  have e : oMkrow 5 1 1 [(.int .u8 (.ofNat 0))] [(0, 1, .c (.int .u8 (.ofNat (48 + i))))] enE h = some (.slice (some ⟨h.nx, 0, none⟩) 1 1, Gev.newRow h 5 1 [.int .u8 (.ofNat (48 + i))]) := rfl
  refine w_rs e ?_
  have H1 := H.row 5 1 [.int .u8 (.ofNat (48 + i))]
  rw [nmB hi] at H1 ⊢
  have H2 := H1.osl 0 rfl (n := 1) (c := 1) rfl (Nat.le_refl _)
  dsimp only [List.set_cons_zero] at H2
  refine w_toStrO 0 H2 rfl ?_
  rw [nmS]
  refine kk _ _ H2 rfl fun id hid => ?_
  show (h.hp.set h.nx _).get id = _
  rw [Tr.get_set, if_neg (by omega)]
def OkL (n : Int) (l : Nat) (d : Int) : Prop := 1 ≤ n ∧ n ≤ 8 ∧ l ≤ 500 ∧ 0 ≤ d ∧ d < n
theorem linksNo_ok {R : RnK} {N : Nat} {v1 : Value} {X : List UInt8} {n d : Int} {h : Hs} (r1 : Rd h v1 1 (ones (byteVs X)))
    (aw : R 5 [] ⟨h.hp, h.nx, h.nx⟩ = some (.val (.bool true) ⟨h.hp, h.nx, h.nx⟩)) (no : ¬ OkL n X.length d) :
    r4 R N [.int .i64 n, v1, .int .i64 d] h = some (.val (.bool true) h) := by
  refine WP.eqn ?_
  have l1 : (ones (byteVs X)).length = X.length := by rw [ones_len, bV_len]
  obtain ⟨a1, c1, rfl⟩ := r1.1.formN l1
  unfold r4
  unfold OkL at no
  have H := Sto.enter1 r1
  repeat' (first | (refine w_callE (aw) ?_) | (with_reducible refine w_jn ?_) | (with_reducible refine w_cndT ?_) | (with_reducible refine w_cndF ?_) | (with_reducible refine w_gFt ?_) | (with_reducible refine w_gFf ?_) | (with_reducible refine w_pickT ?_) | (with_reducible refine w_pickF ?_) | (with_reducible refine w_notT ?_) | (with_reducible refine w_lenV ?_) | ((with_reducible refine w_lss_IN (fun _ => ?_) (fun _ => ?_)) <;> first | (exfalso; omega) | skip) | ((with_reducible refine w_gtr_NN (fun _ => ?_) (fun _ => ?_)) <;> first | (exfalso; omega) | skip) | ((with_reducible refine w_gtr_IN (fun _ => ?_) (fun _ => ?_)) <;> first | (exfalso; omega) | skip) | ((with_reducible refine w_geq_II (fun _ => ?_) (fun _ => ?_)) <;> first | (exfalso; omega) | skip))
  all_goals exact w_clr H rfl ⟨rfl, rfl⟩
theorem ints_ns (n j : Nat) : ints (nsK n j) = true := by
  unfold nsK
  generalize n - j = k
  induction k generalizing j with
  | zero => rfl
  | succ k ih => exact ih (j + 1)
def CDoG (R Rw : RnK) : Prop := ∀ (p : Nat) (A : Value) (h : Hs), WayNo Rw p A h → R 7 [.pointer (some ⟨p, 0, none⟩), opV 12 A 0 0 (.slice none 0 0)] h = some (.val (resE 2) h)
theorem rdD_all {D : List UInt8} {n : Nat} (h : D.length ≤ n) : rdD D 0 n = D := by
  unfold rdD
  rw [Nat.zero_min, List.drop_zero, Nat.sub_zero, Nat.min_eq_right h, List.take_length]
theorem links_ok {R Rw : RnK} {R0 : FuncId → List Value → Hs → An} {N : Nat} (hN : 100 < N) (rn : RnsL R0) (fm : FmsL R R0) (fw : FmsL Rw R0) (ds : Dos R Rw) (dg : CDoG R Rw) {v1 : Value} {X : List UInt8} {n d : Nat} {h : Hs} (r1 : Rd h v1 1 (ones (byteVs X)))
    (aw : R 5 [] ⟨h.hp, h.nx, h.nx⟩ = some (.val (.bool true) ⟨h.hp, h.nx, h.nx⟩)) (hv1 : ∀ i, vId v1 = some i → i < h.nx) (k1 : 1 ≤ n) (k2 : n ≤ 8) (k3 : X.length ≤ 500) (k4 : d < n) :
    r4 R N [.int .i64 (.ofNat n), v1, .int .i64 (.ofNat d)] h = some (.val (.bool true) h) := by
  refine WP.eqn ?_
  have l1 : (ones (byteVs X)).length = X.length := by rw [ones_len, bV_len]
  obtain ⟨a1, c1, rfl⟩ := r1.1.formN l1
  unfold r4
  have H := Sto.enter1 r1
  repeat' (first | (refine w_callE (aw) ?_) | (with_reducible refine w_jn ?_) | (with_reducible refine w_cndF ?_) | (with_reducible refine w_gFf ?_) | (with_reducible refine w_pickF ?_) | (with_reducible refine w_notT ?_) | (with_reducible refine w_lenV ?_) | ((with_reducible refine w_lss_NN (fun _ => ?_) (fun _ => ?_)) <;> first | (exfalso; omega) | skip) | ((with_reducible refine w_gtr_NN (fun _ => ?_) (fun _ => ?_)) <;> first | (exfalso; omega) | skip) | ((with_reducible refine w_geq_NN (fun _ => ?_) (fun _ => ?_)) <;> first | (exfalso; omega) | skip))
  refine w_call (newL_w rn fm) fun v3 u3 hv => ?_
  obtain ⟨p, rfl, x, sm⟩ := hv
  replace H := H.same sm
  generalize hN0 : Hs.nx _ = N0 at x
  have hNu : N0 ≤ u3.nx := by rw [← hN0]; exact sm.1.1
  have hhN : h.nx ≤ N0 := by rw [← hN0]; exact Nat.le_refl _
  clear hN0 sm
  have hids : ∀ t ∈ [Th.rsl (.slice a1 X.length c1) 1 (ones (byteVs X))], ∀ b, t.id = some b → b < N0 := fun t ht b hb => by
    rw [List.mem_singleton.1 ht] at hb
    exact Nat.lt_of_lt_of_le (r1.2 b hb) hhN
  repeat' (first | ((with_reducible apply w_build) ; rfl; (try dsimp only [splice, ev, cellsL, rep, List.cons_append, List.nil_append])))
  refine w_call (makeL_w rn fm hNu x) fun v4 u4 hv => ?_
  obtain ⟨rfl, x4, mv⟩ := hv
  replace H := H.mv mv hhN rfl hids
  have hNu4 : N0 ≤ u4.nx := Nat.le_trans hNu mv.1
  clear mv x
  repeat' (first | (with_reducible refine w_jn ?_))
  refine lp_ind (Good := fun k (self : L4) => ∀ (i : Nat) (y1 y2 y3 : Value) (w : Hs), i + k = n → 1 ≤ i → Sto h [] w [Th.rsl (.slice a1 X.length c1) 1 (ones (byteVs X))] → At N0 p (tF (nsK i 0) i i nilV) w → N0 ≤ w.nx → WP (self (.int .i64 (.ofNat i)) y1 y2 y3 w) _) (fun k self ih i y1 y2 y3 w hi hi1 H1 x1 hw => ?_) N (n - 1) (by omega) 1 _ _ _ _ (by omega) (Nat.le_refl _) H x4 hNu4
  clear H x4 hNu4
  have H := H1
  clear H1
  by_cases ii : i < n
  · obtain ⟨i, rfl⟩ : ∃ j, i = j + 1 := ⟨i - 1, by omega⟩
    repeat' (first | (with_reducible refine w_jn ?_) | (with_reducible refine w_cndT ?_) | ((with_reducible refine w_lss_NN (fun _ => ?_) (fun _ => ?_)) <;> first | (exfalso; omega) | skip))
    refine w_name H (by omega) fun w1 t H1 hw1 g1 => ?_
    have x2 := x1.ext (u := w1) (by omega) g1
    clear H
    have H := H1.tail
    clear H1
    repeat' (first | ((with_reducible apply w_build) ; rfl; (try dsimp only [splice, ev, cellsL, rep, List.cons_append, List.nil_append])))
    refine w_call (linkL_w rn fm (k := i) (by omega) (by omega) x2) fun v5 u5 hv => ?_
    obtain ⟨rfl, x5, mv⟩ := hv
    replace H := H.mv mv hhN rfl hids
    have hw5 : N0 ≤ u5.nx := Nat.le_trans (by omega) mv.1
    unfold resO wI nilV
    repeat' (first | (with_reducible refine w_jn ?_) | (with_reducible refine w_cndF ?_) | ((with_reducible apply w_field) ; rfl) | ((with_reducible refine w_neq_NN (fun _ => ?_) (fun _ => ?_)) <;> first | (exfalso; omega) | skip) | ((with_reducible refine w_add_NN ?_ ?_) ; omega))
    exact ih (k - 1) (by omega) (i + 2) _ _ _ _ (by omega) (by omega) H x5 hw5
  · have ei : i = n := by omega
    subst ei
    clear ih
    repeat' (first | (with_reducible refine w_jn ?_) | (with_reducible refine w_cndF ?_) | ((with_reducible refine w_lss_NN (fun _ => ?_) (fun _ => ?_)) <;> first | (exfalso; omega) | skip))
    refine w_name H (by omega) fun w1 t H1 hw1 g1 => ?_
    have x2 := x1.ext (u := w1) (by omega) g1
    clear H x1
    have H := H1.tail
    clear H1
    obtain ⟨s, e0, E, hs⟩ := x2
    obtain ⟨t7, inj⟩ := Tr7.of (ints_ns i 0) E
    have q : Sp h N0 s (nsK i 0) := ⟨hs, inj, ints_ns i 0, hhN⟩
    subst e0
    have cur := startCur H t7 q hids
    have wayOf : ∀ {dv D m u j}, j < i → Cur h s (nsK i 0) i i dv D m u → WayTo Rw (s 0) (nmV j) u := fun hj c => wayL rn fw (by omega) hj ⟨s, rfl, c.tr.emb q.is q.inj, q.lo⟩
    clear E t7 inj H
    have H := cur.H
    repeat' (first | ((with_reducible apply w_build) ; rfl; (try dsimp only [splice, ev, cellsL, rep, List.cons_append, List.nil_append])))
    refine w_doW ds (a := 0) (n := 0) (A := nmV d) (X := X) cur q (by omega) (wayOf k4 cur) (cur.H.ok _ (List.mem_of_getElem? (i := 8) rfl)) (fun i hi => Nat.lt_of_lt_of_le (hv1 i hi) hhN) ⟨_, _, rfl⟩ (fun i hi e => by cases e) (by omega) (by show 0 ≤ 4096; omega) (fun t ht i hi => Nat.lt_of_lt_of_le (hids t ht i hi) (by omega)) fun u5 dv5 cur5 g1 g2 => ?_
    rw [newD_first X] at cur5
    have hw5 : N0 ≤ u5.nx := by omega
    clear H cur
    have H := cur5.H
    repeat' (first | (with_reducible refine w_jn ?_))
    refine lp_ind (Good := fun k (self : L6) => ∀ (j : Nat) (y1 y2 y3 y4 y5 : Value) (w : Hs), j + k = i → Cur h s (nsK i 0) i i dv5 X [Th.rsl (.slice a1 X.length c1) 1 (ones (byteVs X))] w → N0 ≤ w.nx → WP (self (.int .i64 (.ofNat j)) y1 y2 y3 y4 y5 w) _) (fun k self ih j y1 y2 y3 y4 y5 w hj cur hw => ?_) N i (by omega) 0 _ _ _ _ _ _ (by omega) cur5 hw5
    clear H cur5
    have H := cur.H
    have fmD := cur.fm
    have hd := cur.hd
    by_cases jj : j < i
    · clear cur
      unfold tr6 at H
      dsimp only [List.cons_append, List.nil_append] at H
      repeat' (first | (with_reducible refine w_jn ?_) | (with_reducible refine w_cndT ?_) | ((with_reducible refine w_lss_NN (fun _ => ?_) (fun _ => ?_)) <;> first | (exfalso; omega) | skip))
      refine w_name H (by omega) fun w1 t H1 hw1 _ => ?_
      clear H
      have H := H1.tail
      clear H1
      repeat' (first | ((with_reducible apply w_build) ; rfl; (try dsimp only [splice, ev, cellsL, rep, List.cons_append, List.nil_append])))
      have t7 : Tr7 s (nsK i 0) i i dv5 _ := Tr7.at_ 1 H rfl
      refine w_call (ds.r (s 0) (s 4) 0 1000 (nmV j) dv5 (.map none) (.int .i64 (.ofNat 0)) (.int .i64 (.ofNat i)) X _ (Tr7.file t7 q ⟨H.ok _ (List.mem_of_getElem? (i := 0) rfl), fmD, fun a ha => Nat.lt_of_lt_of_le (hd a ha).1 (by omega)⟩ (fun a ha => ⟨Nat.lt_of_lt_of_le (hd a ha).1 (by omega), (hd a ha).2⟩)) (by omega) (wayL rn fw (by omega) jj ⟨s, rfl, t7.emb q.is q.inj, q.lo⟩)) fun v8 u8 hv => ?_
      obtain ⟨dv8, rfl, n8⟩ := hv
      obtain ⟨a8, c8, rfl⟩ := n8.2.1.form
      have hn8 := n8.1.1.1
      rw [rdD_all (by omega)] at n8 ⊢
      replace H := H.call n8
      clear n8 t7
      unfold resR
      repeat' (first | ((with_reducible refine w_alloc H ?_) ; (clear H; intro u H hu)) | ((with_reducible apply w_storeV 0 H) ; rfl; rfl; rfl; omega; rfl; (clear H; intro u H hu; (try dsimp only [List.set_cons_zero, List.set_cons_succ, cellsL, List.toList_toArray, splice, ev, rep, List.cons_append, List.nil_append] at H))))
      refine w_name H (by omega) fun w2 t2 H1 hw2 _ => ?_
      clear H
      have H := H1.tail
      clear H1
      repeat' (first | ((with_reducible apply w_build) ; rfl; (try dsimp only [splice, ev, cellsL, rep, List.cons_append, List.nil_append])))
      have hw3 : w.nx ≤ w2.nx := by omega
      have t7 : Tr7 s (nsK i 0) i i dv5 _ := Tr7.at_ 3 H rfl
      refine w_callE (ds.s (s 0) (s 4) i (nmV j) dv5 (.map none) (.int .i64 (.ofNat 0)) X _ (Tr7.file t7 q ⟨H.ok _ (List.mem_of_getElem? (i := 2) rfl), fmD, fun a ha => Nat.lt_of_lt_of_le (hd a ha).1 hw3⟩ (fun a ha => ⟨Nat.lt_of_lt_of_le (hd a ha).1 hw3, (hd a ha).2⟩)) (wayL rn fw (by omega) jj ⟨s, rfl, t7.emb q.is q.inj, q.lo⟩)) ?_
      clear t7
      unfold resS
      repeat' (first | (with_reducible refine w_fieldA ?_) | ((with_reducible refine w_alloc H ?_) ; (clear H; intro u H hu)) | ((with_reducible apply w_storeV 0 H) ; rfl; rfl; rfl; omega; rfl; (clear H; intro u H hu; (try dsimp only [List.set_cons_zero, List.set_cons_succ, cellsL, List.toList_toArray, splice, ev, rep, List.cons_append, List.nil_append] at H))) | ((with_reducible apply w_load 1 H) ; rfl; rfl; rfl))
      refine w_toStrO 2 H rfl ?_
      refine w_toStrR 11 H rfl ?_
      refine w_sneq rfl ?_
      repeat' (first | (with_reducible refine w_jn ?_) | (with_reducible refine w_cndF ?_) | (with_reducible refine w_gFf ?_) | (with_reducible refine w_pickF ?_) | (with_reducible refine w_fieldA ?_) | ((with_reducible refine w_neq_NN (fun _ => ?_) (fun _ => ?_)) <;> first | (exfalso; omega) | skip) | ((with_reducible refine w_add_NN ?_ ?_) ; omega) | ((with_reducible apply w_load 0 H) ; rfl; rfl; rfl))
      refine ih (k - 1) (by omega) (j + 1) _ _ _ _ _ _ (by omega) ⟨H.tail.tail.tail, fmD, fun a ha => ⟨Nat.lt_of_lt_of_le (hd a ha).1 (by omega), (hd a ha).2⟩⟩ (by omega)
    · have ej : j = i := by omega
      subst ej
      clear ih
      repeat' (first | (with_reducible refine w_jn ?_) | (with_reducible refine w_cndF ?_) | ((with_reducible refine w_lss_NN (fun _ => ?_) (fun _ => ?_)) <;> first | (exfalso; omega) | skip))
      have x0 : At N0 (s 0) (tF (nsK j 0) j (j - 0) dunno) w := ⟨s, rfl, cur.tr.emb q.is q.inj, q.lo⟩
      have H0 : Sto h [] w [Th.rsl (.slice a1 X.length c1) 1 (ones (byteVs X))] := cur.H.tail.tail.tail.tail.tail.tail.tail.tail
      clear H cur
      refine lp_ind (Good := fun k (self : L4) => ∀ (e : Nat) (y1 y2 y3 : Value) (w : Hs), e + k = j → Sto h [] w [Th.rsl (.slice a1 X.length c1) 1 (ones (byteVs X))] → (if e = j then At N0 (s 0) (tN 3 j) w else At N0 (s 0) (tF (nsK j e) j (j - e) dunno) w) → N0 ≤ w.nx → WP (self (.int .i64 (.ofNat e)) y1 y2 y3 w) _) (fun k self ih e y1 y2 y3 w he H xe hw => ?_) N j (by omega) 0 _ _ _ _ (by omega) H0 (by rw [if_neg (by omega)]; exact x0) hw
      clear H0 x0
      by_cases ee : e < j
      · rw [if_neg (by omega)] at xe
        repeat' (first | (with_reducible refine w_jn ?_) | (with_reducible refine w_cndT ?_) | ((with_reducible refine w_lss_NN (fun _ => ?_) (fun _ => ?_)) <;> first | (exfalso; omega) | skip))
        refine w_name H (by omega) fun w1 t H1 hw1 g1 => ?_
        have x2 := xe.ext (u := w1) (by omega) g1
        clear H
        have H := H1.tail
        clear H1
        repeat' (first | ((with_reducible apply w_build) ; rfl; (try dsimp only [splice, ev, cellsL, rep, List.cons_append, List.nil_append])))
        refine w_call (dropL_w rn fm (n := j) (j := e) (by omega) ee (by omega) x2) fun v5 u5 hv => ?_
        obtain ⟨rfl, x5, mv⟩ := hv
        replace H := H.mv mv hhN rfl hids
        have hw5 : N0 ≤ u5.nx := Nat.le_trans (by omega) mv.1
        unfold resO wI nilV
        repeat' (first | (with_reducible refine w_jn ?_) | (with_reducible refine w_cndF ?_) | ((with_reducible apply w_field) ; rfl) | ((with_reducible refine w_neq_NN (fun _ => ?_) (fun _ => ?_)) <;> first | (exfalso; omega) | skip) | ((with_reducible refine w_add_NN ?_ ?_) ; omega))
        exact ih (k - 1) (by omega) (e + 1) _ _ _ _ (by omega) H x5 hw5
      · have ej : e = j := by omega
        subst ej
        rw [if_pos rfl] at xe
        clear ih
        repeat' (first | (with_reducible refine w_jn ?_) | (with_reducible refine w_cndF ?_) | ((with_reducible refine w_lss_NN (fun _ => ?_) (fun _ => ?_)) <;> first | (exfalso; omega) | skip))
        refine w_call (newL_w rn fm) fun v6 u6 hv => ?_
        obtain ⟨p2, rfl, x6, sm⟩ := hv
        replace H := H.same sm
        skip
        refine w_call (sameL_w rn fm (by omega) (by omega) xe sm.1.1 sm.1.2 x6) fun v7 u7 hv => ?_
        obtain ⟨rfl, sm7⟩ := hv
        replace H := H.same sm7.same
        repeat' (first | (with_reducible refine w_gTt ?_) | ((with_reducible apply w_build) ; rfl; (try dsimp only [splice, ev, cellsL, rep, List.cons_append, List.nil_append])))
        refine w_callE (dg (s 0) (nmV 0) _ (fun u h1 h2 => goneL rn fw (by omega) (by omega) ((xe.ext sm.1.1 sm.1.2).ext (u := u) (by have := sm7.1; omega) (fun id hid => (h2 id (by have := sm7.1; omega)).trans (sm7.2.2 id hid))))) ?_
        unfold resE
        repeat' (first | (with_reducible refine w_gTt ?_) | (with_reducible refine w_pickT ?_) | ((with_reducible apply w_field) ; rfl) | ((with_reducible refine w_eql_NN (fun _ => ?_) (fun _ => ?_)) <;> first | (exfalso; omega) | skip))
        exact w_clr H rfl ⟨rfl, rfl⟩
end Go.Proofs.YtefdkblhnlkgaaaGreatDoor.treeLinks
