/- Contracts of functions, by the logic of residual programs. -/
import Derived.Test.YtadlfpgipdjegaaPoolBackTab
import Derived.Test.YtadlfpgipdjegaaGevHos
import Derived.Test.YtadlfpgipdjegaaGevFms
import Derived.Test.YtadlfpgipdjegaaGevAr2
namespace Go.Proofs.Ytadlfpgipdjegaa.poolBack
open Go Go.Gev
set_option linter.unusedVariables false
/-! ### the pool of a plain geometry of 80 blocks of which the first k data blocks are taken -/
def bw (k : Nat) : Nat := 604462909811712633864191 + (2 ^ k - 1) * 4398046511104
def bw0 (k : Nat) : Nat := Nat.mod (bw k) 18446744073709551616
def bw1 (k : Nat) : Nat := Nat.div (bw k) 18446744073709551616
def gN : List Value := [wI 80, wI 10, wI 1, wI 20]
def bR (r : Bool) (k : Nat) : SB := .row 68 1 r [wU (bw0 k), wU (bw1 k)]
def sP (b : Nat) : Value := .slice (some ⟨b, 0, none⟩) 2 2
def pT (k : Nat) : List SB := [.row 48 0 true [wI 80, wI 10, wI 1, wI 20, sP 1], bR true k]
def pG (k : Nat) : List SB := [.row 48 0 true [wI 80, wI 10, wI 1, wI 20, sP 2], .row 44 2 false [wI 42, wI k], bR true k]
def p0 : Value := .pointer (some ⟨0, 0, none⟩)
/-- the families of runs -/
def aFree (_ : Nat) : List Value := [p0]
def aTake (n : Int) : List Value := [p0, wI 0, .int .i64 n, wI 4]
def aGive (k : Nat) : List Value := match k with | 0 => [p0, .slice none 0 0] | _ => [p0, .slice (some ⟨1, 0, none⟩) 1 1]
def mGive (k : Nat) : List SB := match k with | 0 => pT 0 | k + 1 => pG (k + 1)
def aBits (_ : Unit) : List Value := [p0]
def aCount (_ : Unit) : List Value := [.agg #[sP 0]]
def aEmpty (_ : Unit) : List Value := [.agg #[wI 80, wI 10, wI 1, wI 20]]
def aNew (_ : Unit) : List Value := [.agg #[wI 80, wI 10, wI 1, wI 20], .agg #[sP 0]]
def aGroup (_ : Unit) : List Value := [p0, wI 0]
def KFree (R0 : List Value → Hs → An) : Runs0 := KI (fun k => k ≤ 37) aFree pT R0
def KTake (R0 : List Value → Hs → An) : Runs0 := KI (fun n : Int => n ≤ 37) aTake (fun _ => pT 0) R0
def KGive (R0 : List Value → Hs → An) : Runs0 := KI (fun k => k ≤ 37) aGive mGive R0
def KBits (R0 : List Value → Hs → An) : Runs0 := KI (fun _ => True) aBits (fun _ => pT 0) R0
def KCount (R0 : List Value → Hs → An) : Runs0 := KI (fun _ => True) aCount (fun _ => [bR false 0]) R0
def KEmpty (R0 : List Value → Hs → An) : Runs0 := KI (fun _ => True) aEmpty (fun _ => []) R0
def KNew (R0 : List Value → Hs → An) : Runs0 := KI (fun _ => True) aNew (fun _ => [bR false 0]) R0
def KGroup (R0 : List Value → Hs → An) : Runs0 := KI (fun _ => True) aGroup (fun _ => pT 0) R0
def KRows (R0 : List Value → Hs → An) : Runs0 := KI (fun _ => True) aBits (fun _ => pT 0) R0
/-! what they leave -/
noncomputable section
def qFree (k : Nat) (v : Value) (h : Hs) : Bool := andK (eqV v (wI (Nat.sub 37 k))) (andK (Nat.beq h.nx 2) (Nat.ble 2 h.lo))
def refB (h : Hs) (b i : Nat) : Nat := match h.hp.getK b with
  | some (.row c _ _ _ _ _) => match c.getK i with
    | some (.slice (some a) _ _) => a.block
    | _ => 0
  | _ => 0
def qTakeNo (v : Value) (h : Hs) : Bool := andK (eqV v (.tuple #[.slice none 0 0, wI 1])) (andK (Nat.beq h.nx 2) (Nat.ble 2 h.lo))
def qTake (k : Nat) (v : Value) (h : Hs) : Bool := match v with
  | .tuple vs => match vs.toList with
    | [.slice (some ⟨r, 0, none⟩) 1 c, .int .i64 (.ofNat 0)] => andK (Nat.ble 1 c) (embK [0, r, refB h 0 4] (pG k) h)
    | _ => false
  | _ => false
def qTake0 (v : Value) (h : Hs) : Bool := andK (eqV v (.tuple #[.slice none 0 0, wI 0])) (embK [0, refB h 0 4] (pT 0) h)
def qGive (v : Value) (h : Hs) : Bool := andK (eqV v (wI 0)) (embK [0, refB h 0 4] (pT 0) h)
def qBits (v : Value) (h : Hs) : Bool := match v with
  | .agg vs => match vs.toList with
    | [.slice (some ⟨b, 0, none⟩) 2 2] => andK (embK [b] [bR false 0] h) (Nat.ble 2 h.lo)
    | _ => false
  | _ => false
def qCount (v : Value) (h : Hs) : Bool := andK (eqV v (wI 43)) (andK (Nat.beq h.nx 1) (Nat.ble 1 h.lo))
def qEmpty (v : Value) (h : Hs) : Bool := match v with
  | .agg vs => match vs.toList with
    | [.slice (some ⟨b, 0, none⟩) 2 2] => embK [b] [bR false 0] h
    | _ => false
  | _ => false
def qNew (v : Value) (h : Hs) : Bool := match v with
  | .tuple vs => match vs.toList with
    | [.pointer (some ⟨p, 0, none⟩), .int .i64 (.ofNat 0)] => andK (embK [p, refB h p 4] (pT 0) h) (andK (Nat.ble 1 p) (andK (Nat.ble 1 (refB h p 4)) (Nat.ble 1 h.lo)))
    | _ => false
  | _ => false
def qGroup (v : Value) (h : Hs) : Bool := andK (eqV v (.tuple #[wI 42, wI 37])) (andK (Nat.beq h.nx 2) (Nat.ble 2 h.lo))
def qRows (v : Value) (h : Hs) : Bool := match v with
  | .slice (some ⟨r, 0, none⟩) 1 c => andK (andK (Nat.ble 1 c) (Nat.ble 2 r)) (andK (embK [r] [.row 44 2 true [wI 42, wI 37]] h) (Nat.ble 2 h.lo))
  | _ => false
end
theorem qTake_inv {k : Nat} {v : Value} {h : Hs} (hq : qTake k v h = true) : ∃ rb c, v = .tuple #[.slice (some ⟨rb, 0, none⟩) 1 c, .int .i64 (.ofNat 0)] ∧ Nat.ble 1 c = true ∧ embK [0, rb, refB h 0 4] (pG k) h = true := by
  unfold qTake at hq
  split at hq
  · rename_i vs
    split at hq
    · rename_i rb c hvs
      obtain ⟨a1, a2⟩ := andK_true hq
      exact ⟨rb, c, by congr 1; apply Array.ext'; exact hvs, a1, a2⟩
    · cases hq
  · cases hq
/-- all that is run -/
theorem qNew_inv {v : Value} {h : Hs} (hq : qNew v h = true) : ∃ p, v = .tuple #[.pointer (some ⟨p, 0, none⟩), .int .i64 (.ofNat 0)] ∧ embK [p, refB h p 4] (pT 0) h = true ∧ Nat.ble 1 p = true ∧ Nat.ble 1 (refB h p 4) = true ∧ Nat.ble 1 h.lo = true := by
  unfold qNew at hq
  split at hq
  · rename_i vs
    split at hq
    · rename_i p hvs
      obtain ⟨a1, a2⟩ := andK_true hq
      obtain ⟨a2, a3⟩ := andK_true a2
      obtain ⟨a3, a4⟩ := andK_true a3
      exact ⟨p, by congr 1; apply Array.ext'; exact hvs, a1, a2, a3, a4⟩
    · cases hq
  · cases hq
structure Rns (R0 : FuncId → List Value → Hs → An) : Prop where
  sub : ∀ k, k ≤ 37 → embK [0, 2] (pT k) (smallH (pG k)) = true
  free : ∀ k, k ≤ 37 → chkRun (R0 8) (aFree k) (pT k) (qFree k) = true
  neg : ∀ j, chkRun (R0 9) (aTake (.negSucc j)) (pT 0) qTakeNo = true
  take0 : chkRun (R0 9) (aTake (.ofNat 0)) (pT 0) qTake0 = true
  take : ∀ k, 1 ≤ k → k ≤ 37 → chkRun (R0 9) (aTake (.ofNat k)) (pT 0) (qTake k) = true
  give : ∀ k, k ≤ 37 → chkRun (R0 10) (aGive k) (mGive k) qGive = true
  bits : chkRun (R0 12) (aBits ()) (pT 0) qBits = true
  count : chkRun (R0 11) (aCount ()) [bR false 0] qCount = true
  empty : chkRun (R0 7) (aEmpty ()) [] qEmpty = true
  new : chkRun (R0 6) (aNew ()) [bR false 0] qNew = true
  group : chkRun (R0 19) (aGroup ()) (pT 0) qGroup = true
  rows : chkRun (R0 18) (aBits ()) (pT 0) qRows = true
/-- calls are answered so -/
def Ans (R : RnK) (f : FuncId) (K : Runs0) : Prop := ∀ a h o, fmG K a h = some o → R f a h = some o
structure Fms (R : RnK) (R0 : FuncId → List Value → Hs → An) : Prop where
  free : Ans R 8 (KFree (R0 8))
  take : Ans R 9 (KTake (R0 9))
  give : Ans R 10 (KGive (R0 10))
  bits : Ans R 12 (KBits (R0 12))
  count : Ans R 11 (KCount (R0 11))
  empty : Ans R 7 (KEmpty (R0 7))
  new : Ans R 6 (KNew (R0 6))
structure Fms2 (R : RnK) (R0 : FuncId → List Value → Hs → An) : Prop where
  group : Ans R 19 (KGroup (R0 19))
  rows : Ans R 18 (KRows (R0 18))
/-! ### where the pool stands -/
def PoolAt (N p k : Nat) (h : Hs) : Prop := ∃ s, s 0 = p ∧ Emb s (smallH (pT k)) h ∧ ∀ id, id < 2 → N ≤ s id
def GiveAt (N p : Nat) (r : Value) (k : Nat) (h : Hs) : Prop := (k = 0 ∧ r = .slice none 0 0 ∧ PoolAt N p 0 h) ∨ (1 ≤ k ∧ ∃ s c, s 0 = p ∧ r = .slice (some ⟨s 1, 0, none⟩) 1 c ∧ 1 ≤ c ∧ Emb s (smallH (pG k)) h ∧ ∀ id, id < 3 → N ≤ s id)
theorem PoolAt.of {N p k : Nat} {s : Nat → Nat} {h : Hs} (E : Emb s (smallH (pT k)) h) (e : s 0 = p) (hN : ∀ id, N ≤ s id) : PoolAt N p k h := ⟨s, e, E, fun id _ => hN id⟩
theorem GiveAt.of {N p k r c : Nat} {s : Nat → Nat} {h : Hs} (E : Emb s (smallH (pG k)) h) (e : s 0 = p) (e1 : s 1 = r) (h1 : 1 ≤ k) (hc : 1 ≤ c) (hN : ∀ id, N ≤ s id) : GiveAt N p (.slice (some ⟨r, 0, none⟩) 1 c) k h := .inr ⟨h1, s, c, e, by rw [e1], hc, E, fun id _ => hN id⟩
theorem PoolAt.ext {N p k : Nat} {h u : Hs} (x : PoolAt N p k h) (hn : h.nx ≤ u.nx) (hg : ∀ id, id < h.nx → u.hp.get id = h.hp.get id) : PoolAt N p k u := by
  obtain ⟨s, q1, q2, q3⟩ := x
  exact ⟨s, q1, q2.ext hn hg, q3⟩
theorem GiveAt.ext {N p k : Nat} {r : Value} {h u : Hs} (x : GiveAt N p r k h) (hn : h.nx ≤ u.nx) (hg : ∀ id, id < h.nx → u.hp.get id = h.hp.get id) : GiveAt N p r k u := by
  rcases x with ⟨a, b, c⟩ | ⟨a, s, c, q1, q2, q3, q4, q5⟩
  · exact .inl ⟨a, b, c.ext hn hg⟩
  · exact .inr ⟨a, s, c, q1, q2, q3, q4.ext hn hg, q5⟩
/-- the words of the pool at a place -/
theorem pT_words {k : Nat} {s : Nat → Nat} {h : Hs} (E : Emb s (smallH (pT k)) h) : ∃ c n e u r f c2 n2 e2 u2 r2 f2 cc, h.hp.get (s 0) = some (.row c n e u r f) ∧ c.get 4 = some (.slice (some ⟨s 1, 0, none⟩) 2 cc) ∧ h.hp.get (s 1) = some (.row c2 n2 e2 u2 r2 f2) ∧ c2.get 0 = some (wU (bw0 k)) ∧ c2.get 1 = some (wU (bw1 k)) := by
  obtain ⟨_, b, q1, q2⟩ := E.at_ 0 _ (by rw [smallH_get]; rfl)
  obtain ⟨_, b2, r1, r2⟩ := E.at_ 1 _ (by rw [smallH_get]; rfl)
  cases q2 with
  | row _ c _ n e u _ r _ f _ _ hc =>
    cases r2 with
    | row _ c2 _ n2 e2 u2 _ r2 _ f2 _ _ hc2 =>
      obtain ⟨x, x1, x2⟩ := hc 4 (sP 1) (by rw [get_ofList]; rfl)
      obtain ⟨y, y1, y2⟩ := hc2 0 (wU (bw0 k)) (by rw [get_ofList]; rfl)
      obtain ⟨z, z1, z2⟩ := hc2 1 (wU (bw1 k)) (by rw [get_ofList]; rfl)
      unfold sP at x2
      unfold wU at y2 z2
      cases x2 with
      | slice _ _ _ _ cc _ _ _ _ =>
        cases y2
        cases z2
        exact ⟨c, n, _, _, r, f, c2, n2, _, _, r2, f2, cc, q1, x1, r1, y1, z1⟩
theorem pT_uniq {k j : Nat} {s s2 : Nat → Nat} {h : Hs} (E : Emb s (smallH (pT k)) h) (E2 : Emb s2 (smallH (pT j)) h) (e : s 0 = s2 0) : pT j = pT k := by
  obtain ⟨c, n, e1, u, r, f, c2, n2, e2, u2, r2, f2, cc, a1, a2, a3, a4, a5⟩ := pT_words E
  obtain ⟨c', n', e1', u', r', f', c2', n2', e2', u2', r2', f2', cc', b1, b2, b3, b4, b5⟩ := pT_words E2
  rw [← e, a1] at b1
  injection b1 with b1; injection b1 with b1
  rw [← b1, a2] at b2
  injection b2 with b2; injection b2 with b2; injection b2 with b2; injection b2 with b2
  rw [← b2, a3] at b3
  injection b3 with b3; injection b3 with b3
  rw [← b3, a4] at b4
  rw [← b3, a5] at b5
  injection b4 with b4
  injection b5 with b5
  unfold pT bR
  rw [b4, b5]
theorem VWs.nil_inv {n : Nat} {s : Nat → Nat} {b : List Value} (w : VWs n s [] b) : b = [] := by cases w; rfl
theorem ptr_of {n : Nat} {s : Nat → Nat} {o p : Nat} {xs ys : List Value} (w : VWs n s (.pointer (some ⟨o, 0, none⟩) :: xs) (.pointer (some ⟨p, 0, none⟩) :: ys)) : s o = p := by
  cases w with
  | cons h t =>
    generalize e : Value.pointer (some ⟨p, 0, none⟩) = x at h
    cases h with
    | ptr _ _ _ => injection e with e; injection e with e; injection e with e; exact e.symm
theorem nextS_ge {s : Nat → Nat} {N n nx : Nat} (hN : ∀ id, id < n → N ≤ s id) (hx : N ≤ nx) (id : Nat) : N ≤ nextS s n nx id := by
  unfold nextS
  split
  · exact hN id ‹_›
  · omega
theorem free_w {R : RnK} {R0 : FuncId → List Value → Hs → An} (rn : Rns R0) (fm : Fms R R0) {N p k : Nat} {h : Hs} (hk : k ≤ 37) (x : PoolAt N p k h) :
    WP (R 8 [.pointer (some ⟨p, 0, none⟩)] h) fun v u => v = .int .i64 (.ofNat (37 - k)) ∧ Sm h u := by
  obtain ⟨s, rfl, E, hN⟩ := x
  obtain ⟨v0, h0', r, hq⟩ := chkRun_ok (rn.free k hk)
  unfold qFree at hq
  obtain ⟨a1, a2⟩ := andK_true hq
  obtain ⟨a2, a3⟩ := andK_true a2
  have e0 := eqV_eq a1
  subst e0
  refine (w_fm (fun o ho => fm.free _ _ o ho) k hk E (.cons (.ptr 0 0 (by show 0 < _; exact Nat.zero_lt_succ _)) .nil) rfl (fun j s2 hj E2 w2 => ⟨rfl, pT_uniq E E2 (ptr_of w2).symm⟩) r).mono fun v u ⟨g1, g2⟩ => ?_
  exact ⟨g1.int_inv, g2.sm (Nat.eq_of_beq_eq_true a2) (Nat.le_of_ble_eq_true a3)⟩
theorem take_uniq {n j : Int} {s s2 : Nat → Nat} {h : Hs} {p : Nat} {k1 k2 : Int} (E2 : Emb s2 (smallH (pT 0)) h) (w2 : VWs 2 s2 (aTake j) [.pointer (some ⟨p, 0, none⟩), .int .i64 k1, .int .i64 n, .int .i64 k2]) : aTake j = aTake n ∧ pT 0 = pT 0 := by
  refine ⟨?_, rfl⟩
  unfold aTake at w2 ⊢
  cases w2 with
  | cons _ t => cases t with
    | cons _ t => cases t with
      | cons h3 _ =>
        generalize e : Value.int .i64 n = x at h3
        cases h3
        rfl
theorem neg_w {R : RnK} {R0 : FuncId → List Value → Hs → An} (rn : Rns R0) (fm : Fms R R0) {N p j : Nat} {h : Hs} (x : PoolAt N p 0 h) :
    WP (R 9 [.pointer (some ⟨p, 0, none⟩), .int .i64 (.ofNat 0), .int .i64 (.negSucc j), .int .i64 (.ofNat 4)] h) fun v u => v = .tuple #[.slice none 0 0, .int .i64 (.ofNat 1)] ∧ Sm h u := by
  obtain ⟨s, rfl, E, hN⟩ := x
  obtain ⟨v0, h0', r, hq⟩ := chkRun_ok (rn.neg j)
  unfold qTakeNo at hq
  obtain ⟨a1, a2⟩ := andK_true hq
  obtain ⟨a2, a3⟩ := andK_true a2
  have e0 := eqV_eq a1
  subst e0
  refine (w_fm (fun o ho => fm.take _ _ o ho) (Int.negSucc j) (by omega) E (.cons (.ptr 0 0 (by show 0 < _; exact Nat.zero_lt_succ _)) (.cons (.int _ _) (.cons (.int _ _) (.cons (.int _ _) .nil)))) rfl (fun j s2 hj E2 w2 => take_uniq (s := s) E2 w2) r).mono fun v u ⟨g1, g2⟩ => ?_
  obtain ⟨y, z, rfl, y1, z1⟩ := g1.tup2_inv
  rw [y1.nilslice_inv, VW.int_inv (show VW _ _ _ (.int .i64 (.ofNat 1)) z from z1)]
  exact ⟨rfl, g2.sm (Nat.eq_of_beq_eq_true a2) (Nat.le_of_ble_eq_true a3)⟩
theorem take_w {R : RnK} {R0 : FuncId → List Value → Hs → An} (rn : Rns R0) (fm : Fms R R0) {N p k : Nat} {h : Hs} (hk : k ≤ 37) (hNh : N ≤ h.nx) (x : PoolAt N p 0 h) :
    WP (R 9 [.pointer (some ⟨p, 0, none⟩), .int .i64 (.ofNat 0), .int .i64 (.ofNat k), .int .i64 (.ofNat 4)] h) fun v u => ∃ r, v = .tuple #[r, .int .i64 (.ofNat 0)] ∧ GiveAt N p r k u ∧ PoolAt N p k u ∧ MvN N h u := by
  obtain ⟨s, rfl, E, hN⟩ := x
  have hN' : ∀ id, N ≤ nextS s 2 h.nx id := nextS_ge hN hNh
  have ar : VWs 2 s (aTake (.ofNat k)) [.pointer (some ⟨s 0, 0, none⟩), .int .i64 (.ofNat 0), .int .i64 (.ofNat k), .int .i64 (.ofNat 4)] := .cons (.ptr 0 0 (by show 0 < _; exact Nat.zero_lt_succ _)) (.cons (.int _ _) (.cons (.int _ _) (.cons (.int _ _) .nil)))
  have e00 : nextS s 2 h.nx 0 = s 0 := rfl
  by_cases k0 : k = 0
  · subst k0
    obtain ⟨v0, h0', r, hq⟩ := chkRun_ok rn.take0
    unfold qTake0 at hq
    obtain ⟨a1, a2⟩ := andK_true hq
    have e0 := eqV_eq a1
    subst e0
    refine (w_fm (fun o ho => fm.take _ _ o ho) (Int.ofNat 0) (by decide) E ar rfl (fun j s2 hj E2 w2 => take_uniq (s := s) E2 w2) r).mono fun v u ⟨g1, g2⟩ => ?_
    obtain ⟨y, z, rfl, y1, z1⟩ := g1.tup2_inv
    rw [y1.nilslice_inv, VW.int_inv (show VW _ _ _ (.int .i64 (.ofNat 0)) z from z1)]
    have E' := g2.emb E r.nx (embK_ok a2) (holdK_ok r.hold)
    have P' : PoolAt N (s 0) 0 u := .of E' rfl fun id => hN' _
    exact ⟨_, rfl, .inl ⟨rfl, rfl, P'⟩, P', g2.mv hN hNh⟩
  · obtain ⟨v0, h0', r, hq⟩ := chkRun_ok (rn.take k (by omega) hk)
    obtain ⟨rb, c, rfl, a1, a2⟩ := qTake_inv hq
    refine (w_fm (fun o ho => fm.take _ _ o ho) (Int.ofNat k) (by have : (Int.ofNat k) = (k : Int) := rfl; show Int.ofNat k ≤ 37; omega) E ar rfl (fun j s2 hj E2 w2 => take_uniq (s := s) E2 w2) r).mono fun v u ⟨g1, g2⟩ => ?_
    obtain ⟨y, z, rfl, y1, z1⟩ := g1.tup2_inv
    obtain ⟨ys, _, _⟩ := y1.slice_inv
    rw [z1.int_inv, ys]
    have C := embK_ok a2
    have E' := g2.emb E r.nx C (holdK_ok r.hold)
    have sub : Emb (nthM [0, 2]) (smallH (pT k)) (smallH (pG k)) := embK_ok (rn.sub k hk)
    exact ⟨_, rfl, .of E' rfl rfl (by omega) (Nat.le_of_ble_eq_true a1) (fun id => hN' _), .of (sub.trans E') rfl (fun id => hN' _), g2.mv hN hNh⟩
theorem give_w {R : RnK} {R0 : FuncId → List Value → Hs → An} (rn : Rns R0) (fm : Fms R R0) {N p k : Nat} {r : Value} {h : Hs} (hk : k ≤ 37) (hNh : N ≤ h.nx) (x : GiveAt N p r k h) :
    WP (R 10 [.pointer (some ⟨p, 0, none⟩), r] h) fun v u => v = .int .i64 (.ofNat 0) ∧ PoolAt N p 0 u ∧ MvN N h u := by
  obtain ⟨v0, h0', rr, hq⟩ := chkRun_ok (rn.give k hk)
  unfold qGive at hq
  obtain ⟨a1, a2⟩ := andK_true hq
  have e0 := eqV_eq a1
  subst e0
  have C := embK_ok a2
  rcases x with ⟨rfl, rfl, s, rfl, E, hN⟩ | ⟨h1, s, c, rfl, rfl, hc, E, hN⟩
  · refine (w_fm (fun o ho => fm.give _ _ o ho) 0 hk E (.cons (.ptr 0 0 (by show 0 < _; exact Nat.zero_lt_succ _)) (.cons .nilslice .nil)) rfl (fun j s2 hj E2 w2 => ?_) rr).mono fun v u ⟨g1, g2⟩ => ?_
    · cases j with
      | zero => exact ⟨rfl, rfl⟩
      | succ j =>
        exfalso
        have w2 : VWs 3 s2 [p0, .slice (some ⟨1, 0, none⟩) 1 1] [.pointer (some ⟨s 0, 0, none⟩), .slice none 0 0] := w2
        cases w2 with
        | cons _ t => cases t with
          | cons h _ => cases h
    · exact ⟨VW.int_inv (show VW _ _ _ (.int .i64 (.ofNat 0)) v from g1), .of (g2.emb E rr.nx C (holdK_ok rr.hold)) rfl (fun id => nextS_ge hN hNh _), g2.mv hN hNh⟩
  · cases k with
    | zero => omega
    | succ k =>
    refine (w_fm (fun o ho => fm.give _ _ o ho) (k + 1) hk E (.cons (.ptr 0 0 (by show 0 < _; exact Nat.zero_lt_succ _)) (.cons (.slice 1 0 1 1 c (by show 1 < 3; decide) (Nat.le_refl _) hc (.inl rfl)) .nil)) rfl (fun j s2 hj E2 w2 => ?_) rr).mono fun v u ⟨g1, g2⟩ => ?_
    · cases j with
      | zero =>
        exfalso
        have w2 : VWs 2 s2 [p0, .slice none 0 0] [.pointer (some ⟨s 0, 0, none⟩), .slice (some ⟨s 1, 0, none⟩) 1 c] := w2
        cases w2 with
        | cons _ t => cases t with
          | cons h _ => cases h
      | succ j =>
        refine ⟨rfl, ?_⟩
        have E2 : Emb s2 (smallH (pG (j + 1))) h := E2
        have E : Emb s (smallH (pG (k + 1))) h := E
        have q := pT_uniq ((embK_ok (rn.sub (k + 1) hk)).trans E) ((embK_ok (rn.sub (j + 1) hj)).trans E2) (ptr_of w2).symm
        unfold pT at q
        injection q with _ q; injection q with q
        show pG (j + 1) = pG (k + 1)
        unfold pG
        have w2 : VWs 3 s2 [p0, .slice (some ⟨1, 0, none⟩) 1 1] [.pointer (some ⟨s 0, 0, none⟩), .slice (some ⟨s 1, 0, none⟩) 1 c] := w2
        have e1 : s 1 = s2 1 := by
          cases w2 with
          | cons _ t => cases t with
            | cons h _ =>
              generalize e : Value.slice (some ⟨s 1, 0, none⟩) 1 c = x at h
              cases h with
              | slice _ _ _ _ _ _ _ _ _ => injection e with e _ _; injection e with e; injection e
        have e2 : wI (j + 1) = wI (k + 1) := by
          obtain ⟨_, b, q1, q2⟩ := E.at_ 1 _ (by rw [smallH_get]; rfl)
          obtain ⟨_, b2, r1, r2⟩ := E2.at_ 1 _ (by rw [smallH_get]; rfl)
          rw [← e1, q1] at r1
          injection r1 with r1; subst r1
          cases q2 with
          | row _ cc _ n e u _ r _ f _ _ hc =>
            cases r2 with
            | row _ _ _ _ _ _ _ _ _ _ _ _ hc2 =>
              obtain ⟨x, x1, x2⟩ := hc 1 (wI (k + 1)) (by rw [get_ofList]; rfl)
              obtain ⟨y, y1, y2⟩ := hc2 1 (wI (j + 1)) (by rw [get_ofList]; rfl)
              rw [x1] at y1; injection y1 with y1; subst y1
              unfold wI at x2 y2 ⊢
              cases x2
              generalize e : Value.int .i64 (.ofNat (k + 1)) = z at y2
              cases y2
              first | rfl | exact e.symm
        rw [q, e2]
    · exact ⟨VW.int_inv (show VW _ _ _ (.int .i64 (.ofNat 0)) v from g1), .of (g2.emb E rr.nx C (holdK_ok rr.hold)) rfl (fun id => nextS_ge hN hNh _), g2.mv hN hNh⟩
/-! ### further families: Total and the sort of one row -/
def oneR (k : Nat) : SB := .row 44 2 false [wI 42, wI k]
def aOne (_ : Unit) : List Value := [.slice (some ⟨0, 0, none⟩) 1 1]
def aSort (_ : Unit) : List Value := [.slice (some ⟨0, 0, none⟩) 1 1, dunno]
def KTotal (R0 : List Value → Hs → An) : Runs0 := KI (fun _ => True) aOne (fun _ => [oneR 37]) R0
def KSort (R0 : List Value → Hs → An) : Runs0 := KI (fun _ => True) aSort (fun _ => [oneR 37]) R0
noncomputable section
def qTotal (v : Value) (h : Hs) : Bool := andK (eqV v (wI 37)) (andK (Nat.beq h.nx 1) (Nat.ble 1 h.lo))
def qSort (v : Value) (h : Hs) : Bool := andK (Nat.beq h.nx 1) (Nat.ble 1 h.lo)
end
structure Rns2 (R0 : FuncId → List Value → Hs → An) : Prop where
  total : chkRun (R0 17) (aOne ()) [oneR 37] qTotal = true
  sort : chkRun (R0 21) (aSort ()) [oneR 37] qSort = true
structure Fms3 (R : RnK) (R0 : FuncId → List Value → Hs → An) : Prop where
  total : Ans R 17 (KTotal (R0 17))
  sort : Ans R 21 (KSort (R0 21))
/-- a row of one run at a place -/
def OneAt (v : Value) (k : Nat) (h : Hs) : Prop := ∃ s c, v = .slice (some ⟨s 0, 0, none⟩) 1 c ∧ 1 ≤ c ∧ Emb s (smallH [oneR k]) h
theorem OneAt.ext {v : Value} {k : Nat} {h u : Hs} (x : OneAt v k h) (hn : h.nx ≤ u.nx) (hg : ∀ id, id < h.nx → u.hp.get id = h.hp.get id) : OneAt v k u := by
  obtain ⟨s, c, a, b, q⟩ := x
  exact ⟨s, c, a, b, q.ext hn hg⟩
/-- bits at a place -/
def BitsAt (v : Value) (h : Hs) : Prop := ∃ s c, v = .slice (some ⟨s 0, 0, none⟩) 2 c ∧ 2 ≤ c ∧ Emb s (smallH [bR false 0]) h
theorem BitsAt.ext {v : Value} {h u : Hs} (x : BitsAt v h) (hn : h.nx ≤ u.nx) (hg : ∀ id, id < h.nx → u.hp.get id = h.hp.get id) : BitsAt v u := by
  obtain ⟨s, c, a, b, q⟩ := x
  exact ⟨s, c, a, b, q.ext hn hg⟩
section
variable {R : RnK} {R0 : FuncId → List Value → Hs → An} {N p k : Nat} {h : Hs}
theorem group_w (rn : Rns R0) (fm : Fms2 R R0) (x : PoolAt N p 0 h) :
    WP (R 19 [.pointer (some ⟨p, 0, none⟩), .int .i64 (.ofNat 0)] h) fun v u => v = .tuple #[.int .i64 (.ofNat 42), .int .i64 (.ofNat 37)] ∧ Sm h u := by
  obtain ⟨s, rfl, E, hN⟩ := x
  obtain ⟨v0, h0', r, hq⟩ := chkRun_ok rn.group
  unfold qGroup at hq
  obtain ⟨a1, a2⟩ := andK_true hq
  obtain ⟨a2, a3⟩ := andK_true a2
  have e0 := eqV_eq a1
  subst e0
  refine (w_fm (fun o ho => fm.group _ _ o ho) () trivial E (.cons (.ptr 0 0 (by show 0 < _; exact Nat.zero_lt_succ _)) (.cons (.int _ _) .nil)) rfl (fun j s2 hj E2 w2 => ⟨rfl, rfl⟩) r).mono fun v u ⟨g1, g2⟩ => ?_
  obtain ⟨y, z, rfl, y1, z1⟩ := g1.tup2_inv
  rw [VW.int_inv (show VW _ _ _ (.int .i64 (.ofNat 42)) y from y1), VW.int_inv (show VW _ _ _ (.int .i64 (.ofNat 37)) z from z1)]
  exact ⟨rfl, g2.sm (Nat.eq_of_beq_eq_true a2) (Nat.le_of_ble_eq_true a3)⟩
theorem rows_w (rn : Rns R0) (fm : Fms2 R R0) (x : PoolAt N p 0 h) :
    WP (R 18 [.pointer (some ⟨p, 0, none⟩)] h) fun v u => New h u (.osl v 44 2 false 1 [.int .i64 (.ofNat 42), .int .i64 (.ofNat 37)]) := by
  obtain ⟨s, rfl, E, hN⟩ := x
  obtain ⟨v0, h0', r, hq⟩ := chkRun_ok rn.rows
  unfold qRows at hq
  split at hq
  · rename_i rb c
    obtain ⟨a1, a2⟩ := andK_true hq
    obtain ⟨a1, a4⟩ := andK_true a1
    obtain ⟨a2, a3⟩ := andK_true a2
    refine (w_fm (fun o ho => fm.rows _ _ o ho) () trivial E (.cons (.ptr 0 0 (by show 0 < _; exact Nat.zero_lt_succ _)) .nil) rfl (fun j s2 hj E2 w2 => ⟨rfl, rfl⟩) r).mono fun v u ⟨g1, g2⟩ => ?_
    obtain ⟨ys, hlt, _⟩ := g1.slice_inv
    have E' := g2.emb E r.nx (embK_ok a2) (holdK_ok r.hold)
    have h1 := Nat.le_of_ble_eq_true a1
    have h4 := Nat.le_of_ble_eq_true a4
    have e2 : nextS s 2 h.nx rb = h.nx + (rb - 2) := by unfold nextS; rw [if_neg (by omega)]
    refine ⟨g2.same (Nat.le_of_ble_eq_true a3), ?_, fun b hb => ?_⟩
    · obtain ⟨_, b, q1, q2⟩ := E'.at_ 0 _ (by rw [smallH_get]; rfl)
      cases q2 with
      | row _ cs _ sz _ _ _ rw_ _ f hrw _ hc =>
        obtain ⟨r1, r2, _⟩ := hrw rfl
        subst r1
        refine ⟨rfl, .inr ⟨_, c, cs, sz, f, ys, h1, q1, (fun h => by cases h), Nat.le_of_eq r2, fun i hi => ?_⟩⟩
        have hi : i < 2 := hi
        match i, hi with
        | 0, _ =>
          obtain ⟨x, x1, x2⟩ := hc 0 (wI 42) (by rw [get_ofList]; rfl)
          unfold wI at x2
          cases x2
          exact x1
        | 1, _ =>
          obtain ⟨x, x1, x2⟩ := hc 1 (wI 37) (by rw [get_ofList]; rfl)
          unfold wI at x2
          cases x2
          exact x1
    · have hn := g2.nx
      have el : (smallH (pT 0)).nx = 2 := rfl
      rw [ys] at hb
      have e : nextS s 2 h.nx rb = b := by injection hb
      rw [el] at hn
      omega
  · cases hq
theorem OneAt.of_own {v : Value} {fl : Bool} {k : Nat} (o : OwnSl h v 44 2 fl 1 [.int .i64 (.ofNat 42), .int .i64 (.ofNat k)]) (hb : ∀ b, vId v = some b → b < h.nx) : OneAt v k h := by
  obtain ⟨_, ⟨rfl, e⟩ | ⟨id, c, cs, sz, f, rfl, a0, a, b, d, g⟩⟩ := o
  · cases e
  · refine ⟨fun _ => id, c, rfl, a0, fun i b0 g0 => ?_, fun i _ => hb id rfl, fun i i' b b' g1 g2 _ hne => ?_⟩
    · have hi := smallH_lt g0
      have hi : i < 1 := hi
      have : i = 0 := by omega
      subst this
      rw [smallH_get] at g0
      injection g0 with g0
      subst g0
      refine ⟨Nat.zero_lt_one, _, a, .row _ _ _ _ _ _ _ _ _ _ (fun h => by cases h) (fun h => by cases h) fun j v0 hv => ?_⟩
      rw [get_ofList] at hv
      have hj : j < 2 := (List.getElem?_eq_some_iff.1 hv).1
      match j, hj with
      | 0, _ =>
        have : wI 42 = v0 := by simpa using hv
        subst this
        exact ⟨_, g 0 (by show 0 < 2; decide), .int _ _⟩
      | 1, _ =>
        have : wI k = v0 := by simpa using hv
        subst this
        exact ⟨_, g 1 (by show 1 < 2; decide), .int _ _⟩
    · have h1 := smallH_lt g1
      have h2 := smallH_lt g2
      have h1 : i < 1 := h1
      have h2 : i' < 1 := h2
      omega
theorem total_w (rn : Rns2 R0) (fm : Fms3 R R0) {v : Value} (x : OneAt v 37 h) :
    WP (R 17 [v] h) fun v u => v = .int .i64 (.ofNat 37) ∧ Sm h u := by
  obtain ⟨s, c, rfl, hc, E⟩ := x
  obtain ⟨v0, h0', r, hq⟩ := chkRun_ok rn.total
  unfold qTotal at hq
  obtain ⟨a1, a2⟩ := andK_true hq
  obtain ⟨a2, a3⟩ := andK_true a2
  have e0 := eqV_eq a1
  subst e0
  refine (w_fm (fun o ho => fm.total _ _ o ho) () trivial E (.cons (.slice 0 0 1 1 c (by show 0 < _; exact Nat.zero_lt_succ _) (Nat.le_refl _) hc (.inl rfl)) .nil) rfl (fun j s2 hj E2 w2 => ⟨rfl, rfl⟩) r).mono fun v u ⟨g1, g2⟩ => ?_
  exact ⟨VW.int_inv (show VW _ _ _ (.int .i64 (.ofNat 37)) v from g1), g2.sm (Nat.eq_of_beq_eq_true a2) (Nat.le_of_ble_eq_true a3)⟩
theorem sort_w (rn : Rns2 R0) (fm : Fms3 R R0) {v f : Value} (x : OneAt v 37 h) :
    WP (R 21 [v, f] h) fun v u => Sm h u := by
  obtain ⟨s, c, rfl, hc, E⟩ := x
  obtain ⟨v0, h0', r, hq⟩ := chkRun_ok rn.sort
  unfold qSort at hq
  obtain ⟨a2, a3⟩ := andK_true hq
  refine (w_fm (fun o ho => fm.sort _ _ o ho) () trivial E (.cons (.slice 0 0 1 1 c (by show 0 < _; exact Nat.zero_lt_succ _) (Nat.le_refl _) hc (.inl rfl)) (.cons (.dunno _ (.inl rfl)) .nil)) rfl (fun j s2 hj E2 w2 => ⟨rfl, rfl⟩) r).mono fun v u ⟨g1, g2⟩ => ?_
  exact g2.sm (Nat.eq_of_beq_eq_true a2) (Nat.le_of_ble_eq_true a3)
theorem bits_w (rn : Rns R0) (fm : Fms R R0) (x : PoolAt N p 0 h) :
    WP (R 12 [.pointer (some ⟨p, 0, none⟩)] h) fun v u => ∃ b, v = .agg #[b] ∧ BitsAt b u ∧ Same h u := by
  obtain ⟨s, rfl, E, hN⟩ := x
  obtain ⟨v0, h0', r, hq⟩ := chkRun_ok rn.bits
  unfold qBits at hq
  split at hq
  · rename_i vs
    split at hq
    · rename_i rb hvs
      obtain ⟨a2, a3⟩ := andK_true hq
      have hv : vs = #[.slice (some ⟨rb, 0, none⟩) 2 2] := by apply Array.ext'; exact hvs
      subst hv
      clear hq
      refine (w_fm (fun o ho => fm.bits _ _ o ho) () trivial E (.cons (.ptr 0 0 (by show 0 < _; exact Nat.zero_lt_succ _)) .nil) rfl (fun j s2 hj E2 w2 => ⟨rfl, rfl⟩) r).mono fun v u ⟨g1, g2⟩ => ?_
      obtain ⟨y, rfl, y1⟩ := g1.agg1_inv
      obtain ⟨ys, _, _⟩ := y1.slice_inv
      have E' := g2.emb E r.nx (embK_ok a2) (holdK_ok r.hold)
      exact ⟨y, rfl, ⟨_, 2, ys, Nat.le_refl _, E'⟩, g2.same (Nat.le_of_ble_eq_true a3)⟩
    · cases hq
  · cases hq
theorem count_w (rn : Rns R0) (fm : Fms R R0) {b : Value} (x : BitsAt b h) :
    WP (R 11 [.agg #[b]] h) fun v u => v = .int .i64 (.ofNat 43) ∧ Sm h u := by
  obtain ⟨s, c, rfl, hc, E⟩ := x
  obtain ⟨v0, h0', r, hq⟩ := chkRun_ok rn.count
  unfold qCount at hq
  obtain ⟨a1, a2⟩ := andK_true hq
  obtain ⟨a2, a3⟩ := andK_true a2
  have e0 := eqV_eq a1
  subst e0
  have ar : VWs 1 s (aCount ()) [.agg #[.slice (some ⟨s 0, 0, none⟩) 2 c]] := .cons (VWl.agg (.cons (.slice 0 0 2 2 c (by decide) (Nat.le_refl _) hc (.inl rfl)) .nil)) .nil
  refine (w_fm (fun o ho => fm.count _ _ o ho) () trivial E ar rfl (fun j s2 hj E2 w2 => ⟨rfl, rfl⟩) r).mono fun v u ⟨g1, g2⟩ => ?_
  exact ⟨VW.int_inv (show VW _ _ _ (.int .i64 (.ofNat 43)) v from g1), g2.sm (Nat.eq_of_beq_eq_true a2) (Nat.le_of_ble_eq_true a3)⟩
theorem empty_w (rn : Rns R0) (fm : Fms R R0) :
    WP (R 7 [.agg #[.int .i64 (.ofNat 80), .int .i64 (.ofNat 10), .int .i64 (.ofNat 1), .int .i64 (.ofNat 20)]] h) fun v u => ∃ b, v = .agg #[b] ∧ BitsAt b u ∧ Same h u := by
  obtain ⟨v0, h0', r, hq⟩ := chkRun_ok rn.empty
  have E : Emb id (smallH []) h := ⟨fun i b g => by have := smallH_lt g; simp at this, fun i hi => by have hi : i < 0 := hi; omega, fun i i' b b' g => by have := smallH_lt g; simp at this⟩
  unfold qEmpty at hq
  split at hq
  · rename_i vs
    split at hq
    · rename_i rb hvs
      have hv : vs = #[.slice (some ⟨rb, 0, none⟩) 2 2] := by apply Array.ext'; exact hvs
      subst hv
      have ar : VWs 0 id (aEmpty ()) [.agg #[.int .i64 (.ofNat 80), .int .i64 (.ofNat 10), .int .i64 (.ofNat 1), .int .i64 (.ofNat 20)]] := .cons (VWl.agg (.cons (.int _ _) (.cons (.int _ _) (.cons (.int _ _) (.cons (.int _ _) .nil))))) .nil
      refine (w_fm (fun o ho => fm.empty _ _ o ho) () trivial E ar rfl (fun j s2 hj E2 w2 => ⟨rfl, rfl⟩) r).mono fun v u ⟨g1, g2⟩ => ?_
      obtain ⟨y, rfl, y1⟩ := g1.agg1_inv
      obtain ⟨ys, _, _⟩ := y1.slice_inv
      have E' := g2.emb E r.nx (embK_ok hq) (holdK_ok r.hold)
      exact ⟨y, rfl, ⟨_, 2, ys, Nat.le_refl _, E'⟩, g2.same (Nat.zero_le _)⟩
    · cases hq
  · cases hq
theorem new_w (rn : Rns R0) (fm : Fms R R0) {b : Value} (x : BitsAt b h) :
    WP (R 6 [.agg #[.int .i64 (.ofNat 80), .int .i64 (.ofNat 10), .int .i64 (.ofNat 1), .int .i64 (.ofNat 20)], .agg #[b]] h) fun v u => ∃ p, v = .tuple #[.pointer (some ⟨p, 0, none⟩), .int .i64 (.ofNat 0)] ∧ PoolAt h.nx p 0 u ∧ Same h u := by
  obtain ⟨s, c, rfl, hc, E⟩ := x
  obtain ⟨v0, h0', r, hq⟩ := chkRun_ok rn.new
  obtain ⟨pb, rfl, a1, a2, a3, a4⟩ := qNew_inv hq
  have ar : VWs 1 s (aNew ()) [.agg #[.int .i64 (.ofNat 80), .int .i64 (.ofNat 10), .int .i64 (.ofNat 1), .int .i64 (.ofNat 20)], .agg #[.slice (some ⟨s 0, 0, none⟩) 2 c]] := .cons (VWl.agg (.cons (.int _ _) (.cons (.int _ _) (.cons (.int _ _) (.cons (.int _ _) .nil))))) (.cons (VWl.agg (.cons (.slice 0 0 2 2 c (by decide) (Nat.le_refl _) hc (.inl rfl)) .nil)) .nil)
  refine (w_fm (fun o ho => fm.new _ _ o ho) () trivial E ar rfl (fun j s2 hj E2 w2 => ⟨rfl, rfl⟩) r).mono fun v u ⟨g1, g2⟩ => ?_
  obtain ⟨y, z, rfl, y1, z1⟩ := g1.tup2_inv
  obtain ⟨yp, _⟩ := y1.ptr_inv
  rw [VW.int_inv (show VW _ _ _ (.int .i64 (.ofNat 0)) z from z1), yp]
  have E' := g2.emb E r.nx (embK_ok a1) (holdK_ok r.hold)
  refine ⟨_, rfl, ⟨_, rfl, E', fun id hid => ?_⟩, g2.same (Nat.le_of_ble_eq_true a4)⟩
  have g1 := Nat.le_of_ble_eq_true a2
  have g2 := Nat.le_of_ble_eq_true a3
  show h.nx ≤ nextS s 1 h.nx (nthM [pb, refB h0' pb 4] id)
  unfold nextS
  have : ¬ nthM [pb, refB h0' pb 4] id < 1 := by
    match id, hid with
    | 0, _ => show ¬ pb < 1; omega
    | 1, _ => show ¬ refB h0' pb 4 < 1; omega
  rw [if_neg this]; omega
end
def CPlain80 (R : RnK) : Prop := ∀ (h : Hs), R 5 [.int .i64 (.ofNat 80)] h = some (.val (.agg #[.int .i64 (.ofNat 80), .int .i64 (.ofNat 10), .int .i64 (.ofNat 1), .int .i64 (.ofNat 20)]) h)
theorem plain80_ok {R : RnK} {N : Nat} {h : Hs} : r5 R N [.int .i64 (.ofNat 80)] h = some (.val (.agg #[.int .i64 (.ofNat 80), .int .i64 (.ofNat 10), .int .i64 (.ofNat 1), .int .i64 (.ofNat 20)]) h) := by
  refine WP.eqn ?_
  unfold r5
  have H := Sto.enter h
  repeat' (first | (with_reducible refine w_unC ?_) | (with_reducible refine w_enK ?_) | ((with_reducible apply w_build) ; rfl; (try dsimp only [splice, ev, cellsL, rep, List.cons_append, List.nil_append])) | ((with_reducible refine w_alloc H ?_) ; (clear H; intro u H hu)) | ((with_reducible apply w_storeV 0 H) ; rfl; rfl; rfl; omega; rfl; (clear H; intro u H hu; (try dsimp only [List.set_cons_zero, List.set_cons_succ, cellsL, List.toList_toArray, splice, ev, rep, List.cons_append, List.nil_append] at H))) | ((with_reducible apply w_retC 0 H) ; rfl; rfl; rfl))
  exact w_clr H rfl ⟨rfl, rfl⟩
/-- what 'enough' says where the one row is not enough -/
def CEnough (R : RnK) : Prop := ∀ (v : Value) (n : Nat) (h : Hs), 37 < n → n ≤ 9223372036854775807 → Rd h v 2 [[.int .i64 (.ofNat 42), .int .i64 (.ofNat 37)]] → WP (R 24 [v, .int .i64 (.ofNat n)] h) fun v u => New h u (.osl v 44 2 true 1 [.int .i64 (.ofNat 42), .int .i64 (.ofNat 37)])
theorem enough_ok {R : RnK} {N : Nat} (hN : 10 < N) {v : Value} {n : Nat} {h : Hs} (hn : 37 < n) (hm : n ≤ 9223372036854775807) (r : Rd h v 2 [[.int .i64 (.ofNat 42), .int .i64 (.ofNat 37)]]) :
    WP (r24 R N [v, .int .i64 (.ofNat n)] h) fun v u => New h u (.osl v 44 2 true 1 [.int .i64 (.ofNat 42), .int .i64 (.ofNat 37)]) := by
  unfold r24
  obtain ⟨m, rfl⟩ : ∃ m, N = m + 1 + 1 := ⟨N - 2, by omega⟩
  have H := (Sto.enter1 r).nilS 44 2
  obtain ⟨a, c, rfl⟩ := r.1.formN (n := 1) rfl
  repeat' (first | (with_reducible refine w_jn ?_) | (with_reducible refine w_unC ?_) | (with_reducible refine w_enK ?_) | (with_reducible refine w_lenV ?_))
  rw [lpT_succ]
  repeat' (first | (with_reducible refine w_jn ?_) | (with_reducible refine w_cndT ?_) | (with_reducible refine w_cndF ?_) | (with_reducible refine w_fieldA ?_) | (with_reducible refine w_min_NN ?_) | ((with_reducible refine w_alloc H ?_) ; (clear H; intro u H hu)) | ((with_reducible apply w_mkrow H) ; rfl; (clear H; intro u H hu; (try dsimp only [List.set_cons_zero, List.set_cons_succ, cellsL, List.toList_toArray, splice, ev, rep, List.cons_append, List.nil_append] at H))) | ((with_reducible refine w_lss_NN (fun _ => ?_) (fun _ => ?_)) <;> first | (exfalso; omega) | skip) | ((with_reducible refine w_eql_NN (fun _ => ?_) (fun _ => ?_)) <;> first | (exfalso; omega) | skip) | ((with_reducible refine w_sub_NN ?_ ?_ ?_) ; omega; omega) | ((with_reducible apply w_load 0 H) ; rfl; rfl; rfl) | ((with_reducible apply w_store1 0 H) ; rfl; (simp only [List.length_cons, List.length_nil]; omega); rfl; (clear H; intro u H hu; (try dsimp only [List.set_cons_zero, List.set_cons_succ, cellsL, List.toList_toArray, splice, ev, rep, List.cons_append, List.nil_append] at H))) | ((with_reducible apply w_storeV 0 H) ; rfl; rfl; rfl; omega; rfl; (clear H; intro u H hu; (try dsimp only [List.set_cons_zero, List.set_cons_succ, cellsL, List.toList_toArray, splice, ev, rep, List.cons_append, List.nil_append] at H))) | ((with_reducible apply w_loadsF 0 H) ; rfl; rfl; rfl) | ((with_reducible apply w_at 1 H) ; rfl; rfl; rfl; rfl))
  have e37 : min 37 n = 37 := by omega
  rw [e37] at H ⊢
  refine w_appendB 2 0 H rfl rfl rfl rfl (by omega) (by omega) fun v' u' H' hn => ?_
  clear H; have H := H'; clear H'
  dsimp only [List.set_cons_zero, List.set_cons_succ, List.nil_append] at H
  repeat' (first | ((with_reducible refine w_add_NN ?_ ?_) ; omega))
  rw [lpT_succ]
  repeat' (first | (with_reducible refine w_jn ?_) | (with_reducible refine w_cndF ?_) | ((with_reducible refine w_lss_NN (fun _ => ?_) (fun _ => ?_)) <;> first | (exfalso; omega) | skip))
  exact w_clrO 2 H rfl fun v' h' n => n
theorem OwnSl.rdOne {h : Hs} {v a b : Value} {e : Nat} {fl : Bool} (o : OwnSl h v e 2 fl 1 [a, b]) (hb : ∀ i, vId v = some i → i < h.nx) : Rd h v 2 [[a, b]] := by
  obtain ⟨_, ⟨rfl, q⟩ | ⟨id, c, cs, sz, f, rfl, a0, g, k, d, q⟩⟩ := o
  · cases q
  · refine ⟨⟨fun l hl => by rw [List.mem_singleton.1 hl]; rfl, .inr ⟨id, 0, c, cs, sz, e, 2, true, f, rfl, a0, g, .inr rfl, fun i j l hl hj => ?_⟩⟩, fun i hi => hb i hi⟩
    have hi : i < 1 := (List.getElem?_eq_some_iff.1 hl).1
    have : i = 0 := by omega
    subst this
    have : [a, b] = l := by simpa using hl
    subst this
    rw [show 0 + 0 * 2 + j = j by omega]
    exact q j hj
/-- more than there is -/
theorem big_ok {R : RnK} {R0 : FuncId → List Value → Hs → An} {N' : Nat} (rn : Rns R0) (fm2 : Fms2 R R0) (rn2 : Rns2 R0) (fm3 : Fms3 R R0) (ce : CEnough R) {N p n : Nat} {h : Hs} (hn : 37 < n) (hm : n ≤ 9223372036854775807) (x : PoolAt N p 0 h) (hp : p < h.nx)
    (hc : RdAt h p 0 [.int .i64 (.ofNat 80), .int .i64 (.ofNat 10), .int .i64 (.ofNat 1), .int .i64 (.ofNat 20)]) :
    r9 R N' [.pointer (some ⟨p, 0, none⟩), .int .i64 (.ofNat 0), .int .i64 (.ofNat n), .int .i64 (.ofNat 4)] h = some (.val (.tuple #[.slice none 0 0, .int .i64 (.ofNat 7)]) h) := by
  refine WP.eqn ?_
  unfold r9
  have H := Sto.enterR h [.rel p 0 [.int .i64 (.ofNat 80), .int .i64 (.ofNat 10), .int .i64 (.ofNat 1), .int .i64 (.ofNat 20)]] (fun t ht => by
    rw [List.mem_singleton.1 ht]
    exact ⟨rfl, hc, fun b hb => by injection hb with hb; omega⟩)
  have old : ∀ {u : Hs} {m : List Th}, Sto h [] u m → PoolAt N p 0 u := fun H => x.ext H.nx fun id hid => H.fr id hid List.not_mem_nil
  repeat' (first | (with_reducible refine w_unC ?_) | (with_reducible refine w_enK ?_) | ((with_reducible refine w_boxV H ?_ ?_ ?_) ; rfl; rfl; (clear H; intro u H hu)))
  refine w_call (group_w rn fm2 (old H)) fun v u1 hv => ?_
  obtain ⟨rfl, sm⟩ := hv
  replace H := H.same sm.same
  clear sm
  repeat' (first | (with_reducible refine w_gFf ?_) | (with_reducible refine w_fieldA ?_) | (with_reducible refine w_nil ?_) | ((with_reducible apply w_extr) ; rfl) | ((with_reducible refine w_alloc H ?_) ; (clear H; intro u H hu)) | ((with_reducible refine w_lss_NN (fun _ => ?_) (fun _ => ?_)) <;> first | (exfalso; omega) | skip) | ((with_reducible apply w_store1 0 H) ; rfl; (simp only [List.length_cons, List.length_nil]; omega); rfl; (clear H; intro u H hu; (try dsimp only [List.set_cons_zero, List.set_cons_succ, cellsL, List.toList_toArray, splice, ev, rep, List.cons_append, List.nil_append] at H))) | ((with_reducible apply w_store1 1 H) ; rfl; (simp only [List.length_cons, List.length_nil]; omega); rfl; (clear H; intro u H hu; (try dsimp only [List.set_cons_zero, List.set_cons_succ, cellsL, List.toList_toArray, splice, ev, rep, List.cons_append, List.nil_append] at H))))
  refine w_loadE (o := 0) (j := 2) 3 H rfl rfl rfl ?_
  repeat' (first | (with_reducible refine w_jn ?_) | (with_reducible refine w_cndF ?_) | (with_reducible refine w_gFf ?_) | (with_reducible refine w_pickF ?_) | ((with_reducible refine w_lss_NN (fun _ => ?_) (fun _ => ?_)) <;> first | (exfalso; omega) | skip) | ((with_reducible refine w_geq_NN (fun _ => ?_) (fun _ => ?_)) <;> first | (exfalso; omega) | skip) | ((with_reducible apply w_load 2 H) ; rfl; rfl; rfl))
  refine w_call (rows_w rn fm2 (old H)) fun v2 u2 n2 => ?_
  replace H := H.call n2
  clear n2
  repeat' (first | (with_reducible refine w_mkfn ?_) | ((with_reducible refine w_alloc H ?_) ; (clear H; intro u H hu)) | ((with_reducible apply w_store1 0 H) ; rfl; (simp only [List.length_cons, List.length_nil]; omega); rfl; (clear H; intro u H hu; (try dsimp only [List.set_cons_zero, List.set_cons_succ, cellsL, List.toList_toArray, splice, ev, rep, List.cons_append, List.nil_append] at H))))
  have ow := H.ok _ (List.mem_of_getElem? (i := 1) rfl)
  have oi := H.ids _ (List.mem_of_getElem? (i := 1) rfl)
  refine w_call (sort_w rn2 fm3 (OneAt.of_own ow fun b hb => (oi b hb).1)) fun v3 u3 sm => ?_
  replace H := H.same sm.same
  clear sm ow oi
  repeat' (first | ((with_reducible apply w_load 4 H) ; rfl; rfl; rfl))
  have ow := H.ok _ (List.mem_of_getElem? (i := 1) rfl)
  have oi := H.ids _ (List.mem_of_getElem? (i := 1) rfl)
  refine w_call (ce v2 n u3 hn hm (OwnSl.rdOne ow fun b hb => (oi b hb).1)) fun v4 u4 n4 => ?_
  replace H := H.call n4
  obtain ⟨a4, c4, rfl⟩ := n4.2.1.form
  clear n4 ow oi
  have ow := H.ok _ (List.mem_of_getElem? (i := 0) rfl)
  have oi := H.ids _ (List.mem_of_getElem? (i := 0) rfl)
  skip
  refine w_call (total_w rn2 fm3 ((OneAt.of_own ow fun b hb => (oi b hb).1).ext (u := ⟨u4.hp, u4.nx, u4.nx⟩) (Nat.le_refl _) fun _ _ => rfl)) fun v5 u5 hv => ?_
  obtain ⟨rfl, sm⟩ := hv
  clear ow oi
  refine w_lightG (h := u4) (Nat.le_of_eq sm.1.symm) sm.2.1 fun u6 f1 f2 f3 f4 => ?_
  have e6 : u6.nx = u4.nx := f1.trans sm.1
  replace H := H.same ⟨⟨Nat.le_of_eq e6.symm, f3⟩, f2⟩
  refine w_loadD 5 H rfl rfl (fun hh => ⟨by have hh : h.nx < u6.nx := hh; show h.nx < u4.nx; omega, trivial⟩) ?_
  repeat' (first | (with_reducible refine w_jn ?_) | (with_reducible refine w_cndT ?_) | (with_reducible refine w_gFt ?_) | (with_reducible refine w_pickT ?_) | (with_reducible refine w_blind ?_) | ((with_reducible refine w_lss_NN (fun _ => ?_) (fun _ => ?_)) <;> first | (exfalso; omega) | skip))
  all_goals exact w_clr H rfl ⟨rfl, rfl⟩
theorem PoolAt.rd {N p k : Nat} {h : Hs} (x : PoolAt N p k h) : RdAt h p 0 [.int .i64 (.ofNat 80), .int .i64 (.ofNat 10), .int .i64 (.ofNat 1), .int .i64 (.ofNat 20)] ∧ p < h.nx := by
  obtain ⟨s, rfl, E, _⟩ := x
  refine ⟨?_, E.lt 0 (by show 0 < 2; decide)⟩
  obtain ⟨_, b, q1, q2⟩ := E.at_ 0 _ (by rw [smallH_get]; rfl)
  cases q2 with
  | row _ cs _ sz _ _ _ rw_ _ f hrw _ hc =>
    refine ⟨cs, sz, _, _, rw_, f, q1, fun j hj => ?_⟩
    have hj : j < 4 := hj
    rw [Nat.zero_add]
    match j, hj with
    | 0, _ => obtain ⟨x, x1, x2⟩ := hc 0 (wI 80) (by rw [get_ofList]; rfl); unfold wI at x2; cases x2; exact x1
    | 1, _ => obtain ⟨x, x1, x2⟩ := hc 1 (wI 10) (by rw [get_ofList]; rfl); unfold wI at x2; cases x2; exact x1
    | 2, _ => obtain ⟨x, x1, x2⟩ := hc 2 (wI 1) (by rw [get_ofList]; rfl); unfold wI at x2; cases x2; exact x1
    | 3, _ => obtain ⟨x, x1, x2⟩ := hc 3 (wI 20) (by rw [get_ofList]; rfl); unfold wI at x2; cases x2; exact x1
def CBig (R : RnK) : Prop := ∀ (N p n : Nat) (h : Hs), 37 < n → n ≤ 9223372036854775807 → PoolAt N p 0 h → R 9 [.pointer (some ⟨p, 0, none⟩), .int .i64 (.ofNat 0), .int .i64 (.ofNat n), .int .i64 (.ofNat 4)] h = some (.val (.tuple #[.slice none 0 0, .int .i64 (.ofNat 7)]) h)
theorem take_none {R0 : List Value → Hs → An} {p n : Nat} {h : Hs} (hn : 37 < n) : fmG (KTake R0) [.pointer (some ⟨p, 0, none⟩), .int .i64 (.ofNat 0), .int .i64 (.ofNat n), .int .i64 (.ofNat 4)] h = none := by
  cases e : fmG (KTake R0) [.pointer (some ⟨p, 0, none⟩), .int .i64 (.ofNat 0), .int .i64 (.ofNat n), .int .i64 (.ofNat 4)] h with
  | none => rfl
  | some o =>
    exfalso
    have : ∃ v h', o = .val v h' := by
      unfold fmG at e
      split at e
      · injection e with e; exact ⟨_, _, e.symm⟩
      · cases e
    obtain ⟨v, h', rfl⟩ := this
    obtain ⟨s2, args2, h02, h02', v02, ⟨j, hj, q1, q2, q3⟩, E2, w2, u2, F2⟩ := fmG_inv e
    subst q1
    unfold aTake at w2
    cases w2 with
    | cons _ t => cases t with
      | cons _ t => cases t with
        | cons h3 _ =>
          generalize e : Value.int .i64 (.ofNat n) = x at h3
          cases h3
          injection e with _ e
          rw [← e] at hj
          have : (Int.ofNat n) = (n : Int) := rfl
          omega
theorem iL_get {L : List Int} {i : Nat} (h : i < L.length) : (iL L)[i]? = some [.int .i64 L[i]] := by unfold iL; rw [List.getElem?_map, List.getElem?_eq_getElem h]; rfl
theorem back_ok {R : RnK} {R0 : FuncId → List Value → Hs → An} {N : Nat} (hN : 100 < N) (rn : Rns R0) (fm : Fms R R0) (cb : CBig R) (cp : CPlain80 R) {v : Value} {L : List Int} {h : Hs} (r : Rd h v 1 (iL L)) (hL : ∀ n ∈ L, n ≤ 9223372036854775807)
    (aw : R 4 [] ⟨h.hp, h.nx, h.nx⟩ = some (.val (.bool true) ⟨h.hp, h.nx, h.nx⟩)) :
    r3 R N [v] h = some (.val (.bool true) h) := by
  refine WP.eqn ?_
  unfold r3
  have H := Sto.enter1 r
  have el : (iL L).length = L.length := List.length_map _
  obtain ⟨va, vc, rfl⟩ := r.1.formN el
  repeat' (first | (refine w_callE (aw) ?_) | (with_reducible refine w_jn ?_) | (with_reducible refine w_cndT ?_) | (with_reducible refine w_cndF ?_) | (with_reducible refine w_notT ?_) | (with_reducible refine w_lenV ?_) | ((with_reducible refine w_gtr_NN (fun _ => ?_) (fun _ => ?_)) <;> first | (exfalso; omega) | skip))
  · exact w_clr H rfl ⟨rfl, rfl⟩
  repeat' (first | (refine w_callE (cp _) ?_) | ((with_reducible refine w_alloc H ?_) ; (clear H; intro u H hu)) | ((with_reducible apply w_storeV 0 H) ; rfl; rfl; rfl; omega; rfl; (clear H; intro u H hu; (try dsimp only [List.set_cons_zero, List.set_cons_succ, cellsL, List.toList_toArray, splice, ev, rep, List.cons_append, List.nil_append] at H))) | ((with_reducible apply w_loadsF 0 H) ; rfl; rfl; rfl))
  refine w_call (empty_w rn fm) fun x1 u1 hv => ?_
  obtain ⟨b, rfl, ba, sm⟩ := hv
  refine w_lightG sm.1.1 sm.2 fun u2 f1 f2 f3 f4 => ?_
  have ba2 : BitsAt b u2 := ba.ext (Nat.le_of_eq f1.symm) fun id hid => by
    by_cases e : id < u.nx
    · rw [f3 id e]; exact (sm.1.2 id e).symm
    · exact f4 id (by omega) hid
  have e1 : u.nx ≤ u2.nx := by rw [f1]; exact sm.1.1
  replace H := H.same ⟨⟨e1, f3⟩, f2⟩
  clear ba sm f1 f2 f3 f4
  have hids := fun t ht b hb => (H.ids t ht b hb).1
  have hN0 : h.nx ≤ u2.nx := H.nx
  refine w_call (new_w rn fm ba2) fun x3 u3 hv => ?_
  obtain ⟨p, rfl, pa, sm⟩ := hv
  refine w_bar sm.1.1 ?_
  replace H := H.same sm
  have hnx3 : u2.nx ≤ u3.nx := sm.1.1
  clear ba2 sm
  generalize u2.nx = N0 at hids hN0 pa hnx3
  repeat' (first | (with_reducible refine w_gFf ?_) | ((with_reducible apply w_extr) ; rfl) | ((with_reducible refine w_neq_NN (fun _ => ?_) (fun _ => ?_)) <;> first | (exfalso; omega) | skip))
  refine w_ob rfl ?_
  repeat' (first | (with_reducible refine w_jn ?_) | (with_reducible refine w_cndF ?_) | (with_reducible refine w_pickF ?_))
  refine w_call (free_w rn fm (Nat.zero_le _) pa) fun x4 u4 hv => ?_
  obtain ⟨rfl, sm⟩ := hv
  replace H := H.same sm.same
  replace pa := pa.ext (Nat.le_of_eq sm.1.symm) sm.2.2
  have hnx4 : N0 ≤ u4.nx := by rw [sm.1]; exact hnx3
  clear sm hnx3
  repeat' (first | (with_reducible refine w_jn ?_))
  clear r
  refine lp_ind (Good := fun n (self : L8) => ∀ (i : Nat) (x1 x2 x3 x4 x5 x6 x7 : Value) (w : Hs), i + n = L.length → Sto h [] w [.blk h.nx (.row 25 0 true _ [.int .i64 (.ofNat 80), .int .i64 (.ofNat 10), .int .i64 (.ofNat 1), .int .i64 (.ofNat 20)]), .rsl (.slice va L.length vc) 1 (iL L)] → PoolAt N0 p 0 w → N0 ≤ w.nx →
    WP (self (.int .i64 (.ofNat i)) x1 x2 x3 x4 x5 x6 x7 w) (fun v' h' => v' = .bool true ∧ h' = h)) (fun n self ih i x1 x2 x3 x4 x5 x6 x7 w hi H' pa' hw => ?_) N L.length (by omega) 0 _ _ _ _ _ _ _ _ (by omega) H pa hnx4
  clear H pa hnx4
  have H := H'
  have pa := pa'
  clear H' pa'
  repeat' (first | (with_reducible refine w_jn ?_) | (with_reducible refine w_cndT ?_) | (with_reducible refine w_cndF ?_) | (with_reducible refine w_lenV ?_) | ((with_reducible refine w_lss_NN (fun _ => ?_) (fun _ => ?_)) <;> first | (exfalso; omega) | skip))
  · have ia : i < L.length := by omega
    refine w_at1 1 H rfl (iL_get ia) rfl rfl ?_
    have hm := hL _ (List.getElem_mem ia)
    have e9 : ∀ hh : Hs, True := fun _ => trivial
    by_cases neg : L[i] < 0
    · obtain ⟨j, hj⟩ := Int.eq_negSucc_of_lt_zero neg
      rw [hj]
      refine w_call (neg_w rn fm pa) fun v6 u6 hv => ?_
      obtain ⟨rfl, sm⟩ := hv
      have H := H.same sm.same
      have pa := pa.ext (Nat.le_of_eq sm.1.symm) sm.2.2
      have hw : N0 ≤ u6.nx := by rw [sm.1]; exact hw
      repeat' (first | (with_reducible refine w_jn ?_) | (with_reducible refine w_cndT ?_) | ((with_reducible apply w_extr) ; rfl) | ((with_reducible refine w_neq_NN (fun _ => ?_) (fun _ => ?_)) <;> first | (exfalso; omega) | skip))
      refine w_at1 1 H rfl (iL_get ia) rfl rfl ?_
      repeat' (first | (with_reducible refine w_jn ?_) | (with_reducible refine w_cndF ?_) | (with_reducible refine w_gTf ?_) | (with_reducible refine w_pickF ?_) | ((with_reducible refine w_geq_IN (fun _ => ?_) (fun _ => ?_)) <;> first | (exfalso; omega) | skip) | ((with_reducible refine w_add_NN ?_ ?_) ; omega))
      all_goals first | (exact absurd ‹_ ≤ L[i]› (by omega)) | skip
      exact ih (n - 1) (by omega) (i + 1) _ _ _ _ _ _ _ _ (by omega) H pa hw
    · obtain ⟨k, hk⟩ := Int.eq_ofNat_of_zero_le (by omega : 0 ≤ L[i])
      rw [hk, show (Value.int .i64 (k : Int)) = .int .i64 (.ofNat k) from rfl]
      by_cases big : 37 < k
      · refine w_callE (cb N0 p k w big (by omega) pa) ?_
        repeat' (first | (with_reducible refine w_jn ?_) | (with_reducible refine w_cndT ?_) | ((with_reducible apply w_extr) ; rfl) | ((with_reducible refine w_neq_NN (fun _ => ?_) (fun _ => ?_)) <;> first | (exfalso; omega) | skip))
        refine w_at1 1 H rfl (iL_get ia) rfl rfl ?_
        repeat' (first | (with_reducible refine w_gTt ?_) | ((with_reducible refine w_geq_IN (fun _ => ?_) (fun _ => ?_)) <;> first | (exfalso; omega) | skip))
        all_goals first | (exact absurd ‹¬ _ ≤ L[i]› (by omega)) | skip
        refine w_idxR 1 H rfl (iL_get ia) fun bb oo H2 => ?_
        repeat' (first | (with_reducible refine w_gTt ?_))
        refine w_loadE0 0 H2 rfl rfl rfl ?_
        repeat' (first | (with_reducible refine w_jn ?_) | (with_reducible refine w_cndF ?_) | (with_reducible refine w_gTt ?_) | (with_reducible refine w_pickT ?_) | ((with_reducible refine w_leq_IN (fun _ => ?_) (fun _ => ?_)) <;> first | (exfalso; omega) | skip) | ((with_reducible refine w_add_NN ?_ ?_) ; omega))
        all_goals first | (exact ih (n - 1) (by omega) (i + 1) _ _ _ _ _ _ _ _ (by omega) H pa hw) | (exfalso; omega) | skip
      · refine w_call (take_w rn fm (by omega) hw pa) fun v6 u6 hv => ?_
        obtain ⟨r6, rfl, ga, pk, mv⟩ := hv
        have H := H.mv mv hN0 rfl hids
        have hw6 : N0 ≤ u6.nx := Nat.le_trans hw mv.1
        clear mv
        repeat' (first | (with_reducible refine w_jn ?_) | (with_reducible refine w_cndF ?_) | ((with_reducible apply w_extr) ; rfl) | ((with_reducible refine w_neq_NN (fun _ => ?_) (fun _ => ?_)) <;> first | (exfalso; omega) | skip))
        refine w_call (free_w rn fm (by omega) (pk.ext (u := ⟨u6.hp, u6.nx, u6.nx⟩) (Nat.le_refl _) fun _ _ => rfl)) fun v7 u7 hv => ?_
        obtain ⟨rfl, sm⟩ := hv
        refine w_lightG (h := u6) (Nat.le_of_eq sm.1.symm) sm.2.1 fun u8 f1 f2 f3 f4 => ?_
        have e8 : u8.nx = u6.nx := f1.trans sm.1
        have H := H.same ⟨⟨Nat.le_of_eq e8.symm, f3⟩, f2⟩
        have ga := ga.ext (Nat.le_of_eq e8.symm) f3
        have hw8 : N0 ≤ u8.nx := by omega
        refine w_at1D 1 H rfl (iL_get ia) rfl (fun b hb => ⟨by show b < u6.nx; omega, trivial⟩) ?_
        rw [hk, show (Value.int .i64 (k : Int)) = .int .i64 (.ofNat k) from rfl]
        repeat' (first | (with_reducible refine w_gFf ?_) | ((with_reducible refine w_neq_NN (fun _ => ?_) (fun _ => ?_)) <;> first | (exfalso; omega) | skip) | ((with_reducible refine w_sub_NN ?_ ?_ ?_) ; omega; omega))
        all_goals first | (exfalso; omega) | skip
        refine w_call (give_w rn fm (by omega) hw8 ga) fun v9 u9 hv => ?_
        obtain ⟨rfl, pa, mv⟩ := hv
        refine w_bar mv.1 ?_
        have H := H.mv mv hN0 rfl hids
        have hw9 : N0 ≤ u9.nx := Nat.le_trans hw8 mv.1
        clear mv
        repeat' (first | (with_reducible refine w_jn ?_) | (with_reducible refine w_cndF ?_) | (with_reducible refine w_gFf ?_) | (with_reducible refine w_pickF ?_) | (with_reducible refine w_blind ?_) | ((with_reducible refine w_neq_NN (fun _ => ?_) (fun _ => ?_)) <;> first | (exfalso; omega) | skip) | ((with_reducible refine w_add_NN ?_ ?_) ; omega))
        all_goals first | (exact ih (n - 1) (by omega) (i + 1) _ _ _ _ _ _ _ _ (by omega) H pa hw9) | (exfalso; omega) | skip
  · refine w_call (free_w rn fm (Nat.zero_le _) pa) fun v7 u7 hv => ?_
    obtain ⟨rfl, sm⟩ := hv
    refine w_bar (Nat.le_of_eq sm.1.symm) ?_
    have H := H.same sm.same
    have pa := pa.ext (Nat.le_of_eq sm.1.symm) sm.2.2
    have e7 : u7.nx = w.nx := sm.1
    repeat' (first | (with_reducible refine w_gTt ?_) | ((with_reducible refine w_eql_NN (fun _ => ?_) (fun _ => ?_)) <;> first | (exfalso; omega) | skip))
    all_goals first | (exact absurd rfl ‹_›) | skip
    have hid : ∀ id, id < u7.nx → (hideS [true, true, true, true, true, true] [none, none, none, none, some (w.nx, u7.nx), none] u7.hp).get id = u7.hp.get id := fun id h9 => hideS_get _ _ _ _ ⟨by show id < w.nx; omega, trivial⟩
    refine w_call (bits_w rn fm (pa.ext (u := dHidS .light [true, true, true, true, true, true] [none, none, none, none, some (w.nx, u7.nx), none] u7) (Nat.le_refl _) hid)) fun v8 u8 hv => ?_
    obtain ⟨b8, rfl, bt, sm8⟩ := hv
    refine w_lightG (h := u7) sm8.1.1 sm8.2 fun u9 f1 f2 f3 f4 => ?_
    have H := H.same ⟨⟨by rw [f1]; exact sm8.1.1, f3⟩, f2⟩
    have hlt : h.nx < N0 := hids _ List.mem_cons_self _ rfl
    have e9 : u7.nx ≤ u9.nx := by rw [f1]; exact sm8.1.1
    have bt9 : BitsAt b8 (dHidS .light [true, true, true, true, true, true, true] [some (u7.nx, u9.nx), none, none, none, none, some (w.nx, u7.nx), none] u9) := bt.ext (Nat.le_of_eq f1.symm) fun id h9 => by
      show u9.hp.get id = u8.hp.get id
      by_cases e : id < u7.nx
      · rw [f3 id e]
        exact ((sm8.1.2 id e).trans (hid id e)).symm
      · exact f4 id (by omega) h9
    clear f3 f4
    repeat' (first | (with_reducible refine w_gTt ?_))
    refine w_call (count_w rn fm bt9) fun v10 u10 hv => ?_
    obtain ⟨rfl, sm10⟩ := hv
    refine w_lightG (h := u9) (Nat.le_of_eq sm10.1.symm) sm10.2.1 fun u11 f1 f2 f3 f4 => ?_
    have H := H.same ⟨⟨by rw [f1]; exact Nat.le_of_eq sm10.1.symm, f3⟩, f2⟩
    have e11 : u11.nx = u9.nx := f1.trans sm10.1
    repeat' (first | (with_reducible refine w_gTt ?_) | (with_reducible refine w_pickT ?_) | (with_reducible refine w_fieldA ?_) | (with_reducible refine w_blind ?_) | ((with_reducible refine w_eql_NN (fun _ => ?_) (fun _ => ?_)) <;> first | (exfalso; omega) | skip) | ((with_reducible refine w_sub_NN ?_ ?_ ?_) ; omega; omega) | ((with_reducible apply w_loadD 0 H) ; rfl; rfl; (intro _; simp only [HidOk, and_true]; omega)))
    all_goals first | (exact w_clr H rfl ⟨rfl, rfl⟩) | (exfalso; omega)
end Go.Proofs.Ytadlfpgipdjegaa.poolBack
