/- Runs in stages: a call that was run once is a summary; tables whose summaries may pass. -/
import Derived.Test.YtndlcnfnoiabbaaGevKM
namespace Go.Gev
noncomputable section
def andK (a b : Bool) : Bool := Bool.rec (motive := fun _ => Bool) false b a
def eqON : Option Nat → Option Nat → Bool
 | none, none => true
 | some a, some b => Nat.beq a b
 | _, _ => false
def eqAd : Option Addr → Option Addr → Bool
 | none, none => true
 | some a, some b => andK (Nat.beq a.block b.block) (andK (Nat.beq a.off b.off) (eqON a.spot b.spot))
 | _, _ => false
def eqKd : IntKind → IntKind → Bool
 | .i64, .i64 => true
 | .u64, .u64 => true
 | .u8, .u8 => true
 | .i32, .i32 => true
 | .u32, .u32 => true
 | _, _ => false
def eqIn : Int → Int → Bool
 | .ofNat a, .ofNat b => Nat.beq a b
 | .negSucc a, .negSucc b => Nat.beq a b
 | _, _ => false
def eqBo : Bool → Bool → Bool
 | true, true => true
 | false, false => true
 | _, _ => false
def eqBy : List UInt8 → List UInt8 → Bool
 | [], [] => true
 | a :: as, b :: bs => andK (Nat.beq a.toNat b.toNat) (eqBy as bs)
 | _, _ => false
def eqV0 : Value → Value → Bool
 | .bool a, .bool b => eqBo a b
 | .int k a, .int l b => andK (eqKd k l) (eqIn a b)
 | .string a, .string b => eqBy a.data.toList b.data.toList
 | .pointer a, .pointer b => eqAd a b
 | .slice a n c, .slice b m d => andK (eqAd a b) (andK (Nat.beq n m) (Nat.beq c d))
 | .map a, .map b => eqON a b
 | .chan a, .chan b => eqON a b
 | .nilFunc, .nilFunc => true
 | .nilIface, .nilIface => true
 | _, _ => false
def eqVs0 : List Value → List Value → Bool
 | [], [] => true
 | a :: as, b :: bs => andK (eqV0 a b) (eqVs0 as bs)
 | _, _ => false
def eqFn : Fn → Fn → Bool
 | .func a, .func b => Nat.beq a b
 | _, _ => false
def eqV1 : Value → Value → Bool
 | .agg a, .agg b => eqVs0 a.toList b.toList
 | a, b => eqV0 a b
def eqVs1 : List Value → List Value → Bool
 | [], [] => true
 | a :: as, b :: bs => andK (eqV1 a b) (eqVs1 as bs)
 | _, _ => false
def eqV : Value → Value → Bool
 | .agg a, .agg b => eqVs1 a.toList b.toList
 | .tuple a, .tuple b => eqVs1 a.toList b.toList
 | .iface t a, .iface u b => andK (Nat.beq t u) (eqV0 a b)
 | .func f a b, .func g c d => andK (eqFn f g) (andK (eqVs0 a.toList c.toList) (eqVs0 b.toList d.toList))
 | a, b => eqV0 a b
def eqOV : Option Value → Option Value → Bool
 | none, none => true
 | some a, some b => eqV a b
 | _, _ => false
def eqTV (s : Tr Value) : Tr Value → Bool :=
 Tr.rec (motive := fun _ => Tr Value → Bool) (fun t => Tr.rec (motive := fun _ => Bool) true (fun _ _ _ _ _ => false) t)
  (fun v _ _ il ir t => Tr.rec (motive := fun _ => Bool) false (fun w l r _ _ => andK (eqOV v w) (andK (il l) (ir r))) t) s
def eqNs : List Nat → List Nat → Bool
 | [], [] => true
 | a :: as, b :: bs => andK (Nat.beq a b) (eqNs as bs)
 | _, _ => false
def eqMs : List MapEntry → List MapEntry → Bool
 | [], [] => true
 | a :: as, b :: bs => andK (andK (eqV a.key b.key) (andK (eqV a.val b.val) (Nat.beq a.born b.born))) (eqMs as bs)
 | _, _ => false
def eqBl : Blk → Blk → Bool
 | .row c n e u rw fl, .row c2 n2 e2 u2 rw2 fl2 => andK (andK (Nat.beq n n2) (andK (Nat.beq e e2) (andK (Nat.beq u u2) (andK (eqBo rw rw2) (eqBo fl fl2))))) (eqTV c c2)
 | .mp a n, .mp b m => andK (Nat.beq n m) (eqMs a b)
 | .it m a s l, .it m2 a2 s2 l2 => andK (andK (eqON m m2) (Nat.beq a a2)) (andK (eqNs s s2) (Nat.beq l l2))
 | .lp a, .lp b => Nat.beq a b
 | _, _ => false
def orG (a b : List Value → Hs → An) (args : List Value) (h : Hs) : An := Option.rec (motive := fun _ => An) (b args h) (fun o => some o) (a args h)
end
theorem andK_true {a b : Bool} (h : andK a b = true) : a = true ∧ b = true := by cases a <;> cases b <;> first | exact ⟨rfl, rfl⟩ | cases h
theorem orG_some {a b : List Value → Hs → An} {args : List Value} {h : Hs} {o : Out} (hh : orG a b args h = some o) : a args h = some o ∨ b args h = some o := by
 unfold orG at hh
 cases ha : a args h with
 | none => rw [ha] at hh; exact .inr hh
 | some x => rw [ha] at hh; exact .inl hh
theorem SumOk.or {P : Program} {f : FuncId} {a b : List Value → Hs → An} (ha : SumOk P f a) (hb : SumOk P f b) : SumOk P f (orG a b) :=
 ⟨ha.ff, fun args args' v h h' B ρ w hr hl Rl => (orG_some hr).elim (fun hr => ha.ok args args' v h h' B ρ w hr hl Rl) (fun hr => hb.ok args args' v h h' B ρ w hr hl Rl)⟩
noncomputable def tabF (tab : RnK → RnK) (sums : List (Nat × SmK)) : RnK → RnK := fun R f args h => Option.rec (motive := fun _ => An) (tab R f args h) (fun g => Option.rec (motive := fun _ => An) (tab R f args h) (fun o => some o) (g args h)) ((mkTabS sums).getK f)
theorem runF_ok {P : Program} (hm : P.follows .mixedOrders = true) (hN : Named P) {F : Nat} {tab : RnK → RnK} (hT : TabOk P F tab) {sums : List (Nat × SmK)} (hS : SumsOk P sums) : ∀ (d : Nat) (f : FuncId) (args : List Value) (args' : Array Value) (v : Value) (h h' : Hs) (B : Nat) (ρ : Ren) (w : World), runK (tabF tab sums) d f args h = some (.val v h') → VL ρ args args'.toList → HR B ρ h w →
 Calls P f args' w (fun e w' => ∃ v' ρ', e = .returned v' ∧ VR ρ' v v' ∧ St B ρ h w ρ' h' w') := by
 intro d
 have hun : ∀ d f args h o, runK (tabF tab sums) (d + 1) f args h = some o → (∃ g, SumOk P f g ∧ g args h = some o) ∨ tab (runK (tabF tab sums) d) f args h = some o := fun d f args h o hh => by
  have hh : ifB (Nat.beq f 1000000000) none (tabF tab sums (runK (tabF tab sums) d) f args h) = some o := hh
  cases hb : Nat.beq f 1000000000 with
  | true => rw [hb] at hh; cases hh
  | false =>
   rw [hb] at hh
   have hh : Option.rec (motive := fun _ => An) (tab (runK (tabF tab sums) d) f args h) (fun g => Option.rec (motive := fun _ => An) (tab (runK (tabF tab sums) d) f args h) (fun o => some o) (g args h)) ((mkTabS sums).getK f) = some o := hh
   cases hg : (mkTabS sums).getK f with
   | none => rw [hg] at hh; exact .inr hh
   | some g =>
    rw [hg] at hh
    simp only at hh
    cases hgo : g args h with
    | none => rw [hgo] at hh; exact .inr hh
    | some o2 => rw [hgo] at hh; exact .inl ⟨g, mkTabS_ok hS hg, by rw [hgo]; exact hh⟩
 induction d with
 | zero => intro f args args' v h h' B ρ w hr; cases hr
 | succ d ih =>
  intro f args args' v h h' B ρ w hr hl Rl
  rcases hun _ _ _ _ _ hr with ⟨g, hg, hr⟩ | hr
  ·exact hg.ok args args' v h h' B ρ w hr hl Rl
  refine callT_ok hm hN (good_toRn ih) (fun ρ f args args' v h h' _ hh => ?_) (fun args h => ?_) f args args' v h h' B ρ w (hT _ _ _ _ _ hr) hl Rl
  ·have hh : runK (tabF tab sums) d f args h = some (.val v h') := hh
   cases d with
   | zero => cases hh
   | succ d =>
    rcases hun _ _ _ _ _ hh with ⟨g, hg, _⟩ | hh
    ·exact hg.ff
    have hh := hT _ _ _ _ _ hh
    unfold callT at hh
    cases hg : KF P f with
    | none => rw [hg] at hh; cases hh
    | some g => exact KF_FF hg
  ·cases d with
   | zero => rfl
   | succ d => rfl
noncomputable section
def E {α : Type} : Tr α := .e
def M {α : Type} (l r : Tr α) : Tr α := .n none l r
def W {α : Type} (v : α) (l r : Tr α) : Tr α := .n (some v) l r
end
end Go.Gev
