/- Contracts of functions, by the logic of residual programs. -/
import Derived.Test.YtmolikcajfphlaaEcC
namespace Go.Proofs.Ytmolikcajfphlaa.editClears
open Go Go.Gev
set_option linter.unusedVariables false
set_option linter.unusedSimpArgs false
def g0 : Geo := ⟨64, 10, 1, 20⟩
def hd0 : List Nat := [5497010944029229057, 64, 10, 1, 20, 0, 0, 14437194409388276641]
def W0 : List Nat := hd0 ++ (List.replicate 160 0 ++ ([9223376434901286911, 0, 0, 0, 0, 0, 0, 0, 258, 0, 0, 0, 0, 0, 0, 17777035089724969104, 258, 10, 42949672992, 0, 0, 0, 0, 17777384734422601776] ++ (List.replicate 312 0 ++ hd0)))
def B0 : List Nat := [9223376434901286911, 0, 0, 0, 0, 0, 0, 0]
def gN0 : List Value := [wI 64, wI 10, wI 1, wI 20]
def wRow (r : Bool) (l : List Nat) : SB := .row 39 1 r (l.map wU)
def sOf (b n : Nat) : Value := .slice (some ⟨b, 0, none⟩) n n
def eT : List SB := [.row 49 0 true (gN0 ++ (sOf 1 512 :: (gN0 ++ [sOf 2 512]))), wRow true W0, wRow false W0]
def pT (B : List Nat) : List SB := [.row 132 0 true (gN0 ++ [sOf 1 8]), wRow true B]
def aMade (_ : Unit) : List Value := []
def aEdNew (_ : Unit) : List Value := [sOf 0 512]
def aPNew (_ : Unit) : List Value := [.agg gN0.toArray, .agg #[sOf 0 8]]
def aTake (k : Nat) : List Value := [.pointer (some ⟨0, 0, none⟩), wI 0, .int .i64 (.ofNat k), wI 4]
def KMade (R0 : List Value → Hs → An) : Runs0 := KI (fun _ => True) aMade (fun _ => []) R0
def KEdNew (R0 : List Value → Hs → An) : Runs0 := KI (fun _ => True) aEdNew (fun _ => [wRow false W0]) R0
def KPNew (R0 : List Value → Hs → An) : Runs0 := KI (fun _ => True) aPNew (fun _ => [wRow false B0]) R0
def KTake (R0 : List Value → Hs → An) : Runs0 := KI (fun k => k < 21) aTake (fun _ => pT B0) R0
noncomputable section
def qMade (v : Value) (h : Hs) : Bool := match v with
 | .slice (some ⟨b, 0, none⟩) 512 c => andK (Nat.ble 512 c) (embK [b] [wRow true W0] h)
 | _ => false
def qEdNew (v : Value) (h : Hs) : Bool := match v with
 | .tuple vs => match vs.toList with
  | [.pointer (some ⟨p, 0, none⟩), .int .i64 (.ofNat 0)] => andK (embK [p, refC h p 4, refC h p 9] eT h) (andK (Nat.ble 1 p) (andK (Nat.ble 1 (refC h p 4)) (andK (Nat.ble 1 (refC h p 9)) (Nat.ble 1 h.lo))))
  | _ => false
 | _ => false
def qPNew (v : Value) (h : Hs) : Bool := match v with
 | .tuple vs => match vs.toList with
  | [.pointer (some ⟨p, 0, none⟩), .int .i64 (.ofNat 0)] => andK (embK [p, refC h p 4] (pT B0) h) (andK (Nat.ble 1 p) (andK (Nat.ble 1 (refC h p 4)) (Nat.ble 1 h.lo)))
  | _ => false
 | _ => false
def runT (k : Nat) : List (Nat × Nat) := match k with
 | 0 => []
 | _ => [(42, k)]
def qTake0 (v : Value) (h : Hs) : Bool := eqV v (.tuple #[.slice none 0 0, wI 0])
def qTake (k : Nat) (v : Value) (h : Hs) : Bool := match v with
 | .tuple vs => match vs.toList with
  | [.slice (some ⟨r, 0, none⟩) 1 c, .int .i64 (.ofNat 0)] => andK (Nat.ble 1 c) (andK (Nat.ble 2 r) (embK [r] [.row 87 2 true [wI 42, .int .i64 (.ofNat k)]] h))
  | _ => false
 | _ => false
end
structure EdR (R0 : FuncId → List Value → Hs → An) : Prop where
 made : chkRun (R0 7) (aMade ()) [] qMade = true
 ednew : chkRun (R0 6) (aEdNew ()) [wRow false W0] qEdNew = true
 pnew : chkRun (R0 60) (aPNew ()) [wRow false B0] qPNew = true
 take0 : chkRun (R0 61) (aTake 0) (pT B0) qTake0 = true
 take : ∀ k, k < 20 → chkRun (R0 61) (aTake (k + 1)) (pT B0) (qTake (k + 1)) = true
def Ans (R : RnK) (f : FuncId) (K : Runs0) : Prop := ∀ a h o, fmG K a h = some o → R f a h = some o
structure EdF (R : RnK) (R0 : FuncId → List Value → Hs → An) : Prop where
 made : Ans R 7 (KMade (R0 7))
 ednew : Ans R 6 (KEdNew (R0 6))
 pnew : Ans R 60 (KPNew (R0 60))
 take : Ans R 61 (KTake (R0 61))
theorem row_holds {s : Nat → Nat} {n e u : Nat} {L L' : List Value} {B : Option Blk} {y : Blk} (hB : B = some y) (h : BW n s (SB.row e u true L).blk y) (hl : L.length = L'.length) (hv : ∀ (i : Nat) (v v' : Value), L[i]? = some v → VW n s true v v' → L'[i]? = some v') : Holds B (.row e u true false L') := by
 have h : BW n s (.row (ofList L) L.length e u true false) y := h
 subst hB
 cases h with
 | row _ cs _ sz _ _ _ rw_ _ f hrw _ hc =>
  obtain ⟨g1, g2, _, g4⟩ := hrw rfl
  subst g1
  refine ⟨cs, f, by rw [← hl, g2], (fun h => by cases h), fun i => ?_⟩
  cases hi : L[i]? with
  | some v =>
   obtain ⟨v', w1, w2⟩ := hc i v (by rw [get_ofList]; exact hi)
   rw [w1, hv i v v' hi w2]
  | none =>
   have h1 : L.length ≤ i := List.getElem?_eq_none_iff.1 hi
   rw [List.getElem?_eq_none (by omega)]
   cases hg : cs.get i with
   | none => rfl
   | some v =>
    exfalso
    have := (g4 i).1 (by rw [hg]; rfl)
    omega
theorem words_holds {s : Nat → Nat} {n : Nat} {l : List Nat} {B : Option Blk} {y : Blk} (hB : B = some y) (h : BW n s (wRow true l).blk y) : Holds B (wdO l) := by
 refine row_holds hB h (by unfold Wc; simp) fun i v v' hi w => ?_
 rw [List.getElem?_map] at hi
 cases hx : l[i]? with
 | none => rw [hx] at hi; cases hi
 | some x =>
  rw [hx] at hi
  injection hi with hi
  subst hi
  unfold wU at w
  cases w
  unfold Wc
  rw [List.getElem?_map, hx]; rfl
set_option linter.unusedSimpArgs false
theorem qMade_inv {v : Value} {h : Hs} (hq : qMade v h = true) : ∃ b c, v = .slice (some ⟨b, 0, none⟩) 512 c ∧ 512 ≤ c ∧ embK [b] [wRow true W0] h = true := by
 unfold qMade at hq
 split at hq
 ·obtain ⟨a1, a2⟩ := andK_true hq
  exact ⟨_, _, rfl, Nat.le_of_ble_eq_true a1, a2⟩
 ·cases hq
theorem qEdNew_inv {v : Value} {h : Hs} (hq : qEdNew v h = true) : ∃ p, v = .tuple #[.pointer (some ⟨p, 0, none⟩), .int .i64 (.ofNat 0)] ∧ embK [p, refC h p 4, refC h p 9] eT h = true ∧ 1 ≤ p ∧ 1 ≤ refC h p 4 ∧ 1 ≤ refC h p 9 ∧ 1 ≤ h.lo := by
 unfold qEdNew at hq
 split at hq
 ·rename_i vs
  split at hq
  ·rename_i p hvs
   obtain ⟨a1, a2⟩ := andK_true hq
   obtain ⟨a2, a3⟩ := andK_true a2
   obtain ⟨a3, a4⟩ := andK_true a3
   obtain ⟨a4, a5⟩ := andK_true a4
   exact ⟨p, by congr 1; apply Array.ext'; exact hvs, a1, Nat.le_of_ble_eq_true a2, Nat.le_of_ble_eq_true a3, Nat.le_of_ble_eq_true a4, Nat.le_of_ble_eq_true a5⟩
  ·cases hq
 ·cases hq
theorem qPNew_inv {v : Value} {h : Hs} (hq : qPNew v h = true) : ∃ p, v = .tuple #[.pointer (some ⟨p, 0, none⟩), .int .i64 (.ofNat 0)] ∧ embK [p, refC h p 4] (pT B0) h = true ∧ 1 ≤ p ∧ 1 ≤ refC h p 4 ∧ 1 ≤ h.lo := by
 unfold qPNew at hq
 split at hq
 ·rename_i vs
  split at hq
  ·rename_i p hvs
   obtain ⟨a1, a2⟩ := andK_true hq
   obtain ⟨a2, a3⟩ := andK_true a2
   obtain ⟨a3, a4⟩ := andK_true a3
   exact ⟨p, by congr 1; apply Array.ext'; exact hvs, a1, Nat.le_of_ble_eq_true a2, Nat.le_of_ble_eq_true a3, Nat.le_of_ble_eq_true a4⟩
  ·cases hq
 ·cases hq
theorem qTake_inv {k : Nat} {v : Value} {h : Hs} (hq : qTake k v h = true) : ∃ rb c, v = .tuple #[.slice (some ⟨rb, 0, none⟩) 1 c, .int .i64 (.ofNat 0)] ∧ 1 ≤ c ∧ 2 ≤ rb ∧ embK [rb] [.row 87 2 true [wI 42, .int .i64 (.ofNat k)]] h = true := by
 unfold qTake at hq
 split at hq
 ·rename_i vs
  split at hq
  ·rename_i rb c hvs
   obtain ⟨a1, a2⟩ := andK_true hq
   obtain ⟨a2, a3⟩ := andK_true a2
   exact ⟨rb, c, by congr 1; apply Array.ext'; exact hvs, Nat.le_of_ble_eq_true a1, Nat.le_of_ble_eq_true a2, a3⟩
  ·cases hq
 ·cases hq
theorem emb_nil (s : Nat → Nat) (h : Hs) : Emb s (smallH []) h := ⟨fun i b g => by have := smallH_lt g; simp at this, fun i hi => by have hi : i < 0 := hi; omega, fun i i' b b' g => by have := smallH_lt g; simp at this⟩
variable {R : RnK} {R0 : FuncId → List Value → Hs → An} {h : Hs}
theorem made_w (rn : EdR R0) (fm : EdF R R0) : WP (R 7 [] h) fun v u => ∃ s c, v = .slice (some ⟨s 0, 0, none⟩) 512 c ∧ 512 ≤ c ∧ Emb s (smallH [wRow true W0]) u ∧ Same h u := by
 obtain ⟨v0, h0', r, hq⟩ := chkRun_ok rn.made
 obtain ⟨pb, c, rfl, hc, a1⟩ := qMade_inv hq
 refine (w_fm (fun o ho => fm.made _ _ o ho) () trivial (emb_nil id h) .nil rfl (fun j s2 hj E2 w2 => ⟨rfl, rfl⟩) r).mono fun v u ⟨g1, g2⟩ => ?_
 obtain ⟨y1, y2, y3⟩ := g1.slice_inv
 have E' := g2.emb (emb_nil id h) r.nx (embK_ok a1) (holdK_ok r.hold)
 exact ⟨_, c, y1, hc, E', g2.same (Nat.zero_le _)⟩
theorem wRow_sub (l : List Nat) : BW 1 id (wRow false l).blk (wRow true l).blk := by
 refine .row _ _ _ _ _ _ _ _ _ _ (fun h => by cases h) (fun h => by cases h) fun i v0 hv => ⟨v0, hv, ?_⟩
 rw [get_ofList, List.getElem?_map] at hv
 cases hx : l[i]? with
 | none => rw [hx] at hv; cases hv
 | some x => rw [hx] at hv; injection hv with hv; subst hv; exact .int _ _
theorem wRow_emb {l : List Nat} {s : Nat → Nat} (E : Emb s (smallH [wRow true l]) h) : Emb s (smallH [wRow false l]) h := by
 have : Emb id (smallH [wRow false l]) (smallH [wRow true l]) := by
  refine ⟨fun i b0 hb => ?_, fun i hi => hi, fun i i' b b' hb hb' hr _ => ?_⟩
  ·rw [smallH_get] at hb
   cases i with
   | zero => injection hb with hb; subst hb; exact ⟨Nat.zero_lt_one, _, by rw [smallH_get]; rfl, wRow_sub l⟩
   | succ i => cases hb
  ·rw [smallH_get] at hb
   cases i with
   | zero => exact absurd hr (by injection hb with hb; rw [← hb]; exact Bool.false_ne_true)
   | succ i => cases hb
 exact this.trans E
theorem ednew_w (rn : EdR R0) (fm : EdF R R0) {s : Nat → Nat} {c : Nat} (hc : 512 ≤ c) (E : Emb s (smallH [wRow true W0]) h) :
 WP (R 6 [.slice (some ⟨s 0, 0, none⟩) 512 c] h) fun v u => ∃ t, v = .tuple #[pV (t 0), .int .i64 (.ofNat 0)] ∧ Emb t (smallH eT) u ∧ (∀ id, id < 3 → h.nx ≤ t id) ∧ Same h u := by
 have E := wRow_emb E
 obtain ⟨v0, h0', r, hq⟩ := chkRun_ok rn.ednew
 obtain ⟨pb, rfl, a1, a2, a3, a4, a5⟩ := qEdNew_inv hq
 have ar : VWs 1 s (aEdNew ()) [.slice (some ⟨s 0, 0, none⟩) 512 c] := .cons (.slice 0 0 512 512 c (by decide) (Nat.le_refl _) hc (.inl rfl)) .nil
 refine (w_fm (fun o ho => fm.ednew _ _ o ho) () trivial E ar rfl (fun j s2 hj E2 w2 => ⟨rfl, rfl⟩) r).mono fun v u ⟨g1, g2⟩ => ?_
 obtain ⟨y, z, rfl, y1, z1⟩ := g1.tup2_inv
 obtain ⟨yp, _⟩ := y1.ptr_inv
 rw [z1.int_inv, yp]
 have E' := g2.emb E r.nx (embK_ok a1) (holdK_ok r.hold)
 refine ⟨_, rfl, E', fun id hid => ?_, g2.same a5⟩
 show h.nx ≤ nextS s 1 h.nx (nthM [pb, refC h0' pb 4, refC h0' pb 9] id)
 unfold nextS
 have : ¬ nthM [pb, refC h0' pb 4, refC h0' pb 9] id < 1 := by
  match id, hid with
  | 0, _ => show ¬ pb < 1; omega
  | 1, _ => show ¬ refC h0' pb 4 < 1; omega
  | 2, _ => show ¬ refC h0' pb 9 < 1; omega
 rw [if_neg this]; omega
theorem pnew_w (rn : EdR R0) (fm : EdF R R0) {s : Nat → Nat} {c : Nat} (hc : 8 ≤ c) (E : Emb s (smallH [wRow false B0]) h) :
 WP (R 60 [g0.v, .agg #[.slice (some ⟨s 0, 0, none⟩) 8 c]] h) fun v u => ∃ t, v = .tuple #[pV (t 0), .int .i64 (.ofNat 0)] ∧ Emb t (smallH (pT B0)) u ∧ (∀ id, id < 2 → h.nx ≤ t id) ∧ Same h u := by
 obtain ⟨v0, h0', r, hq⟩ := chkRun_ok rn.pnew
 obtain ⟨pb, rfl, a1, a2, a3, a5⟩ := qPNew_inv hq
 have ar : VWs 1 s (aPNew ()) [g0.v, .agg #[.slice (some ⟨s 0, 0, none⟩) 8 c]] := .cons (VWl.agg (.cons (.int _ _) (.cons (.int _ _) (.cons (.int _ _) (.cons (.int _ _) .nil))))) (.cons (VWl.agg (.cons (.slice 0 0 8 8 c (by decide) (Nat.le_refl _) hc (.inl rfl)) .nil)) .nil)
 refine (w_fm (fun o ho => fm.pnew _ _ o ho) () trivial E ar rfl (fun j s2 hj E2 w2 => ⟨rfl, rfl⟩) r).mono fun v u ⟨g1, g2⟩ => ?_
 obtain ⟨y, z, rfl, y1, z1⟩ := g1.tup2_inv
 obtain ⟨yp, _⟩ := y1.ptr_inv
 rw [z1.int_inv, yp]
 have E' := g2.emb E r.nx (embK_ok a1) (holdK_ok r.hold)
 refine ⟨_, rfl, E', fun id hid => ?_, g2.same a5⟩
 show h.nx ≤ nextS s 1 h.nx (nthM [pb, refC h0' pb 4] id)
 unfold nextS
 have : ¬ nthM [pb, refC h0' pb 4] id < 1 := by
  match id, hid with
  | 0, _ => show ¬ pb < 1; omega
  | 1, _ => show ¬ refC h0' pb 4 < 1; omega
 rw [if_neg this]; omega
theorem take_uniq {n j : Nat} {s2 : Nat → Nat} {p : Nat} {k1 k2 : Int} (w2 : VWs 2 s2 (aTake j) [pV p, .int .i64 k1, .int .i64 (.ofNat n), .int .i64 k2]) : aTake j = aTake n := by
 unfold aTake at w2 ⊢
 cases w2 with
 | cons _ t => cases t with
  | cons _ t => cases t with
   | cons h3 _ =>
    generalize e : Value.int .i64 (.ofNat n) = x at h3
    cases h3
    rfl
theorem ptake_w (rn : EdR R0) (fm : EdF R R0) {s : Nat → Nat} {k N : Nat} (hk : k ≤ 20) (hN : ∀ id, id < 2 → N ≤ s id) (hNh : N ≤ h.nx) (E : Emb s (smallH (pT B0)) h) :
 WP (R 61 [pV (s 0), .int .i64 (.ofNat 0), .int .i64 (.ofNat k), .int .i64 (.ofNat 4)] h) fun v u => ∃ a c, v = .tuple #[.slice a (runT k).length c, .int .i64 (.ofNat 0)] ∧ MvN N h u ∧ OwnSl u (.slice a (runT k).length c) 87 2 false (runT k).length (Rc (runT k)) ∧ ∀ b, vId (.slice a (runT k).length c) = some b → h.nx ≤ b ∧ b < u.nx := by
 have ar : VWs 2 s (aTake k) [pV (s 0), .int .i64 (.ofNat 0), .int .i64 (.ofNat k), .int .i64 (.ofNat 4)] := .cons (.ptr 0 0 (by show 0 < _; exact Nat.zero_lt_succ _)) (.cons (.int _ _) (.cons (.int _ _) (.cons (.int _ _) .nil)))
 cases k with
 | zero =>
  obtain ⟨v0, h0', r, hq⟩ := chkRun_ok rn.take0
  have e0 := eqV_eq hq
  subst e0
  refine (w_fm (fun o ho => fm.take _ _ o ho) 0 (by decide) E ar rfl (fun j s2 hj E2 w2 => ⟨take_uniq w2, rfl⟩) r).mono fun v u ⟨g1, g2⟩ => ?_
  obtain ⟨y, z, rfl, y1, z1⟩ := g1.tup2_inv
  rw [y1.nilslice_inv, VW.int_inv (show VW _ _ _ (.int .i64 (.ofNat 0)) z from z1)]
  exact ⟨none, 0, rfl, g2.mv hN hNh, ⟨rfl, .inl ⟨rfl, rfl⟩⟩, fun b hb => by cases hb⟩
 | succ k =>
  obtain ⟨v0, h0', r, hq⟩ := chkRun_ok (rn.take k (by omega))
  obtain ⟨rb, c, rfl, hc, hr, a2⟩ := qTake_inv hq
  refine (w_fm (fun o ho => fm.take _ _ o ho) (k + 1) (by omega) E ar rfl (fun j s2 hj E2 w2 => ⟨take_uniq w2, rfl⟩) r).mono fun v u ⟨g1, g2⟩ => ?_
  obtain ⟨y, z, rfl, y1, z1⟩ := g1.tup2_inv
  obtain ⟨ys, _, _⟩ := y1.slice_inv
  rw [z1.int_inv, ys]
  have E' := g2.emb E r.nx (embK_ok a2) (holdK_ok r.hold)
  have nb : nextS s 2 h.nx rb = h.nx + (rb - 2) := if_neg (by omega)
  obtain ⟨_, b, q1, q2⟩ := E'.at_ 0 _ (by rw [smallH_get]; rfl)
  have lt := E'.lt 0 (by show 0 < 1; decide)
  have hh := row_holds (L' := Rc [(42, k + 1)]) q1 q2 rfl fun i v v' hv w => match i, hv with
   | 0, hv => by injection hv with hv; subst hv; unfold wI at w; cases w; rfl
   | 1, hv => by injection hv with hv; subst hv; cases w; rfl
   | i + 2, hv => by cases hv
  obtain ⟨cs, f, hb, hf, hg⟩ := hh
  refine ⟨_, c, rfl, g2.mv hN hNh, ⟨rfl, .inr ⟨_, c, cs, 2, f, rfl, hc, hb, (fun h => by cases h), Nat.le_refl _, fun i _ => hg i⟩⟩, fun b hb => ?_⟩
  have : nextS s 2 h.nx rb = b := by injection hb
  subst this
  exact ⟨by omega, lt⟩
set_option linter.unusedSimpArgs false
theorem emb_words {h : Hs} {v : Value} {l : List Nat} (hl : l ≠ []) (hv : OwnSl h v 39 1 true l.length (Wc l)) (hid : ∀ b, vId v = some b → b < h.nx) : ∃ s c, v = .slice (some ⟨s 0, 0, none⟩) l.length c ∧ l.length ≤ c ∧ Emb s (smallH [wRow false l]) h := by
 obtain ⟨_, o⟩ := hv
 rcases o with ⟨_, z⟩ | ⟨id, c, cs, sz, f, rfl, hc, hb, hf, hsz, hg⟩
 ·exact absurd (List.eq_nil_of_length_eq_zero z) hl
 ·refine ⟨fun _ => id, c, rfl, hc, fun i b0 hb0 => ?_, fun i _ => hid id rfl, fun i i' b b' hb hb' hr _ => ?_⟩
  ·rw [smallH_get] at hb0
   cases i with
   | zero =>
    injection hb0 with hb0
    subst hb0
    refine ⟨Nat.zero_lt_one, _, hb, .row _ _ _ _ _ _ _ _ _ _ (fun h => by cases h) (fun h => by cases h) fun i v0 hv => ?_⟩
    rw [get_ofList, List.getElem?_map] at hv
    cases hx : l[i]? with
    | none => rw [hx] at hv; cases hv
    | some x =>
     rw [hx] at hv
     injection hv with hv
     subst hv
     have il : i < (Wc l).length := by rw [Wc_len]; exact (List.getElem?_eq_some_iff.1 hx).1
     refine ⟨.int .u64 (.ofNat x), ?_, .int _ _⟩
     rw [hg i il]
     unfold Wc
     rw [List.getElem?_map, hx]; rfl
   | succ i => cases hb0
  ·rw [smallH_get] at hb
   cases i with
   | zero => exact absurd hr (by injection hb with hb; rw [← hb]; exact Bool.false_ne_true)
   | succ i => cases hb
def PoolOk (R : RnK) (g : Geo) (B : List Nat) (k : Nat) (l : List (Nat × Nat)) : Prop := ∀ (u : Hs) (v : Value), OwnSl u v 39 1 true B.length (Wc B) → (∀ b, vId v = some b → b < u.nx) →
 WP (R 60 [g.v, .agg #[v]] u) fun r u' => ∃ P, r = .tuple #[pV P, .int .i64 (.ofNat 0)] ∧ Same u u' ∧
  WP (R 61 [pV P, .int .i64 (.ofNat 0), .int .i64 (.ofNat k), .int .i64 (.ofNat 4)] u') fun v2 u2 => ∃ a c, v2 = .tuple #[.slice a l.length c, .int .i64 (.ofNat 0)] ∧ MvN u.nx u' u2 ∧ OwnSl u2 (.slice a l.length c) 87 2 false l.length (Rc l) ∧ ∀ b, vId (.slice a l.length c) = some b → u'.nx ≤ b ∧ b < u2.nx
theorem etake_ok {R : RnK} {N : Nat} (cb : CImgBits R) (cs : CBitsSet R) {g : Geo} {p b c k : Nat} {s0 : Value} {W : List Nat} {but l : List (Nat × Nat)} {h : Hs} {v : Value} (hN : 200000 < N) (E : EdAt h g p b c s0 W) (hr : but.length ≤ 1000) (hm : ∀ r ∈ but, r.1 ≤ 100000 ∧ r.2 ≤ 100000) (po : PoolOk R g (setRuns (bitsW g W) true but) k l) (r : RdX h v 2 (Rl but) b) :
 WP (r28 R N [pV p, .int .i64 (.ofNat 0), .int .i64 (.ofNat k), .int .i64 (.ofNat 4), v] h) fun r h' => ∃ a c, r = .tuple #[.slice a l.length c, .int .i64 (.ofNat 0)] ∧ New h h' (.osl (.slice a l.length c) 87 2 false l.length (Rc l)) := by
 unfold r28
 have cbg := cb g W (.slice (some ⟨b, 0, none⟩) (8 * g.b) c)
 unfold imgV at cbg
 obtain ⟨av, cv, rfl⟩ := r.1.1.formN (Rl_len but)
 obtain ⟨fl, hrow⟩ := E.row
 have rw_ := E.rdw
 have H := Sto.enterR h [.rob p (edO g fl b c s0), .rsl (.slice (some ⟨b, 0, none⟩) (8 * g.b) c) 1 (Wl W), .rsl (.slice av but.length cv) 2 (Rl but)] (fun t ht => by
  simp only [List.mem_cons, List.not_mem_nil, or_false] at ht
  rcases ht with rfl | rfl | rfl
  ·exact ⟨rfl, hrow, fun b' hb' => by injection hb' with e; subst e; exact E.pl⟩
  ·exact ⟨rfl, rw_.1, fun b' hb' => rw_.2 b' hb'⟩
  ·exact ⟨rfl, r.1.1, fun b' hb' => r.1.2 b' hb'⟩)
 have x := E.ok
 have h2 := E.len
 have bw := bitsW_len x h2
 have bs := bitsW_small (g := g) E.sm
 have l1 := Rl_len but
 have h4 := x.1.num
 have bw1 : (W.drop (8 * g.bitsAt)).take (8 * g.bitsN) = bitsW g W := rfl
 rw [bw1] at cbg
 unfold edO edC at H
 repeat' (first | (with_reducible refine w_unC ?_) | (with_reducible refine w_enK ?_) | (with_reducible refine w_fieldA ?_) | (with_reducible refine w_nil ?_) | ((with_reducible apply w_loadsR 0 H) ; rfl; rfl; rfl; rfl; (try dsimp only [List.drop_zero, List.drop_succ_cons, List.take_succ_cons, List.take_zero])))
 refine w_call (cbg _ x h2 (H.rd 1 rfl)) fun v1 u1 n1 => ?_
 obtain ⟨s1, rfl, n1⟩ := n1
 unfold OW at n1
 rw [bw] at n1
 obtain ⟨a1, c1, rfl⟩ := n1.2.1.form
 replace H := H.call n1
 repeat' (first | (with_reducible refine w_jn ?_) | (with_reducible refine w_lenV ?_) | (with_reducible refine w_st1A ?_) | ((with_reducible refine w_alloc H ?_) ; (clear H; intro u H hu)) | ((with_reducible apply w_storeV 0 H) ; rfl; rfl; rfl; omega; rfl; (clear H; intro u H hu; (try dsimp only [List.set_cons_zero, List.set_cons_succ, cellsL, List.toList_toArray, splice, ev, rep, List.cons_append, List.nil_append] at H))))
 replace H := H.unfl 0 rfl
 dsimp only [List.set_cons_zero] at H
 obtain ⟨m0, hm0, H0⟩ : ∃ m0, m0 = _ ∧ Sto h [] _ m0 := ⟨_, rfl, H⟩
 refine lp_ind (Good := fun n (self : L7) => ∀ (i : Nat) (y1 y2 y3 y4 y5 y6 : Value) (w : Hs) (a : Option Addr) (c' : Nat), i + n = but.length → Sto h [] w ((m0.set 0 (.blk u1.nx (.row 78 0 true false [.slice a (8 * g.bitsN) c']))).set 1 (.osl (.slice a (8 * g.bitsN) c') 39 1 true (8 * g.bitsN) (Wc (setRuns (bitsW g W) true (but.take i))))) → WP (self (.int .i64 (.ofNat i)) y1 y2 y3 y4 y5 y6 w) (fun r h' => ∃ a c, r = .tuple #[.slice a l.length c, .int .i64 (.ofNat 0)] ∧ New h h' (.osl (.slice a l.length c) 87 2 false l.length (Rc l)))) (fun n self ih i y1 y2 y3 y4 y5 y6 w a c' hi H1 => ?_) N but.length (by omega) 0 _ _ _ _ _ _ _ a1 c1 (by omega) (by rw [hm0]; exact H)
 clear H0 H
 have hm1 := hm0
 rw [hm0] at H1
 have H := H1
 clear H1
 dsimp only [List.set_cons_zero, List.set_cons_succ] at H
 repeat' (first | (with_reducible refine w_jn ?_) | (with_reducible refine w_cndT ?_) | (with_reducible refine w_cndF ?_) | (with_reducible refine w_fieldA ?_) | (with_reducible refine w_nil ?_) | ((with_reducible refine w_lss_NN (fun _ => ?_) (fun _ => ?_)) <;> first | (exfalso; omega) | skip) | ((with_reducible apply w_loadsF 0 H) ; rfl; rfl; rfl) | ((with_reducible apply w_loadsR 2 H) ; rfl; rfl; rfl; rfl; (try dsimp only [List.drop_zero, List.drop_succ_cons, List.take_succ_cons, List.take_zero])))
 ·have ii : i < but.length := by omega
  refine w_at 4 H rfl (Rl_get ii) rfl rfl ?_
  have rb := hm _ (List.getElem_mem ii)
  have tk : but.take (i + 1) = but.take i ++ [but[i]] := by rw [List.take_add_one, List.getElem?_eq_getElem ii]; rfl
  repeat' (first | (with_reducible refine w_jn ?_) | (with_reducible refine w_fieldA ?_) | ((with_reducible refine w_alloc H ?_) ; (clear H; intro u H hu)) | ((with_reducible apply w_load 0 H) ; rfl; rfl; rfl) | ((with_reducible apply w_storeV 0 H) ; rfl; rfl; rfl; omega; rfl; (clear H; intro u H hu; (try dsimp only [List.set_cons_zero, List.set_cons_succ, cellsL, List.toList_toArray, splice, ev, rep, List.cons_append, List.nil_append] at H))))
  generalize hB : setRuns (bitsW g W) true (but.take i) = B at H
  have bl : B.length = 8 * g.bitsN := by rw [← hB, setRuns_len, bw]
  have bsm : Small B := by rw [← hB]; exact setRuns_small _ _ bs
  obtain ⟨k0, hk0, K0⟩ : ∃ k0, k0 = _ ∧ Sto h [] _ k0 := ⟨_, rfl, H⟩
  refine lp_ind (Good := fun n2 (self2 : L3) => ∀ (j : Nat) (z1 z2 : Value) (w2 : Hs) (a : Option Addr) (c' : Nat), j + n2 = but[i].2 → Sto h [] w2 ((k0.set 1 (.blk u1.nx (.row 78 0 true false [.slice a (8 * g.bitsN) c']))).set 2 (.osl (.slice a (8 * g.bitsN) c') 39 1 true (8 * g.bitsN) (Wc (setRun B true but[i].1 j)))) → WP (self2 (.int .i64 (.ofNat j)) z1 z2 w2) (fun r h' => ∃ a c, r = .tuple #[.slice a l.length c, .int .i64 (.ofNat 0)] ∧ New h h' (.osl (.slice a l.length c) 87 2 false l.length (Rc l)))) (fun n2 self2 ih2 j z1 z2 w2 a c' hj H2 => ?_) N but[i].2 (by omega) 0 _ _ _ a c' (by omega) (by rw [hk0]; exact H)
  clear K0 H
  have hk1 := hk0
  rw [hk0] at H2
  have H := H2
  clear H2
  dsimp only [List.set_cons_zero, List.set_cons_succ] at H
  have sl := setRun_len B true but[i].1 j
  have ss := setRun_small bsm true but[i].1 j
  repeat' (first | (with_reducible refine w_jn ?_) | (with_reducible refine w_cndT ?_) | (with_reducible refine w_cndF ?_) | (with_reducible refine w_fieldA ?_) | ((with_reducible apply w_mkrow H) ; rfl; (clear H; intro u H hu; (try dsimp only [List.set_cons_zero, List.set_cons_succ, cellsL, List.toList_toArray, splice, ev, rep, List.cons_append, List.nil_append] at H))) | ((with_reducible refine w_lss_NN (fun _ => ?_) (fun _ => ?_)) <;> first | (exfalso; omega) | skip) | ((with_reducible refine w_add_NN ?_ ?_) ; omega) | ((with_reducible apply w_load 0 H) ; rfl; rfl; rfl) | ((with_reducible apply w_loadsF 1 H) ; rfl; rfl; rfl))
  ·have le1 : ∀ q ∈ [((but[i].1 + j : Nat) : Int)], q ≤ 9223372036854775807 := by
    intro q hq
    simp only [List.mem_singleton] at hq
    omega
   have bst : setRun B true but[i].1 (j + 1) = setBits (setRun B true but[i].1 j) true [((but[i].1 + j : Nat) : Int)] := setRun_succ _ _ _ _
   have rdw := H.rdO 3 rfl
   rw [← Wl_ones] at rdw
   refine w_call (cs (setRun B true but[i].1 j) true [((but[i].1 + j : Nat) : Int)] _ _ _ ss (by omega) (by simp) le1 rdw (H.rdB (L := [.int .i64 (.ofNat (but[i].1 + j))]) (n := 1) (c := 1) 0 rfl rfl (Nat.le_refl _))) fun v6 u6 n6 => ?_
   obtain ⟨s6, rfl, n6⟩ := n6
   rw [← bst] at n6
   unfold OW at n6
   rw [setRun_len, bl] at n6
   obtain ⟨a6, c6, rfl⟩ := n6.2.1.form
   replace H := H.call n6
   repeat' (first | (with_reducible refine w_st1A ?_) | ((with_reducible refine w_add_NN ?_ ?_) ; omega) | ((with_reducible apply w_storeV 3 H) ; rfl; rfl; rfl; omega; rfl; (clear H; intro u H hu; (try dsimp only [List.set_cons_zero, List.set_cons_succ, cellsL, List.toList_toArray, splice, ev, rep, List.cons_append, List.nil_append] at H))))
   replace H := H.sel [2, 3, 0, 5, 6, 7] 8 rfl (by decide) (by decide); dsimp only [List.filterMap_cons, List.filterMap_nil, List.getElem?_cons_zero, List.getElem?_cons_succ] at H
   replace H := H.unfl 1 rfl
   dsimp only [List.set_cons_zero, List.set_cons_succ] at H
   refine ih2 (n2 - 1) (by omega) (j + 1) _ _ _ a6 c6 (by omega) ?_
   rw [hk1]
   exact H
  ·rw [show j = but[i].2 by omega] at H
   refine ih (n - 1) (by omega) (i + 1) _ _ _ _ _ _ _ a c' (by omega) ?_
   rw [hm1, tk, setRuns_snoc, hB]
   exact H.tail
 ·have ie : i = but.length := by omega
  rw [ie, List.take_length] at H
  clear ih hm0
  have fl2 := setRuns_len true but (bitsW g W)
  generalize setRuns (bitsW g W) true but = B at H po fl2
  skip
  have own0 : OwnSl w (.slice a (8 * g.bitsN) c') 39 1 true B.length (Wc B) := by rw [fl2, bw]; exact H.ok _ (List.mem_of_getElem? (i := 1) rfl)
  refine w_call (po w (.slice a (8 * g.bitsN) c') own0 fun b hb => (H.ids _ (List.mem_of_getElem? (i := 1) rfl) b hb).1) fun v3 u3 q => ?_
  obtain ⟨P, rfl, sm, tk⟩ := q
  refine w_bar sm.1.1 ?_
  repeat' (first | (with_reducible refine w_jn ?_) | (with_reducible refine w_cndF ?_) | ((with_reducible apply w_extr) ; rfl) | ((with_reducible refine w_neq_NN (fun _ => ?_) (fun _ => ?_)) <;> first | (exfalso; omega) | skip))
  refine w_call tk fun v4 u4 q => ?_
  obtain ⟨a', c'', rfl, mv, own, ids⟩ := q
  repeat' (first | ((with_reducible apply w_extr) ; rfl))
  have nn := H.nx
  have n3 := sm.1.1
  have H3 : Sto h [] u3 [] := (H.same sm).sel [] _ rfl (by simp) (by simp)
  have H4 : Sto h [] u4 [] := H3.mv mv nn rfl (fun t ht => by cases ht)
  have H5 := H4.cons (.osl (.slice a' l.length c'') 87 2 false l.length (Rc l)) own (fun b hb => ⟨(ids b hb).2, fun _ => .inl (by have := (ids b hb).1; omega)⟩) (fun s hs => by cases hs)
  exact w_clrC (fun v => .tuple #[v, .int .i64 (.ofNat 0)]) 0 H5 rfl (fun _ _ _ => by simp [blkV, blkP, blkC]) (fun _ _ _ _ => rfl) fun v' h' n' => by
   obtain ⟨a2, c2, rfl⟩ := n'.2.1.form
   exact ⟨a2, c2, rfl, n'⟩
theorem poolOk_B0 {R : RnK} {R0 : FuncId → List Value → Hs → An} (rn : EdR R0) (fm : EdF R R0) {k : Nat} (hk : k ≤ 20) : PoolOk R g0 B0 k (runT k) := fun u v own hid => by
 obtain ⟨s, c, rfl, hc, E⟩ := emb_words (l := B0) (by decide) own hid
 refine (pnew_w rn fm hc E).mono fun r u' hv => ?_
 obtain ⟨t, rfl, E2, ge, sm⟩ := hv
 exact ⟨_, rfl, sm, ptake_w rn fm hk ge sm.1.1 E2⟩
set_option linter.unusedSimpArgs false
theorem putW_get {W ws : List Nat} {o i : Nat} (h : o + ws.length ≤ W.length) : (putW W o ws).getD i 0 = if o ≤ i ∧ i < o + ws.length then ws.getD (i - o) 0 else W.getD i 0 := by
 simp only [List.getD_eq_getElem?_getD]
 congr 1
 unfold putW
 have e1 : (W.take o).length = o := by rw [List.length_take]; omega
 by_cases h1 : i < o
 ·rw [if_neg (by omega), List.append_assoc, List.getElem?_append_left (by omega), List.getElem?_take, if_pos h1]
 ·by_cases h2 : i < o + ws.length
  ·rw [if_pos ⟨by omega, h2⟩, List.append_assoc, List.getElem?_append_right (by omega), e1, List.getElem?_append_left (by omega)]
  ·rw [if_neg (by omega), List.getElem?_append_right (by rw [List.length_append, e1]; omega), List.length_append, e1, List.getElem?_drop, show o + ws.length + (i - (o + ws.length)) = i by omega]
theorem ext_getD {a b : List Nat} (h : a.length = b.length) (g : ∀ i, i < a.length → a.getD i 0 = b.getD i 0) : a = b := by
 refine List.ext_getElem h fun i h1 h2 => ?_
 have := g i h1
 rw [List.getD_eq_getElem?_getD, List.getD_eq_getElem?_getD, List.getElem?_eq_getElem h1, List.getElem?_eq_getElem h2] at this
 exact this
theorem sub_get (W : List Nat) (o n j : Nat) (hj : j < n) : ((W.drop o).take n).getD j 0 = W.getD (o + j) 0 := by
 simp only [List.getD_eq_getElem?_getD]
 rw [List.getElem?_take, if_pos hj, List.getElem?_drop]
theorem sub_put {W ws : List Nat} {o : Nat} (h : o + ws.length ≤ W.length) : ((putW W o ws).drop o).take ws.length = ws := by
 refine ext_getD (by rw [List.length_take, List.length_drop, putW_len h]; omega) fun i hi => ?_
 rw [List.length_take, List.length_drop, putW_len h] at hi
 rw [sub_get _ _ _ _ (by omega), putW_get h, if_pos ⟨by omega, by omega⟩]
 congr 1; omega
theorem sub_off {W ws : List Nat} {o p n : Nat} (h : o + ws.length ≤ W.length) (hp : p + n ≤ W.length) (d : p + n ≤ o ∨ o + ws.length ≤ p) : ((putW W o ws).drop p).take n = (W.drop p).take n := by
 refine ext_getD (by rw [List.length_take, List.length_drop, putW_len h, List.length_take, List.length_drop]) fun i hi => ?_
 rw [List.length_take, List.length_drop, putW_len h] at hi
 rw [sub_get _ _ _ _ (by omega), sub_get _ _ _ _ (by omega), putW_get h, if_neg (by omega)]
theorem put_sub {W : List Nat} {o n : Nat} (h : o + n ≤ W.length) : putW W o ((W.drop o).take n) = W := by
 have l : ((W.drop o).take n).length = n := by rw [List.length_take, List.length_drop]; omega
 refine ext_getD (putW_len (by omega)) fun i hi => ?_
 rw [putW_get (by omega), l]
 split
 ·rw [sub_get _ _ _ _ (by omega)]; congr 1; omega
 ·rfl
theorem blockAt_put {W ws : List Nat} {a : Nat} (hw : ws.length = 8) (h : 8 * a + 8 ≤ W.length) : blockAt (putW W (8 * a) ws) a = ws := by
 have := sub_put (W := W) (ws := ws) (o := 8 * a) (by omega)
 rw [hw] at this
 exact this
theorem bitsW_put {g : Geo} {W B : List Nat} (hB : B.length = 8 * g.bitsN) (h : 8 * g.bitsAt + 8 * g.bitsN ≤ W.length) : bitsW g (putW W (8 * g.bitsAt) B) = B := by
 have := sub_put (W := W) (ws := B) (o := 8 * g.bitsAt) (by omega)
 rw [hB] at this
 exact this
theorem bitsW_off {g : Geo} {W ws : List Nat} {o : Nat} (h : o + ws.length ≤ W.length) (h2 : 8 * g.bitsAt + 8 * g.bitsN ≤ W.length) (d : 8 * g.bitsAt + 8 * g.bitsN ≤ o ∨ o + ws.length ≤ 8 * g.bitsAt) : bitsW g (putW W o ws) = bitsW g W := sub_off h h2 d
theorem markW_nil {g : Geo} {W : List Nat} {yes : Bool} (h : 8 * g.bitsAt + 8 * g.bitsN ≤ W.length) : markW g W yes [] = W := put_sub h
theorem decR_runW {r : Nat × Nat} (h : runFits r = true) : decR (runW r) = r ∧ runW r ≠ 0 := by
 obtain ⟨a, b⟩ := r
 have f := runFits_of h
 simp only at f
 have e1 : b * 4294967296 % 18446744073709551616 = b * 4294967296 := Nat.mod_eq_of_lt (by omega)
 have e2 : runW (a, b) = a + b * 4294967296 := by
  unfold runW
  simp only
  rw [e1, Nat.or_comm, show b * 4294967296 = 2 ^ 32 * b by omega, ← Nat.two_pow_add_eq_or_of_lt (show a < 2 ^ 32 by omega)]; omega
 refine ⟨?_, by omega⟩
 unfold decR
 rw [e2]
 have e3 : (a + b * 4294967296) &&& 4294967295 = a := by
  rw [show 4294967295 = 2 ^ 32 - 1 by decide, Nat.and_two_pow_sub_one_eq_mod]; omega
 rw [e3]
 congr 1
 omega
theorem decRs_runs (l : List (Nat × Nat)) (z : List Nat) (h : ∀ r ∈ l, runFits r = true) (hz : ∀ x ∈ z, x = 0) : decRs (l.map runW ++ z) = l := by
 unfold decRs
 induction l with
 | nil =>
  cases z with
  | nil => rfl
  | cons x z => rw [hz x List.mem_cons_self]; rfl
 | cons r l ih =>
  have f := decR_runW (h r List.mem_cons_self)
  rw [List.map_cons, List.cons_append, List.takeWhile_cons_of_pos (by simp [f.2]), List.map_cons, f.1, ih fun r hr => h r (List.mem_cons_of_mem _ hr)]
theorem getNode_put {d : Nd} (h : d.fits) : getNode (nodeW d) = some d := by
 have hf := h
 unfold Nd.fits at h
 by_cases z : d.ty = 0
 ·rw [if_pos z] at h
  obtain ⟨h1, h2, h3, h4⟩ := h
  obtain ⟨a, b, c, e⟩ := d
  simp only at h1 h2 h3 h4
  subst h1; subst h2; subst h3; subst h4
  have : nodeW ⟨0, 0, 0, []⟩ = [0, 0, 0, 0, 0, 0, 0, 0] := rfl
  rw [this]
  have q : (0 : Nat) / 2 ^ 32 = 0 ∧ (0 : Nat) ≤ 1099511627776 ∧ (decN 0 0 [0, 0, 0, 0]).fits ∧ nodeW (decN 0 0 [0, 0, 0, 0]) = [0, 0, 0, 0, 0, 0, 0, 0] := ⟨rfl, by decide, by decide, rfl⟩
  unfold getNode
  exact (if_pos q).trans rfl
 ·rw [if_neg z] at h
  obtain ⟨h1, h2, h3, h4, h5⟩ := h
  have e1 : d.ln * 256 % 18446744073709551616 = d.ln * 256 := Nat.mod_eq_of_lt (by omega)
  have e2 : (d.ty ||| d.ln * 256) = d.ty + d.ln * 256 := by
   rw [Nat.or_comm, show d.ln * 256 = 2 ^ 8 * d.ln by omega, ← Nat.two_pow_add_eq_or_of_lt (show d.ty < 2 ^ 8 by omega)]; omega
  have bl := body_len h4
  have e3 : ∃ r0 r1 r2 r3, d.body = [d.ty + d.ln * 256, d.sz, r0, r1, r2, r3, 0] ∧ decRs [r0, r1, r2, r3] = d.rs := by
   have hr : ∀ r ∈ d.rs, runFits r = true := List.all_eq_true.1 h5
   have db : d.body = [d.ty + d.ln * 256, d.sz] ++ (d.rs.map runW ++ List.replicate (4 - d.rs.length) 0) ++ [0] := by
    unfold Nd.body Nd.head
    rw [e1, e2, show 5 - d.rs.length = 4 - d.rs.length + 1 by omega, List.replicate_succ']
    simp only [List.append_assoc]
   have dr := decRs_runs d.rs (List.replicate (4 - d.rs.length) 0) hr (fun x hx => (List.mem_replicate.1 hx).2)
   have l4 : (d.rs.map runW ++ List.replicate (4 - d.rs.length) 0).length = 4 := by rw [List.length_append, List.length_map, List.length_replicate]; omega
   generalize d.rs.map runW ++ List.replicate (4 - d.rs.length) 0 = q at db dr l4
   match q, l4 with
   | [r0, r1, r2, r3], _ => exact ⟨r0, r1, r2, r3, db, dr⟩
  obtain ⟨r0, r1, r2, r3, e3, e4⟩ := e3
  have e5 : nodeW d = [d.ty + d.ln * 256, d.sz, r0, r1, r2, r3, 0, sealOf d.body] := by
   unfold nodeW
   rw [if_neg z]
   rw [show d.body ++ [sealOf d.body] = [d.ty + d.ln * 256, d.sz, r0, r1, r2, r3, 0] ++ [sealOf d.body] from by rw [← e3]]
   rfl
  have e6 : decN (d.ty + d.ln * 256) d.sz [r0, r1, r2, r3] = d := by
   unfold decN
   rw [e4]
   have a1 : (d.ty + d.ln * 256) &&& 255 = d.ty := by
    rw [show 255 = 2 ^ 8 - 1 by decide, Nat.and_two_pow_sub_one_eq_mod]; omega
   have a2 : (d.ty + d.ln * 256) / 2 ^ 8 = d.ln := by omega
   rw [a1, a2]
  have e7 := e5
  rw [e5]
  unfold getNode
  simp only
  rw [e6, if_pos ⟨by omega, h3, hf, e7⟩]
set_option linter.unusedSimpArgs false
theorem g0_ok : g0.Ok := by decide
theorem W0_len : W0.length = 512 := by decide +kernel
theorem W0_small : Small W0 := fun n hn => by
 have : ∀ n ∈ W0, n < 18446744073709551616 := by decide +kernel
 exact this n hn
theorem W0_bits : bitsW g0 W0 = B0 := by decide +kernel
theorem W0_nought : ∀ i, i < 312 → W0.getD (192 + i) 0 = 0 := by decide +kernel
theorem B0_back : ∀ k, k < 21 → setRuns (setRuns B0 true (runT k)) false (runT k) = B0 := by decide +kernel
theorem nodeAt0 {n : Nat} (h1 : 3 ≤ n) (h2 : n ≤ 10) : g0.nodeAt n = 21 + n := by
 have : g0.nodeAt n = g0.bitsAt + g0.bitsN + n - 1 := if_pos ⟨by omega, h2⟩
 rw [this]
 show 21 + 1 + n - 1 = _
 omega
def zero8 : List Nat := List.replicate 8 0
theorem nodeW0 : nodeW nd0 = zero8 := rfl
theorem W0_node {n : Nat} (h1 : 3 ≤ n) (h2 : n ≤ 10) : blockAt W0 (21 + n) = zero8 := by
 have l := W0_len
 refine ext_getD (blockAt_len (by omega)) fun i hi => ?_
 rw [blockAt_len (by omega)] at hi
 unfold blockAt
 rw [sub_get _ _ _ _ hi, show 8 * (21 + n) + i = 192 + (8 * (n - 3) + i) by omega, W0_nought _ (by omega)]
 match i, hi with
 | 0, _ => rfl
 | 1, _ => rfl
 | 2, _ => rfl
 | 3, _ => rfl
 | 4, _ => rfl
 | 5, _ => rfl
 | 6, _ => rfl
 | 7, _ => rfl
def fN : Nd := ⟨1, 1, 0, []⟩
theorem fN_good : fN.good g0 := by
 unfold Nd.good
 rw [if_neg (by decide)]
 refine ⟨by decide, by decide, by decide, by decide, by unfold Nd.sizedP; decide, by decide, .inr fun i hi => ?_, rfl⟩
 exact absurd hi (Nat.not_lt_zero _)
def fD (L k : Nat) : Nd := ⟨1, 1, L, runT k⟩
theorem runT_sum (k : Nat) : sumR (runT k) = k := by cases k <;> rfl
theorem fD_good {L k : Nat} (hL : L ≤ 1200) (hk : k = (L + 63) / 64) : (fD L k).good g0 := by
 unfold Nd.good
 rw [if_neg (show ¬ (fD L k).ty = 0 by show ¬ 1 = 0; decide)]
 refine ⟨Nat.le_refl _, by show 1 ≤ 3; decide, Nat.le_refl _, by show 1 ≤ 200; decide, ?_, ?_, .inr fun i hi r hr => ?_, ?_⟩
 ·unfold Nd.sizedP
  rw [if_pos (show (fD L k).ty = 1 from rfl)]
  show L ≤ 4096; omega
 ·show (runT k).length ≤ 4
  cases k
  ·decide
  ·show 1 ≤ 4; decide
 ·have hr : (runT k)[i]? = some r := hr
  cases k with
  | zero => cases hr
  | succ k =>
   cases i with
   | zero =>
    injection hr with hr
    subst hr
    refine ⟨⟨by show 1 ≤ k + 1; omega, by show 42 ≤ 42; decide, by show 42 + (k + 1) ≤ 63; omega⟩, fun j hj => absurd hj (Nat.not_lt_zero _)⟩
   | succ i => cases hr
 ·show sumR (runT k) = _
  rw [runT_sum]
  unfold Nd.needs fD
  simp
  omega
theorem runAt_T {k i : Nat} (h : i < k) : runAt (runT k) i = some (42 + i) := by
 cases k with
 | zero => omega
 | succ k => exact if_pos h
def w1 (n : Nat) : List Nat := setNodeW g0 W0 n [] fN
def w2 (n L : Nat) (k : Nat) : List Nat := setNodeW g0 (w1 n) n [] (fD L k)
def w3 (n : Nat) (D : List UInt8) (k : Nat) : List Nat := fillTo (w2 n D.length k) (runT k) D k
def w4 (n : Nat) (D : List UInt8) (k : Nat) : List Nat := setNodeW g0 (w3 n D k) n (runT k) nd0
section
variable {n : Nat} {D : List UInt8} {k : Nat} (h1 : 3 ≤ n) (h2 : n ≤ 10) (hL : D.length ≤ 1200) (hk : k = (D.length + 63) / 64)
include h1 h2
theorem w1_eq : w1 n = putW W0 (8 * (21 + n)) (nodeW fN) := by
 have l := W0_len
 unfold w1 setNodeW
 rw [nodeAt0 h1 h2, show fN.rs = [] from rfl, markW_nil (W := W0) (by show 8 * 21 + 8 * 1 ≤ _; omega), markW_nil (by show 8 * 21 + 8 * 1 ≤ _; omega)]
theorem w1_len : (w1 n).length = 512 := by rw [w1_eq h1 h2, putW_len (by rw [W0_len]; show 8 * (21 + n) + 8 ≤ 512; omega), W0_len]
theorem w1_bits : bitsW g0 (w1 n) = B0 := by
 rw [w1_eq h1 h2, bitsW_off (by rw [W0_len]; show 8 * (21 + n) + 8 ≤ 512; omega) (by rw [W0_len]; decide) (.inl (by show 8 * 21 + 8 * 1 ≤ _; omega)), W0_bits]
theorem w1_node : INode g0 (w1 n) n fN := by
 refine ⟨by omega, h2, ?_, fN_good⟩
 rw [nodeAt0 h1 h2, w1_eq h1 h2, blockAt_put rfl (by rw [W0_len]; omega)]
 exact getNode_put (good_fits g0_ok fN_good)
omit h1 h2 in
theorem w1_small : Small (w1 n) := setNodeW_small W0_small (good_fits g0_ok fN_good)
theorem w0_node : INode g0 W0 n nd0 := by
 refine ⟨by omega, h2, ?_, nd0_good _⟩
 rw [nodeAt0 h1 h2, W0_node h1 h2, ← nodeW0]
 exact getNode_put (good_fits g0_ok (nd0_good g0))
theorem w2_eq (L k : Nat) : w2 n L k = putW (putW (w1 n) 168 (setRuns B0 true (runT k))) (8 * (21 + n)) (nodeW (fD L k)) := by
 have l := w1_len h1 h2
 unfold w2 setNodeW
 rw [nodeAt0 h1 h2, markW_nil (W := w1 n) (by show 8 * 21 + 8 * 1 ≤ _; omega)]
 unfold markW
 rw [w1_bits h1 h2]
 rfl
omit h1 h2 in
theorem sT_len (yes : Bool) (rs : List (Nat × Nat)) : (setRuns B0 yes rs).length = 8 := by rw [setRuns_len]; rfl
theorem w2_len {L k : Nat} (g : (fD L k).good g0) : (w2 n L k).length = 512 := by
 have l := w1_len h1 h2
 have q : (nodeW (fD L k)).length = 8 := nodeW_len (fits_len (good_fits g0_ok g))
 have r := sT_len true (runT k)
 have e : (putW (w1 n) 168 (setRuns B0 true (runT k))).length = 512 := by rw [putW_len (by omega), l]
 rw [w2_eq h1 h2, putW_len (by omega), e]
theorem w2_bits {L k : Nat} (g : (fD L k).good g0) : bitsW g0 (w2 n L k) = setRuns B0 true (runT k) := by
 have l := w1_len h1 h2
 have q : (nodeW (fD L k)).length = 8 := nodeW_len (fits_len (good_fits g0_ok g))
 have r := sT_len true (runT k)
 have e : (putW (w1 n) 168 (setRuns B0 true (runT k))).length = 512 := by rw [putW_len (by omega), l]
 rw [w2_eq h1 h2, bitsW_off (by omega) (by rw [e]; decide) (.inl (by show 8 * 21 + 8 * 1 ≤ _; omega))]
 exact bitsW_put (g := g0) (by rw [r]; rfl) (by rw [l]; decide)
theorem w2_node {L k : Nat} (g : (fD L k).good g0) : blockAt (w2 n L k) (21 + n) = nodeW (fD L k) := by
 have l := w1_len h1 h2
 have q : (nodeW (fD L k)).length = 8 := nodeW_len (fits_len (good_fits g0_ok g))
 have r := sT_len true (runT k)
 have e : (putW (w1 n) 168 (setRuns B0 true (runT k))).length = 512 := by rw [putW_len (by omega), l]
 rw [w2_eq h1 h2, blockAt_put q (by omega)]
end
theorem fill_get {W : List Nat} {k : Nat} {D : List UInt8} (hW : W.length = 512) (hk : k ≤ 21) : ∀ j, j ≤ k → (fillTo W (runT k) D j).length = 512 ∧ ∀ i, i < 336 ∨ 504 ≤ i → (fillTo W (runT k) D j).getD i 0 = W.getD i 0 := by
 intro j
 induction j with
 | zero => intro _; exact ⟨hW, fun i _ => rfl⟩
 | succ j ih =>
  intro hj
  obtain ⟨a, b⟩ := ih (by omega)
  have pl : (packW (chunk D j)).length = 8 := packTo_len _ _
  rw [fillTo_succ, runAt_T (by omega)]
  show (putW _ (8 * (42 + j)) _).length = 512 ∧ ∀ i, _ → (putW _ (8 * (42 + j)) _).getD i 0 = _
  refine ⟨by rw [putW_len (by omega), a], fun i hi => ?_⟩
  rw [putW_get (by omega), if_neg (by omega), b i hi]
set_option linter.unusedSimpArgs false
theorem mem_diffs {W V : List Nat} {n : Nat} {r : Nat × Nat} (h : r ∈ diffs W V n) : r.1 < n ∧ W.getD r.1 0 ≠ V.getD r.1 0 := by
 unfold diffs at h
 rw [List.mem_filterMap] at h
 obtain ⟨k, hk, e⟩ := h
 rw [List.mem_range] at hk
 split at e
 ·cases e
 ·injection e with e
  subst e
  exact ⟨hk, by assumption⟩
section
variable {n : Nat} {D : List UInt8} {k : Nat} (h1 : 3 ≤ n) (h2 : n ≤ 10) (hL : D.length ≤ 1200) (hk : k = (D.length + 63) / 64)
include h1 h2 hL hk
omit h1 h2 in
theorem w2g : (fD D.length k).good g0 := fD_good hL hk
theorem w3_len : (w3 n D k).length = 512 := (fill_get (D := D) (w2_len h1 h2 (w2g hL hk)) (by omega) k (Nat.le_refl _)).1
theorem w3_get (i : Nat) (hi : i < 336 ∨ 504 ≤ i) : (w3 n D k).getD i 0 = (w2 n D.length k).getD i 0 := (fill_get (D := D) (w2_len h1 h2 (w2g hL hk)) (by omega) k (Nat.le_refl _)).2 i hi
omit h1 h2 in
theorem w3_small : Small (w3 n D k) := fillTo_small (setNodeW_small w1_small (good_fits g0_ok (w2g hL hk))) _
theorem w3_node : INode g0 (w3 n D k) n (fD D.length k) := by
 have g := w2g hL hk
 have l3 := w3_len h1 h2 hL hk
 have l2 := w2_len h1 h2 g
 refine ⟨by omega, h2, ?_, g⟩
 have e : blockAt (w3 n D k) (21 + n) = blockAt (w2 n D.length k) (21 + n) := by
  refine ext_getD (by rw [blockAt_len (by omega), blockAt_len (by omega)]) fun i hi => ?_
  rw [blockAt_len (by omega)] at hi
  unfold blockAt
  rw [sub_get _ _ _ _ hi, sub_get _ _ _ _ hi, w3_get h1 h2 hL hk _ (by omega)]
 rw [nodeAt0 h1 h2, e, w2_node h1 h2 g]
 exact getNode_put (good_fits g0_ok g)
theorem w3_bits : bitsW g0 (w3 n D k) = setRuns B0 true (runT k) := by
 have g := w2g hL hk
 have l3 := w3_len h1 h2 hL hk
 have l2 := w2_len h1 h2 g
 rw [← w2_bits h1 h2 g]
 have e1 : (bitsW g0 (w3 n D k)).length = 8 := bitsW_len (g := g0) g0_ok (by rw [l3]; rfl)
 have e2 : (bitsW g0 (w2 n D.length k)).length = 8 := bitsW_len (g := g0) g0_ok (by rw [l2]; rfl)
 refine ext_getD (by rw [e1, e2]) fun i hi => ?_
 rw [e1] at hi
 unfold bitsW
 have hi' : i < 8 * g0.bitsN := hi
 rw [sub_get _ _ _ _ hi', sub_get _ _ _ _ hi']
 exact w3_get h1 h2 hL hk _ (.inl (by show 8 * 21 + i < _; omega))
theorem w4_eq : w4 n D k = putW (putW (w3 n D k) 168 B0) (8 * (21 + n)) zero8 := by
 have l3 := w3_len h1 h2 hL hk
 have m1 : markW g0 (w3 n D k) false (runT k) = putW (w3 n D k) 168 B0 := by
  unfold markW
  rw [w3_bits h1 h2 hL hk, B0_back k (by omega)]; rfl
 unfold w4 setNodeW
 rw [nodeAt0 h1 h2, m1, show nd0.rs = [] from rfl, markW_nil (by rw [putW_len (by rw [l3]; decide), l3]; decide), nodeW0]
theorem w4_len : (w4 n D k).length = 512 := by
 have l3 := w3_len h1 h2 hL hk
 have e : (putW (w3 n D k) 168 B0).length = 512 := by rw [putW_len (by rw [l3]; decide), l3]
 have z : zero8.length = 8 := rfl
 rw [w4_eq h1 h2 hL hk, putW_len (by omega), e]
omit h1 h2 in
theorem w4_small : Small (w4 n D k) := setNodeW_small (w3_small hL hk) (good_fits g0_ok (nd0_good g0))
theorem w4_bits : bitsW g0 W0 = bitsW g0 (w4 n D k) := by
 have l3 := w3_len h1 h2 hL hk
 have e : (putW (w3 n D k) 168 B0).length = 512 := by rw [putW_len (by rw [l3]; decide), l3]
 have z : zero8.length = 8 := rfl
 rw [W0_bits, w4_eq h1 h2 hL hk, bitsW_off (by omega) (by rw [e]; decide) (.inl (by show 8 * 21 + 8 * 1 ≤ _; omega))]
 exact (bitsW_put (g := g0) rfl (by rw [l3]; decide)).symm
theorem w4_node : INode g0 (w4 n D k) n nd0 := by
 have l3 := w3_len h1 h2 hL hk
 have e : (putW (w3 n D k) 168 B0).length = 512 := by rw [putW_len (by rw [l3]; decide), l3]
 refine ⟨by omega, h2, ?_, nd0_good _⟩
 rw [nodeAt0 h1 h2, w4_eq h1 h2 hL hk, blockAt_put rfl (by omega), ← nodeW0]
 exact getNode_put (good_fits g0_ok (nd0_good g0))
theorem w4_get (i : Nat) (hi : i < 336 ∨ 504 ≤ i) : (w4 n D k).getD i 0 = W0.getD i 0 := by
 have g := w2g hL hk
 have l0 := W0_len
 have l1 := w1_len h1 h2
 have l3 := w3_len h1 h2 hL hk
 have q : (nodeW (fD D.length k)).length = 8 := nodeW_len (fits_len (good_fits g0_ok g))
 have q1 : (nodeW fN).length = 8 := rfl
 have r := sT_len true (runT k)
 have b8 : B0.length = 8 := rfl
 have e : (putW (w3 n D k) 168 B0).length = 512 := by rw [putW_len (by omega), l3]
 have e2 : (putW (w1 n) 168 (setRuns B0 true (runT k))).length = 512 := by rw [putW_len (by omega), l1]
 have z : zero8.length = 8 := rfl
 rw [w4_eq h1 h2 hL hk, putW_get (by omega)]
 by_cases c1 : 8 * (21 + n) ≤ i ∧ i < 8 * (21 + n) + zero8.length
 ·rw [if_pos c1, show i = 192 + (i - 192) by omega, W0_nought _ (by omega)]
  generalize hj : 192 + (i - 192) - 8 * (21 + n) = j
  have hj8 : j < 8 := by omega
  match j, hj8 with
  | 0, _ => rfl
  | 1, _ => rfl
  | 2, _ => rfl
  | 3, _ => rfl
  | 4, _ => rfl
  | 5, _ => rfl
  | 6, _ => rfl
  | 7, _ => rfl
 ·rw [if_neg c1, putW_get (by omega)]
  by_cases c2 : 168 ≤ i ∧ i < 168 + B0.length
  ·rw [if_pos c2]
   have hb : B0.getD (i - 168) 0 = (bitsW g0 W0).getD (i - 168) 0 := by rw [W0_bits]
   rw [hb]
   unfold bitsW
   rw [sub_get _ _ _ _ (by show i - 168 < 8; omega), show 8 * g0.bitsAt + (i - 168) = i from by show 168 + (i - 168) = i; omega]
  ·rw [if_neg c2, w3_get h1 h2 hL hk i hi, w2_eq h1 h2, putW_get (by omega), if_neg (by omega), putW_get (by omega), if_neg (by omega), w1_eq h1 h2, putW_get (by omega), if_neg (by omega)]
theorem w4_diffs : ∀ r ∈ diffs W0 (w4 n D k) 512, 336 ≤ r.1 ∧ r.1 < 504 := fun r hr => by
 obtain ⟨a, b⟩ := mem_diffs hr
 refine Decidable.byContradiction fun z => b ?_
 rw [w4_get h1 h2 hL hk r.1 (by omega)]
end
set_option linter.unusedSimpArgs false
theorem _root_.Go.Gev.New.rdU {h h' : Hs} {v : Value} {e u n : Nat} {fl : Bool} {L : List Value} {Ls : List (List Value)} (w : New h h' (.osl v e u fl n L)) (hL : L = Ls.flatten) (hu : ∀ l ∈ Ls, l.length = u) (hn : Ls.length = n) : New h h' (.rsl v u Ls) := by
 obtain ⟨n1, ⟨hl, o⟩, n3⟩ := w
 rcases o with ⟨rfl, hz⟩ | ⟨id, c, cs, sz, f, rfl, hc, hb, hf, hsz, hc'⟩
 ·obtain rfl : Ls = [] := List.eq_nil_of_length_eq_zero (by omega)
  exact ⟨n1, (Rd.none _ _).1, fun b hb => by cases hb⟩
 ·refine ⟨n1, ⟨hu, .inr ⟨id, 0, c, cs, sz, _, u, true, f, by rw [hn], by omega, hb, .inr rfl, fun i j x hi hj => ?_⟩⟩, fun b hb => n3 b ?_⟩
  ·have hx := flatten_get hu i j hj
   rw [hi] at hx
   have h1 := (List.getElem?_eq_some_iff.1 hi).1
   have h2 : (i + 1) * u ≤ n * u := Nat.mul_le_mul_right _ (by omega)
   rw [Nat.add_mul] at h2
   rw [Nat.zero_add, hc' _ (by rw [hl]; omega), hL]
   exact hx
  ·cases Ls with
   | nil => cases hb
   | cons x l => exact hb
theorem words_rd {s : Nat → Nat} {n b c : Nat} {l : List Nat} {u : Hs} {y : Blk} (hB : u.hp.get b = some y) (h : BW n s (wRow false l).blk y) (hc : l.length ≤ c) (hb : b < u.nx) : Rd u (.slice (some ⟨b, 0, none⟩) l.length c) 1 (Wl l) := by
 have h : BW n s (.row (ofList (l.map wU)) (l.map wU).length 39 1 false false) y := h
 cases h with
 | row _ cs2 _ sz2 _ _ _ rw2 _ f2 _ _ hc2' =>
  refine ⟨⟨fun x hl => by unfold Wl at hl; rw [List.mem_map] at hl; obtain ⟨x, _, rfl⟩ := hl; rfl, .inr ⟨b, 0, c, cs2, sz2, _, 1, _, f2, by rw [Wl_len], by rw [Wl_len]; exact hc, hB, .inr rfl, fun i j x hi hj => ?_⟩⟩, fun b' hb' => ?_⟩
  ·obtain rfl : j = 0 := by omega
   have il := (List.getElem?_eq_some_iff.1 hi).1
   rw [Wl_len] at il
   rw [Wl_get il] at hi
   injection hi with hi
   subst hi
   obtain ⟨v', a, b⟩ := hc2' i (wU l[i]) (by rw [get_ofList, List.getElem?_map, List.getElem?_eq_getElem il]; rfl)
   unfold wU at b
   cases b
   rw [show 0 + i * 1 + 0 = i by omega, a]; rfl
  ·cases l with
   | nil => cases hb'
   | cons x l => have : b = b' := by injection hb'
                 rw [← this]; exact hb
theorem ed_of {t : Nat → Nat} {u : Hs} (E : Emb t (smallH eT) u) : ∃ c1 c2, 512 ≤ c1 ∧ Holds (u.hp.get (t 0)) (edO g0 false (t 1) c1 (.slice (some ⟨t 2, 0, none⟩) 512 c2)) ∧ Holds (u.hp.get (t 1)) (wdO W0) ∧ Rd u (.slice (some ⟨t 2, 0, none⟩) 512 c2) 1 (Wl W0) ∧ t 0 ≠ t 1 ∧ t 0 ≠ t 2 ∧ t 1 ≠ t 2 ∧ t 0 < u.nx ∧ t 1 < u.nx ∧ t 2 < u.nx := by
 have ge : ∀ (i : Nat) (x : SB), eT[i]? = some x → ∃ y, u.hp.get (t i) = some y ∧ BW 3 t x.blk y := fun i x hx => (E.at_ i x.blk (by rw [smallH_get, hx]; rfl)).2
 have inj : ∀ (i j : Nat) (x y : SB), eT[i]? = some x → eT[j]? = some y → isRw x.blk = true → i ≠ j → t i ≠ t j := fun i j x y hx hy hr hij => E.inj i j x.blk y.blk (by rw [smallH_get, hx]; rfl) (by rw [smallH_get, hy]; rfl) hr hij
 obtain ⟨y0, p0, q0⟩ := ge 0 _ rfl
 obtain ⟨y1, p1, q1⟩ := ge 1 _ rfl
 obtain ⟨y2, p2, q2⟩ := ge 2 _ rfl
 have q0 : BW 3 t (.row (ofList (gN0 ++ (sOf 1 512 :: (gN0 ++ [sOf 2 512])))) 10 49 0 true false) y0 := q0
 have a01 := inj 0 1 _ _ rfl rfl rfl (by decide)
 have a02 := inj 0 2 _ _ rfl rfl rfl (by decide)
 have a12 := inj 1 2 _ _ rfl rfl rfl (by decide)
 cases q0 with
 | row _ cs _ sz _ _ _ rw_ _ f hrw _ hc =>
  obtain ⟨g1, g2, _, g4⟩ := hrw rfl
  subst g1
  subst g2
  have gc : ∀ i v, (gN0 ++ (sOf 1 512 :: (gN0 ++ [sOf 2 512])))[i]? = some v → ∃ v', cs.get i = some v' ∧ VW 3 t true v v' := fun i v hv => hc i v (by rw [get_ofList]; exact hv)
  obtain ⟨s1, e4, w4⟩ := gc 4 _ rfl
  obtain ⟨s2, e9, w9⟩ := gc 9 _ rfl
  unfold sOf at w4 w9
  cases w4 with
  | slice _ _ _ _ c1 _ _ hc1 _ =>
   cases w9 with
   | slice _ _ _ _ c2 _ _ hc2 _ =>
    have num : ∀ i x, (gN0 ++ (sOf 1 512 :: (gN0 ++ [sOf 2 512])))[i]? = some (wI x) → cs.get i = some (.int .i64 (.ofNat x)) := fun i x hv => by
     obtain ⟨v', a, b⟩ := gc i _ hv
     unfold wI at b
     cases b
     exact a
    refine ⟨c1, c2, hc1, p0 ▸ ⟨cs, f, rfl, (fun h => by cases h), fun i => ?_⟩, words_holds p1 q1, ?_, a01, a02, a12, E.lt 0 (by show 0 < 3; decide), E.lt 1 (by show 1 < 3; decide), E.lt 2 (by show 2 < 3; decide)⟩
    ·match i with
     | 0 => exact num 0 64 rfl
     | 1 => exact num 1 10 rfl
     | 2 => exact num 2 1 rfl
     | 3 => exact num 3 20 rfl
     | 4 => exact e4
     | 5 => exact num 5 64 rfl
     | 6 => exact num 6 10 rfl
     | 7 => exact num 7 1 rfl
     | 8 => exact num 8 20 rfl
     | 9 => exact e9
     | i + 10 =>
      show cs.get (i + 10) = none
      have : ¬ (cs.get (i + 10)).isSome = true := fun hh => by have := (g4 (i + 10)).1 hh; omega
      exact Option.not_isSome_iff_eq_none.1 this
    ·have := words_rd p2 q2 (c := c2) (by rw [W0_len]; exact hc2) (E.lt 2 (by show 2 < 3; decide))
     rw [W0_len] at this
     exact this
set_option linter.unusedSimpArgs false
theorem edSto {h0 u : Hs} {m : List Th} {t : Nat → Nat} {N c1 c2 : Nat} (H : Sto h0 [] u m) (hN : h0.nx ≤ N) (ge : ∀ id, id < 3 → N ≤ t id) (hm : ∀ s ∈ m, ∀ i, s.id = some i → i < N) (g0_ : Holds (u.hp.get (t 0)) (edO g0 false (t 1) c1 (.slice (some ⟨t 2, 0, none⟩) 512 c2))) (g1 : Holds (u.hp.get (t 1)) (wdO W0)) (r2 : Rd u (.slice (some ⟨t 2, 0, none⟩) 512 c2) 1 (Wl W0)) (a01 : t 0 ≠ t 1) (a02 : t 0 ≠ t 2) (a12 : t 1 ≠ t 2) (l0 : t 0 < u.nx) (l1 : t 1 < u.nx) (l2 : t 2 < u.nx) :
 Sto h0 [] u (.blk (t 1) (wdO W0) :: .blk (t 0) (edO g0 false (t 1) c1 (.slice (some ⟨t 2, 0, none⟩) 512 c2)) :: .rsl (.slice (some ⟨t 2, 0, none⟩) 512 c2) 1 (Wl W0) :: m) := by
 have ri : ∀ b, Th.id (.rsl (.slice (some ⟨t 2, 0, none⟩) 512 c2) 1 (Wl W0)) = some b → b = t 2 := fun b hb => by
  cases hq : Wl W0 with
  | nil => rw [hq] at hb; cases hb
  | cons x l => rw [hq] at hb; injection hb with hb; exact hb.symm
 have H1 := H.cons (.rsl (.slice (some ⟨t 2, 0, none⟩) 512 c2) 1 (Wl W0)) r2.1 (fun b hb => ⟨r2.2 b hb, fun e => by cases e⟩) (fun s hs _ b hb hb' => by
  have := ri b hb
  have := hm s hs b hb'
  have := ge 2 (by decide)
  omega)
 have H2 := H1.cons (.blk (t 0) (edO g0 false (t 1) c1 (.slice (some ⟨t 2, 0, none⟩) 512 c2))) g0_ (fun b hb => by injection hb with hb; subst hb; exact ⟨l0, fun _ => .inl (by have := ge 0 (by decide); omega)⟩) (fun s hs _ b hb hb' => by
  injection hb with hb
  subst hb
  rcases List.mem_cons.1 hs with rfl | hs
  ·exact a02 (ri _ hb')
  ·have := hm s hs _ hb'
   have := ge 0 (by decide)
   omega)
 exact H2.cons (.blk (t 1) (wdO W0)) g1 (fun b hb => by injection hb with hb; subst hb; exact ⟨l1, fun _ => .inl (by have := ge 1 (by decide); omega)⟩) (fun s hs _ b hb hb' => by
  injection hb with hb
  subst hb
  rcases List.mem_cons.1 hs with rfl | hs
  ·injection hb' with hb'; exact a01 hb'
  rcases List.mem_cons.1 hs with rfl | hs
  ·exact a12 (ri _ hb')
  ·have := hm s hs _ hb'
   have := ge 1 (by decide)
   omega)
def CTake0 (R : RnK) : Prop := ∀ (h : Hs) (p b c k : Nat) (s0 : Value) (W : List Nat) (v : Value), k ≤ 20 → EdAt h g0 p b c s0 W → bitsW g0 W = B0 → RdX h v 2 (Rl []) b →
 WP (R 28 [pV p, .int .i64 (.ofNat 0), .int .i64 (.ofNat k), .int .i64 (.ofNat 4), v] h) fun r h' => ∃ a c, r = .tuple #[.slice a (runT k).length c, .int .i64 (.ofNat 0)] ∧ New h h' (.osl (.slice a (runT k).length c) 87 2 false (runT k).length (Rc (runT k)))
theorem clears_ok {R Ri : RnK} {R0 : FuncId → List Value → Hs → An} {N : Nat} (hN : 100000 < N) (rn : EdR R0) (fm : EdF R R0) (cs : CSetNode R) (cf : CFill R Ri) (ct : CTake0 Ri) (cc : CClear R) (cw : CWrites R) (ci : CImgNode R) {v : Value} {D : List UInt8} {n : Nat} {h : Hs} (r1 : Rd h v 1 (Bl D))
 (aw : R 5 [] ⟨h.hp, h.nx, h.nx⟩ = some (.val (.bool true) ⟨h.hp, h.nx, h.nx⟩)) (hv1 : ∀ i, vId v = some i → i < h.nx) (h1 : 3 ≤ n) (h2 : n ≤ 10) (hL : D.length ≤ 1200) :
 r3 R N [v, .int .i64 (.ofNat n)] h = some (.val (.bool true) h) := by
 refine WP.eqn ?_
 obtain ⟨av, cv, rfl⟩ := r1.1.formN (Bl_len D)
 obtain ⟨k, hk⟩ : ∃ k, k = (D.length + 63) / 64 := ⟨_, rfl⟩
 unfold r3
 have H := Sto.enter1 r1
 have l1 := Bl_len D
 have gd := fD_good hL hk
 repeat' (first | (refine w_callE (aw) ?_) | (with_reducible refine w_jn ?_) | (with_reducible refine w_cndF ?_) | (with_reducible refine w_gFf ?_) | (with_reducible refine w_pickF ?_) | (with_reducible refine w_notT ?_) | (with_reducible refine w_lenV ?_) | ((with_reducible refine w_lss_NN (fun _ => ?_) (fun _ => ?_)) <;> first | (exfalso; omega) | skip) | ((with_reducible refine w_gtr_NN (fun _ => ?_) (fun _ => ?_)) <;> first | (exfalso; omega) | skip))
 refine w_call (made_w rn fm) fun v1 u1 hv => ?_
 obtain ⟨s, c, rfl, hc, E0, sm⟩ := hv
 replace H := H.same sm
 refine w_call (ednew_w rn fm hc E0) fun v2 u2 hv => ?_
 obtain ⟨t, rfl, E1, ge, sm2⟩ := hv
 have n1 := sm.1.1
 have n1' : h.nx ≤ u1.nx := n1
 replace H := H.same sm2
 obtain ⟨c1, c2, hc1, q0, q1, q2, a01, a02, a12, b0, b1, b2⟩ := ed_of E1
 have H2 := edSto H n1' ge (fun s hs i hi => by rw [List.mem_singleton.1 hs] at hi; have := r1.2 i hi; omega) q0 q1 q2 a01 a02 a12 b0 b1 b2
 clear H
 have H := H2
 clear H2
 repeat' (first | ((with_reducible apply w_extr) ; rfl))
 refine w_ob (v := .bool false) rfl ?_
 repeat' (first | (with_reducible refine w_gFf ?_) | ((with_reducible apply w_build) ; rfl; (try dsimp only [splice, ev, cellsL, rep, List.cons_append, List.nil_append])))
 refine w_call ((cs _ g0 (t 0) (t 1) c1 _ W0 n fN none 0 (EdAt.ofB 0 1 H rfl rfl (by decide) g0_ok hc1 W0_len W0_small) (fits_mod (good_fits g0_ok fN_good)) ⟨Rd.none _ _, fun q => by cases q⟩ (by omega)).1 [] (by omega) h2 fN_good (.inl ⟨nd0, w0_node h1 h2, rfl⟩)) fun v3 u3 q => ?_
 obtain ⟨rfl, mu, hw⟩ := q
 replace H := H.mut 0 rfl mu hw
 dsimp only [List.set_cons_zero, List.set_cons_succ] at H
 rw [show setNodeW g0 W0 n [] fN = w1 n from rfl] at H
 repeat' (first | (with_reducible refine w_gFf ?_) | (with_reducible refine w_pickF ?_) | ((with_reducible refine w_neq_NN (fun _ => ?_) (fun _ => ?_)) <;> first | (exfalso; omega) | skip))
 refine w_call (cf _ g0 (t 0) (t 1) c1 _ (w1 n) n fN D _ (runT k) (EdAt.ofB 0 1 H rfl rfl (by decide) g0_ok hc1 (w1_len h1 h2) w1_small) (w1_node h1 h2) rfl (by omega) ⟨H.rd 3 rfl, H.neR (i := 0) (j := 3) rfl rfl (by decide)⟩ (fun u w E r => by rw [← hk]; exact ct u _ _ _ k _ _ w (by omega) E (w1_bits h1 h2) r) gd) fun v4 u4 q => ?_
 obtain ⟨rfl, mu, hw⟩ := q
 replace H := H.mut 0 rfl mu hw
 dsimp only [List.set_cons_zero, List.set_cons_succ] at H
 rw [show fillTo (setNodeW g0 (w1 n) n fN.rs (fillN fN D (runT k))) (runT k) D ((D.length + 63) / 64) = w3 n D k from by rw [← hk]; rfl] at H
 repeat' (first | (with_reducible refine w_gFf ?_) | (with_reducible refine w_pickF ?_) | ((with_reducible refine w_neq_NN (fun _ => ?_) (fun _ => ?_)) <;> first | (exfalso; omega) | skip))
 refine w_call (cc _ g0 (t 0) (t 1) c1 _ (w3 n D k) n (runT k) (EdAt.ofB 0 1 H rfl rfl (by decide) g0_ok hc1 (w3_len h1 h2 hL hk) (w3_small hL hk)) (by omega) h2 (.inl ⟨fD D.length k, w3_node h1 h2 hL hk, rfl⟩)) fun v5 u5 q => ?_
 obtain ⟨rfl, mu, hw⟩ := q
 replace H := H.mut 0 rfl mu hw
 dsimp only [List.set_cons_zero, List.set_cons_succ] at H
 rw [show setNodeW g0 (w3 n D k) n (runT k) nd0 = w4 n D k from rfl] at H
 repeat' (first | (with_reducible refine w_jn ?_) | (with_reducible refine w_cndF ?_) | (with_reducible refine w_gFf ?_) | (with_reducible refine w_pickF ?_) | ((with_reducible refine w_neq_NN (fun _ => ?_) (fun _ => ?_)) <;> first | (exfalso; omega) | skip))
 have E4 := EdAt.ofB 0 1 H rfl rfl (by decide) g0_ok hc1 (w4_len h1 h2 hL hk) (w4_small hL hk)
 refine w_call (cw _ g0 (t 0) (t 1) c1 _ (w4 n D k) W0 E4 (H.rd 2 rfl) W0_len W0_small (w4_bits h1 h2 hL hk)) fun v6 u6 q => ?_
 obtain ⟨s6, rfl, n6⟩ := q
 have dd := w4_diffs h1 h2 hL hk
 have dl := diffs_len W0 (w4 n D k) 512
 rw [show 8 * g0.b = 512 from rfl] at n6
 generalize diffs W0 (w4 n D k) 512 = l at n6 dd dl
 have ll : (l.map wrv).length = l.length := List.length_map _
 replace n6 := n6.rdU (Ls := l.map wrv) rfl (fun x hx => by rw [List.mem_map] at hx; obtain ⟨y, _, rfl⟩ := hx; rfl) ll
 obtain ⟨a6, c6, rfl⟩ := n6.2.1.formN ll
 replace H := H.call n6
 repeat' (first | (with_reducible refine w_jn ?_) | ((with_reducible apply w_extr) ; rfl))
 refine lp_ind (Good := fun m (self : L4) => ∀ (i : Nat) (y1 y2 y3 : Value), i + m = l.length → WP (self (.int .i64 (.ofNat i)) y1 y2 y3 u6) (fun v' h' => v' = .bool true ∧ h' = h)) (fun m self ih i y1 y2 y3 hi => ?_) N l.length (by omega) 0 _ _ _ (by omega)
 repeat' (first | (with_reducible refine w_jn ?_) | (with_reducible refine w_cndT ?_) | (with_reducible refine w_cndF ?_) | (with_reducible refine w_fieldA ?_) | (with_reducible refine w_nil ?_) | (with_reducible refine w_lenV ?_) | ((with_reducible refine w_lss_NN (fun _ => ?_) (fun _ => ?_)) <;> first | (exfalso; omega) | skip) | ((with_reducible apply w_loads 2 H) ; rfl; rfl; rfl; rfl; (try dsimp only [List.drop_zero, List.drop_succ_cons, List.take_succ_cons, List.take_zero])))
 ·have ii : i < l.length := by omega
  have gi : (l.map wrv)[i]? = some [.int .i64 (.ofNat l[i].1), .int .u64 (.ofNat l[i].2)] := by rw [List.getElem?_map, List.getElem?_eq_getElem ii]; rfl
  have dr := dd _ (List.getElem_mem ii)
  refine w_idxR 0 H rfl gi fun bb oo H1 => ?_
  repeat' (first | (with_reducible refine w_fieldA ?_))
  refine w_loadE (j := 0) 0 H1 rfl rfl rfl ?_
  clear H1
  repeat' (first | (with_reducible refine w_gFf ?_) | ((with_reducible refine w_lss_NN (fun _ => ?_) (fun _ => ?_)) <;> first | (exfalso; omega) | skip))
  refine w_idxR 0 H rfl gi fun bb oo H1 => ?_
  repeat' (first | (with_reducible refine w_gFf ?_) | (with_reducible refine w_fieldA ?_))
  refine w_loadE (j := 0) 0 H1 rfl rfl rfl ?_
  clear H1
  repeat' (first | (with_reducible refine w_jn ?_) | (with_reducible refine w_cndF ?_) | (with_reducible refine w_gFf ?_) | (with_reducible refine w_pickF ?_) | ((with_reducible refine w_geq_NN (fun _ => ?_) (fun _ => ?_)) <;> first | (exfalso; omega) | skip) | ((with_reducible refine w_add_NN ?_ ?_) ; omega))
  exact ih (m - 1) (by omega) (i + 1) _ _ _ (by omega)
 ·have cig := (ci g0 (w4 n D k) (.slice (some ⟨t 1, 0, none⟩) 512 c1) n u6 g0_ok (w4_len h1 h2 hL hk) (w4_small hL hk) (by rw [Wl_ones]; exact H.rdB 1 rfl (by rw [Wc_len]; exact w4_len h1 h2 hL hk) hc1) (by omega)).1 nd0 (w4_node h1 h2 hL hk)
  unfold imgV at cig
  refine w_call cig fun v7 u7 q => ?_
  obtain ⟨a7, c7, rfl, n7⟩ := q
  replace H := H.call n7
  unfold Nd.v nd0
  repeat' (first | (with_reducible refine w_gTt ?_) | (with_reducible refine w_pickT ?_) | (with_reducible refine w_fieldA ?_) | (with_reducible refine w_lenV ?_) | ((with_reducible apply w_extr) ; rfl) | ((with_reducible refine w_alloc H ?_) ; (clear H; intro u H hu)) | ((with_reducible refine w_eql_NN (fun _ => ?_) (fun _ => ?_)) <;> first | (exfalso; omega) | skip) | ((with_reducible apply w_load 0 H) ; rfl; rfl; rfl) | ((with_reducible apply w_storeV 0 H) ; rfl; rfl; rfl; omega; rfl; (clear H; intro u H hu; (try dsimp only [List.set_cons_zero, List.set_cons_succ, cellsL, List.toList_toArray, splice, ev, rep, List.cons_append, List.nil_append] at H))))
  exact w_clr H rfl ⟨rfl, rfl⟩
def OkC (L : Nat) (n : Int) : Prop := L ≤ 1200 ∧ 3 ≤ n ∧ n ≤ 10
instance (L : Nat) (n : Int) : Decidable (OkC L n) := inferInstanceAs (Decidable (_ ∧ _ ∧ _))
theorem clearsNo_ok {R : RnK} {N : Nat} {v : Value} {D : List UInt8} {n : Int} {h : Hs} (r1 : Rd h v 1 (Bl D))
 (aw : R 5 [] ⟨h.hp, h.nx, h.nx⟩ = some (.val (.bool true) ⟨h.hp, h.nx, h.nx⟩)) (no : ¬ OkC D.length n) :
 r3 R N [v, .int .i64 n] h = some (.val (.bool true) h) := by
 refine WP.eqn ?_
 obtain ⟨av, cv, rfl⟩ := r1.1.formN (Bl_len D)
 unfold r3
 have H := Sto.enter1 r1
 repeat' (first | (refine w_callE (aw) ?_) | (with_reducible refine w_jn ?_) | (with_reducible refine w_cndT ?_) | (with_reducible refine w_cndF ?_) | (with_reducible refine w_gFt ?_) | (with_reducible refine w_gFf ?_) | (with_reducible refine w_pickT ?_) | (with_reducible refine w_pickF ?_) | (with_reducible refine w_notT ?_) | (with_reducible refine w_lenV ?_) | ((with_reducible refine w_lss_IN (fun _ => ?_) (fun _ => ?_)) <;> first | (exfalso; omega) | skip) | ((with_reducible refine w_gtr_NN (fun _ => ?_) (fun _ => ?_)) <;> first | (exfalso; omega) | skip) | ((with_reducible refine w_gtr_IN (fun _ => ?_) (fun _ => ?_)) <;> first | (exfalso; omega) | skip))
 ·exact w_clr H rfl ⟨rfl, rfl⟩
 ·exact w_clr H rfl ⟨rfl, rfl⟩
 ·exact w_clr H rfl ⟨rfl, rfl⟩
 ·exact absurd ⟨by omega, by omega, by omega⟩ no
end Go.Proofs.Ytmolikcajfphlaa.editClears
