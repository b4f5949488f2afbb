/- Contracts of functions, by the logic of residual programs. -/
import Derived.Test.YtmolikcajfphlaaEsC
namespace Go.Proofs.Ytmolikcajfphlaa.editSlots
open Go Go.Gev
set_option linter.unusedVariables false
set_option linter.unusedSimpArgs false
abbrev bldO (fl : Bool) (x s : Value) : Gev.Obj := .row 119 0 true fl [x, s]
abbrev pW (p : Nat) : Value := .pointer (some ⟨p, 0, none⟩)
theorem emb_row {h : Hs} {p e u : Nat} {rw0 fl : Bool} {L L0 : List Value} (hp : p < h.nx) (ho : Holds (h.hp.get p) (.row e u true fl L)) (hl : L0.length = L.length) (hv : ∀ (i : Nat) (v0 v : Value), L0[i]? = some v0 → L[i]? = some v → VW 1 (fun _ => p) true v0 v) : Emb (fun _ => p) (smallH [.row e u rw0 L0]) h := by
 obtain ⟨cs, f, hb, hf, hg⟩ := ho
 refine ⟨fun i b0 hb0 => ?_, fun i _ => hp, fun i i' b b' hb1 hb2 hr hne => ?_⟩
 ·rw [smallH_get] at hb0
  cases i with
  | zero =>
   injection hb0 with hb0
   subst hb0
   refine ⟨Nat.zero_lt_one, _, hb, .row _ _ _ _ _ _ _ _ _ _ (fun hr => ⟨rfl, hl, fun i => ?_, fun i => ?_⟩) (fun h => by cases h) fun i v0 hv0 => ?_⟩
   ·rw [get_ofList]; simp
   ·rw [hg]; simp
   ·rw [get_ofList] at hv0
    have il := (List.getElem?_eq_some_iff.1 hv0).1
    have e1 : L[i]? = some (L[i]'(by omega)) := List.getElem?_eq_getElem (by omega)
    exact ⟨_, by rw [hg]; exact e1, hv i v0 _ hv0 e1⟩
  | succ i => cases hb0
 ·rw [smallH_get] at hb1 hb2
  cases i with
  | zero =>
   cases i' with
   | zero => exact absurd rfl hne
   | succ i' => cases hb2
  | succ i => cases hb1
theorem rowC_holds {s : Nat → Nat} {n e u : Nat} {L L' : List Value} {B : Option Blk} {y : Blk} (hB : B = some y) (h : BW n s (SB.row e u true L).blk y) (hl : L.length = L'.length) (hv : ∀ (i : Nat) (v v' : Value), L[i]? = some v → VW n s true v v' → L'[i]? = some v') : Holds B (.row e u true false L') := by
 have h : BW n s (.row (ofList L) L.length e u true false) y := h
 subst hB
 cases h with
 | row _ cs _ sz _ _ _ rw_ _ f hrw _ hc =>
  obtain ⟨g1, g2, _, g4⟩ := hrw rfl
  subst g1
  refine ⟨cs, f, by rw [← hl, g2], (fun h => by cases h), fun i => ?_⟩
  cases hi : L[i]? with
  | some v =>
   obtain ⟨v', w1, w2⟩ := hc i v (by rw [get_ofList]; exact hi)
   rw [w1, hv i v v' hi w2]
  | none =>
   have h1 : L.length ≤ i := List.getElem?_eq_none_iff.1 hi
   rw [List.getElem?_eq_none (by omega)]
   have : ¬ (cs.get i).isSome = true := fun hh => by have := (g4 i).1 hh; omega
   exact Option.not_isSome_iff_eq_none.1 this
def aCk (_ : Nat) : List Value := [pW 0]
def mCk (k : Nat) : List SB := match k with
 | 0 => [.row 119 0 true [.pointer none, .slice none 0 0]]
 | _ => [.row 119 0 false [pW 0, dunno]]
def KCk (R0 : List Value → Hs → An) : Runs0 := KI (fun k => k < 2) aCk mCk R0
noncomputable section
def qCk (k : Nat) (v : Value) (h : Hs) : Bool := andK (eqV v (.tuple #[])) (match k with
 | 0 => embK [0] [.row 119 0 true [pW 0, .slice none 0 0]] h
 | _ => andK (Nat.beq h.nx 1) (Nat.ble 1 h.lo))
end
structure CkR (R0 : FuncId → List Value → Hs → An) : Prop where
 c0 : chkRun (R0 85) (aCk 0) (mCk 0) (qCk 0) = true
 c1 : chkRun (R0 85) (aCk 1) (mCk 1) (qCk 1) = true
 sep : sepK 2 aCk mCk = true
def AnsC (R : RnK) (f : FuncId) (K : Runs0) : Prop := ∀ a h o, fmG K a h = some o → R f a h = some o
def CkF (R : RnK) (R0 : FuncId → List Value → Hs → An) : Prop := AnsC R 85 (KCk (R0 85))
theorem ck1_w {R : RnK} {R0 : FuncId → List Value → Hs → An} (rn : CkR R0) (fm : CkF R R0) {h : Hs} {p : Nat} {fl : Bool} {s : Value} (hp : p < h.nx) (ho : Holds (h.hp.get p) (bldO fl (pW p) s)) :
 WP (R 85 [pW p] h) fun v u => v = .tuple #[] ∧ Sm h u := by
 obtain ⟨v0, h0', r, hq⟩ := chkRun_ok rn.c1
 obtain ⟨a1, a2⟩ := andK_true hq
 obtain ⟨a2, a3⟩ := andK_true a2
 have e0 := eqV_eq a1
 subst e0
 have E : Emb (fun _ => p) (smallH (mCk 1)) h := emb_row hp ho rfl fun i v0 v h1 h2 => match i, h1, h2 with
  | 0, h1, h2 => by injection h1 with h1; injection h2 with h2; subst h1; subst h2; exact .ptr 0 0 Nat.zero_lt_one
  | 1, h1, h2 => by injection h1 with h1; subst h1; exact .dunno _ (.inl rfl)
  | i + 2, h1, h2 => by cases h1
 have ar : VWs 1 (fun _ => p) (aCk 1) [pW p] := .cons (.ptr 0 0 Nat.zero_lt_one) .nil
 refine (w_fmN (fun o ho => fm _ _ o ho) 1 (by decide) E ar rfl rn.sep r).mono fun v u ⟨g1, g2⟩ => ?_
 refine ⟨?_, g2.sm (Nat.eq_of_beq_eq_true a2) (Nat.le_of_ble_eq_true a3)⟩
 cases g1 with
 | tuple _ ys h1 h2 =>
  have : ys.size = 0 := h1.symm
  rw [Array.size_eq_zero_iff] at this
  rw [this]
theorem ck0_w {R : RnK} {R0 : FuncId → List Value → Hs → An} (rn : CkR R0) (fm : CkF R R0) {h : Hs} {p : Nat} {fl : Bool} (hp : p < h.nx) (ho : Holds (h.hp.get p) (bldO fl (.pointer none) (.slice none 0 0))) :
 WP (R 85 [pW p] h) fun v u => v = .tuple #[] ∧ MutS [p] h u ∧ Holds (u.hp.get p) (bldO false (pW p) (.slice none 0 0)) := by
 obtain ⟨v0, h0', r, hq⟩ := chkRun_ok rn.c0
 obtain ⟨a1, a2⟩ := andK_true hq
 have e0 := eqV_eq a1
 subst e0
 have E : Emb (fun _ => p) (smallH (mCk 0)) h := emb_row hp ho rfl fun i v0 v h1 h2 => match i, h1, h2 with
  | 0, h1, h2 => by injection h1 with h1; injection h2 with h2; subst h1; subst h2; exact .nilptr
  | 1, h1, h2 => by injection h1 with h1; injection h2 with h2; subst h1; subst h2; exact .nilslice
  | i + 2, h1, h2 => by cases h1
 have ar : VWs 1 (fun _ => p) (aCk 0) [pW p] := .cons (.ptr 0 0 Nat.zero_lt_one) .nil
 refine (w_fmN (fun o ho => fm _ _ o ho) 0 (by decide) E ar rfl rn.sep r).mono fun v u ⟨g1, g2⟩ => ?_
 have E' := g2.emb E r.nx (embK_ok a2) (holdK_ok r.hold)
 refine ⟨?_, ?_, ?_⟩
 ·cases g1 with
  | tuple _ ys h1 h2 =>
   have : ys.size = 0 := h1.symm
   rw [Array.size_eq_zero_iff] at this
   rw [this]
 ·exact g2.mutS (fun id hid => hp)
 ·obtain ⟨_, b, q1, q2⟩ := E'.at_ 0 _ (by rw [smallH_get]; rfl)
  exact rowC_holds (L' := [pW p, .slice none 0 0]) q1 q2 rfl fun i v v' hv w => match i, hv with
   | 0, hv => by
    injection hv with hv; subst hv
    cases w
    rfl
   | 1, hv => by injection hv with hv; subst hv; cases w; rfl
   | i + 2, hv => by cases hv
def idsOf (s : Value) : List Nat := match vId s with
 | some b => [b]
 | none => []
theorem idsOf_mem {s : Value} {b : Nat} : b ∈ idsOf s ↔ vId s = some b := by
 unfold idsOf
 cases vId s with
 | none => simp
 | some x => simp [eq_comm]
structure BldAt (h : Hs) (p : Nat) (x s : Value) (D : List UInt8) : Prop where
 pl : p < h.nx
 row : ∃ fl, Holds (h.hp.get p) (bldO fl x s)
 buf : ∃ fl, OwnSl h s 5 1 fl D.length (byteVs D)
 bid : ∀ b, vId s = some b → b < h.nx ∧ b ≠ p
 kn : x = pW p ∨ (x = .pointer none ∧ s = .slice none 0 0 ∧ D = [])
def CWB (R : RnK) : Prop := ∀ (h : Hs) (p : Nat) (x s : Value) (D : List UInt8) (c : UInt8), BldAt h p x s D → D.length ≤ 1000000 → WP (R 68 [pW p, .int .u8 (.ofNat c.toNat)] h) fun r u => r = .nilIface ∧ MutS (p :: idsOf s) h u ∧ ∃ s', BldAt u p (pW p) s' (D ++ [c]) ∧ ∀ b, vId s' = some b → h.nx ≤ b ∨ vId s = some b
theorem BldAt.enter {h : Hs} {p : Nat} {x s : Value} {D : List UInt8} (B : BldAt h p x s D) : ∃ fl fl2, Sto h (p :: idsOf s) ⟨h.hp, h.nx, h.nx⟩ [.blk p (bldO fl x s), .osl s 5 1 fl2 D.length (byteVs D)] := by
 obtain ⟨fl, hr⟩ := B.row
 obtain ⟨fl2, hb⟩ := B.buf
 refine ⟨fl, fl2, Sto.enterS _ _ (fun t ht => ?_) fun i j s t hi hj hij _ b hb1 hb2 => ?_⟩
 ·simp only [List.mem_cons, List.not_mem_nil, or_false] at ht
  rcases ht with rfl | rfl
  ·exact ⟨hr, fun b hb => by injection hb with hb; subst hb; exact ⟨B.pl, fun _ => List.mem_cons_self⟩⟩
  ·exact ⟨hb, fun b hb => ⟨(B.bid b hb).1, fun _ => List.mem_cons_of_mem _ (idsOf_mem.2 hb)⟩⟩
 ·match i, j, hi, hj with
  | 0, 0, _, _ => exact hij rfl
  | 0, 1, hi, hj => injection hi with hi; injection hj with hj; subst hi; subst hj; injection hb1 with hb1; exact (B.bid b hb2).2 hb1.symm
  | 1, 0, hi, hj => injection hi with hi; injection hj with hj; subst hi; subst hj; injection hb2 with hb2; exact (B.bid b hb1).2 hb2.symm
  | 1, 1, _, _ => exact hij rfl
  | 0, j + 2, _, hj => cases hj
  | 1, j + 2, _, hj => cases hj
  | i + 2, _, hi, _ => cases hi
theorem wb_ok {R : RnK} {N : Nat} {R0 : FuncId → List Value → Hs → An} (rn : CkR R0) (fm : CkF R R0) {h : Hs} {p : Nat} {x s : Value} {D : List UInt8} {c : UInt8} (B : BldAt h p x s D) (hD : D.length ≤ 1000000) :
 WP (r68 R N [pW p, .int .u8 (.ofNat c.toNat)] h) fun r u => r = .nilIface ∧ MutS (p :: idsOf s) h u ∧ ∃ s', BldAt u p (pW p) s' (D ++ [c]) ∧ ∀ b, vId s' = some b → h.nx ≤ b ∨ vId s = some b := by
 unfold r68
 obtain ⟨fl, fl2, H⟩ := B.enter
 obtain ⟨a, cc, rfl⟩ := (show OwnSl _ s 5 1 _ _ _ from H.ok _ (List.mem_of_getElem? (i := 1) rfl)).form
 refine w_unC ?_
 refine w_unC ?_
 refine w_enK ?_
 have ck : WP (R 85 [pW p] ⟨h.hp, h.nx, h.nx⟩) fun v u => v = .tuple #[] ∧ ∃ fl, Sto h (p :: idsOf (.slice a D.length cc)) u [.blk p (bldO fl (pW p) (.slice a D.length cc)), .osl (.slice a D.length cc) 5 1 fl2 D.length (byteVs D)] := by
  rcases B.kn with rfl | ⟨rfl, q, rfl⟩
  ·refine (ck1_w rn fm (h := ⟨h.hp, h.nx, h.nx⟩) B.pl (H.ok _ (List.mem_of_getElem? (i := 0) rfl))).mono fun v u hv => ?_
   obtain ⟨rfl, sm⟩ := hv
   exact ⟨rfl, fl, H.same sm.same⟩
  ·injection q with q1 q2 q3
   subst q1
   subst q3
   refine (ck0_w rn fm (h := ⟨h.hp, h.nx, h.nx⟩) B.pl (H.ok _ (List.mem_of_getElem? (i := 0) rfl))).mono fun v u hv => ?_
   obtain ⟨rfl, mu, ho⟩ := hv
   refine ⟨rfl, false, ?_⟩
   have H1 := H.tail.mutS mu (fun b hb => .inr (by rw [List.mem_singleton.1 hb]; exact List.mem_cons_self)) (fun t ht b hb => by rw [List.mem_singleton.1 ht] at hb; cases hb)
   exact H1.cons (.blk p (bldO false (pW p) (.slice none 0 0))) ho (fun b hb => by injection hb with hb; subst hb; exact ⟨Nat.lt_of_lt_of_le B.pl mu.1, fun _ => .inr List.mem_cons_self⟩) (fun t ht _ b hb hb' => by rw [List.mem_singleton.1 ht] at hb'; cases hb')
 refine w_call ck fun v1 u1 hv => ?_
 obtain ⟨rfl, fl3, H1⟩ := hv
 clear H ck
 have H := H1
 clear H1
 repeat' (first | (with_reducible refine w_fieldA ?_) | (with_reducible refine w_nil ?_) | ((with_reducible apply w_mkrow H) ; rfl; (clear H; intro u H hu; (try dsimp only [List.set_cons_zero, List.set_cons_succ, cellsL, List.toList_toArray, splice, ev, rep, List.cons_append, List.nil_append] at H))) | ((with_reducible apply w_load 0 H) ; rfl; rfl; rfl))
 refine w_appendB 2 0 H rfl rfl rfl rfl (by omega) (by omega) fun v3 u4 H4 hn4 => ?_
 clear H
 have H := H4.tail
 clear H4
 dsimp only [List.set_cons_zero, List.set_cons_succ] at H
 obtain ⟨a3, c3, rfl⟩ := (show OwnSl u4 v3 5 1 _ _ _ from H.ok _ (List.mem_of_getElem? (i := 1) rfl)).form
 repeat' (first | (with_reducible refine w_fieldA ?_) | (with_reducible refine w_nil ?_) | ((with_reducible apply w_store1 0 H) ; rfl; (simp only [List.length_cons, List.length_nil]; omega); rfl; (clear H; intro u H hu; (try dsimp only [List.set_cons_zero, List.set_cons_succ, cellsL, List.toList_toArray, splice, ev, rep, List.cons_append, List.nil_append] at H))))
 have bd : byteVs D ++ [Value.int .u8 (.ofNat c.toNat)] = byteVs (D ++ [c]) := by rw [bV_app]; rfl
 rw [bd] at H
 have hne : u.hp.get p ≠ h.hp.get p := fun e => by
  obtain ⟨fl0, cs0, f0, hb0, _, hg0⟩ := B.row
  obtain ⟨cs1, f1, hb1, _, hg1⟩ := (show Holds (u.hp.get p) (bldO (andB fl3 (flat1 (.slice a3 (D.length + 1) c3))) (pW p) (.slice a3 (D.length + 1) c3)) from H.ok _ (List.mem_of_getElem? (i := 0) rfl))
  rw [e, hb0] at hb1
  injection hb1 with hb1
  injection hb1 with hb1
  have g0 := hg0 1
  have g1 := hg1 1
  rw [hb1, g1] at g0
  have g0 : some (Value.slice a3 (D.length + 1) c3) = some (Value.slice a D.length cc) := g0
  injection g0 with g0
  injection g0 with _ g0 _
  omega
 refine w_clrSN H B.pl List.mem_cons_self (fun b hb => ?_) hne fun h'' mu e1 e2 => ⟨rfl, mu, .slice a3 (D.length + 1) c3, ⟨?_, ⟨andB fl3 (flat1 (.slice a3 (D.length + 1) c3)), ?_⟩, ⟨fl2 && flatL [Value.int .u8 (.ofNat c.toNat)], ?_⟩, fun b hb => ?_, .inl rfl⟩, fun b hb => ?_⟩
 ·rcases List.mem_cons.1 hb with rfl | hb
  ·exact B.pl
  ·exact (B.bid b (idsOf_mem.1 hb)).1
 ·exact Nat.lt_of_lt_of_le B.pl mu.1
 ·rw [e1]; exact H.ok _ (List.mem_of_getElem? (i := 0) rfl)
 ·have o := (show OwnSl u (.slice a3 (D.length + 1) c3) 5 1 _ _ _ from H.ok _ (List.mem_of_getElem? (i := 1) rfl))
  rw [List.length_append]
  exact OwnSl.congr o fun b _ => by rw [e1]
 ·have i1 := H.ids _ (List.mem_of_getElem? (i := 1) rfl) b hb
  exact ⟨by rw [e2]; exact i1.1, fun e => H.dj 0 1 _ _ rfl rfl (by decide) rfl p rfl (by rw [← e]; exact hb)⟩
 ·have i1 := (H.ids _ (List.mem_of_getElem? (i := 1) rfl) b hb).2 rfl
  rcases i1 with g | g
  ·exact .inl g
  ·rcases List.mem_cons.1 g with rfl | g
   ·exact absurd hb (H.dj 0 1 _ _ rfl rfl (by decide) rfl _ rfl)
   ·exact .inr (idsOf_mem.1 g)
theorem sdata_pos {a : Addr} {n c : Nat} (h : 0 < n) : sdata1 (.slice (some a) n c) = some (.pointer (some a)) := by
 cases n with
 | zero => omega
 | succ n => rfl
theorem _root_.Go.Gev.Sto.nil0 {h u : Hs} {S : List Nat} {m : List Th} (H : Sto h S u m) (e : ∀ id, id < h.nx → u.hp.get id = h.hp.get id) (lo : u.lo = h.nx) : Sto h [] u [] :=
 ⟨H.nx, fun id hid _ => e id hid, fun k hk _ => by rw [lo]; exact hk, (fun t ht => by cases ht), (fun t ht => by cases ht), fun id hid _ => e id hid, fun i j s t hi => by cases hi⟩
def CBStr (R : RnK) : Prop := ∀ (h : Hs) (p : Nat) (x s : Value) (D : List UInt8), BldAt h p x s D → D.length ≤ 1000000 → (s = .slice none 0 0 ∨ D ≠ []) → WP (R 69 [pW p] h) fun r u => r = sV D ∧ MutS (p :: idsOf s) h u
theorem bstr_ok {R : RnK} {N : Nat} {h : Hs} {p : Nat} {x s : Value} {D : List UInt8} (B : BldAt h p x s D) (hD : D.length ≤ 1000000) (hs : s = .slice none 0 0 ∨ D ≠ []) : WP (r69 R N [pW p] h) fun r u => r = sV D ∧ MutS (p :: idsOf s) h u := by
 unfold r69
 obtain ⟨fl, fl2, H⟩ := B.enter
 by_cases hz : D = []
 ·obtain rfl : s = .slice none 0 0 := hs.elim id fun q => absurd hz q
  subst hz
  refine w_unC ?_
  refine w_enK ?_
  have pl := B.pl
  repeat' (first | (with_reducible refine w_fieldA ?_) | (with_reducible refine w_nil ?_) | ((with_reducible apply w_load 0 H) ; rfl; rfl; rfl))
  refine w_ret1 (o := sdata1 (.slice none 0 0)) (v := .pointer none) rfl ?_
  refine w_light0 ?_
  repeat' (first | (with_reducible refine w_fieldA ?_) | (with_reducible refine w_nil ?_) | (with_reducible refine w_lenV ?_) | ((with_reducible apply w_loadD 0 H) ; rfl; rfl; (intro _; simp only [HidOk, and_true]; omega)))
  refine w_rs (v := .string ByteArray.empty) (h := ⟨h.hp, h.nx, h.nx⟩) rfl ?_
  refine w_bar (Nat.le_refl _) ?_
  exact w_clr (H.nil0 (fun _ _ => rfl) rfl) rfl ⟨rfl, ⟨Nat.le_refl _, fun _ _ _ => rfl, fun _ hx _ => hx, Nat.le_refl _, fun _ _ => .inr rfl⟩⟩
 ·obtain ⟨_, o⟩ := B.buf.choose_spec
  rcases o with ⟨_, q⟩ | ⟨id, cc, _, _, _, rfl, _⟩
  ·exact absurd (List.eq_nil_of_length_eq_zero q) hz
  ·have hn : 0 < D.length := List.length_pos_iff.2 hz
   refine w_unC ?_
   refine w_enK ?_
   have pl := B.pl
   repeat' (first | (with_reducible refine w_fieldA ?_) | (with_reducible refine w_nil ?_) | ((with_reducible apply w_load 0 H) ; rfl; rfl; rfl))
   refine w_ret1 (o := sdata1 (.slice (some ⟨id, 0, none⟩) D.length cc)) (v := .pointer (some ⟨id, 0, none⟩)) (sdata_pos hn) ?_
   refine w_light0 ?_
   repeat' (first | (with_reducible refine w_fieldA ?_) | (with_reducible refine w_nil ?_) | (with_reducible refine w_lenV ?_) | ((with_reducible apply w_loadD 0 H) ; rfl; rfl; (intro _; simp only [HidOk, and_true]; omega)))
   refine w_ustr 1 H rfl hn (by omega) fun u2 mu e1 e2 => ?_
   refine w_bar (by rw [e1]; exact Nat.le_refl _) ?_
   have bi := B.bid id rfl
   have H2 := (H.sel [0] 2 rfl (by decide) (by decide)).mutS mu (fun b hb => .inr (by rw [List.mem_singleton.1 hb]; exact List.mem_cons_of_mem _ (idsOf_mem.2 rfl))) (fun t ht b hb => by
    have : t = .blk p (bldO fl x (.slice (some ⟨id, 0, none⟩) D.length cc)) := by simpa using ht
    subst this
    injection hb with hb
    subst hb
    intro q
    exact bi.2 (List.mem_singleton.1 q).symm)
   refine w_clrSN H2 (b := id) bi.1 (List.mem_cons_of_mem _ (idsOf_mem.2 rfl)) (fun b hb => ?_) (fun e => ?_) fun h'' mu2 _ _ => ⟨rfl, mu2⟩
   ·rcases List.mem_cons.1 hb with rfl | hb
    ·exact B.pl
    ·exact (B.bid b (idsOf_mem.1 hb)).1
   ·obtain ⟨fl9, _, o⟩ := B.buf
    rcases o with ⟨q, _⟩ | ⟨id', c', cs, sz, f, q, _, hb, _⟩
    ·cases q
    ·injection q with q1 q2 q3
     injection q1 with q1
     injection q1 with q1
     subst q1
     rw [← e, e2] at hb
     cases hb
set_option linter.unusedSimpArgs false
theorem w_allocMC {Q : Value → Hs → Prop} {h0 h : Hs} {S : List Nat} {m : List Th} {t : Nat} {z : List Value} {en : En} {F : KV} {x : Value} (hc : cutV x ≤ h.nx) (H : Sto h0 S h m) (kk : ∀ h', Sto h0 S h' (.blk h.nx (.row t 0 true (flatL z) z) :: m) → h'.nx = h.nx + 1 → WP (F (.pointer (some ⟨h.nx, 0, none⟩)) h') Q) :
 WP (after (fun v u => dPut F v (dNext h u .make) (andB (dFit h u .make) (Nat.ble (cutV x) u.lo))) (oAlloc t z en (Hs.mk .e h.nx h.nx))) Q := by
 show WP (dPut F (.pointer (some ⟨h.nx, 0, none⟩)) (dNext h (Gev.newRow ⟨.e, h.nx, h.nx⟩ t 0 z) .make) (andB (dFit h (Gev.newRow ⟨.e, h.nx, h.nx⟩ t 0 z) .make) (Nat.ble (cutV x) h.nx))) Q
 rw [(H.rowM (t := t) (u := 0) (cs := z)).1, Nat.ble_eq_true_of_le hc]
 exact kk _ H.rowM.2 rfl
theorem w_blindC {Q : Value → Hs → Prop} {h : Hs} {v x : Value} {F : KV} {hp : Tr Blk} (hc : cutV x ≤ h.nx) (w : WP (F v h) Q) : WP (dPut F v (dNext h ⟨hp, h.nx, h.nx⟩ .blind) (andB (dFit h ⟨hp, h.nx, h.nx⟩ .blind) (Nat.ble (cutV x) h.nx))) Q := by
 have := dBlind h hp F v
 rw [ble_zero] at this
 rw [Nat.ble_eq_true_of_le hc, this]
 exact w
theorem BldAt.of {h0 w : Hs} {S : List Nat} {m : List Th} {p : Nat} {fl fl2 : Bool} {x s : Value} {D : List UInt8} (H : Sto h0 S w (.blk p (bldO fl x s) :: .osl s 5 1 fl2 D.length (byteVs D) :: m)) (k : x = pW p ∨ (x = .pointer none ∧ s = .slice none 0 0 ∧ D = [])) : BldAt w p x s D :=
 ⟨H.lt 0 rfl, ⟨fl, H.ok _ (List.mem_of_getElem? (i := 0) rfl)⟩, ⟨fl2, H.ok _ (List.mem_of_getElem? (i := 1) rfl)⟩, fun b hb => ⟨(H.ids _ (List.mem_of_getElem? (i := 1) rfl) b hb).1, fun e => H.dj 0 1 _ _ rfl rfl (by decide) rfl p rfl (by rw [← e]; exact hb)⟩, k⟩
theorem bldDrop {h0 w u : Hs} {S : List Nat} {m : List Th} {p : Nat} {fl fl2 : Bool} {x s : Value} {D : List UInt8} (H : Sto h0 S w (.blk p (bldO fl x s) :: .osl s 5 1 fl2 D.length (byteVs D) :: m)) (mu : MutS (p :: idsOf s) w u) : Sto h0 S u m := by
 refine H.tail.tail.mutS mu (fun b hb => ?_) fun t ht b hb hb2 => ?_
 ·rcases List.mem_cons.1 hb with rfl | hb
  ·exact (H.ids _ (List.mem_of_getElem? (i := 0) rfl) _ rfl).2 rfl
  ·exact (H.ids _ (List.mem_of_getElem? (i := 1) rfl) _ (idsOf_mem.1 hb)).2 rfl
 ·obtain ⟨i, hi⟩ := List.getElem?_of_mem ht
  rcases List.mem_cons.1 hb2 with rfl | hb2
  ·exact H.dj 0 (i + 2) _ _ rfl hi (by omega) rfl _ rfl hb
  ·exact H.dj 1 (i + 2) _ _ rfl hi (by omega) rfl _ (idsOf_mem.1 hb2) hb
theorem bldCall {h0 w u : Hs} {S : List Nat} {m : List Th} {p : Nat} {fl fl2 : Bool} {x x' s s' : Value} {D D' : List UInt8} (H : Sto h0 S w (.blk p (bldO fl x s) :: .osl s 5 1 fl2 D.length (byteVs D) :: m)) (mu : MutS (p :: idsOf s) w u) (B : BldAt u p x' s' D') (ni : ∀ b, vId s' = some b → w.nx ≤ b ∨ vId s = some b) :
 ∃ fl fl2, Sto h0 S u (.blk p (bldO fl x' s') :: .osl s' 5 1 fl2 D'.length (byteVs D') :: m) := by
 obtain ⟨f1, hr⟩ := B.row
 obtain ⟨f2, hb⟩ := B.buf
 have H2 := bldDrop H mu
 have dm : ∀ t ∈ m, ∀ b, t.id = some b → b < w.nx ∧ b ≠ p ∧ vId s ≠ some b := fun t ht b hb => by
  obtain ⟨i, hi⟩ := List.getElem?_of_mem ht
  exact ⟨(H.ids _ (List.mem_of_getElem? (i := i + 2) hi) b hb).1, fun e => H.dj 0 (i + 2) _ _ rfl hi (by omega) rfl p rfl (by rw [← e]; exact hb), fun e => H.dj 1 (i + 2) _ _ rfl hi (by omega) rfl b e hb⟩
 refine ⟨f1, f2, (H2.cons (.osl s' 5 1 f2 D'.length (byteVs D')) hb (fun b hb => ⟨(B.bid b hb).1, fun _ => ?_⟩) fun t ht _ b hb1 hb2 => ?_).cons (.blk p (bldO f1 x' s')) hr (fun b hb => by injection hb with hb; subst hb; exact ⟨B.pl, fun _ => (H.ids _ (List.mem_of_getElem? (i := 0) rfl) _ rfl).2 rfl⟩) fun t ht _ b hb1 hb2 => ?_⟩
 ·rcases ni b hb with g | g
  ·exact .inl (Nat.le_trans H.nx g)
  ·exact (H.ids _ (List.mem_of_getElem? (i := 1) rfl) b g).2 rfl
 ·have q := dm t ht b hb2
  rcases ni b hb1 with g | g
  ·omega
  ·exact q.2.2 g
 ·injection hb1 with hb1
  subst hb1
  rcases List.mem_cons.1 ht with rfl | ht
  ·exact (B.bid _ hb2).2 rfl
  ·exact (dm t ht _ hb2).2.1 rfl
theorem w_to8 {Q : Value → Hs → Prop} {a : Nat} {k : IntKind} {K : Value → An} (w : WP (K (.int .u8 (.ofNat (a % 256)))) Q) : WP (kTo8 (.int k (.ofNat a)) K) Q := by
 show WP (ifB (Nat.ble a 255) (K (.int .u8 (.ofNat a))) (obK K (convI1 .u8 (.int k (.ofNat a))))) Q
 cases h : Nat.ble a 255 with
 | true =>
  have := Nat.le_of_ble_eq_true h
  rw [Nat.mod_eq_of_lt (by omega)] at w
  exact w
 | false =>
  show WP (obK K (convI1 .u8 (.int k (.ofNat a)))) Q
  refine w_ob (v := .int .u8 (.ofNat (a % 256))) ?_ w
  show some (Value.int .u8 (wrapF .u8 (.ofNat a))) = _
  rw [wrapF_eq]
  simp [IntKind.wrap, IntKind.bits, IntKind.signed]
theorem slotW_len (n : Nat) (D : List UInt8) : (slotW n D).length = 8 := by
 unfold slotW
 split
 ·rfl
 ·rw [List.length_set, slotTo_len]
def slotByte (l : List Nat) (i : Nat) : UInt8 := UInt8.ofNat (l.getD (2 + i / 8) 0 / 2 ^ (8 * (i % 8)))
def slotBytes (l : List Nat) (n : Nat) : List UInt8 := (List.range n).map (slotByte l)
theorem slotBytes_succ (l : List Nat) (n : Nat) : slotBytes l (n + 1) = slotBytes l n ++ [slotByte l n] := by unfold slotBytes; rw [List.range_succ, List.map_append]; rfl
theorem slotBytes_len (l : List Nat) (n : Nat) : (slotBytes l n).length = n := by unfold slotBytes; rw [List.length_map, List.length_range]
def getSlot (l : List Nat) : Option (Nat × List UInt8) := if l.length = 8 ∧ l.getD 0 0 ≤ 64 ∧ l.getD 1 0 ≤ 40 ∧ slotGood (l.getD 0 0 : Nat) (slotBytes l (l.getD 1 0)) ∧ slotW (l.getD 0 0) (slotBytes l (l.getD 1 0)) = l then some (l.getD 0 0, slotBytes l (l.getD 1 0)) else none
def slotR (o : Option (Nat × List UInt8)) : Value := match o with
 | some x => .tuple #[slotV (x.1 : Int) x.2, .bool true]
 | none => .tuple #[slotV 0 [], .bool false]
def CSlotGet (R : RnK) : Prop := ∀ (l : List Nat) (v : Value) (h : Hs), Small l → l.length < 100000 → Rd h v 1 (Wl l) → R 40 [v] h = some (.val (slotR (getSlot l)) h)
theorem slotGet_ok {R : RnK} {N : Nat} (cw : CWB R) (cs : CBStr R) (cp : CSlotPut R) (ce : CEqW R) {l : List Nat} {v : Value} {h : Hs} (hN : 100 < N) (hl : Small l) (hb : l.length < 100000) (r : Rd h v 1 (Wl l)) : r40 R N [v] h = some (.val (slotR (getSlot l)) h) := by
 refine WP.eqn ?_
 unfold r40
 have H := Sto.enter1 r
 have e := Wl_len l
 obtain ⟨a, c, rfl⟩ := r.1.formN e
 have none0 : ∀ {u : Hs} {m : List Th}, Sto h [] u m → getSlot l = none → WP (clrK h (.tuple #[.agg #[.int .i64 (.ofNat 0), .string ⟨#[]⟩], .bool false]) u) (fun v' h' => v' = slotR (getSlot l) ∧ h' = h) := fun H q => by
  rw [q]
  exact w_clr H rfl ⟨rfl, rfl⟩
 by_cases h8 : l.length = 8
 ·have g0 : (Wl l)[0]? = some [.int .u64 (.ofNat (l.getD 0 0))] := by
   rw [Wl_get (show 0 < l.length by omega), List.getD_eq_getElem?_getD, List.getElem?_eq_getElem (show 0 < l.length by omega)]; rfl
  have g1 : (Wl l)[1]? = some [.int .u64 (.ofNat (l.getD 1 0))] := by
   rw [Wl_get (show 1 < l.length by omega), List.getD_eq_getElem?_getD, List.getElem?_eq_getElem (show 1 < l.length by omega)]; rfl
  have b0 := hl.getD 0
  have b1 := hl.getD 1
  generalize hn : l.getD 0 0 = n at *
  generalize hL : l.getD 1 0 = L at *
  repeat' (first | (with_reducible refine w_gFf ?_) | (with_reducible refine w_unC ?_) | (with_reducible refine w_enK ?_) | (with_reducible refine w_lenV ?_) | ((with_reducible refine w_alloc H ?_) ; (clear H; intro u H hu)) | ((with_reducible refine w_neq_NN (fun _ => ?_) (fun _ => ?_)) <;> first | (exfalso; omega) | skip))
  refine w_idxR 1 H rfl g0 fun bb oo H1 => ?_
  repeat' (first | (with_reducible refine w_gFf ?_))
  refine w_loadE0 0 H1 rfl rfl rfl ?_
  clear H1
  repeat' (first | (with_reducible refine w_jn ?_) | (with_reducible refine w_cndT ?_) | (with_reducible refine w_gFt ?_) | (with_reducible refine w_gFf ?_) | (with_reducible refine w_pickT ?_) | (with_reducible refine w_pickF ?_) | ((with_reducible apply w_build) ; rfl; (try dsimp only [splice, ev, cellsL, rep, List.cons_append, List.nil_append])) | ((with_reducible refine w_ugtr (fun _ => ?_) (fun _ => ?_)) <;> first | (exfalso; omega) | skip) | ((with_reducible apply w_storeV 0 H) ; rfl; rfl; rfl; omega; rfl; (clear H; intro u H hu; (try dsimp only [List.set_cons_zero, List.set_cons_succ, cellsL, List.toList_toArray, splice, ev, rep, List.cons_append, List.nil_append] at H))) | ((with_reducible apply w_retC 0 H) ; rfl; rfl; rfl))
  ·exact none0 H (if_neg (by omega))
  ·refine w_idxR 1 H rfl g1 fun bb oo H1 => ?_
   repeat' (first | (with_reducible refine w_gFf ?_))
   refine w_loadE0 0 H1 rfl rfl rfl ?_
   clear H1
   repeat' (first | (with_reducible refine w_jn ?_) | (with_reducible refine w_cndT ?_) | (with_reducible refine w_cndF ?_) | (with_reducible refine w_gFf ?_) | (with_reducible refine w_pickF ?_) | ((with_reducible apply w_build) ; rfl; (try dsimp only [splice, ev, cellsL, rep, List.cons_append, List.nil_append])) | ((with_reducible refine w_alloc H ?_) ; (clear H; intro u H hu)) | ((with_reducible refine w_ugtr (fun _ => ?_) (fun _ => ?_)) <;> first | (exfalso; omega) | skip) | ((with_reducible apply w_storeV 0 H) ; rfl; rfl; rfl; omega; rfl; (clear H; intro u H hu; (try dsimp only [List.set_cons_zero, List.set_cons_succ, cellsL, List.toList_toArray, splice, ev, rep, List.cons_append, List.nil_append] at H))) | ((with_reducible apply w_retC 0 H) ; rfl; rfl; rfl))
   ·exact none0 H (if_neg (by omega))
   ·refine w_at1 2 H rfl g1 rfl rfl ?_
    repeat' (first | (with_reducible refine w_jn ?_) | ((with_reducible refine w_to64 ?_ ?_) ; omega))
    rename_i ua hua q8 q0 q1 q2 q3
    have hp1 : ua.nx = h.nx + 1 := hua
    have nl : (slotBytes l 0).length = 0 := slotBytes_len l 0
    replace H := H.nilS 5 1
    replace H := H.sel [1, 0, 2, 3] 4 rfl (by decide) (by decide); dsimp only [List.filterMap_cons, List.filterMap_nil, List.getElem?_cons_zero, List.getElem?_cons_succ] at H
    obtain ⟨m0, hm0⟩ : ∃ m0, m0 = [Th.blk h.nx (.row 55 0 true (flatL [.int .i64 (.ofNat 0), .string ⟨#[]⟩]) [.int .i64 (.ofNat 0), .string ⟨#[]⟩]), Th.rsl (.slice a l.length c) 1 (Wl l)] := ⟨_, rfl⟩
    refine lp_ind (Good := fun n (self : L3) => ∀ (j : Nat) (y1 y2 : Value) (w : Hs) (x s : Value), j + n = L → (∃ fl fl2, Sto h [] w (.blk ua.nx (bldO fl x s) :: .osl s 5 1 fl2 (slotBytes l j).length (byteVs (slotBytes l j)) :: m0)) → ((x = pW ua.nx ∧ 1 ≤ j) ∨ (x = .pointer none ∧ s = .slice none 0 0 ∧ slotBytes l j = [])) → WP (self (.int .i64 (.ofNat j)) y1 y2 w) (fun v' h' => v' = slotR (getSlot l) ∧ h' = h)) (fun nn self ih j y1 y2 w x s hj HH hx => ?_) N L (by omega) 0 _ _ _ _ _ (by omega) ⟨_, _, by rw [hm0]; exact H⟩ (.inr ⟨rfl, rfl, rfl⟩)
    clear H
    obtain ⟨fl, fl2, H⟩ := HH
    repeat' (first | (with_reducible refine w_jn ?_) | (with_reducible refine w_cndT ?_) | (with_reducible refine w_cndF ?_) | ((with_reducible refine w_lss_NN (fun _ => ?_) (fun _ => ?_)) <;> first | (exfalso; omega) | skip) | ((with_reducible refine w_add_NN ?_ ?_) ; omega) | ((with_reducible refine w_quo_NN ?_ ?_ ?_) ; omega; omega))
    ·have w0 : (Wl l)[2 + j / 8]? = some [.int .u64 (.ofNat (l.getD (2 + j / 8) 0))] := by
      rw [Wl_get (show 2 + j / 8 < l.length by omega), List.getD_eq_getElem?_getD, List.getElem?_eq_getElem (show 2 + j / 8 < l.length by omega)]; rfl
     refine w_at1 3 H (by rw [hm0]; rfl) w0 rfl rfl ?_
     repeat' (first | (with_reducible refine w_to8 ?_) | ((with_reducible refine w_mul_NN ?_ ?_) ; omega) | ((with_reducible refine w_rem_NN ?_ ?_) ; omega) | ((with_reducible refine w_shr ?_ ?_) ; omega))
     have e8 : l.getD (2 + j / 8) 0 / 2 ^ (8 * (j % 8)) % 256 = (slotByte l j).toNat := by unfold slotByte; rw [UInt8.toNat_ofNat']
     rw [e8]
     refine w_call (cw w ua.nx x s (slotBytes l j) (slotByte l j) (BldAt.of H (hx.imp And.left id)) (by rw [slotBytes_len]; omega)) fun r1 u1 hq => ?_
     obtain ⟨rfl, mu, s', B, ni⟩ := hq
     obtain ⟨f3, f4, H2⟩ := bldCall H mu B ni
     clear H
     repeat' (first | ((with_reducible refine w_add_NN ?_ ?_) ; omega))
     rw [← slotBytes_succ] at H2
     exact ih (nn - 1) (by omega) (j + 1) _ _ _ _ _ (by omega) ⟨f3, f4, H2⟩ (.inl ⟨rfl, by omega⟩)
    ·obtain rfl : j = L := by omega
     clear ih
     have lp := H.lt 0 rfl
     have r0 : Rd ⟨w.hp, ua.nx, ua.nx⟩ (.slice a l.length c) 1 (Wl l) := ⟨(H.rd 3 (by rw [hm0]; rfl)).1, fun b hb => by have := r.2 b hb; show b < ua.nx; omega⟩
     have hs : s = .slice none 0 0 ∨ slotBytes l j ≠ [] := by
      rcases hx with ⟨_, q⟩ | ⟨_, q, _⟩
      ·exact .inr fun z => by have z := congrArg List.length z; rw [slotBytes_len] at z; have : j = 0 := z; omega
      ·exact .inl q
     have H0 := H
     refine w_lwC (c := ua.nx) (m1 := [_, _]) rfl H (by omega) (fun t ht => ?_) fun hS e1 e2 H1 => ?_
     ·simp only [List.mem_cons, List.not_mem_nil, or_false] at ht
      rcases ht with rfl | rfl
      ·exact ⟨rfl, fun b hb => Nat.le_of_eq (Option.some.inj hb)⟩
      ·refine ⟨rfl, fun b hb => ?_⟩
       have i1 := (H.ids _ (List.mem_of_getElem? (i := 1) rfl) b hb).2 rfl
       have i2 := H.dj 1 2 _ (.blk h.nx (.row 55 0 true (flatL [.int .i64 (.ofNat 0), .string ⟨#[]⟩]) [.int .i64 (.ofNat 0), .string ⟨#[]⟩])) rfl (by rw [hm0]; rfl) (by decide) rfl b hb
       have i3 : b ≠ h.nx := fun q => i2 (by rw [q]; rfl)
       rcases i1 with g | g
       ·omega
       ·cases g
     ·clear H
      have H := H1
      clear H1
      rw [hm0] at H
      dsimp only [List.map_cons, List.map_nil, List.cons_append, List.nil_append, Th.ro] at H
      refine w_at1LM (c := ua.nx) (hp := w.hp) (L := Wl l) rfl e1 r0 g0 rfl ?_
      repeat' (first | ((with_reducible refine w_to64 ?_ ?_) ; omega))
      refine w_call (cs hS ua.nx x s (slotBytes l j) (BldAt.of H (hx.imp And.left id)) (by rw [slotBytes_len]; omega) hs) fun r1 u1 hq => ?_
      obtain ⟨rfl, mu⟩ := hq
      have H2 := bldDrop H mu
      clear H
      have H := H2
      clear H2
      have n1 := mu.1
      refine w_barC rfl H n1 ?_
      replace H : Sto ⟨w.hp, ua.nx, ua.nx⟩ [] u1 [.rob h.nx (.row 55 0 true (flatL [.int .i64 (.ofNat 0), .string ⟨#[]⟩]) [.int .i64 (.ofNat 0), .string ⟨#[]⟩]), .rsl (.slice a l.length c) 1 (Wl l)] := H
      have n2 : cutV (pW ua.nx) ≤ u1.nx := by show ua.nx ≤ u1.nx; omega
      refine w_build rfl ?_
      refine w_blindC n2 ?_
      refine w_allocMC n2 H fun u2 H2 hu2 => ?_
      clear H
      have H := H2
      clear H2
      repeat' (first | ((with_reducible apply w_storeV 0 H) ; rfl; rfl; rfl; omega; rfl; (clear H; intro u H hu; (try dsimp only [List.set_cons_zero, List.set_cons_succ, cellsL, List.toList_toArray, splice, ev, rep, List.cons_append, List.nil_append] at H))))
      rename_i u4 hu4
      refine w_barC rfl H (by omega) ?_
      refine w_lwCE (m1 := [_, _]) (m1' := [_]) (mr := [_, _]) H0 H (by omega) (show h.nx ≤ ua.nx by omega) (fun t ht => by rw [List.mem_singleton.1 ht]; rfl) (fun t ht b hb => ?_) fun u3 H3 hu3 => ?_
      ·rw [hm0] at ht
       simp only [List.mem_cons, List.not_mem_nil, or_false] at ht
       rcases ht with rfl | rfl
       ·have : h.nx = b := Option.some.inj hb
        omega
       ·have := r.2 b hb
        omega
      ·clear H H0
       have H := H3
       clear H3
       rw [hm0] at H
       replace H : Sto h [] u3 [.blk u1.nx (.row 55 0 true (andB (flatL [.int .i64 (.ofNat 0), .string ⟨#[]⟩]) (flatL [.int .i64 (.ofNat n), sV (slotBytes l j)])) [.int .i64 (.ofNat n), sV (slotBytes l j)]), .blk h.nx (.row 55 0 true (flatL [.int .i64 (.ofNat 0), .string ⟨#[]⟩]) [.int .i64 (.ofNat 0), .string ⟨#[]⟩]), .rsl (.slice a l.length c) 1 (Wl l)] := H
       repeat' (first | ((with_reducible apply w_loadsF 0 H) ; rfl; rfl; rfl))
       have cpd := cp (n : Int) (slotBytes l j) u3 (by rw [slotBytes_len]; omega)
       by_cases gd : slotGood (n : Int) (slotBytes l j)
       ·refine w_call (cpd.1 n rfl gd) fun v2 u2 n2 => ?_
        replace n2 := n2.ones
        rw [← Wl_ones] at n2
        replace H := H.call n2
        refine w_callB (ce _ l _ _ _ (by rw [slotW_len]; omega) (H.rd 0 rfl) (H.rd 3 rfl)) (fun q => ?_) (fun q => ?_)
        ·repeat' (first | (with_reducible refine w_jn ?_) | (with_reducible refine w_cndF ?_) | (with_reducible refine w_notT ?_) | ((with_reducible apply w_loadsF 1 H) ; rfl; rfl; rfl) | ((with_reducible apply w_storeV 2 H) ; rfl; rfl; rfl; omega; rfl; (clear H; intro u H hu; (try dsimp only [List.set_cons_zero, List.set_cons_succ, cellsL, List.toList_toArray, splice, ev, rep, List.cons_append, List.nil_append] at H))) | ((with_reducible apply w_retC 2 H) ; rfl; rfl; rfl))
         rw [show getSlot l = some (n, slotBytes l j) from by unfold getSlot; rw [hn, hL]; exact if_pos ⟨h8, by omega, by omega, gd, q⟩]
         exact w_clr H rfl ⟨rfl, rfl⟩
        ·repeat' (first | (with_reducible refine w_jn ?_) | (with_reducible refine w_cndT ?_) | (with_reducible refine w_notF ?_) | ((with_reducible apply w_build) ; rfl; (try dsimp only [splice, ev, cellsL, rep, List.cons_append, List.nil_append])) | ((with_reducible apply w_storeV 2 H) ; rfl; rfl; rfl; omega; rfl; (clear H; intro u H hu; (try dsimp only [List.set_cons_zero, List.set_cons_succ, cellsL, List.toList_toArray, splice, ev, rep, List.cons_append, List.nil_append] at H))) | ((with_reducible apply w_retC 2 H) ; rfl; rfl; rfl))
         refine none0 H (if_neg fun z => q ?_)
         rw [hn, hL] at z
         exact z.2.2.2.2
       ·refine w_callE (cpd.2 gd) ?_
        refine w_callB (ce [] l _ _ _ (by simp) (Rd.none _ _) (H.rd 2 rfl)) (fun q => by rw [← q] at h8; cases h8) (fun q => ?_)
        repeat' (first | (with_reducible refine w_jn ?_) | (with_reducible refine w_cndT ?_) | (with_reducible refine w_notF ?_) | ((with_reducible apply w_build) ; rfl; (try dsimp only [splice, ev, cellsL, rep, List.cons_append, List.nil_append])) | ((with_reducible apply w_storeV 1 H) ; rfl; rfl; rfl; omega; rfl; (clear H; intro u H hu; (try dsimp only [List.set_cons_zero, List.set_cons_succ, cellsL, List.toList_toArray, splice, ev, rep, List.cons_append, List.nil_append] at H))) | ((with_reducible apply w_retC 1 H) ; rfl; rfl; rfl))
        refine none0 H (if_neg fun z => gd ?_)
        rw [hn, hL] at z
        exact z.2.2.2.1
 ·repeat' (first | (with_reducible refine w_jn ?_) | (with_reducible refine w_cndT ?_) | (with_reducible refine w_gFt ?_) | (with_reducible refine w_pickT ?_) | (with_reducible refine w_unC ?_) | (with_reducible refine w_enK ?_) | (with_reducible refine w_lenV ?_) | ((with_reducible apply w_build) ; rfl; (try dsimp only [splice, ev, cellsL, rep, List.cons_append, List.nil_append])) | ((with_reducible refine w_alloc H ?_) ; (clear H; intro u H hu)) | ((with_reducible refine w_neq_NN (fun _ => ?_) (fun _ => ?_)) <;> first | (exfalso; omega) | skip) | ((with_reducible apply w_storeV 0 H) ; rfl; rfl; rfl; omega; rfl; (clear H; intro u H hu; (try dsimp only [List.set_cons_zero, List.set_cons_succ, cellsL, List.toList_toArray, splice, ev, rep, List.cons_append, List.nil_append] at H))) | ((with_reducible apply w_retC 0 H) ; rfl; rfl; rfl))
  exact none0 H (if_neg (by omega))
set_option linter.unusedSimpArgs false
def CSetSlot (R : RnK) : Prop := ∀ (h : Hs) (g : Geo) (p b c : Nat) (s0 : Value) (W : List Nat) (dir : Nat) (d : Nd) (i : Nat) (n : Int) (D : List UInt8), EdAt h g p b c s0 W → INode g W dir d → d.ty = 2 → d.rs.length ≤ 1000 → D.length ≤ 9223372036854775807 →
 (∀ (m at_ : Nat), n = (m : Int) → i < d.sz → slotGood (m : Int) D → runAt d.rs i = some at_ → at_ < g.b → WP (R 14 [pV p, .int .i64 (.ofNat dir), .int .i64 (.ofNat i), slotV n D] h) (QW h b (.int .i64 (.ofNat 0)) (putW W (8 * at_) (slotW m D)))) ∧
 (i ≤ 1000000 → ¬ (i < d.sz ∧ slotGood n D) → R 14 [pV p, .int .i64 (.ofNat dir), .int .i64 (.ofNat i), slotV n D] h = some (.val (.int .i64 (.ofNat 1)) h))
theorem EdAt.rd {h : Hs} {g : Geo} {p b c : Nat} {s0 : Value} {W : List Nat} (E : EdAt h g p b c s0 W) : Rd h (.slice (some ⟨b, 0, none⟩) (8 * g.b) c) 1 (Wl W) := by
 obtain ⟨fl, HE⟩ := E.enter [] (fun t ht => by cases ht)
 have := HE.rdB 0 rfl (n := 8 * g.b) (c := c) (by rw [Wc_len]; exact E.len) E.cap
 rw [← Wl_ones] at this
 exact Rd.lo this h.lo
theorem setSlot_no {R : RnK} {N : Nat} (ci : CImgNode R) (cg : CSlotGood R) {h : Hs} {g : Geo} {p b c : Nat} {s0 : Value} {W : List Nat} {dir : Nat} {d : Nd} {i : Nat} {n : Int} {D : List UInt8} (E : EdAt h g p b c s0 W) (hd : INode g W dir d) (ty : d.ty = 2) (hD : D.length ≤ 9223372036854775807) (hi : i ≤ 1000000) (no : ¬ (i < d.sz ∧ slotGood n D)) :
 r14 R N [pV p, .int .i64 (.ofNat dir), .int .i64 (.ofNat i), slotV n D] h = some (.val (.int .i64 (.ofNat 1)) h) := by
 refine WP.eqn ?_
 have cgd := fun u => cg n D u hD
 unfold slotV slotC at cgd ⊢
 unfold r14
 obtain ⟨fl, hrow⟩ := E.row
 have rd := E.rd
 have H := Sto.enterR h [.rob p (edO g fl b c s0), .rsl (.slice (some ⟨b, 0, none⟩) (8 * g.b) c) 1 (Wl W)] (fun t ht => by
  rcases List.mem_cons.1 ht with rfl | ht
  ·exact ⟨rfl, hrow, fun b' hb' => by injection hb' with e; subst e; exact E.pl⟩
  ·rw [List.mem_singleton.1 ht]; exact ⟨rfl, rd.1, fun b' hb' => rd.2 b' hb'⟩)
 have x := E.ok
 have h1 := x.1.b2
 have h2 := E.len
 have h3 := E.cap
 have h4 := x.1.num
 have h6 := x.1.n2
 have hn2 := hd.2.1
 unfold edO edC at H
 have cio := fun u rr => (ci g W (.slice (some ⟨b, 0, none⟩) (8 * g.b) c) dir u x h2 E.sm rr (by omega)).1 d hd
 unfold imgV at cio
 refine w_unC ?_
 refine w_unC ?_
 refine w_unC ?_
 refine w_unC ?_
 refine w_enK ?_
 refine w_boxA H ?_
 clear H; intro u1 H hu1
 repeat' (first | (with_reducible refine w_fieldA ?_) | (with_reducible refine w_nil ?_) | ((with_reducible apply w_loadsR 1 H) ; rfl; rfl; rfl; rfl; (try dsimp only [List.drop_zero, List.drop_succ_cons, List.take_succ_cons, List.take_zero])))
 refine w_call (cio _ (H.rd 2 rfl)) fun v4 u4 hv => ?_
 obtain ⟨a0, c0, rfl, n4⟩ := hv
 replace H := H.call n4.rl
 unfold Nd.v
 repeat' (first | ((refine w_callB (cgd _) (fun _ => ?_) (fun _ => ?_)) <;> first | (exfalso; omega) | skip) | (with_reducible refine w_jn ?_) | (with_reducible refine w_cndT ?_) | (with_reducible refine w_cndF ?_) | (with_reducible refine w_gFt ?_) | (with_reducible refine w_gFf ?_) | (with_reducible refine w_pickT ?_) | (with_reducible refine w_pickF ?_) | (with_reducible refine w_notT ?_) | (with_reducible refine w_notF ?_) | (with_reducible refine w_fieldA ?_) | ((with_reducible apply w_extr) ; rfl) | ((with_reducible refine w_alloc H ?_) ; (clear H; intro u H hu)) | ((with_reducible refine w_lss_NN (fun _ => ?_) (fun _ => ?_)) <;> first | (exfalso; omega) | skip) | ((with_reducible refine w_geq_NN (fun _ => ?_) (fun _ => ?_)) <;> first | (exfalso; omega) | skip) | ((with_reducible refine w_neq_NN (fun _ => ?_) (fun _ => ?_)) <;> first | (exfalso; omega) | skip) | ((with_reducible apply w_load 0 H) ; rfl; rfl; rfl) | ((with_reducible apply w_storeV 0 H) ; rfl; rfl; rfl; omega; rfl; (clear H; intro u H hu; (try dsimp only [List.set_cons_zero, List.set_cons_succ, cellsL, List.toList_toArray, splice, ev, rep, List.cons_append, List.nil_append] at H))) | ((with_reducible apply w_loadsF 2 H) ; rfl; rfl; rfl))
 ·exact w_clr H rfl ⟨rfl, rfl⟩
 ·exact absurd ⟨by omega, by assumption⟩ no
 ·exact w_clr H rfl ⟨rfl, rfl⟩
theorem setSlot_ok {R : RnK} {N : Nat} (ci : CImgNode R) (cg : CSlotGood R) (ca : CAt R) (cs : CSlotPut R) (cp : CEdPut R) {h : Hs} {g : Geo} {p b c : Nat} {s0 : Value} {W : List Nat} {dir : Nat} {d : Nd} {i m at_ : Nat} {D : List UInt8} (E : EdAt h g p b c s0 W) (hd : INode g W dir d) (ty : d.ty = 2) (dl : d.rs.length ≤ 1000) (hD : D.length ≤ 9223372036854775807) (hi : i < d.sz) (gd : slotGood (m : Int) D) (ha : runAt d.rs i = some at_) (hat : at_ < g.b) :
 WP (r14 R N [pV p, .int .i64 (.ofNat dir), .int .i64 (.ofNat i), slotV (m : Int) D] h) (QW h b (.int .i64 (.ofNat 0)) (putW W (8 * at_) (slotW m D))) := by
 have cgd := fun u => cg (m : Int) D u hD
 have csd := fun u => (cs (m : Int) D u hD).1 m rfl gd
 unfold slotV slotC at cgd csd ⊢
 rw [show (Value.int .i64 (m : Int)) = .int .i64 (.ofNat m) from rfl] at *
 unfold r14
 obtain ⟨fl, H⟩ := E.enter [] (fun t ht => by cases ht)
 have x := E.ok
 have h1 := x.1.b2
 have h2 := E.len
 have h3 := E.cap
 have h4 := x.1.num
 have h6 := x.1.n2
 have hn2 := hd.2.1
 have gr := good_runs x hd.2.2.2
 have cnt : Cnt d.rs := fun r hr => by have := gr r hr; omega
 have dz := (fits_mod (getNode_fits hd.2.2.1).1).sz
 have sz9 : i ≤ 1099511627776 := by omega
 unfold edO edC at H
 have cio := fun u rr => (ci g W (.slice (some ⟨b, 0, none⟩) (8 * g.b) c) dir u x h2 E.sm rr (by omega)).1 d hd
 unfold imgV at cio
 refine w_unC ?_
 refine w_unC ?_
 refine w_unC ?_
 refine w_unC ?_
 refine w_enK ?_
 refine w_boxA H ?_
 clear H; intro u1 H hu1
 repeat' (first | (with_reducible refine w_fieldA ?_) | (with_reducible refine w_nil ?_) | ((with_reducible apply w_loadsR 2 H) ; rfl; rfl; rfl; rfl; (try dsimp only [List.drop_zero, List.drop_succ_cons, List.take_succ_cons, List.take_zero])))
 refine w_call (cio _ (by rw [Wl_ones]; exact H.rdB 1 rfl (by rw [Wc_len]; omega) (by omega))) fun v4 u4 hv => ?_
 obtain ⟨a0, c0, rfl, n4⟩ := hv
 replace H := H.call n4.rl
 unfold Nd.v
 repeat' (first | ((refine w_callB (cgd _) (fun _ => ?_) (fun _ => ?_)) <;> first | (exfalso; omega) | skip) | (with_reducible refine w_jn ?_) | (with_reducible refine w_cndT ?_) | (with_reducible refine w_cndF ?_) | (with_reducible refine w_gFf ?_) | (with_reducible refine w_pickF ?_) | (with_reducible refine w_notT ?_) | (with_reducible refine w_notF ?_) | (with_reducible refine w_fieldA ?_) | ((with_reducible apply w_extr) ; rfl) | ((with_reducible refine w_alloc H ?_) ; (clear H; intro u H hu)) | ((with_reducible refine w_lss_NN (fun _ => ?_) (fun _ => ?_)) <;> first | (exfalso; omega) | skip) | ((with_reducible refine w_geq_NN (fun _ => ?_) (fun _ => ?_)) <;> first | (exfalso; omega) | skip) | ((with_reducible refine w_neq_NN (fun _ => ?_) (fun _ => ?_)) <;> first | (exfalso; omega) | skip) | ((with_reducible apply w_load 0 H) ; rfl; rfl; rfl) | ((with_reducible apply w_storeV 0 H) ; rfl; rfl; rfl; omega; rfl; (clear H; intro u H hu; (try dsimp only [List.set_cons_zero, List.set_cons_succ, cellsL, List.toList_toArray, splice, ev, rep, List.cons_append, List.nil_append] at H))) | ((with_reducible apply w_loadsF 2 H) ; rfl; rfl; rfl))
 rotate_left
 ·exact absurd gd (by assumption)
 refine w_callE (ca d.rs i _ _ cnt dl sz9 (H.rd 1 rfl)) ?_
 rw [ha]
 repeat' (first | ((with_reducible apply w_extr) ; rfl) | ((with_reducible apply w_loadsF 2 H) ; rfl; rfl; rfl))
 refine w_call (csd _) fun v7 u7 n7 => ?_
 replace n7 := n7.ones
 rw [← Wl_ones] at n7
 replace H := H.call n7
 refine w_call (cp _ g p b c s0 W at_ (slotW m D) v7 (EdAt.of 4 5 H rfl rfl x h3 h2 E.sm) hat (by rw [slotW_len]; omega) ⟨H.rd 0 rfl, H.neR (i := 4) (j := 0) rfl rfl (by decide)⟩) fun v8 u8 q => ?_
 obtain ⟨rfl, mu, hw⟩ := q
 replace H := H.mut 4 rfl mu hw
 dsimp only [List.set_cons_zero, List.set_cons_succ] at H
 skip
 exact w_clrM 4 H rfl E.bl rfl fun h'' a b => ⟨rfl, a, b⟩
set_option linter.unusedSimpArgs false
def Sc (l : List (Nat × List UInt8)) : List Value := (l.map fun x => slotC (x.1 : Int) x.2).flatten
theorem Sc_snoc (l : List (Nat × List UInt8)) (x : Nat × List UInt8) : Sc (l ++ [x]) = Sc l ++ slotC (x.1 : Int) x.2 := by unfold Sc; rw [List.map_append, List.flatten_append]; simp
def slotAt (l : List Nat) (rs : List (Nat × Nat)) (k : Nat) : Nat × List UInt8 := (getSlot (blockAt l ((runAt rs k).getD 0))).getD (0, [])
def slotsUp (l : List Nat) (rs : List (Nat × Nat)) (n : Nat) : List (Nat × List UInt8) := (List.range n).map (slotAt l rs)
theorem slotsUp_succ (l : List Nat) (rs : List (Nat × Nat)) (n : Nat) : slotsUp l rs (n + 1) = slotsUp l rs n ++ [slotAt l rs n] := by unfold slotsUp; rw [List.range_succ, List.map_append]; rfl
theorem slotR_eq (o : Option (Nat × List UInt8)) : slotR o = .tuple #[.agg (slotC ((o.getD (0, [])).1 : Int) (o.getD (0, [])).2).toArray, .bool o.isSome] := by cases o <;> rfl
def CSlots (R : RnK) : Prop := ∀ (g : Geo) (l : List Nat) (s : Value) (i : Nat) (d : Nd) (h : Hs), g.Ok → l.length = 8 * g.b → Small l → Rd h s 1 (Wl l) → i ≤ 100000 → INode g l i d → d.ty = 2 → d.sz ≤ 4096 → (∀ k, k < d.sz → (runAt d.rs k).getD 0 < g.b) →
 WP (R 16 [imgV g s, .int .i64 (.ofNat i)] h) fun v h' => New h h' (.osl v 55 2 true d.sz (Sc (slotsUp l d.rs d.sz)))
theorem slots_ok {R : RnK} {N : Nat} (ci : CImgNode R) (ca : CAt R) (cb : CBlock R) (cg : CSlotGet R) {g : Geo} {l : List Nat} {s : Value} {i : Nat} {d : Nd} {h : Hs} (hN : 100000 < N) (x : g.Ok) (hl : l.length = 8 * g.b) (sm : Small l) (r : Rd h s 1 (Wl l)) (hi : i ≤ 100000) (hd : INode g l i d) (ty : d.ty = 2) (sz : d.sz ≤ 4096) (hk : ∀ k, k < d.sz → (runAt d.rs k).getD 0 < g.b) :
 WP (r16 R N [imgV g s, .int .i64 (.ofNat i)] h) fun v h' => New h h' (.osl v 55 2 true d.sz (Sc (slotsUp l d.rs d.sz))) := by
 have cio := fun u rr => (ci g l s i u x hl sm rr hi).1 d hd
 have cbg := cb g l s
 unfold r16
 unfold imgV at cio cbg ⊢
 have H := Sto.enter1 r
 have h1 := x.1.b2
 have h4 := x.1.num
 have gr := good_runs x hd.2.2.2
 have cnt : Cnt d.rs := fun r hr => by have := gr r hr; omega
 have dl := fits_len (getNode_fits hd.2.2.1).1
 refine w_unC ?_
 refine w_unC ?_
 refine w_enK ?_
 refine w_boxA H ?_
 clear H; intro u1 H hu1
 repeat' (first | ((with_reducible apply w_loadsF 0 H) ; rfl; rfl; rfl))
 refine w_call (cio _ (H.rd 1 rfl)) fun v4 u4 hv => ?_
 obtain ⟨a0, c0, rfl, n4⟩ := hv
 replace H := H.call n4.rl
 unfold Nd.v
 repeat' (first | (with_reducible refine w_jn ?_) | (with_reducible refine w_cndF ?_) | (with_reducible refine w_gFf ?_) | (with_reducible refine w_pickF ?_) | (with_reducible refine w_notT ?_) | (with_reducible refine w_fieldA ?_) | ((with_reducible apply w_extr) ; rfl) | ((with_reducible refine w_alloc H ?_) ; (clear H; intro u H hu)) | ((with_reducible refine w_neq_NN (fun _ => ?_) (fun _ => ?_)) <;> first | (exfalso; omega) | skip) | ((with_reducible apply w_load 0 H) ; rfl; rfl; rfl) | ((with_reducible apply w_storeV 0 H) ; rfl; rfl; rfl; omega; rfl; (clear H; intro u H hu; (try dsimp only [List.set_cons_zero, List.set_cons_succ, cellsL, List.toList_toArray, splice, ev, rep, List.cons_append, List.nil_append] at H))))
 replace H := H.nilS 55 2
 obtain ⟨m0, hm0, H0⟩ : ∃ m0, m0 = _ ∧ Sto h [] _ m0 := ⟨_, rfl, H⟩
 refine lp_ind (Good := fun n (self : L6) => ∀ (j : Nat) (y1 y2 y3 cur y5 : Value) (w : Hs), j + n = d.sz → Sto h [] w (m0.set 0 (.osl cur 55 2 true j (Sc (slotsUp l d.rs j)))) → WP (self (.int .i64 (.ofNat j)) y1 y2 y3 cur y5 w) (fun v h' => New h h' (.osl v 55 2 true d.sz (Sc (slotsUp l d.rs d.sz))))) (fun n self ih j y1 y2 y3 cur y5 w hj H1 => ?_) N d.sz (by omega) 0 _ _ _ _ _ _ (by omega) (by rw [hm0]; exact H)
 clear H0 H
 have hm1 := hm0
 rw [hm0] at H1
 have H := H1
 clear H1
 dsimp only [List.set_cons_zero, List.set_cons_succ] at H
 obtain ⟨ac, cc, rfl⟩ := (show OwnSl w cur 55 2 _ _ _ from H.ok _ (List.mem_of_getElem? (i := 0) rfl)).form
 repeat' (first | (with_reducible refine w_jn ?_) | (with_reducible refine w_cndT ?_) | (with_reducible refine w_cndF ?_) | (with_reducible refine w_fieldA ?_) | ((with_reducible refine w_lss_NN (fun _ => ?_) (fun _ => ?_)) <;> first | (exfalso; omega) | skip) | ((with_reducible apply w_load 1 H) ; rfl; rfl; rfl))
 ·have kj := hk j (by omega)
  refine w_callE (ca d.rs j _ _ cnt (by omega) (by omega) (H.rd 2 rfl)) ?_
  generalize hat : (runAt d.rs j).getD 0 = at_ at *
  repeat' (first | ((with_reducible apply w_extr) ; rfl) | ((with_reducible apply w_loadsF 3 H) ; rfl; rfl; rfl))
  refine w_call (cbg at_ _ (by omega) (H.rd 4 rfl) (by omega)) fun v5 u5 n5 => ?_
  have bl := blockAt_len (l := l) (i := at_) (by omega)
  replace n5 := n5.ones
  rw [← Wl_ones] at n5
  replace H := H.call n5
  refine w_callE (cg (blockAt l at_) v5 _ (sm.block _) (by omega) (H.rd 0 rfl)) ?_
  rw [slotR_eq]
  have et : (getSlot (blockAt l at_)).getD (0, []) = slotAt l d.rs j := by unfold slotAt; rw [hat]
  rw [et]
  unfold slotC
  repeat' (first | ((with_reducible apply w_extr) ; rfl) | ((with_reducible refine w_alloc H ?_) ; (clear H; intro u H hu)) | ((with_reducible apply w_mkrow H) ; rfl; (clear H; intro u H hu; (try dsimp only [List.set_cons_zero, List.set_cons_succ, cellsL, List.toList_toArray, splice, ev, rep, List.cons_append, List.nil_append] at H))) | ((with_reducible apply w_storeV 0 H) ; rfl; rfl; rfl; omega; rfl; (clear H; intro u H hu; (try dsimp only [List.set_cons_zero, List.set_cons_succ, cellsL, List.toList_toArray, splice, ev, rep, List.cons_append, List.nil_append] at H))) | ((with_reducible apply w_loadsF 0 H) ; rfl; rfl; rfl))
  refine w_appendB 3 0 H rfl rfl rfl rfl (by omega) (by omega) fun v3 u6 H4 hn4 => ?_
  clear H
  have H := H4
  clear H4
  dsimp only [List.set_cons_zero, List.set_cons_succ] at H
  replace H := H.sel [3, 4, 5, 6, 7] 8 rfl (by decide) (by decide); dsimp only [List.filterMap_cons, List.filterMap_nil, List.getElem?_cons_zero, List.getElem?_cons_succ] at H
  rw [show Sc (slotsUp l d.rs j) ++ [Value.int .i64 ((slotAt l d.rs j).1 : Int), sV (slotAt l d.rs j).2] = Sc (slotsUp l d.rs (j + 1)) from by rw [slotsUp_succ, Sc_snoc]; rfl] at H
  repeat' (first | ((with_reducible refine w_add_NN ?_ ?_) ; omega))
  refine ih (n - 1) (by omega) (j + 1) _ _ _ _ _ _ (by omega) ?_
  rw [hm1]
  exact H
 ·obtain rfl : j = d.sz := by omega
  exact w_clrO 0 H rfl fun v' h' n => n
set_option linter.unusedSimpArgs false
def byteAt (w q : Nat) : Nat := w / 2 ^ (8 * q) % 256
theorem byteAt_bit (w q i : Nat) : (byteAt w q).testBit i = (decide (i < 8) && w.testBit (8 * q + i)) := by
 unfold byteAt
 rw [show (256 : Nat) = 2 ^ 8 from rfl, Nat.testBit_mod_two_pow, Nat.testBit_div_two_pow, Nat.add_comm]
theorem byte_hi {x i : Nat} (hx : x < 256) (hi : 8 ≤ i) : x.testBit i = false :=
 Nat.testBit_lt_two_pow (Nat.lt_of_lt_of_le hx (Nat.pow_le_pow_right (n := 2) (by omega) hi))
theorem byteAt_or {a x q q' : Nat} (hx : x < 256) (hq : q < 8) : byteAt (a ||| x * 2 ^ (8 * q) % 18446744073709551616) q' = if q' = q then byteAt a q ||| x else byteAt a q' := by
 have m : x * 2 ^ (8 * q) % 18446744073709551616 = x * 2 ^ (8 * q) := by
  refine Nat.mod_eq_of_lt ?_
  have h1 : x * 2 ^ (8 * q) < 256 * 2 ^ (8 * q) := Nat.mul_lt_mul_of_pos_right hx (Nat.two_pow_pos _)
  have h2 : 256 * 2 ^ (8 * q) = 2 ^ (8 + 8 * q) := by rw [Nat.pow_add]
  have h3 : 2 ^ (8 + 8 * q) ≤ 2 ^ 64 := Nat.pow_le_pow_right (by omega) (by omega)
  have h4 : (2 : Nat) ^ 64 = 18446744073709551616 := by decide
  omega
 rw [m]
 refine Nat.eq_of_testBit_eq fun i => ?_
 rw [byteAt_bit, Nat.testBit_or, Nat.testBit_mul_two_pow]
 by_cases e : q' = q
 ·subst e
  rw [if_pos rfl, Nat.testBit_or, byteAt_bit]
  by_cases hi : i < 8
  ·simp [hi]
  ·rw [byte_hi (i := i) hx (by omega)]; simp [hi]
 ·rw [if_neg e, byteAt_bit]
  by_cases hi : i < 8
  ·by_cases hl : 8 * q ≤ 8 * q' + i
   ·rw [byte_hi hx (show 8 ≤ 8 * q' + i - 8 * q by omega)]; simp
   ·simp [hl]
  ·simp [hi]
theorem slotTo_byte {n : Nat} {D : List UInt8} (hD : D.length ≤ 40) : ∀ j, j ≤ D.length → ∀ k, k < 40 → byteAt ((slotTo n D j).getD (2 + k / 8) 0) (k % 8) = if k < j then (D.getD k 0).toNat else 0 := by
 intro j
 induction j with
 | zero =>
  intro _ k hk
  rw [if_neg (by omega)]
  have : (slotTo n D 0).getD (2 + k / 8) 0 = 0 := by
   have hq : k / 8 < 5 := by omega
   generalize k / 8 = q at hq
   match q, hq with
   | 0, _ => rfl
   | 1, _ => rfl
   | 2, _ => rfl
   | 3, _ => rfl
   | 4, _ => rfl
  rw [this]
  unfold byteAt
  rw [Nat.zero_div]
 | succ j ih =>
  intro hj k hk
  have l := slotTo_len n D j
  have i1 := ih (by omega) k hk
  have c := (D.getD j 0).toNat_lt
  rw [slotTo_succ]
  unfold slotS
  rw [List.getD_eq_getElem?_getD, List.getElem?_set]
  by_cases e : 2 + j / 8 = 2 + k / 8
  ·rw [if_pos e, if_pos (by omega)]
   show byteAt (_ ||| _) (k % 8) = _
   rw [byteAt_or (by omega) (by omega)]
   by_cases e2 : k % 8 = j % 8
   ·obtain rfl : k = j := by omega
    rw [if_pos rfl, if_pos (by omega), i1, if_neg (by omega), Nat.zero_or]
   ·rw [if_neg e2, e, i1]
    by_cases e3 : k < j
    ·rw [if_pos e3, if_pos (by omega)]
    ·rw [if_neg e3, if_neg (by omega)]
  ·rw [if_neg e, ← List.getD_eq_getElem?_getD, i1]
   by_cases e3 : k < j
   ·rw [if_pos e3, if_pos (by omega)]
   ·rw [if_neg e3, if_neg (by omega)]
theorem slotTo_low (n : Nat) (D : List UInt8) : ∀ j, (slotTo n D j).getD 0 0 = n ∧ (slotTo n D j).getD 1 0 = D.length := by
 intro j
 induction j with
 | zero => exact ⟨rfl, rfl⟩
 | succ j ih =>
  rw [slotTo_succ]
  unfold slotS
  have st : ∀ (l : List Nat) (i q x : Nat), i ≠ q → (l.set i x).getD q 0 = l.getD q 0 := fun l i q x h => by rw [List.getD_eq_getElem?_getD, List.getElem?_set, if_neg h, ← List.getD_eq_getElem?_getD]
  rw [st _ _ _ _ (by omega), st _ _ _ _ (by omega)]
  exact ih
theorem getSlot_put {n : Nat} {D : List UInt8} (g : slotGood (n : Int) D) : getSlot (slotW n D) = some (n, D) := by
 by_cases z : n = 0
 ·subst z
  have : D = [] := by unfold slotGood at g; simpa using g
  subst this
  rfl
 ·have g' := g
  unfold slotGood at g'
  rw [if_neg (by omega)] at g'
  obtain ⟨g1, g2, g3⟩ := g'
  have dl : D.length ≤ 40 := g3.2.1
  have e : slotW n D = (slotTo n D D.length).set 7 (sealOf ((slotTo n D D.length).take 7)) := if_neg z
  have l := slotTo_len n D D.length
  have lo := slotTo_low n D D.length
  have ge : ∀ i, i ≠ 7 → (slotW n D).getD i 0 = (slotTo n D D.length).getD i 0 := fun i hi => by
   rw [e, List.getD_eq_getElem?_getD, List.getElem?_set, if_neg (by omega), ← List.getD_eq_getElem?_getD]
  have w0 : (slotW n D).getD 0 0 = n := by rw [ge 0 (by omega)]; exact lo.1
  have w1 : (slotW n D).getD 1 0 = D.length := by rw [ge 1 (by omega)]; exact lo.2
  have by_ : slotBytes (slotW n D) D.length = D := by
   refine List.ext_getElem (by rw [slotBytes_len]) fun k h1 h2 => ?_
   simp only [slotBytes, List.getElem_map, List.getElem_range]
   unfold slotByte
   rw [ge _ (by omega)]
   have b := slotTo_byte (n := n) dl D.length (Nat.le_refl _) k (by omega)
   rw [if_pos h2] at b
   have dk : D.getD k 0 = D[k] := by rw [List.getD_eq_getElem?_getD, List.getElem?_eq_getElem h2]; rfl
   refine UInt8.toNat_inj.1 ?_
   rw [UInt8.toNat_ofNat', ← dk]
   exact b
  unfold getSlot
  rw [w0, w1, by_]
  exact if_pos ⟨slotW_len n D, by omega, dl, g, rfl⟩
end Go.Proofs.Ytmolikcajfphlaa.editSlots
