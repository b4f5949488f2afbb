/- Contracts of functions, by the logic of residual programs. -/
import Derived.Test.YtmolikcajfphlaaEsD
namespace Go.Proofs.Ytmolikcajfphlaa.editSlots
open Go Go.Gev
set_option linter.unusedVariables false
def packS (D : List UInt8) (ws : List Nat) (k : Nat) : List Nat := ws.set (k / 8) (ws.getD (k / 8) 0 ||| (D.getD k 0).toNat * 2 ^ (8 * (k % 8)) % 18446744073709551616)
def packTo (D : List UInt8) (j : Nat) : List Nat := (List.range j).foldl (packS D) (List.replicate 8 0)
def packW (D : List UInt8) : List Nat := packTo D D.length
def chunk (D : List UInt8) (i : Nat) : List UInt8 := (D.drop (64 * i)).take 64
def fillTo (W : List Nat) (l : List (Nat × Nat)) (D : List UInt8) (i : Nat) : List Nat := (List.range i).foldl (fun W i => putW W (8 * (runAt l i).getD 0) (packW (chunk D i))) W
set_option linter.unusedSimpArgs false
def g0 : Geo := ⟨64, 10, 1, 20⟩
def hd0 : List Nat := [5497010944029229057, 64, 10, 1, 20, 0, 0, 14437194409388276641]
def W0 : List Nat := hd0 ++ (List.replicate 160 0 ++ ([9223376434901286911, 0, 0, 0, 0, 0, 0, 0, 258, 0, 0, 0, 0, 0, 0, 17777035089724969104, 258, 10, 42949672992, 0, 0, 0, 0, 17777384734422601776] ++ (List.replicate 312 0 ++ hd0)))
def B0 : List Nat := [9223376434901286911, 0, 0, 0, 0, 0, 0, 0]
def gN0 : List Value := [wI 64, wI 10, wI 1, wI 20]
def wRow (r : Bool) (l : List Nat) : SB := .row 39 1 r (l.map wU)
def sOf (b n : Nat) : Value := .slice (some ⟨b, 0, none⟩) n n
def eT : List SB := [.row 49 0 true (gN0 ++ (sOf 1 512 :: (gN0 ++ [sOf 2 512]))), wRow true W0, wRow false W0]
def pT (B : List Nat) : List SB := [.row 132 0 true (gN0 ++ [sOf 1 8]), wRow true B]
def aMade (_ : Unit) : List Value := []
def aEdNew (_ : Unit) : List Value := [sOf 0 512]
def aPNew (_ : Unit) : List Value := [.agg gN0.toArray, .agg #[sOf 0 8]]
def aTake (k : Nat) : List Value := [.pointer (some ⟨0, 0, none⟩), wI 0, .int .i64 (.ofNat k), wI 4]
def KMade (R0 : List Value → Hs → An) : Runs0 := KI (fun _ => True) aMade (fun _ => []) R0
def KEdNew (R0 : List Value → Hs → An) : Runs0 := KI (fun _ => True) aEdNew (fun _ => [wRow false W0]) R0
def KPNew (R0 : List Value → Hs → An) : Runs0 := KI (fun _ => True) aPNew (fun _ => [wRow false B0]) R0
def KTake (R0 : List Value → Hs → An) : Runs0 := KI (fun k => k < 21) aTake (fun _ => pT B0) R0
noncomputable section
def qMade (v : Value) (h : Hs) : Bool := match v with
 | .slice (some ⟨b, 0, none⟩) 512 c => andK (Nat.ble 512 c) (embK [b] [wRow true W0] h)
 | _ => false
def qEdNew (v : Value) (h : Hs) : Bool := match v with
 | .tuple vs => match vs.toList with
  | [.pointer (some ⟨p, 0, none⟩), .int .i64 (.ofNat 0)] => andK (embK [p, refC h p 4, refC h p 9] eT h) (andK (Nat.ble 1 p) (andK (Nat.ble 1 (refC h p 4)) (andK (Nat.ble 1 (refC h p 9)) (Nat.ble 1 h.lo))))
  | _ => false
 | _ => false
def qPNew (v : Value) (h : Hs) : Bool := match v with
 | .tuple vs => match vs.toList with
  | [.pointer (some ⟨p, 0, none⟩), .int .i64 (.ofNat 0)] => andK (embK [p, refC h p 4] (pT B0) h) (andK (Nat.ble 1 p) (andK (Nat.ble 1 (refC h p 4)) (Nat.ble 1 h.lo)))
  | _ => false
 | _ => false
def runT (k : Nat) : List (Nat × Nat) := match k with
 | 0 => []
 | _ => [(42, k)]
def qTake0 (v : Value) (h : Hs) : Bool := eqV v (.tuple #[.slice none 0 0, wI 0])
def qTake (k : Nat) (v : Value) (h : Hs) : Bool := match v with
 | .tuple vs => match vs.toList with
  | [.slice (some ⟨r, 0, none⟩) 1 c, .int .i64 (.ofNat 0)] => andK (Nat.ble 1 c) (andK (Nat.ble 2 r) (embK [r] [.row 87 2 true [wI 42, .int .i64 (.ofNat k)]] h))
  | _ => false
 | _ => false
end
structure EdR (R0 : FuncId → List Value → Hs → An) : Prop where
 made : chkRun (R0 7) (aMade ()) [] qMade = true
 ednew : chkRun (R0 6) (aEdNew ()) [wRow false W0] qEdNew = true
 pnew : chkRun (R0 60) (aPNew ()) [wRow false B0] qPNew = true
 take0 : chkRun (R0 61) (aTake 0) (pT B0) qTake0 = true
 take : ∀ k, k < 20 → chkRun (R0 61) (aTake (k + 1)) (pT B0) (qTake (k + 1)) = true
def Ans (R : RnK) (f : FuncId) (K : Runs0) : Prop := ∀ a h o, fmG K a h = some o → R f a h = some o
structure EdF (R : RnK) (R0 : FuncId → List Value → Hs → An) : Prop where
 made : Ans R 7 (KMade (R0 7))
 ednew : Ans R 6 (KEdNew (R0 6))
 pnew : Ans R 60 (KPNew (R0 60))
 take : Ans R 61 (KTake (R0 61))
theorem row_holds {s : Nat → Nat} {n e u : Nat} {L L' : List Value} {B : Option Blk} {y : Blk} (hB : B = some y) (h : BW n s (SB.row e u true L).blk y) (hl : L.length = L'.length) (hv : ∀ (i : Nat) (v v' : Value), L[i]? = some v → VW n s true v v' → L'[i]? = some v') : Holds B (.row e u true false L') := by
 have h : BW n s (.row (ofList L) L.length e u true false) y := h
 subst hB
 cases h with
 | row _ cs _ sz _ _ _ rw_ _ f hrw _ hc =>
  obtain ⟨g1, g2, _, g4⟩ := hrw rfl
  subst g1
  refine ⟨cs, f, by rw [← hl, g2], (fun h => by cases h), fun i => ?_⟩
  cases hi : L[i]? with
  | some v =>
   obtain ⟨v', w1, w2⟩ := hc i v (by rw [get_ofList]; exact hi)
   rw [w1, hv i v v' hi w2]
  | none =>
   have h1 : L.length ≤ i := List.getElem?_eq_none_iff.1 hi
   rw [List.getElem?_eq_none (by omega)]
   cases hg : cs.get i with
   | none => rfl
   | some v =>
    exfalso
    have := (g4 i).1 (by rw [hg]; rfl)
    omega
theorem words_holds {s : Nat → Nat} {n : Nat} {l : List Nat} {B : Option Blk} {y : Blk} (hB : B = some y) (h : BW n s (wRow true l).blk y) : Holds B (wdO l) := by
 refine row_holds hB h (by unfold Wc; simp) fun i v v' hi w => ?_
 rw [List.getElem?_map] at hi
 cases hx : l[i]? with
 | none => rw [hx] at hi; cases hi
 | some x =>
  rw [hx] at hi
  injection hi with hi
  subst hi
  unfold wU at w
  cases w
  unfold Wc
  rw [List.getElem?_map, hx]; rfl
set_option linter.unusedSimpArgs false
theorem qMade_inv {v : Value} {h : Hs} (hq : qMade v h = true) : ∃ b c, v = .slice (some ⟨b, 0, none⟩) 512 c ∧ 512 ≤ c ∧ embK [b] [wRow true W0] h = true := by
 unfold qMade at hq
 split at hq
 ·obtain ⟨a1, a2⟩ := andK_true hq
  exact ⟨_, _, rfl, Nat.le_of_ble_eq_true a1, a2⟩
 ·cases hq
theorem qEdNew_inv {v : Value} {h : Hs} (hq : qEdNew v h = true) : ∃ p, v = .tuple #[.pointer (some ⟨p, 0, none⟩), .int .i64 (.ofNat 0)] ∧ embK [p, refC h p 4, refC h p 9] eT h = true ∧ 1 ≤ p ∧ 1 ≤ refC h p 4 ∧ 1 ≤ refC h p 9 ∧ 1 ≤ h.lo := by
 unfold qEdNew at hq
 split at hq
 ·rename_i vs
  split at hq
  ·rename_i p hvs
   obtain ⟨a1, a2⟩ := andK_true hq
   obtain ⟨a2, a3⟩ := andK_true a2
   obtain ⟨a3, a4⟩ := andK_true a3
   obtain ⟨a4, a5⟩ := andK_true a4
   exact ⟨p, by congr 1; apply Array.ext'; exact hvs, a1, Nat.le_of_ble_eq_true a2, Nat.le_of_ble_eq_true a3, Nat.le_of_ble_eq_true a4, Nat.le_of_ble_eq_true a5⟩
  ·cases hq
 ·cases hq
theorem emb_nil (s : Nat → Nat) (h : Hs) : Emb s (smallH []) h := ⟨fun i b g => by have := smallH_lt g; simp at this, fun i hi => by have hi : i < 0 := hi; omega, fun i i' b b' g => by have := smallH_lt g; simp at this⟩
variable {R : RnK} {R0 : FuncId → List Value → Hs → An} {h : Hs}
theorem made_w (rn : EdR R0) (fm : EdF R R0) : WP (R 7 [] h) fun v u => ∃ s c, v = .slice (some ⟨s 0, 0, none⟩) 512 c ∧ 512 ≤ c ∧ Emb s (smallH [wRow true W0]) u ∧ Same h u := by
 obtain ⟨v0, h0', r, hq⟩ := chkRun_ok rn.made
 obtain ⟨pb, c, rfl, hc, a1⟩ := qMade_inv hq
 refine (w_fm (fun o ho => fm.made _ _ o ho) () trivial (emb_nil id h) .nil rfl (fun j s2 hj E2 w2 => ⟨rfl, rfl⟩) r).mono fun v u ⟨g1, g2⟩ => ?_
 obtain ⟨y1, y2, y3⟩ := g1.slice_inv
 have E' := g2.emb (emb_nil id h) r.nx (embK_ok a1) (holdK_ok r.hold)
 exact ⟨_, c, y1, hc, E', g2.same (Nat.zero_le _)⟩
theorem wRow_sub (l : List Nat) : BW 1 id (wRow false l).blk (wRow true l).blk := by
 refine .row _ _ _ _ _ _ _ _ _ _ (fun h => by cases h) (fun h => by cases h) fun i v0 hv => ⟨v0, hv, ?_⟩
 rw [get_ofList, List.getElem?_map] at hv
 cases hx : l[i]? with
 | none => rw [hx] at hv; cases hv
 | some x => rw [hx] at hv; injection hv with hv; subst hv; exact .int _ _
theorem wRow_emb {l : List Nat} {s : Nat → Nat} (E : Emb s (smallH [wRow true l]) h) : Emb s (smallH [wRow false l]) h := by
 have : Emb id (smallH [wRow false l]) (smallH [wRow true l]) := by
  refine ⟨fun i b0 hb => ?_, fun i hi => hi, fun i i' b b' hb hb' hr _ => ?_⟩
  ·rw [smallH_get] at hb
   cases i with
   | zero => injection hb with hb; subst hb; exact ⟨Nat.zero_lt_one, _, by rw [smallH_get]; rfl, wRow_sub l⟩
   | succ i => cases hb
  ·rw [smallH_get] at hb
   cases i with
   | zero => exact absurd hr (by injection hb with hb; rw [← hb]; exact Bool.false_ne_true)
   | succ i => cases hb
 exact this.trans E
theorem ednew_w (rn : EdR R0) (fm : EdF R R0) {s : Nat → Nat} {c : Nat} (hc : 512 ≤ c) (E : Emb s (smallH [wRow true W0]) h) :
 WP (R 6 [.slice (some ⟨s 0, 0, none⟩) 512 c] h) fun v u => ∃ t, v = .tuple #[pV (t 0), .int .i64 (.ofNat 0)] ∧ Emb t (smallH eT) u ∧ (∀ id, id < 3 → h.nx ≤ t id) ∧ Same h u := by
 have E := wRow_emb E
 obtain ⟨v0, h0', r, hq⟩ := chkRun_ok rn.ednew
 obtain ⟨pb, rfl, a1, a2, a3, a4, a5⟩ := qEdNew_inv hq
 have ar : VWs 1 s (aEdNew ()) [.slice (some ⟨s 0, 0, none⟩) 512 c] := .cons (.slice 0 0 512 512 c (by decide) (Nat.le_refl _) hc (.inl rfl)) .nil
 refine (w_fm (fun o ho => fm.ednew _ _ o ho) () trivial E ar rfl (fun j s2 hj E2 w2 => ⟨rfl, rfl⟩) r).mono fun v u ⟨g1, g2⟩ => ?_
 obtain ⟨y, z, rfl, y1, z1⟩ := g1.tup2_inv
 obtain ⟨yp, _⟩ := y1.ptr_inv
 rw [z1.int_inv, yp]
 have E' := g2.emb E r.nx (embK_ok a1) (holdK_ok r.hold)
 refine ⟨_, rfl, E', fun id hid => ?_, g2.same a5⟩
 show h.nx ≤ nextS s 1 h.nx (nthM [pb, refC h0' pb 4, refC h0' pb 9] id)
 unfold nextS
 have : ¬ nthM [pb, refC h0' pb 4, refC h0' pb 9] id < 1 := by
  match id, hid with
  | 0, _ => show ¬ pb < 1; omega
  | 1, _ => show ¬ refC h0' pb 4 < 1; omega
  | 2, _ => show ¬ refC h0' pb 9 < 1; omega
 rw [if_neg this]; omega
set_option linter.unusedSimpArgs false
set_option linter.unusedSimpArgs false
theorem putW_get {W ws : List Nat} {o i : Nat} (h : o + ws.length ≤ W.length) : (putW W o ws).getD i 0 = if o ≤ i ∧ i < o + ws.length then ws.getD (i - o) 0 else W.getD i 0 := by
 simp only [List.getD_eq_getElem?_getD]
 congr 1
 unfold putW
 have e1 : (W.take o).length = o := by rw [List.length_take]; omega
 by_cases h1 : i < o
 ·rw [if_neg (by omega), List.append_assoc, List.getElem?_append_left (by omega), List.getElem?_take, if_pos h1]
 ·by_cases h2 : i < o + ws.length
  ·rw [if_pos ⟨by omega, h2⟩, List.append_assoc, List.getElem?_append_right (by omega), e1, List.getElem?_append_left (by omega)]
  ·rw [if_neg (by omega), List.getElem?_append_right (by rw [List.length_append, e1]; omega), List.length_append, e1, List.getElem?_drop, show o + ws.length + (i - (o + ws.length)) = i by omega]
theorem ext_getD {a b : List Nat} (h : a.length = b.length) (g : ∀ i, i < a.length → a.getD i 0 = b.getD i 0) : a = b := by
 refine List.ext_getElem h fun i h1 h2 => ?_
 have := g i h1
 rw [List.getD_eq_getElem?_getD, List.getD_eq_getElem?_getD, List.getElem?_eq_getElem h1, List.getElem?_eq_getElem h2] at this
 exact this
theorem sub_get (W : List Nat) (o n j : Nat) (hj : j < n) : ((W.drop o).take n).getD j 0 = W.getD (o + j) 0 := by
 simp only [List.getD_eq_getElem?_getD]
 rw [List.getElem?_take, if_pos hj, List.getElem?_drop]
theorem sub_put {W ws : List Nat} {o : Nat} (h : o + ws.length ≤ W.length) : ((putW W o ws).drop o).take ws.length = ws := by
 refine ext_getD (by rw [List.length_take, List.length_drop, putW_len h]; omega) fun i hi => ?_
 rw [List.length_take, List.length_drop, putW_len h] at hi
 rw [sub_get _ _ _ _ (by omega), putW_get h, if_pos ⟨by omega, by omega⟩]
 congr 1; omega
theorem put_sub {W : List Nat} {o n : Nat} (h : o + n ≤ W.length) : putW W o ((W.drop o).take n) = W := by
 have l : ((W.drop o).take n).length = n := by rw [List.length_take, List.length_drop]; omega
 refine ext_getD (putW_len (by omega)) fun i hi => ?_
 rw [putW_get (by omega), l]
 split
 ·rw [sub_get _ _ _ _ (by omega)]; congr 1; omega
 ·rfl
theorem blockAt_put {W ws : List Nat} {a : Nat} (hw : ws.length = 8) (h : 8 * a + 8 ≤ W.length) : blockAt (putW W (8 * a) ws) a = ws := by
 have := sub_put (W := W) (ws := ws) (o := 8 * a) (by omega)
 rw [hw] at this
 exact this
theorem markW_nil {g : Geo} {W : List Nat} {yes : Bool} (h : 8 * g.bitsAt + 8 * g.bitsN ≤ W.length) : markW g W yes [] = W := put_sub h
theorem decR_runW {r : Nat × Nat} (h : runFits r = true) : decR (runW r) = r ∧ runW r ≠ 0 := by
 obtain ⟨a, b⟩ := r
 have f := runFits_of h
 simp only at f
 have e1 : b * 4294967296 % 18446744073709551616 = b * 4294967296 := Nat.mod_eq_of_lt (by omega)
 have e2 : runW (a, b) = a + b * 4294967296 := by
  unfold runW
  simp only
  rw [e1, Nat.or_comm, show b * 4294967296 = 2 ^ 32 * b by omega, ← Nat.two_pow_add_eq_or_of_lt (show a < 2 ^ 32 by omega)]; omega
 refine ⟨?_, by omega⟩
 unfold decR
 rw [e2]
 have e3 : (a + b * 4294967296) &&& 4294967295 = a := by
  rw [show 4294967295 = 2 ^ 32 - 1 by decide, Nat.and_two_pow_sub_one_eq_mod]; omega
 rw [e3]
 congr 1
 omega
theorem decRs_runs (l : List (Nat × Nat)) (z : List Nat) (h : ∀ r ∈ l, runFits r = true) (hz : ∀ x ∈ z, x = 0) : decRs (l.map runW ++ z) = l := by
 unfold decRs
 induction l with
 | nil =>
  cases z with
  | nil => rfl
  | cons x z => rw [hz x List.mem_cons_self]; rfl
 | cons r l ih =>
  have f := decR_runW (h r List.mem_cons_self)
  rw [List.map_cons, List.cons_append, List.takeWhile_cons_of_pos (by simp [f.2]), List.map_cons, f.1, ih fun r hr => h r (List.mem_cons_of_mem _ hr)]
theorem getNode_put {d : Nd} (h : d.fits) : getNode (nodeW d) = some d := by
 have hf := h
 unfold Nd.fits at h
 by_cases z : d.ty = 0
 ·rw [if_pos z] at h
  obtain ⟨h1, h2, h3, h4⟩ := h
  obtain ⟨a, b, c, e⟩ := d
  simp only at h1 h2 h3 h4
  subst h1; subst h2; subst h3; subst h4
  have : nodeW ⟨0, 0, 0, []⟩ = [0, 0, 0, 0, 0, 0, 0, 0] := rfl
  rw [this]
  have q : (0 : Nat) / 2 ^ 32 = 0 ∧ (0 : Nat) ≤ 1099511627776 ∧ (decN 0 0 [0, 0, 0, 0]).fits ∧ nodeW (decN 0 0 [0, 0, 0, 0]) = [0, 0, 0, 0, 0, 0, 0, 0] := ⟨rfl, by decide, by decide, rfl⟩
  unfold getNode
  exact (if_pos q).trans rfl
 ·rw [if_neg z] at h
  obtain ⟨h1, h2, h3, h4, h5⟩ := h
  have e1 : d.ln * 256 % 18446744073709551616 = d.ln * 256 := Nat.mod_eq_of_lt (by omega)
  have e2 : (d.ty ||| d.ln * 256) = d.ty + d.ln * 256 := by
   rw [Nat.or_comm, show d.ln * 256 = 2 ^ 8 * d.ln by omega, ← Nat.two_pow_add_eq_or_of_lt (show d.ty < 2 ^ 8 by omega)]; omega
  have bl := body_len h4
  have e3 : ∃ r0 r1 r2 r3, d.body = [d.ty + d.ln * 256, d.sz, r0, r1, r2, r3, 0] ∧ decRs [r0, r1, r2, r3] = d.rs := by
   have hr : ∀ r ∈ d.rs, runFits r = true := List.all_eq_true.1 h5
   have db : d.body = [d.ty + d.ln * 256, d.sz] ++ (d.rs.map runW ++ List.replicate (4 - d.rs.length) 0) ++ [0] := by
    unfold Nd.body Nd.head
    rw [e1, e2, show 5 - d.rs.length = 4 - d.rs.length + 1 by omega, List.replicate_succ']
    simp only [List.append_assoc]
   have dr := decRs_runs d.rs (List.replicate (4 - d.rs.length) 0) hr (fun x hx => (List.mem_replicate.1 hx).2)
   have l4 : (d.rs.map runW ++ List.replicate (4 - d.rs.length) 0).length = 4 := by rw [List.length_append, List.length_map, List.length_replicate]; omega
   generalize d.rs.map runW ++ List.replicate (4 - d.rs.length) 0 = q at db dr l4
   match q, l4 with
   | [r0, r1, r2, r3], _ => exact ⟨r0, r1, r2, r3, db, dr⟩
  obtain ⟨r0, r1, r2, r3, e3, e4⟩ := e3
  have e5 : nodeW d = [d.ty + d.ln * 256, d.sz, r0, r1, r2, r3, 0, sealOf d.body] := by
   unfold nodeW
   rw [if_neg z]
   rw [show d.body ++ [sealOf d.body] = [d.ty + d.ln * 256, d.sz, r0, r1, r2, r3, 0] ++ [sealOf d.body] from by rw [← e3]]
   rfl
  have e6 : decN (d.ty + d.ln * 256) d.sz [r0, r1, r2, r3] = d := by
   unfold decN
   rw [e4]
   have a1 : (d.ty + d.ln * 256) &&& 255 = d.ty := by
    rw [show 255 = 2 ^ 8 - 1 by decide, Nat.and_two_pow_sub_one_eq_mod]; omega
   have a2 : (d.ty + d.ln * 256) / 2 ^ 8 = d.ln := by omega
   rw [a1, a2]
  have e7 := e5
  rw [e5]
  unfold getNode
  simp only
  rw [e6, if_pos ⟨by omega, h3, hf, e7⟩]
set_option linter.unusedSimpArgs false
theorem g0_ok : g0.Ok := by decide
theorem W0_len : W0.length = 512 := by decide +kernel
theorem W0_small : Small W0 := fun n hn => by
 have : ∀ n ∈ W0, n < 18446744073709551616 := by decide +kernel
 exact this n hn
theorem W0_bits : bitsW g0 W0 = B0 := by decide +kernel
theorem W0_nought : ∀ i, i < 312 → W0.getD (192 + i) 0 = 0 := by decide +kernel
def zero8 : List Nat := List.replicate 8 0
def fN : Nd := ⟨1, 1, 0, []⟩
def fD (L k : Nat) : Nd := ⟨1, 1, L, runT k⟩
theorem runT_sum (k : Nat) : sumR (runT k) = k := by cases k <;> rfl
theorem runAt_T {k i : Nat} (h : i < k) : runAt (runT k) i = some (42 + i) := by
 cases k with
 | zero => omega
 | succ k => exact if_pos h
def w1 (n : Nat) : List Nat := setNodeW g0 W0 n [] fN
def w2 (n L : Nat) (k : Nat) : List Nat := setNodeW g0 (w1 n) n [] (fD L k)
def w3 (n : Nat) (D : List UInt8) (k : Nat) : List Nat := fillTo (w2 n D.length k) (runT k) D k
def w4 (n : Nat) (D : List UInt8) (k : Nat) : List Nat := setNodeW g0 (w3 n D k) n (runT k) nd0
section
variable {n : Nat} {D : List UInt8} {k : Nat} (h1 : 3 ≤ n) (h2 : n ≤ 10) (hL : D.length ≤ 1200) (hk : k = (D.length + 63) / 64)
include h1 h2
omit h1 h2 in
theorem sT_len (yes : Bool) (rs : List (Nat × Nat)) : (setRuns B0 yes rs).length = 8 := by rw [setRuns_len]; rfl
end
set_option linter.unusedSimpArgs false
theorem _root_.Go.Gev.New.rdU {h h' : Hs} {v : Value} {e u n : Nat} {fl : Bool} {L : List Value} {Ls : List (List Value)} (w : New h h' (.osl v e u fl n L)) (hL : L = Ls.flatten) (hu : ∀ l ∈ Ls, l.length = u) (hn : Ls.length = n) : New h h' (.rsl v u Ls) := by
 obtain ⟨n1, ⟨hl, o⟩, n3⟩ := w
 rcases o with ⟨rfl, hz⟩ | ⟨id, c, cs, sz, f, rfl, hc, hb, hf, hsz, hc'⟩
 ·obtain rfl : Ls = [] := List.eq_nil_of_length_eq_zero (by omega)
  exact ⟨n1, (Rd.none _ _).1, fun b hb => by cases hb⟩
 ·refine ⟨n1, ⟨hu, .inr ⟨id, 0, c, cs, sz, _, u, true, f, by rw [hn], by omega, hb, .inr rfl, fun i j x hi hj => ?_⟩⟩, fun b hb => n3 b ?_⟩
  ·have hx := flatten_get hu i j hj
   rw [hi] at hx
   have h1 := (List.getElem?_eq_some_iff.1 hi).1
   have h2 : (i + 1) * u ≤ n * u := Nat.mul_le_mul_right _ (by omega)
   rw [Nat.add_mul] at h2
   rw [Nat.zero_add, hc' _ (by rw [hl]; omega), hL]
   exact hx
  ·cases Ls with
   | nil => cases hb
   | cons x l => exact hb
set_option linter.unusedSimpArgs false
def dS (n : Nat) : Nd := ⟨2, 1, n, runT n⟩
def wG (n : Nat) : List Nat := setNodeW g0 W0 1 [] (dS n)
def eW (W : List Nat) : List SB := [.row 49 0 true (gN0 ++ (sOf 1 512 :: (gN0 ++ [sOf 2 512]))), wRow true W, wRow false W0]
def aGrow (n : Nat) : List Value := [.pointer (some ⟨0, 0, none⟩), wI 0, wI 1, .int .i64 (.ofNat n)]
def KGrow (R0 : List Value → Hs → An) : Runs0 := KI (fun n => n < 13) aGrow (fun _ => eT) R0
noncomputable section
def qGrow (n : Nat) (v : Value) (h : Hs) : Bool := andK (eqV v (wI 0)) (embK [0, 1, 2] (eW (wG n)) h)
end
structure SlR (R0 : FuncId → List Value → Hs → An) : Prop where
 grow : ∀ n, n < 13 → chkRun (R0 13) (aGrow n) eT (qGrow n) = true
structure SlF (R : RnK) (R0 : FuncId → List Value → Hs → An) : Prop where
 grow : Ans R 13 (KGrow (R0 13))
theorem grow_uniq {n j N : Nat} {s2 : Nat → Nat} {p : Nat} {k1 k2 : Int} (w2 : VWs N s2 (aGrow j) [pV p, .int .i64 k1, .int .i64 k2, .int .i64 (.ofNat n)]) : aGrow j = aGrow n := by
 unfold aGrow at w2 ⊢
 cases w2 with
 | cons _ t => cases t with
  | cons _ t => cases t with
   | cons _ t => cases t with
    | cons h3 _ =>
     generalize e : Value.int .i64 (.ofNat n) = x at h3
     cases h3
     rfl
theorem growPin (n : Nat) : pinK (aGrow n) eT = true := by kernel_rfl
theorem grow_w {R : RnK} {R0 : FuncId → List Value → Hs → An} {h : Hs} (rn : SlR R0) (fm : SlF R R0) {t : Nat → Nat} {n : Nat} (hn : n ≤ 12) (E : Emb t (smallH eT) h) :
 WP (R 13 [pV (t 0), .int .i64 (.ofNat 0), .int .i64 (.ofNat 1), .int .i64 (.ofNat n)] h) fun v u => v = .int .i64 (.ofNat 0) ∧ MutS [t 0, t 1, t 2] h u ∧ ∃ t', Emb t' (smallH (eW (wG n))) u ∧ t' 0 = t 0 ∧ t' 1 = t 1 ∧ t' 2 = t 2 := by
 obtain ⟨v0, h0', r, hq⟩ := chkRun_ok (rn.grow n (by omega))
 obtain ⟨a1, a2⟩ := andK_true hq
 have e0 := eqV_eq a1
 subst e0
 have ar : VWs 3 t (aGrow n) [pV (t 0), .int .i64 (.ofNat 0), .int .i64 (.ofNat 1), .int .i64 (.ofNat n)] := .cons (.ptr 0 0 (by decide)) (.cons (.int _ _) (.cons (.int _ _) (.cons (.int _ _) .nil)))
 refine (w_fm (fun o ho => fm.grow _ _ o ho) n (by omega) E ar (growPin n) (fun j s2 hj E2 w2 => ⟨grow_uniq w2, rfl⟩) r).mono fun v u ⟨g1, g2⟩ => ?_
 have E' := g2.emb E r.nx (embK_ok a2) (holdK_ok r.hold)
 have lt : ∀ id, id < 3 → t id < h.nx := fun id hid => E.lt id hid
 exact ⟨VW.int_inv (show VW _ _ _ (.int .i64 (.ofNat 0)) v from g1), g2.mutS (fun id hid => lt id hid), _, E', if_pos (by decide), if_pos (by decide), if_pos (by decide)⟩
theorem ed_ofW {W : List Nat} {t : Nat → Nat} {u : Hs} (E : Emb t (smallH (eW W)) u) : ∃ c1 c2, 512 ≤ c1 ∧ Holds (u.hp.get (t 0)) (edO g0 false (t 1) c1 (.slice (some ⟨t 2, 0, none⟩) 512 c2)) ∧ Holds (u.hp.get (t 1)) (wdO W) ∧ t 0 ≠ t 1 ∧ t 0 < u.nx ∧ t 1 < u.nx := by
 have ge : ∀ (i : Nat) (x : SB), (eW W)[i]? = some x → ∃ y, u.hp.get (t i) = some y ∧ BW 3 t x.blk y := fun i x hx => (E.at_ i x.blk (by rw [smallH_get, hx]; rfl)).2
 obtain ⟨y0, p0, q0⟩ := ge 0 _ rfl
 obtain ⟨y1, p1, q1⟩ := ge 1 _ rfl
 have q0 : BW 3 t (.row (ofList (gN0 ++ (sOf 1 512 :: (gN0 ++ [sOf 2 512])))) 10 49 0 true false) y0 := q0
 have a01 := E.inj 0 1 _ _ (by rw [smallH_get]; rfl) (by rw [smallH_get]; rfl) rfl (by decide)
 cases q0 with
 | row _ cs _ sz _ _ _ rw_ _ f hrw _ hc =>
  obtain ⟨g1, g2, _, g4⟩ := hrw rfl
  subst g1
  subst g2
  have gc : ∀ i v, (gN0 ++ (sOf 1 512 :: (gN0 ++ [sOf 2 512])))[i]? = some v → ∃ v', cs.get i = some v' ∧ VW 3 t true v v' := fun i v hv => hc i v (by rw [get_ofList]; exact hv)
  obtain ⟨s1, e4, w4⟩ := gc 4 _ rfl
  obtain ⟨s2, e9, w9⟩ := gc 9 _ rfl
  unfold sOf at w4 w9
  cases w4 with
  | slice _ _ _ _ c1 _ _ hc1 _ =>
   cases w9 with
   | slice _ _ _ _ c2 _ _ hc2 _ =>
    have num : ∀ i x, (gN0 ++ (sOf 1 512 :: (gN0 ++ [sOf 2 512])))[i]? = some (wI x) → cs.get i = some (.int .i64 (.ofNat x)) := fun i x hv => by
     obtain ⟨v', a, b⟩ := gc i _ hv
     unfold wI at b
     cases b
     exact a
    refine ⟨c1, c2, hc1, p0 ▸ ⟨cs, f, rfl, (fun h => by cases h), fun i => ?_⟩, words_holds p1 q1, a01, E.lt 0 (by show 0 < 3; decide), E.lt 1 (by show 1 < 3; decide)⟩
    match i with
    | 0 => exact num 0 64 rfl
    | 1 => exact num 1 10 rfl
    | 2 => exact num 2 1 rfl
    | 3 => exact num 3 20 rfl
    | 4 => exact e4
    | 5 => exact num 5 64 rfl
    | 6 => exact num 6 10 rfl
    | 7 => exact num 7 1 rfl
    | 8 => exact num 8 20 rfl
    | 9 => exact e9
    | i + 10 =>
     show cs.get (i + 10) = none
     have : ¬ (cs.get (i + 10)).isSome = true := fun hh => by have := (g4 (i + 10)).1 hh; omega
     exact Option.not_isSome_iff_eq_none.1 this
theorem edStoW {h0 u : Hs} {m : List Th} {W : List Nat} {p b N c1 : Nat} {s0 : Value} (H : Sto h0 [] u m) (hN : h0.nx ≤ N) (gp : N ≤ p) (gb : N ≤ b) (hm : ∀ s ∈ m, ∀ i, s.id = some i → i < N) (g0_ : Holds (u.hp.get p) (edO g0 false b c1 s0)) (g1 : Holds (u.hp.get b) (wdO W)) (a01 : p ≠ b) (l0 : p < u.nx) (l1 : b < u.nx) :
 Sto h0 [] u (.blk b (wdO W) :: .blk p (edO g0 false b c1 s0) :: m) := by
 have H2 := H.cons (.blk p (edO g0 false b c1 s0)) g0_ (fun b hb => by injection hb with hb; subst hb; exact ⟨l0, fun _ => .inl (by omega)⟩) (fun s hs _ b hb hb' => by
  injection hb with hb
  subst hb
  have := hm s hs _ hb'
  omega)
 exact H2.cons (.blk b (wdO W)) g1 (fun b hb => by injection hb with hb; subst hb; exact ⟨l1, fun _ => .inl (by omega)⟩) (fun s hs _ b hb hb' => by
  injection hb with hb
  subst hb
  rcases List.mem_cons.1 hs with rfl | hs
  ·injection hb' with hb'; exact a01 hb'
  ·have := hm s hs _ hb'
   omega)
set_option linter.unusedSimpArgs false
theorem dS_good {n : Nat} (hn : n ≤ 12) : (dS n).good g0 := by
 unfold Nd.good
 rw [if_neg (show ¬ (dS n).ty = 0 by show ¬ 2 = 0; decide)]
 refine ⟨by show 1 ≤ 2; decide, by show 2 ≤ 3; decide, Nat.le_refl _, by show 1 ≤ 200; decide, ?_, ?_, .inr fun i hi r hr => ?_, ?_⟩
 ·unfold Nd.sizedP
  rw [if_neg (show ¬ (dS n).ty = 1 from by show ¬ 2 = 1; decide), if_pos (show (dS n).ty = 2 from rfl)]
  show n ≤ min 64 4096
  omega
 ·show (runT n).length ≤ 4
  cases n
  ·decide
  ·show 1 ≤ 4; decide
 ·have hr : (runT n)[i]? = some r := hr
  cases n with
  | zero => cases hr
  | succ k =>
   cases i with
   | zero =>
    injection hr with hr
    subst hr
    refine ⟨⟨by show 1 ≤ k + 1; omega, by show 42 ≤ 42; decide, by show 42 + (k + 1) ≤ 63; omega⟩, fun j hj => absurd hj (Nat.not_lt_zero _)⟩
   | succ i => cases hr
 ·show sumR (runT n) = _
  rw [runT_sum]
  unfold Nd.needs dS
  simp
theorem node1 : g0.nodeAt 1 = 22 := rfl
structure SlW (n : Nat) (W : List Nat) (want : List (Nat × List UInt8)) : Prop where
 len : W.length = 512
 sm : Small W
 nd : INode g0 W 1 (dS n)
 wl : want.length = n
 sl : ∀ i, i < n → getSlot (blockAt W (42 + i)) = want[i]?
theorem wG_eq (n : Nat) : wG n = putW (putW W0 168 (setRuns B0 true (runT n))) 176 (nodeW (dS n)) := by
 unfold wG setNodeW
 rw [node1, markW_nil (W := W0) (by rw [W0_len]; decide)]
 unfold markW
 rw [W0_bits]
 rfl
theorem slW0 {n : Nat} (hn : n ≤ 12) : SlW n (wG n) (List.replicate n (0, [])) := by
 have g := dS_good hn
 have q : (nodeW (dS n)).length = 8 := nodeW_len (fits_len (good_fits g0_ok g))
 have r := sT_len true (runT n)
 have l0 := W0_len
 have e : (putW W0 168 (setRuns B0 true (runT n))).length = 512 := by rw [putW_len (by omega), l0]
 have e2 : (wG n).length = 512 := by rw [wG_eq, putW_len (by omega), e]
 refine ⟨e2, setNodeW_small W0_small (good_fits g0_ok g), ⟨by omega, by decide, ?_, g⟩, List.length_replicate, fun i hi => ?_⟩
 ·rw [node1, wG_eq, show (176 : Nat) = 8 * 22 from rfl, blockAt_put q (by omega)]
  exact getNode_put (good_fits g0_ok g)
 ·have z : blockAt (wG n) (42 + i) = zero8 := by
   refine ext_getD (blockAt_len (by omega)) fun j hj => ?_
   rw [blockAt_len (by omega)] at hj
   unfold blockAt
   rw [sub_get _ _ _ _ hj, wG_eq, putW_get (by omega), if_neg (by omega), putW_get (by omega), if_neg (by omega), show 8 * (42 + i) + j = 192 + (8 * (18 + i) + j + 0 + 0 + 0) by omega, W0_nought _ (by omega)]
   match j, hj with
   | 0, _ => rfl
   | 1, _ => rfl
   | 2, _ => rfl
   | 3, _ => rfl
   | 4, _ => rfl
   | 5, _ => rfl
   | 6, _ => rfl
   | 7, _ => rfl
  rw [z, List.getElem?_replicate, if_pos hi]
  exact getSlot_put (n := 0) (D := []) (by unfold slotGood; simp)
theorem slWset {n i m : Nat} {W : List Nat} {want : List (Nat × List UInt8)} {D : List UInt8} (hn : n ≤ 12) (S : SlW n W want) (hi : i < n) (g : slotGood (m : Int) D) (sm : Small (slotW m D)) : SlW n (putW W (8 * (42 + i)) (slotW m D)) (want.set i (m, D)) := by
 have l := slotW_len m D
 have e := S.len
 have wl := S.wl
 have e2 : (putW W (8 * (42 + i)) (slotW m D)).length = 512 := by rw [putW_len (by omega), e]
 have ne : ∀ a, a < 64 → a ≠ 42 + i → blockAt (putW W (8 * (42 + i)) (slotW m D)) a = blockAt W a := fun a ha hne => by
  refine ext_getD (by rw [blockAt_len (by omega), blockAt_len (by omega)]) fun j hj => ?_
  rw [blockAt_len (by omega)] at hj
  unfold blockAt
  rw [sub_get _ _ _ _ hj, sub_get _ _ _ _ hj, putW_get (by omega), if_neg (by omega)]
 refine ⟨e2, putW_small S.sm sm, ⟨S.nd.1, S.nd.2.1, ?_, S.nd.2.2.2⟩, by rw [List.length_set]; exact wl, fun k hk => ?_⟩
 ·have := S.nd.2.2.1
  rw [node1] at this ⊢
  rw [ne 22 (by omega) (by omega)]
  exact this
 ·rw [List.getElem?_set]
  by_cases q : i = k
  ·subst q
   rw [if_pos rfl, if_pos (by omega), blockAt_put l (by omega)]
   exact getSlot_put g
  ·rw [if_neg q, ne _ (by omega) (by omega)]
   exact S.sl k hk
theorem slotW_small {m : Nat} {D : List UInt8} (g : slotGood (m : Int) D) : Small (slotW m D) := by
 unfold slotW
 split
 ·intro x hx
  rw [(List.mem_replicate.1 hx).2]
  omega
 ·rename_i z
  unfold slotGood at g
  rw [if_neg (by omega)] at g
  have st := slotTo_small (n := m) (D := D) (by omega) g.2.2.2.1 D.length
  exact st.set _ _ (sealOf_lt fun x hx => st x (List.mem_of_mem_take hx))
theorem slW_up {n : Nat} {W : List Nat} {want : List (Nat × List UInt8)} (S : SlW n W want) : slotsUp W (runT n) n = want := by
 refine List.ext_getElem? fun i => ?_
 unfold slotsUp
 rw [List.getElem?_map]
 by_cases hi : i < n
 ·rw [List.getElem?_range hi]
  show some (slotAt W (runT n) i) = _
  unfold slotAt
  rw [runAt_T hi]
  show some ((getSlot (blockAt W (42 + i))).getD (0, [])) = _
  rw [S.sl i hi]
  have wl := S.wl
  rw [List.getElem?_eq_getElem (by omega)]
  rfl
 ·have wl := S.wl
  rw [List.getElem?_eq_none (by rw [List.length_range]; omega), List.getElem?_eq_none (by omega)]
  rfl
set_option linter.unusedSimpArgs false
def Sl (l : List (Int × List UInt8)) : List (List Value) := l.map fun x => slotC x.1 x.2
theorem Sl_len (l : List (Int × List UInt8)) : (Sl l).length = l.length := by unfold Sl; simp
theorem Sl_get {l : List (Int × List UInt8)} {i : Nat} (h : i < l.length) : (Sl l)[i]? = some [.int .i64 l[i].1, sV l[i].2] := by unfold Sl; rw [List.getElem?_map, List.getElem?_eq_getElem h]; rfl
theorem Sc_len (l : List (Nat × List UInt8)) : (Sc l).length = 2 * l.length := by
 induction l with
 | nil => rfl
 | cons x l ih => show (Sc l).length + 1 + 1 = _; rw [ih, List.length_cons]; omega
theorem Sc_get {l : List (Nat × List UInt8)} {j : Nat} (h : j < l.length) : ((Sc l).drop (j * 2)).take 2 = [.int .i64 (l[j].1 : Int), sV l[j].2] := by
 induction l generalizing j with
 | nil => simp at h
 | cons x l ih =>
  cases j with
  | zero => rfl
  | succ j =>
   have := ih (j := j) (by simpa using h)
   rw [Nat.add_mul, Nat.one_mul]
   exact this
theorem eqL_self : ∀ l : List UInt8, eqL l l = true := by
 intro l
 induction l with
 | nil => rfl
 | cons a l ih =>
  show (match Nat.beq a.toNat a.toNat with | true => eqL l l | false => false) = true
  rw [Nat.beq_refl, ih]
theorem e2_slot (m : Nat) (D : List UInt8) : e2 true (qA [.i, .s]) (.agg #[.int .i64 (m : Int), sV D]) (.agg #[.int .i64 (m : Int), sV D]) = some (.bool false) := by
 have h1 : eqCells [.i, .s] [.int .i64 (m : Int), sV D] [.int .i64 (m : Int), sV D] = some true := by
  show (match some (Nat.beq m m) with | some t => (match t with | true => eqCells [.s] [sV D] [sV D] | false => some false) | none => none) = _
  rw [Nat.beq_refl]
  show (match some (eqL D D) with | some t => (match t with | true => eqCells [] [] [] | false => some false) | none => none) = _
  rw [eqL_self]; rfl
 show boolO true (eqCells [.i, .s] [.int .i64 (m : Int), sV D] [.int .i64 (m : Int), sV D]) = _
 rw [h1]; rfl
theorem Sc_set {l : List (Nat × List UInt8)} {j m : Nat} {D : List UInt8} (h : j < l.length) : setL (Sc l) (j * 2) [.int .i64 (m : Int), sV D] = Sc (l.set j (m, D)) := by
 induction l generalizing j with
 | nil => simp at h
 | cons x l ih =>
  cases j with
  | zero => rfl
  | succ j =>
   have := ih (j := j) (by simpa using h)
   rw [Nat.add_mul, Nat.one_mul]
   show Value.int .i64 (x.1 : Int) :: sV x.2 :: setL (Sc l) (j * 2) _ = _
   rw [this]; rfl
theorem rep_Sc (n : Nat) : rep [Value.int .i64 (.ofNat 0), .string ⟨#[]⟩] n = Sc (List.replicate n (0, [])) := by
 induction n with
 | zero => rfl
 | succ n ih => rw [List.replicate_succ]; show _ :: _ :: rep _ n = _; rw [ih]; rfl
theorem slotGood_nat {n : Int} {D : List UInt8} (g : slotGood n D) : ∃ m : Nat, n = (m : Int) := by
 unfold slotGood at g
 split at g
 ·exact ⟨0, by omega⟩
 ·exact ⟨n.toNat, by omega⟩
theorem slots_law {R : RnK} {R0 : FuncId → List Value → Hs → An} {N : Nat} (hN : 100000 < N) (rn : EdR R0) (fm : EdF R R0) (rs : SlR R0) (fs : SlF R R0) (css : CSetSlot R) (cg : CSlotGood R) (csl : CSlots R) (ci : CImgNode R) (cb : CBlocks R) {v : Value} {l : List (Int × List UInt8)} {n : Nat} {h : Hs} (r1 : Rd h v 2 (Sl l))
 (aw : R 5 [] ⟨h.hp, h.nx, h.nx⟩ = some (.val (.bool true) ⟨h.hp, h.nx, h.nx⟩)) (hl : l.length ≤ 12) (hn : n ≤ 12) (hs : ∀ x ∈ l, x.2.length ≤ 9223372036854775807) :
 r4 R N [v, .int .i64 (.ofNat n)] h = some (.val (.bool true) h) := by
 refine WP.eqn ?_
 obtain ⟨av, cv, rfl⟩ := r1.1.formN (Sl_len l)
 unfold r4
 have H := Sto.enter1 r1
 have l1 := Sl_len l
 repeat' (first | (refine w_callE (aw) ?_) | (with_reducible refine w_jn ?_) | (with_reducible refine w_cndF ?_) | (with_reducible refine w_gFf ?_) | (with_reducible refine w_pickF ?_) | (with_reducible refine w_notT ?_) | (with_reducible refine w_lenV ?_) | ((with_reducible refine w_lss_NN (fun _ => ?_) (fun _ => ?_)) <;> first | (exfalso; omega) | skip) | ((with_reducible refine w_gtr_NN (fun _ => ?_) (fun _ => ?_)) <;> first | (exfalso; omega) | skip))
 refine w_call (made_w rn fm) fun v1 u1 hv => ?_
 obtain ⟨s, c, rfl, hc, E0, sm⟩ := hv
 replace H := H.same sm
 refine w_call (ednew_w rn fm hc E0) fun v2 u2 hv => ?_
 obtain ⟨t, rfl, E1, ge, sm2⟩ := hv
 have n1 := sm.1.1
 have n1' : h.nx ≤ u1.nx := n1
 replace H := H.same sm2
 repeat' (first | ((with_reducible apply w_extr) ; rfl))
 refine w_ob (v := .bool false) rfl ?_
 repeat' (first | (with_reducible refine w_gFf ?_))
 refine w_call (grow_w rs fs hn E1) fun v3 u3 hv => ?_
 obtain ⟨rfl, mu, t', E2, q0, q1, q2⟩ := hv
 obtain ⟨c1, c2, hc1, g0_, g1, a01, b0, b1⟩ := ed_ofW E2
 rw [q0] at g0_ a01 b0
 rw [q1] at g0_ g1 a01 b1
 have ri : ∀ s ∈ [Th.rsl (.slice av l.length cv) 2 (Sl l)], ∀ i, s.id = some i → i < u1.nx := fun s hs i hi => by rw [List.mem_singleton.1 hs] at hi; have := r1.2 i hi; omega
 have t0 := ge 0 (by decide)
 have t1 := ge 1 (by decide)
 have t2 := ge 2 (by decide)
 replace H := H.mutS mu (fun s hs => .inl (by simp only [List.mem_cons, List.not_mem_nil, or_false] at hs; rcases hs with rfl | rfl | rfl <;> omega)) (fun s hs b hb hb2 => by
  have := ri s hs b hb
  simp only [List.mem_cons, List.not_mem_nil, or_false] at hb2
  rcases hb2 with rfl | rfl | rfl <;> omega)
 replace H := edStoW H n1' t0 t1 ri g0_ g1 a01 b0 b1
 generalize t 0 = p at *
 generalize t 1 = b at *
 repeat' (first | (with_reducible refine w_jn ?_) | (with_reducible refine w_cndF ?_) | (with_reducible refine w_gFf ?_) | (with_reducible refine w_pickF ?_) | ((with_reducible refine w_mkslice H ?_ ?_ ?_) ; omega; rfl; (clear H; intro u H hu)) | ((with_reducible refine w_neq_NN (fun _ => ?_) (fun _ => ?_)) <;> first | (exfalso; omega) | skip))
 rw [rep_Sc] at H
 have cgd := fun (n : Int) D u h => cg n D u h
 unfold slotV slotC at cgd
 refine lp_ind (Good := fun k (self : L7) => ∀ (j : Nat) (y1 y2 y3 y4 y5 y6 : Value) (w : Hs) (W : List Nat) (want : List (Nat × List UInt8)), j + k = l.length → SlW n W want → Sto h [] w [.blk u3.nx (.row 55 2 true true (Sc want)), .blk b (wdO W), .blk p (edO g0 false b c1 (.slice (some ⟨t' 2, 0, none⟩) 512 c2)), .rsl (.slice av l.length cv) 2 (Sl l)] → WP (self (.int .i64 (.ofNat j)) y1 y2 y3 y4 y5 y6 w) (fun v' h' => v' = .bool true ∧ h' = h)) (fun k self ih j y1 y2 y3 y4 y5 y6 w W want hj S H1 => ?_) N l.length (by omega) 0 _ _ _ _ _ _ _ _ _ (by omega) (slW0 hn) H
 clear H
 have H := H1
 clear H1
 repeat' (first | (with_reducible refine w_jn ?_) | (with_reducible refine w_cndT ?_) | (with_reducible refine w_cndF ?_) | (with_reducible refine w_fieldA ?_) | (with_reducible refine w_nil ?_) | (with_reducible refine w_lenV ?_) | ((with_reducible refine w_lss_NN (fun _ => ?_) (fun _ => ?_)) <;> first | (exfalso; omega) | skip) | ((with_reducible apply w_loads 2 H) ; rfl; rfl; rfl; rfl; (try dsimp only [List.drop_zero, List.drop_succ_cons, List.take_succ_cons, List.take_zero])))
 ·have jj : j < l.length := by omega
  have sj := hs _ (List.getElem_mem jj)
  have EA := EdAt.ofB 1 2 H rfl rfl (by decide) g0_ok hc1 S.len S.sm
  refine w_at 3 H rfl (Sl_get jj) rfl rfl ?_
  have cs := css w g0 p b c1 (.slice (some ⟨t' 2, 0, none⟩) 512 c2) W 1 (dS n) j l[j].1 l[j].2 EA S.nd rfl (by show (runT n).length ≤ 1000; cases n; decide; show 1 ≤ 1000; decide) sj
  by_cases ok : j < n ∧ slotGood l[j].1 l[j].2
  ·obtain ⟨m, hm⟩ := slotGood_nat ok.2
   have g := ok.2
   rw [hm] at g
   refine w_call (cs.1 m (42 + j) hm ok.1 g (runAt_T ok.1) (by show 42 + j < 64; omega)) fun v5 u5 q => ?_
   obtain ⟨rfl, mu, hw⟩ := q
   replace H := H.mut 1 rfl mu hw
   dsimp only [List.set_cons_zero, List.set_cons_succ] at H
   repeat' (first | (with_reducible refine w_gTt ?_) | ((with_reducible refine w_lss_NN (fun _ => ?_) (fun _ => ?_)) <;> first | (exfalso; omega) | skip))
   refine w_idxR 3 H rfl (Sl_get jj) fun bb oo H1 => ?_
   repeat' (first | (with_reducible refine w_gTt ?_))
   refine w_loadsE 0 H1 rfl rfl rfl ?_
   clear H1
   repeat' (first | (with_reducible refine w_gTt ?_))
   refine w_callB (cgd _ _ _ sj) (fun _ => ?_) (fun q => absurd ok.2 q)
   repeat' (first | (with_reducible refine w_pickT ?_) | ((with_reducible refine w_eql_NN (fun _ => ?_) (fun _ => ?_)) <;> first | (exfalso; omega) | skip))
   refine w_ob (v := .bool false) rfl ?_
   repeat' (first | (with_reducible refine w_jn ?_) | (with_reducible refine w_cndT ?_) | (with_reducible refine w_cndF ?_))
   refine w_at 3 H rfl (Sl_get jj) rfl rfl ?_
   refine w_idx ok.1 ?_
   rw [hm, Nat.zero_add]
   refine w_storeN (x := .agg #[.int .i64 (m : Int), sV l[j].2]) 0 H rfl rfl (by omega) (by rw [Sc_len]; have := S.wl; omega) rfl fun u6 H6 hu6 => ?_
   clear H
   have H := H6
   clear H6
   dsimp only [List.set_cons_zero, List.set_cons_succ] at H
   rw [show setL (Sc want) (j * 2) (cellsL (.agg #[.int .i64 (m : Int), sV l[j].2])) = Sc (want.set j (m, l[j].2)) from Sc_set (by have := S.wl; omega)] at H
   repeat' (first | ((with_reducible refine w_add_NN ?_ ?_) ; omega))
   exact ih (k - 1) (by omega) (j + 1) _ _ _ _ _ _ _ _ _ (by omega) (slWset hn S ok.1 g (slotW_small g)) H
  ·refine w_callE (cs.2 (by omega) ok) ?_
   repeat' (first | (with_reducible refine w_gTt ?_) | (with_reducible refine w_gTf ?_) | (with_reducible refine w_pickF ?_) | ((with_reducible refine w_lss_NN (fun _ => ?_) (fun _ => ?_)) <;> first | (exfalso; omega) | skip) | ((with_reducible refine w_eql_NN (fun _ => ?_) (fun _ => ?_)) <;> first | (exfalso; omega) | skip))
   ·refine w_idxR 3 H rfl (Sl_get jj) fun bb oo H1 => ?_
    repeat' (first | (with_reducible refine w_gTt ?_))
    refine w_loadsE 0 H1 rfl rfl rfl ?_
    clear H1
    repeat' (first | (with_reducible refine w_gTt ?_))
    refine w_callB (cgd _ _ _ sj) (fun q => absurd ⟨by omega, q⟩ ok) (fun _ => ?_)
    repeat' (first | (with_reducible refine w_pickT ?_) | ((with_reducible refine w_eql_NN (fun _ => ?_) (fun _ => ?_)) <;> first | (exfalso; omega) | skip))
    refine w_ob (v := .bool false) rfl ?_
    repeat' (first | (with_reducible refine w_jn ?_) | (with_reducible refine w_cndF ?_) | ((with_reducible refine w_add_NN ?_ ?_) ; omega))
    exact ih (k - 1) (by omega) (j + 1) _ _ _ _ _ _ _ _ _ (by omega) S H
   ·refine w_ob (v := .bool false) rfl ?_
    repeat' (first | (with_reducible refine w_jn ?_) | (with_reducible refine w_cndF ?_) | ((with_reducible refine w_add_NN ?_ ?_) ; omega))
    exact ih (k - 1) (by omega) (j + 1) _ _ _ _ _ _ _ _ _ (by omega) S H
 ·clear ih
  have up := slW_up S
  have wl := S.wl
  have csd := csl g0 W (.slice (some ⟨b, 0, none⟩) 512 c1) 1 (dS n) w g0_ok S.len S.sm (by rw [Wl_ones]; exact H.rdB 1 rfl (by rw [Wc_len]; exact S.len) hc1) (by omega) S.nd rfl (by show n ≤ 4096; omega) (fun q hq => by
   have hq : q < n := hq
   rw [show (dS n).rs = runT n from rfl, runAt_T hq]
   show 42 + q < 64
   omega)
  unfold imgV at csd
  refine w_call csd fun v5 u5 n5 => ?_
  rw [show slotsUp W (dS n).rs (dS n).sz = want from up] at n5
  replace n5 : New w u5 (.osl v5 55 2 true n (Sc want)) := n5
  obtain ⟨a5, k5, rfl⟩ := n5.2.1.form
  replace n5 := n5.rdU (Ls := want.map fun x => slotC (x.1 : Int) x.2) rfl (fun x hx => by rw [List.mem_map] at hx; obtain ⟨y, _, rfl⟩ := hx; rfl) (by rw [List.length_map]; exact wl)
  replace H := H.call n5
  repeat' (first | (with_reducible refine w_fieldA ?_) | (with_reducible refine w_nil ?_) | ((with_reducible apply w_loads 3 H) ; rfl; rfl; rfl; rfl; (try dsimp only [List.drop_zero, List.drop_succ_cons, List.take_succ_cons, List.take_zero])))
  have cig := fun u rr => (ci g0 W (.slice (some ⟨b, 0, none⟩) 512 c1) 1 u g0_ok S.len S.sm rr (by omega)).1 (dS n) S.nd
  unfold imgV at cig
  refine w_call (cig _ (by rw [Wl_ones]; exact H.rdB 2 rfl (by rw [Wc_len]; exact S.len) hc1)) fun v7 u7 q => ?_
  obtain ⟨a7, c7, rfl, n7⟩ := q
  replace H := H.call n7.rl
  have dm := fits_mod (getNode_fits S.nd.2.2.1).1
  have cbd := fun u rr => cb (dS n) a7 c7 u dm rr
  have sz0 : sumR (runT n) = n := runT_sum n
  unfold Nd.v at cbd ⊢
  rw [show (dS n).ty = 2 from rfl, show (dS n).ln = 1 from rfl, show (dS n).sz = n from rfl, show (dS n).rs = runT n from rfl] at *
  repeat' (first | (with_reducible refine w_gFf ?_) | (with_reducible refine w_pickF ?_) | (with_reducible refine w_notT ?_) | (with_reducible refine w_fieldA ?_) | (with_reducible refine w_lenV ?_) | ((with_reducible apply w_extr) ; rfl) | ((with_reducible refine w_alloc H ?_) ; (clear H; intro u H hu)) | ((with_reducible refine w_neq_NN (fun _ => ?_) (fun _ => ?_)) <;> first | (exfalso; omega) | skip) | ((with_reducible apply w_load 0 H) ; rfl; rfl; rfl) | ((with_reducible apply w_storeV 0 H) ; rfl; rfl; rfl; omega; rfl; (clear H; intro u H hu; (try dsimp only [List.set_cons_zero, List.set_cons_succ, cellsL, List.toList_toArray, splice, ev, rep, List.cons_append, List.nil_append] at H))) | ((with_reducible apply w_loadsF 0 H) ; rfl; rfl; rfl))
  refine w_callE (cbd _ (H.rd 1 rfl)) ?_
  rw [sz0]
  repeat' (first | (with_reducible refine w_jn ?_) | (with_reducible refine w_cndF ?_) | (with_reducible refine w_gFf ?_) | (with_reducible refine w_pickF ?_) | ((with_reducible refine w_neq_NN (fun _ => ?_) (fun _ => ?_)) <;> first | (exfalso; omega) | skip))
  refine lp_ind (Good := fun k (self : L4) => ∀ (j : Nat) (y1 y2 y3 : Value), j + k = n → WP (self (.int .i64 (.ofNat j)) y1 y2 y3 u) (fun v' h' => v' = .bool true ∧ h' = h)) (fun k self ih j y1 y2 y3 hj => ?_) N n (by omega) 0 _ _ _ (by omega)
  repeat' (first | (with_reducible refine w_jn ?_) | (with_reducible refine w_cndT ?_) | (with_reducible refine w_cndF ?_) | ((with_reducible refine w_lss_NN (fun _ => ?_) (fun _ => ?_)) <;> first | (exfalso; omega) | skip))
  ·have jw : j < want.length := by omega
   refine w_at 2 H (l := [.int .i64 (want[j].1 : Int), sV want[j].2]) rfl (by rw [List.getElem?_map, List.getElem?_eq_getElem jw]; rfl) rfl rfl ?_
   refine w_idx (by omega) ?_
   rw [Nat.zero_add]
   refine w_loads 3 H rfl rfl (Sc_get jw) rfl ?_
   refine w_ob (v := .bool false) (e2_slot _ _) ?_
   repeat' (first | (with_reducible refine w_jn ?_) | (with_reducible refine w_cndF ?_) | ((with_reducible refine w_add_NN ?_ ?_) ; omega))
   exact ih (k - 1) (by omega) (j + 1) _ _ _ (by omega)
  ·exact w_clr H rfl ⟨rfl, rfl⟩
def OkS (L : Nat) (n : Int) : Prop := L ≤ 12 ∧ 0 ≤ n ∧ n ≤ 12
instance (L : Nat) (n : Int) : Decidable (OkS L n) := inferInstanceAs (Decidable (_ ∧ _ ∧ _))
theorem slotsNo_law {R : RnK} {N : Nat} {v : Value} {l : List (Int × List UInt8)} {n : Int} {h : Hs} (r1 : Rd h v 2 (Sl l)) (hl : l.length ≤ 9223372036854775807)
 (aw : R 5 [] ⟨h.hp, h.nx, h.nx⟩ = some (.val (.bool true) ⟨h.hp, h.nx, h.nx⟩)) (no : ¬ OkS l.length n) :
 r4 R N [v, .int .i64 n] h = some (.val (.bool true) h) := by
 refine WP.eqn ?_
 obtain ⟨av, cv, rfl⟩ := r1.1.formN (Sl_len l)
 unfold r4
 have H := Sto.enter1 r1
 repeat' (first | (refine w_callE (aw) ?_) | (with_reducible refine w_jn ?_) | (with_reducible refine w_cndT ?_) | (with_reducible refine w_cndF ?_) | (with_reducible refine w_gFt ?_) | (with_reducible refine w_gFf ?_) | (with_reducible refine w_pickT ?_) | (with_reducible refine w_pickF ?_) | (with_reducible refine w_notT ?_) | (with_reducible refine w_lenV ?_) | ((with_reducible refine w_lss_IN (fun _ => ?_) (fun _ => ?_)) <;> first | (exfalso; omega) | skip) | ((with_reducible refine w_gtr_NN (fun _ => ?_) (fun _ => ?_)) <;> first | (exfalso; omega) | skip) | ((with_reducible refine w_gtr_IN (fun _ => ?_) (fun _ => ?_)) <;> first | (exfalso; omega) | skip))
 ·exact w_clr H rfl ⟨rfl, rfl⟩
 ·exact w_clr H rfl ⟨rfl, rfl⟩
 ·exact w_clr H rfl ⟨rfl, rfl⟩
 ·exact absurd ⟨by omega, by omega, by omega⟩ no
end Go.Proofs.Ytmolikcajfphlaa.editSlots
