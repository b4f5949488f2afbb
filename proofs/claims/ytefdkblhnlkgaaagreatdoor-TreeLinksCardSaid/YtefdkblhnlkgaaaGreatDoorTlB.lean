/- Contracts of functions, by the logic of residual programs. -/
import Derived.Test.YtefdkblhnlkgaaaGreatDoorTlA
namespace Go.Proofs.YtefdkblhnlkgaaaGreatDoor.treeLinks
open Go Go.Gev
set_option linter.unusedVariables false
/-! ### small trees: New's; with n names '0' .. of one file (number 3), the first j of them taken away; d: the file's data -/
def tyT : Nat := 41
def dirI (k : Nat) : SB := .row 45 0 true [wI 2, .slice none 0 0, .map (some k), wI 1, wI 0]
def tN (c1 c2 : Nat) : List SB := [.row 41 0 true [wI 10, .map (some 1)], .mp [⟨wI 1, wP 2 0, 0⟩, ⟨wI 2, wP 3 0, 1⟩] c1, dirI 4, dirI 5, .mp [] c2, .mp [] 0]
/-- names in the root: bytes f, each a name of file 3 -/
def tF (ns : List MapEntry) (c links : Nat) (d : Value) : List SB := [.row 41 0 true [wI 10, .map (some 1)], .mp [⟨wI 1, wP 2 0, 0⟩, ⟨wI 2, wP 3 0, 1⟩, ⟨wI 3, wP 4 0, 2⟩] 3, dirI 5, dirI 6, .row 45 0 true [wI 1, d, .map none, wI 0, wI links], .mp ns c, .mp [] 0]
def pV (p : Nat) : Value := .pointer (some ⟨p, 0, none⟩)
/-- where a tree stands -/
def At (N p : Nat) (A : List SB) (h : Hs) : Prop := ∃ s, s 0 = p ∧ Emb s (smallH A) h ∧ ∀ id, id < A.length → N ≤ s id
theorem At.ext {N p : Nat} {A : List SB} {h u : Hs} (x : At N p A h) (hn : h.nx ≤ u.nx) (hg : ∀ id, id < h.nx → u.hp.get id = h.hp.get id) : At N p A u := by
  obtain ⟨s, q1, q2, q3⟩ := x
  exact ⟨s, q1, q2.ext hn hg, q3⟩
/-- one block of one's own is turned; what it holds now is what the small memory has there -/
theorem Emb.upd {s : Nat → Nat} {A : List SB} {h u : Hs} {j b : Nat} {x : SB} (E : Emb s (smallH A) h) (hj : A[j]? = some x) (hr : isRw x.blk = true) (hb : s j = b) (mu : Mut h u b) (hw : ∃ y, u.hp.get b = some y ∧ BW A.length s x.blk y) : Emb s (smallH A) u := by
  subst hb
  have gj : (smallH A).hp.get j = some x.blk := by rw [smallH_get, hj]; rfl
  refine ⟨fun id b0 g => ?_, fun id hid => Nat.lt_of_lt_of_le (E.lt id hid) mu.1, E.inj⟩
  by_cases e : id = j
  · subst e
    rw [gj] at g; injection g with g; subst g
    obtain ⟨y, y1, y2⟩ := hw
    exact ⟨smallH_lt gj, y, y1, y2⟩
  · obtain ⟨q1, y, q2, q3⟩ := E.at_ id b0 g
    refine ⟨q1, y, ?_, q3⟩
    rw [mu.2.1 _ (E.lt id q1) (fun e2 => E.inj j id _ _ gj g hr (fun e3 => e e3.symm) e2.symm)]
    exact q2
/-- the file of a small tree -/
theorem At.file {N p c links : Nat} {ns : List MapEntry} {d : Value} {h : Hs} {s : Nat → Nat} (hp : s 0 = p) (E : Emb s (smallH (tF ns c links d)) h) : 
    (∃ mid es cl i, RdAt h p 0 [.int .i64 (.ofNat 10), .map (some mid)] ∧ h.hp.get mid = some (.mp es cl) ∧ findM (.int .i64 (.ofNat 3)) es 0 = some (some (i, .pointer (some ⟨s 4, 0, none⟩))) ∧ mid < h.nx ∧ mid ≠ s 4) ∧ p < h.nx ∧ p ≠ s 4 ∧ s 4 < h.nx ∧
    ∃ dv, VW 7 s true d dv ∧ Holds (h.hp.get (s 4)) (itm (.int .i64 (.ofNat 1)) dv (.map none) (.int .i64 (.ofNat 0)) (.int .i64 (.ofNat links))) := by
  subst hp
  have l : ∀ id, id < 7 → s id < h.nx := fun id hid => E.lt id hid
  have ne : ∀ i j x y, (tF ns c links d)[i]? = some x → (tF ns c links d)[j]? = some y → isRw x.blk = true → i ≠ j → s i ≠ s j := fun i j x y hx hy hr hij => E.inj i j x.blk y.blk (by rw [smallH_get, hx]; rfl) (by rw [smallH_get, hy]; rfl) hr hij
  obtain ⟨_, b0, q1, q2⟩ := E.at_ 0 _ (by rw [smallH_get]; rfl)
  obtain ⟨_, b1, r1, r2⟩ := E.at_ 1 _ (by rw [smallH_get]; rfl)
  obtain ⟨_, b4, u1, u2⟩ := E.at_ 4 _ (by rw [smallH_get]; rfl)
  refine ⟨?_, l 0 (by decide), ne 0 4 _ _ rfl rfl rfl (by decide), l 4 (by decide), ?_⟩
  · cases r2 with
    | mp _ es' _ hm =>
      refine ⟨s 1, es', 3, 2, ?_, r1, ?_, l 1 (by decide), ne 1 4 _ _ rfl rfl rfl (by decide)⟩
      · cases q2 with
        | row _ cs _ sz _ _ _ rw_ _ f hrw _ hc =>
          refine ⟨cs, sz, _, _, rw_, f, q1, fun j hj => ?_⟩
          have hj : j < 2 := hj
          rw [Nat.zero_add]
          match j, hj with
          | 0, _ => obtain ⟨x, x1, x2⟩ := hc 0 (wI 10) (by rw [get_ofList]; rfl); unfold wI at x2; cases x2; exact x1
          | 1, _ => obtain ⟨x, x1, x2⟩ := hc 1 (.map (some 1)) (by rw [get_ofList]; rfl); cases x2; exact x1
      · cases hm with
        | cons k1 h1 v1 t1 => cases t1 with
          | cons k2 h2 v2 t2 => cases t2 with
            | cons k3 h3 v3 t3 => cases t3 with
              | nil =>
                rename_i e1 e2 e3
                obtain ⟨a1, a2, a3⟩ := e1
                obtain ⟨b1', b2', b3'⟩ := e2
                obtain ⟨c1, c2, c3⟩ := e3
                simp only at k1 k2 k3 v3
                subst k1 k2 k3
                unfold wP at v3
                cases v3
                rfl
  · cases u2 with
    | row _ cs _ sz _ _ _ rw_ _ f hrw _ hc =>
      obtain ⟨g1, g2, _, g4⟩ := hrw rfl
      obtain ⟨x0, y0, z0⟩ := hc 0 (wI 1) (by rw [get_ofList]; rfl)
      obtain ⟨x1, y1, z1⟩ := hc 1 d (by rw [get_ofList]; rfl)
      obtain ⟨x2, y2, z2⟩ := hc 2 (.map none) (by rw [get_ofList]; rfl)
      obtain ⟨x3, y3, z3⟩ := hc 3 (wI 0) (by rw [get_ofList]; rfl)
      obtain ⟨x4, y4, z4⟩ := hc 4 (wI links) (by rw [get_ofList]; rfl)
      unfold wI at z0 z3 z4
      cases z0; cases z2; cases z3; cases z4
      refine ⟨x1, z1, cs, f, ?_, (fun h => by cases h), fun i => ?_⟩
      · rw [u1, g1, ← g2]; rfl
      · match i with
        | 0 => exact y0
        | 1 => exact y1
        | 2 => exact y2
        | 3 => exact y3
        | 4 => exact y4
        | i + 5 =>
          have : ¬ (cs.get (i + 5)).isSome = true := fun hh => by
            have := (g4 (i + 5)).1 hh
            have g2 : 5 = sz := g2
            omega
          rw [Option.not_isSome_iff_eq_none.1 this]
          rfl
def sV (D : List UInt8) : Value := .string ⟨D.toArray⟩
def nilV : Value := .slice none 0 0
def p0 : Value := .pointer (some ⟨0, 0, none⟩)
def fE : List MapEntry := [⟨sV [102], wI 3, 0⟩]
def Ans (R : RnK) (f : FuncId) (K : Runs0) : Prop := ∀ a h o, fmG K a h = some o → R f a h = some o
def aNewT (_ : Nat) : List Value := [wI 10]
def aMk (_ : Nat) : List Value := [p0, opV 2 (sV [47, 102]) 0 0 nilV]
def aWay (k : Nat) : List Value := [p0, sV [47, 102], .bool (Nat.beq k 1)]
def KNewT (R0 : List Value → Hs → An) : Runs0 := KI (fun k => k < 1) aNewT (fun _ => []) R0
def KMk (R0 : List Value → Hs → An) : Runs0 := KI (fun k => k < 1) aMk (fun _ => tN 2 0) R0
def KWay (R0 : List Value → Hs → An) : Runs0 := KI (fun k => k < 2) aWay (fun _ => tF fE 1 1 dunno) R0
noncomputable section
def lN (h : Hs) (t : Nat) : List Nat := let m := refC h t 1; let a := refE h m 0; let b := refE h m 1; [t, m, a, b, refC h a 2, refC h b 2]
def lF (h : Hs) (t : Nat) : List Nat := let m := refC h t 1; let a := refE h m 0; let b := refE h m 1; let c := refE h m 2; [t, m, a, b, c, refC h a 2, refC h b 2]
def qNewT (v : Value) (h : Hs) : Bool := match v with
  | .pointer (some ⟨t, 0, none⟩) => andK (embK (lN h t) (tN 2 0) h) (Nat.ble 0 h.lo)
  | _ => false
def qMk (v : Value) (h : Hs) : Bool := embK (lF h 0) (tF fE 1 1 nilV) h
def qWay (v : Value) (h : Hs) : Bool := andK (eqV v (.tuple #[wI 3, wI 0])) (andK (Nat.beq h.nx 7) (Nat.ble 7 h.lo))
end
structure RnsB (R0 : FuncId → List Value → Hs → An) : Prop where
  new : chkRun (R0 6) (aNewT 0) [] qNewT = true
  mkf : chkRun (R0 7) (aMk 0) (tN 2 0) qMk = true
  way : ∀ k, k < 2 → chkRun (R0 31) (aWay k) (tF fE 1 1 dunno) qWay = true
  sepN : sepK 1 aNewT (fun _ => []) = true
  sepM : sepK 1 aMk (fun _ => tN 2 0) = true
  sepW : sepK 2 aWay (fun _ => tF fE 1 1 dunno) = true
  sub : embK [0, 1, 2, 3, 4, 5, 6] (tF fE 1 1 dunno) (smallH (tF fE 1 1 nilV)) = true
structure FmsB (R : RnK) (R0 : FuncId → List Value → Hs → An) : Prop where
  new : Ans R 6 (KNewT (R0 6))
  mkf : Ans R 7 (KMk (R0 7))
  way : Ans R 31 (KWay (R0 31))
theorem lN0 {h : Hs} {t : Nat} : nthM (lN h t) 0 = t := rfl
theorem lF0 {h : Hs} {t : Nat} : nthM (lF h t) 0 = t := rfl
section
variable {R : RnK} {R0 : FuncId → List Value → Hs → An} {N p : Nat} {h : Hs}
theorem newT_w (rn : RnsB R0) (fm : FmsB R R0) : WP (R 6 [.int .i64 (.ofNat 10)] h) fun v u => ∃ p, v = pV p ∧ At h.nx p (tN 2 0) u ∧ Same h u := by
  have E : Emb id (smallH []) h := ⟨fun i b g => by have := smallH_lt g; simp at this, fun i hi => by have hi : i < 0 := hi; omega, fun i i' b b' g => by have := smallH_lt g; simp at this⟩
  obtain ⟨v0, h0', r, hq⟩ := chkRun_ok rn.new
  unfold qNewT at hq
  split at hq
  · rename_i t
    obtain ⟨a1, a2⟩ := andK_true hq
    refine (w_fmN (fun o ho => fm.new _ _ o ho) 0 (by decide) E (.cons (.int _ _) .nil) rfl rn.sepN r).mono fun v u ⟨g1, g2⟩ => ?_
    obtain ⟨yp, _⟩ := g1.ptr_inv
    have E' := g2.emb E r.nx (embK_ok a1) (holdK_ok r.hold)
    refine ⟨_, yp, ⟨_, rfl, E', fun id _ => ?_⟩, g2.same (Nat.zero_le _)⟩
    show h.nx ≤ nextS _ 0 h.nx _
    unfold nextS
    rw [if_neg (by omega)]; omega
  · cases hq
theorem mkF_w (rn : RnsB R0) (fm : FmsB R R0) (hN : N ≤ h.nx) (x : At N p (tN 2 0) h) : WP (R 7 [pV p, opV 2 (sV [47, 102]) 0 0 nilV] h) fun v u => At N p (tF fE 1 1 nilV) u ∧ MvN N h u := by
  obtain ⟨s, rfl, E, hs⟩ := x
  obtain ⟨v0, h0', r, hq⟩ := chkRun_ok rn.mkf
  unfold qMk at hq
  have op : VW 6 s true (opV 2 (sV [47, 102]) 0 0 nilV) (opV 2 (sV [47, 102]) 0 0 nilV) := VWl.agg (.cons (.int _ _) (.cons (.string _) (.cons (.string _) (.cons (.int _ _) (.cons (.int _ _) (.cons .nilslice .nil))))))
  refine (w_fmN (fun o ho => fm.mkf _ _ o ho) 0 (by decide) E (.cons (.ptr 0 0 (by show 0 < 6; decide)) (.cons op .nil)) rfl rn.sepM r).mono fun v u ⟨g1, g2⟩ => ?_
  have E' := g2.emb E r.nx (embK_ok hq) (holdK_ok r.hold)
  refine ⟨⟨_, ?_, E', fun id _ => nextS_ge hs hN _⟩, g2.mv hs hN⟩
  show nextS s 6 h.nx 0 = s 0
  rfl
theorem wayT (rn : RnsB R0) (fm : FmsB R R0) (x : At N p (tF fE 1 1 dunno) h) : WayTo R p (sV [47, 102]) h := by
  intro u h1 h2 fl
  obtain ⟨s, rfl, E, hs⟩ := x.ext h1 h2
  have main : ∀ k, k < 2 → WP (R 31 [.pointer (some ⟨s 0, 0, none⟩), sV [47, 102], .bool (Nat.beq k 1)] u) fun v u' => v = .tuple #[.int .i64 (.ofNat 3), .int .i64 (.ofNat 0)] ∧ Sm u u' := by
    intro k hk
    obtain ⟨v0, h0', r, hq⟩ := chkRun_ok (rn.way k hk)
    unfold qWay at hq
    obtain ⟨a1, a2⟩ := andK_true hq
    obtain ⟨a2, a3⟩ := andK_true a2
    have e0 := eqV_eq a1
    subst e0
    refine (w_fmN (fun o ho => fm.way _ _ o ho) k hk E (.cons (.ptr 0 0 (by show 0 < 7; decide)) (.cons (.string _) (.cons (.bool _) .nil))) rfl rn.sepW r).mono fun v u' ⟨g1, g2⟩ => ?_
    obtain ⟨y, z, rfl, y1, z1⟩ := g1.tup2_inv
    rw [VW.int_inv (show VW _ _ _ (.int .i64 (.ofNat 3)) y from y1), VW.int_inv (show VW _ _ _ (.int .i64 (.ofNat 0)) z from z1)]
    exact ⟨rfl, g2.sm (Nat.eq_of_beq_eq_true a2) (Nat.le_of_ble_eq_true a3)⟩
  cases fl with
  | false => exact main 0 (by decide)
  | true => exact main 1 (by decide)
end
theorem Sto.drop1 {h0 h : Hs} {S : List Nat} {a b : Th} {m : List Th} (H : Sto h0 S h (a :: b :: m)) : Sto h0 S h (a :: m) := by
  refine ⟨H.nx, H.fr, H.lo, fun t ht => H.ok t ?_, fun t ht => H.ids t ?_, H.chg, fun i j s t hi hj hij => ?_⟩
  · rcases List.mem_cons.1 ht with rfl | ht
    · exact List.mem_cons_self
    · exact List.mem_cons_of_mem _ (List.mem_cons_of_mem _ ht)
  · rcases List.mem_cons.1 ht with rfl | ht
    · exact List.mem_cons_self
    · exact List.mem_cons_of_mem _ (List.mem_cons_of_mem _ ht)
  · have f : ∀ (k : Nat) (x : Th), (a :: m)[k]? = some x → (a :: b :: m)[if k = 0 then 0 else k + 1]? = some x := fun k x hk => by
      cases k with
      | zero => exact hk
      | succ k => simpa using hk
    refine H.dj _ _ s t (f i s hi) (f j t hj) ?_
    split <;> split <;> omega
/-- a thing of one's own is only read from now on -/
theorem Sto.repl0 {h0 h : Hs} {S : List Nat} {t t' : Th} {m : List Th} (H : Sto h0 S h (t :: m)) (ht : t.ex = true) (hb : t'.body h) (hx : t'.ex = false) (hid : ∀ b, t'.id = some b → t.id = some b) : Sto h0 S h (t' :: m) := by
  refine H.tail.cons t' hb (fun b hb' => ⟨(H.ids t List.mem_cons_self b (hid b hb')).1, fun e => by rw [hx] at e; cases e⟩) fun s hs _ b hb' => ?_
  obtain ⟨j, hj⟩ := List.getElem?_of_mem hs
  exact H.dj 0 (j + 1) t s rfl (by simpa using hj) (by omega) ht b (hid b hb')
/-! ### the tree's blocks, as things -/
def dirO (k : Nat) : Gev.Obj := .row 45 0 true false [wI 2, .slice none 0 0, .map (some k), wI 1, wI 0]
def rootO (k : Nat) : Gev.Obj := .row 41 0 true false [.int .i64 (.ofNat 10), .map (some k)]
def mapO (a b c : Nat) : Gev.Obj := .mp [⟨wI 1, wP a 0, 0⟩, ⟨wI 2, wP b 0, 1⟩, ⟨wI 3, wP c 0, 2⟩] 3
def fileO (dv : Value) (links : Nat) : Gev.Obj := itm (.int .i64 (.ofNat 1)) dv (.map none) (.int .i64 (.ofNat 0)) (.int .i64 (.ofNat links))
def ints (ns : List MapEntry) : Bool := ns.all fun e => match e.val with | .int _ _ => true | _ => false
structure Tr7 (s : Nat → Nat) (ns : List MapEntry) (c links : Nat) (dv : Value) (u : Hs) : Prop where
  g0 : Holds (u.hp.get (s 0)) (rootO (s 1))
  g1 : Holds (u.hp.get (s 1)) (mapO (s 2) (s 3) (s 4))
  g2 : Holds (u.hp.get (s 2)) (dirO (s 5))
  g3 : Holds (u.hp.get (s 3)) (dirO (s 6))
  g4 : Holds (u.hp.get (s 4)) (fileO dv links)
  g5 : Holds (u.hp.get (s 5)) (.mp ns c)
  g6 : Holds (u.hp.get (s 6)) (.mp [] 0)
  lt : ∀ id, id < 7 → s id < u.nx
theorem holds_row {s : Nat → Nat} {n e u : Nat} {L L' : List Value} {B : Option Blk} (h : Holds B (.row e u true false L')) (hl : L.length = L'.length) (hv : ∀ (i : Nat) (v : Value), L[i]? = some v → ∃ v', L'[i]? = some v' ∧ VW n s true v v') : ∃ y, B = some y ∧ BW n s (SB.row e u true L).blk y := by
  obtain ⟨cs, f, q1, _, q3⟩ := h
  refine ⟨_, q1, .row _ _ _ _ _ _ _ _ _ _ (fun _ => ⟨rfl, hl, fun i => by rw [get_ofList]; simp, fun i => by rw [q3 i]; simp⟩) (fun h => by cases h) fun j v0 hv0 => ?_⟩
  rw [get_ofList] at hv0
  obtain ⟨v', w1, w2⟩ := hv j v0 hv0
  exact ⟨v', (q3 j).trans w1, w2⟩
theorem mw_ints {n : Nat} {s : Nat → Nat} : ∀ {ns : List MapEntry}, ints ns = true → MW n s true ns ns := by
  intro ns
  induction ns with
  | nil => intro _; exact .nil
  | cons e ns ih =>
    intro h
    have h : ((match e.val with | .int _ _ => true | _ => false) && ints ns) = true := h
    rw [Bool.and_eq_true] at h
    refine .cons rfl rfl ?_ (ih h.2)
    cases hv : e.val with
    | int k i => exact .int _ _
    | _ => rw [hv] at h; cases h.1
theorem mw_exact {n : Nat} {s : Nat → Nat} : ∀ {ns es : List MapEntry}, ints ns = true → MW n s true ns es → es = ns := by
  intro ns
  induction ns with
  | nil => intro es _ h; cases h; rfl
  | cons e ns ih =>
    intro es h g
    have h : ((match e.val with | .int _ _ => true | _ => false) && ints ns) = true := h
    rw [Bool.and_eq_true] at h
    cases g with
    | cons hk hb hv t =>
      rename_i e' es'
      rw [ih h.2 t]
      obtain ⟨a, b, c⟩ := e
      obtain ⟨a', b', c'⟩ := e'
      simp only at hk hb hv h
      cases b with
      | int k i => cases hv; rw [hk, hb]
      | _ => cases h.1
theorem Tr7.emb {s : Nat → Nat} {ns : List MapEntry} {c links : Nat} {dv : Value} {u : Hs} (t : Tr7 s ns c links dv u) (hi : ints ns = true) (inj : ∀ i j, i < 7 → j < 7 → i ≠ j → s i ≠ s j) : Emb s (smallH (tF ns c links dunno)) u := by
  refine ⟨fun id b0 g => ?_, fun id hid => t.lt id hid, fun i j b b' g g' _ hij => inj i j (smallH_lt g) (smallH_lt g') hij⟩
  have hid := smallH_lt g
  refine ⟨hid, ?_⟩
  have hid : id < 7 := hid
  rw [smallH_get] at g
  match id, hid with
  | 0, _ =>
    injection g with g; subst g
    exact holds_row t.g0 rfl fun i v hv => match i, hv with
      | 0, hv => ⟨_, rfl, by injection hv with hv; subst hv; exact .int _ _⟩
      | 1, hv => ⟨_, rfl, by injection hv with hv; subst hv; exact .map 1 (by show 1 < 7; decide)⟩
      | i + 2, hv => by cases hv
  | 1, _ =>
    injection g with g; subst g
    exact ⟨_, t.g1, .mp _ _ _ (.cons rfl rfl (.ptr 2 0 (by show 2 < 7; decide)) (.cons rfl rfl (.ptr 3 0 (by show 3 < 7; decide)) (.cons rfl rfl (.ptr 4 0 (by show 4 < 7; decide)) .nil)))⟩
  | 2, _ =>
    injection g with g; subst g
    exact holds_row t.g2 rfl fun i v hv => match i, hv with
      | 0, hv => ⟨_, rfl, by injection hv with hv; subst hv; exact .int _ _⟩
      | 1, hv => ⟨_, rfl, by injection hv with hv; subst hv; exact .nilslice⟩
      | 2, hv => ⟨_, rfl, by injection hv with hv; subst hv; exact .map 5 (by show 5 < 7; decide)⟩
      | 3, hv => ⟨_, rfl, by injection hv with hv; subst hv; exact .int _ _⟩
      | 4, hv => ⟨_, rfl, by injection hv with hv; subst hv; exact .int _ _⟩
      | i + 5, hv => by cases hv
  | 3, _ =>
    injection g with g; subst g
    exact holds_row t.g3 rfl fun i v hv => match i, hv with
      | 0, hv => ⟨_, rfl, by injection hv with hv; subst hv; exact .int _ _⟩
      | 1, hv => ⟨_, rfl, by injection hv with hv; subst hv; exact .nilslice⟩
      | 2, hv => ⟨_, rfl, by injection hv with hv; subst hv; exact .map 6 (by show 6 < 7; decide)⟩
      | 3, hv => ⟨_, rfl, by injection hv with hv; subst hv; exact .int _ _⟩
      | 4, hv => ⟨_, rfl, by injection hv with hv; subst hv; exact .int _ _⟩
      | i + 5, hv => by cases hv
  | 4, _ =>
    injection g with g; subst g
    exact holds_row t.g4 rfl fun i v hv => match i, hv with
      | 0, hv => ⟨_, rfl, by injection hv with hv; subst hv; exact .int _ _⟩
      | 1, hv => ⟨_, rfl, by injection hv with hv; subst hv; exact .dunno _ (.inl rfl)⟩
      | 2, hv => ⟨_, rfl, by injection hv with hv; subst hv; exact .nilmap⟩
      | 3, hv => ⟨_, rfl, by injection hv with hv; subst hv; exact .int _ _⟩
      | 4, hv => ⟨_, rfl, by injection hv with hv; subst hv; exact .int _ _⟩
      | i + 5, hv => by cases hv
  | 5, _ =>
    injection g with g; subst g
    exact ⟨_, t.g5, .mp _ _ _ (mw_ints hi)⟩
  | 6, _ =>
    injection g with g; subst g
    exact ⟨_, t.g6, .mp _ _ _ .nil⟩
/-- out of the small memory: rows whose cells are told exactly -/
theorem row_holds {s : Nat → Nat} {n e u : Nat} {L L' : List Value} {B : Option Blk} {y : Blk} (hB : B = some y) (h : BW n s (SB.row e u true L).blk y) (hl : L.length = L'.length) (hv : ∀ (i : Nat) (v v' : Value), L[i]? = some v → VW n s true v v' → L'[i]? = some v') : Holds B (.row e u true false L') := by
  have h : BW n s (.row (ofList L) L.length e u true false) y := h
  subst hB
  cases h with
  | row _ cs _ sz _ _ _ rw_ _ f hrw _ hc =>
    obtain ⟨g1, g2, _, g4⟩ := hrw rfl
    subst g1
    refine ⟨cs, f, by rw [← hl, g2], (fun h => by cases h), fun i => ?_⟩
    cases hi : L[i]? with
    | some v =>
      obtain ⟨v', w1, w2⟩ := hc i v (by rw [get_ofList]; exact hi)
      rw [w1, hv i v v' hi w2]
    | none =>
      have h1 : L.length ≤ i := List.getElem?_eq_none_iff.1 hi
      rw [List.getElem?_eq_none (by omega)]
      have : ¬ (cs.get i).isSome = true := fun hh => by have := (g4 i).1 hh; omega
      exact Option.not_isSome_iff_eq_none.1 this
theorem Tr7.of {s : Nat → Nat} {ns : List MapEntry} {c links : Nat} {u : Hs} (hi : ints ns = true) (E : Emb s (smallH (tF ns c links nilV)) u) : Tr7 s ns c links (.slice none 0 0) u ∧ ∀ i j, i < 7 → j < 7 → i ≠ j → s i ≠ s j := by
  have ge : ∀ (i : Nat) (x : SB), (tF ns c links nilV)[i]? = some x → ∃ y, u.hp.get (s i) = some y ∧ BW 7 s x.blk y := fun i x hx => (E.at_ i x.blk (by rw [smallH_get, hx]; rfl)).2
  refine ⟨⟨?_, ?_, ?_, ?_, ?_, ?_, ?_, fun id hid => E.lt id hid⟩, fun i j h1 h2 hij => ?_⟩
  · obtain ⟨y, q1, q2⟩ := ge 0 _ rfl
    exact row_holds q1 q2 rfl fun i v v' hv w => match i, hv with
      | 0, hv => by injection hv with hv; subst hv; unfold wI at w; cases w; rfl
      | 1, hv => by injection hv with hv; subst hv; cases w; rfl
      | i + 2, hv => by cases hv
  · obtain ⟨y, q1, q2⟩ := ge 1 _ rfl
    cases q2 with
    | mp _ es' _ hm =>
      show u.hp.get (s 1) = some (.mp _ 3)
      rw [q1]
      cases hm with
      | cons k1 h1 v1 t1 => cases t1 with
        | cons k2 h2 v2 t2 => cases t2 with
          | cons k3 h3 v3 t3 => cases t3 with
            | nil =>
              rename_i e1 e2 e3
              obtain ⟨a1, a2, a3⟩ := e1
              obtain ⟨b1', b2', b3'⟩ := e2
              obtain ⟨c1, c2, c3⟩ := e3
              simp only at k1 k2 k3 v1 v2 v3 h1 h2 h3
              subst k1 k2 k3 h1 h2 h3
              unfold wP at v1 v2 v3
              cases v1; cases v2; cases v3
              rfl
  · obtain ⟨y, q1, q2⟩ := ge 2 _ rfl
    exact row_holds q1 q2 rfl fun i v v' hv w => match i, hv with
      | 0, hv => by injection hv with hv; subst hv; unfold wI at w; cases w; rfl
      | 1, hv => by injection hv with hv; subst hv; cases w; rfl
      | 2, hv => by injection hv with hv; subst hv; cases w; rfl
      | 3, hv => by injection hv with hv; subst hv; unfold wI at w; cases w; rfl
      | 4, hv => by injection hv with hv; subst hv; unfold wI at w; cases w; rfl
      | i + 5, hv => by cases hv
  · obtain ⟨y, q1, q2⟩ := ge 3 _ rfl
    exact row_holds q1 q2 rfl fun i v v' hv w => match i, hv with
      | 0, hv => by injection hv with hv; subst hv; unfold wI at w; cases w; rfl
      | 1, hv => by injection hv with hv; subst hv; cases w; rfl
      | 2, hv => by injection hv with hv; subst hv; cases w; rfl
      | 3, hv => by injection hv with hv; subst hv; unfold wI at w; cases w; rfl
      | 4, hv => by injection hv with hv; subst hv; unfold wI at w; cases w; rfl
      | i + 5, hv => by cases hv
  · obtain ⟨y, q1, q2⟩ := ge 4 _ rfl
    exact row_holds q1 q2 rfl fun i v v' hv w => match i, hv with
      | 0, hv => by injection hv with hv; subst hv; unfold wI at w; cases w; rfl
      | 1, hv => by injection hv with hv; subst hv; unfold nilV at w; cases w; rfl
      | 2, hv => by injection hv with hv; subst hv; cases w; rfl
      | 3, hv => by injection hv with hv; subst hv; unfold wI at w; cases w; rfl
      | 4, hv => by injection hv with hv; subst hv; unfold wI at w; cases w; rfl
      | i + 5, hv => by cases hv
  · obtain ⟨y, q1, q2⟩ := ge 5 _ rfl
    cases q2 with
    | mp _ es' _ hm =>
      show u.hp.get (s 5) = some (.mp ns c)
      rw [q1, mw_exact hi hm]
  · obtain ⟨y, q1, q2⟩ := ge 6 _ rfl
    cases q2 with
    | mp _ es' _ hm =>
      cases hm
      exact q1
  · obtain ⟨x, hx⟩ : ∃ x, (tF ns c links nilV)[i]? = some x := ⟨_, List.getElem?_eq_getElem h1⟩
    obtain ⟨y, hy⟩ : ∃ x, (tF ns c links nilV)[j]? = some x := ⟨_, List.getElem?_eq_getElem h2⟩
    refine E.inj i j x.blk y.blk (by rw [smallH_get, hx]; rfl) (by rw [smallH_get, hy]; rfl) ?_ hij
    match i, h1, hx with
    | 0, _, hx => injection hx with hx; subst hx; rfl
    | 1, _, hx => injection hx with hx; subst hx; rfl
    | 2, _, hx => injection hx with hx; subst hx; rfl
    | 3, _, hx => injection hx with hx; subst hx; rfl
    | 4, _, hx => injection hx with hx; subst hx; rfl
    | 5, _, hx => injection hx with hx; subst hx; rfl
    | 6, _, hx => injection hx with hx; subst hx; rfl
/-- the file's data behind a write -/
def newD (D : List UInt8) (a : Nat) (X : List UInt8) : List UInt8 := if X = [] then D else wrD D a X
theorem wrD_len (D : List UInt8) (a : Nat) (X : List UInt8) : (wrD D a X).length = max D.length (a + X.length) := by
  unfold wrD
  rw [List.length_append, List.length_append, List.length_take, List.length_drop, cutD_len]; omega
/-- the tree's blocks but the file -/
def tr6 (s : Nat → Nat) (ns : List MapEntry) (c : Nat) : List Th := [.blk (s 0) (rootO (s 1)), .blk (s 1) (mapO (s 2) (s 3) (s 4)), .blk (s 2) (dirO (s 5)), .blk (s 3) (dirO (s 6)), .blk (s 5) (.mp ns c), .blk (s 6) (.mp [] 0)]
/-- where all stands, in the law's own memory -/
structure Sp (h0 : Hs) (N : Nat) (s : Nat → Nat) (ns : List MapEntry) : Prop where
  lo : ∀ id, id < 7 → N ≤ s id
  inj : ∀ i j, i < 7 → j < 7 → i ≠ j → s i ≠ s j
  is : ints ns = true
  hn : h0.nx ≤ N
structure Cur (h0 : Hs) (s : Nat → Nat) (ns : List MapEntry) (c links : Nat) (dv : Value) (D : List UInt8) (m : List Th) (u : Hs) : Prop where
  H : Sto h0 [] u (.rsl dv 1 (ones (byteVs D)) :: .blk (s 4) (fileO dv links) :: (tr6 s ns c ++ m))
  fm : ∃ a, dv = .slice a D.length D.length
  hd : ∀ i, vId dv = some i → i < u.nx ∧ ∀ id, id < 7 → i ≠ s id
section
variable {h0 : Hs} {N : Nat} {s : Nat → Nat} {ns : List MapEntry} {c links : Nat} {dv : Value} {D : List UInt8} {m : List Th} {u : Hs}
theorem Cur.tr (x : Cur h0 s ns c links dv D m u) : Tr7 s ns c links dv u := by
  have hs : ∀ (k b : Nat) (o : Gev.Obj), (Th.rsl dv 1 (ones (byteVs D)) :: .blk (s 4) (fileO dv links) :: (tr6 s ns c ++ m))[k]? = some (.blk b o) → Holds (u.hp.get b) o ∧ b < u.nx := fun k b o hk => ⟨x.H.holds k hk, x.H.lt k hk⟩
  refine ⟨(hs 2 _ _ rfl).1, (hs 3 _ _ rfl).1, (hs 4 _ _ rfl).1, (hs 5 _ _ rfl).1, (hs 1 _ _ rfl).1, (hs 6 _ _ rfl).1, (hs 7 _ _ rfl).1, fun id hid => ?_⟩
  match id, hid with
  | 0, _ => exact (hs 2 _ _ rfl).2
  | 1, _ => exact (hs 3 _ _ rfl).2
  | 2, _ => exact (hs 4 _ _ rfl).2
  | 3, _ => exact (hs 5 _ _ rfl).2
  | 4, _ => exact (hs 1 _ _ rfl).2
  | 5, _ => exact (hs 6 _ _ rfl).2
  | 6, _ => exact (hs 7 _ _ rfl).2
theorem Tr7.file (t : Tr7 s ns c links dv u) (q : Sp h0 N s ns) (da : DataAt u dv D) (hd : ∀ i, vId dv = some i → i < u.nx ∧ ∀ id, id < 7 → i ≠ s id) : FileAt u (s 0) (s 4) dv (.map none) (.int .i64 (.ofNat 0)) (.int .i64 (.ofNat links)) D := by
  refine ⟨⟨s 1, _, 3, 2, ?_, t.g1, rfl, t.lt 1 (by decide), q.inj 1 4 (by decide) (by decide) (by decide)⟩, ⟨t.lt 0 (by decide), q.inj 0 4 (by decide) (by decide) (by decide)⟩, t.g4, t.lt 4 (by decide), da, fun i hi => ⟨(hd i hi).2 4 (by decide), (hd i hi).2 0 (by decide)⟩⟩
  obtain ⟨cs, f, q1, _, q3⟩ := t.g0
  exact ⟨cs, _, _, _, _, f, q1, fun j hj => by rw [Nat.zero_add]; exact q3 j⟩
theorem Cur.file (x : Cur h0 s ns c links dv D m u) (q : Sp h0 N s ns) : FileAt u (s 0) (s 4) dv (.map none) (.int .i64 (.ofNat 0)) (.int .i64 (.ofNat links)) D :=
  x.tr.file q ⟨x.H.ok _ (List.mem_of_getElem? (i := 0) rfl), x.fm, fun i hi => (x.hd i hi).1⟩ x.hd
theorem w_doW {R Rw : RnK} (ds : Dos R Rw) {a n : Nat} {A xv : Value} {X : List UInt8} {K : KV} {Q : Value → Hs → Prop} (x : Cur h0 s ns c links dv D m u) (q : Sp h0 N s ns) (hNu : N ≤ u.nx) (wy : WayTo Rw (s 0) A u)
    (hx : RdSl u xv 1 (ones (byteVs X))) (hxd : ∀ i, vId xv = some i → i < N) (hxf : ∃ xa xc, xv = .slice xa X.length xc) (hxv : ∀ i, vId xv = some i → some i ≠ vId dv) (ha : a + X.length ≤ 4096) (hD : D.length ≤ 4096) (hm : ∀ t ∈ m, ∀ i, t.id = some i → i < u.nx)
    (kk : ∀ u' dv', Cur h0 s ns c links dv' (newD D a X) m u' → u.nx ≤ u'.nx → (∀ i, vId dv' = some i → vId dv = some i ∨ u.nx ≤ i) → WP (K (resW (newD D a X).length) u') Q) : WP (kCall R 7 [.pointer (some ⟨s 0, 0, none⟩), opV 10 A a n xv] u K) Q := by
  by_cases h0X : X = []
  · obtain ⟨xa, xc, rfl⟩ := hxf
    have e : newD D a X = D := if_pos h0X
    rw [e] at kk
    have : X.length = 0 := by rw [h0X]; rfl
    rw [this]
    exact w_callE (ds.n (s 0) (s 4) a n xc xa A _ _ _ _ D u (x.file q) wy) (kk u dv x (Nat.le_refl _) (fun i hi => .inl hi))
  · have e : newD D a X = wrD D a X := if_neg h0X
    rw [e, wrD_len] at kk
    have ff := x.file q
    have h4 := q.lo 4 (by decide)
    refine w_call (ds.w (s 0) (s 4) a n A dv _ _ _ xv D X u ff hx (fun i hi => ⟨Nat.lt_of_lt_of_le (hxd i hi) hNu, by have := hxd i hi; omega, hxv i hi⟩) h0X ha hD wy) fun v2 u2 hv => ?_
    obtain ⟨rfl, mu, i2, ho2, hd2, n1, n2⟩ := hv
    have H2 := (x.H.mutN 1 rfl mu ho2 (t := .blk i2 (.row 5 1 true true (byteVs (wrD D a X)))) hd2 (fun b' hb' => by
      injection hb' with hb'
      subst hb'
      exact ⟨n1, n2⟩)).tail
    dsimp only [List.set_cons_zero, List.set_cons_succ] at H2
    have da : DataAt u2 (.slice (some ⟨i2, 0, none⟩) (max D.length (a + X.length)) (max D.length (a + X.length))) (wrD D a X) := by
      have := DataAt.row hd2 n2
      rwa [wrD_len] at this
    have old : ∀ t ∈ (Th.rsl dv 1 (ones (byteVs D)) :: .blk (s 4) (fileO dv links) :: (tr6 s ns c ++ m)), ∀ i, t.id = some i → i < u.nx := fun t ht i hi => (x.H.ids t ht i hi).1
    have H3 := Sto.drop1 (H2.cons (.rsl (.slice (some ⟨i2, 0, none⟩) (max D.length (a + X.length)) (max D.length (a + X.length))) 1 (ones (byteVs (wrD D a X)))) da.1 (fun i hi => ⟨da.2.2 i (rsl_id hi), fun e => by cases e⟩) (fun t ht _ i hi hs' => by
      have hi2 : some i2 = some i := rsl_id hi
      injection hi2 with hi2
      subst hi2
      have : i2 < u.nx := by
        rcases List.mem_cons.1 ht with rfl | ht
        · exact old _ List.mem_cons_self _ hs'
        · rcases List.mem_cons.1 ht with rfl | ht
          · exact old (.blk (s 4) (fileO dv links)) (List.mem_cons_of_mem _ List.mem_cons_self) _ hs'
          · exact old t (List.mem_cons_of_mem _ (List.mem_cons_of_mem _ ht)) _ hs'
      omega))
    refine kk u2 _ ⟨H3, ⟨some ⟨i2, 0, none⟩, by rw [wrD_len]⟩, fun i hi => ?_⟩ mu.1 (fun i hi => .inr ?_)
    · have : some i2 = some i := hi
      injection this with this
      refine ⟨by omega, fun id hid => ?_⟩
      have := x.tr.lt id hid
      omega
    · have : some i2 = some i := hi
      injection this with this
      omega
end
/-- what the law's numbers may be -/
def OkB (l1 l2 : Nat) (a f n : Int) : Prop := l1 ≤ 1000 ∧ 0 ≤ a ∧ a ≤ 2000 ∧ l2 ≤ 1000 ∧ 0 ≤ f ∧ 0 ≤ n ∧ n ≤ 6000 ∧ f ≤ 6000
theorem addB {h0 u : Hs} {b : Nat} {o : Gev.Obj} {m : List Th} (H : Sto h0 [] u m) (ho : Holds (u.hp.get b) o) (hb : b < u.nx) (hl : h0.nx ≤ b) (hne : ∀ t ∈ m, ∀ i, t.id = some i → i ≠ b) : Sto h0 [] u (.blk b o :: m) :=
  H.cons (.blk b o) ho (fun i hi => by
    have : b = i := by injection hi
    subst this
    exact ⟨hb, fun _ => .inl hl⟩) fun t ht _ i hi hs => by
    have : b = i := by injection hi
    subst this
    exact hne t ht b hs rfl
theorem startCur {h0 : Hs} {N : Nat} {s : Nat → Nat} {ns : List MapEntry} {c links : Nat} {m : List Th} {u : Hs} (H : Sto h0 [] u m) (t : Tr7 s ns c links (.slice none 0 0) u) (q : Sp h0 N s ns) (hm : ∀ t ∈ m, ∀ i, t.id = some i → i < N) : Cur h0 s ns c links (.slice none 0 0) [] m u := by
  have lo : ∀ id, id < 7 → h0.nx ≤ s id := fun id hid => Nat.le_trans q.hn (q.lo id hid)
  have ms : ∀ k, k < 7 → ∀ t ∈ m, ∀ i, t.id = some i → i ≠ s k := fun k hk t ht i hi => by have := hm t ht i hi; have := q.lo k hk; omega
  have cs : ∀ {k : Nat} {o : Gev.Obj} {j : Nat} {l : List Th}, (∀ t ∈ l, ∀ i, t.id = some i → i ≠ s k) → s j ≠ s k → ∀ t ∈ (Th.blk (s j) o :: l), ∀ i, t.id = some i → i ≠ s k := fun {k o j l} hl hjk t ht i hi => by
    rcases List.mem_cons.1 ht with rfl | ht
    · have e : s j = i := by injection hi
      rw [← e]; exact hjk
    · exact hl t ht i hi
  have inj := q.inj
  have H6 := addB H t.g6 (t.lt 6 (by decide)) (lo 6 (by decide)) (ms 6 (by decide))
  have H5 := addB H6 t.g5 (t.lt 5 (by decide)) (lo 5 (by decide)) (cs (ms 5 (by decide)) (inj 6 5 (by decide) (by decide) (by decide)))
  have H3 := addB H5 t.g3 (t.lt 3 (by decide)) (lo 3 (by decide)) (cs (cs (ms 3 (by decide)) (inj 6 3 (by decide) (by decide) (by decide))) (inj 5 3 (by decide) (by decide) (by decide)))
  have H2 := addB H3 t.g2 (t.lt 2 (by decide)) (lo 2 (by decide)) (cs (cs (cs (ms 2 (by decide)) (inj 6 2 (by decide) (by decide) (by decide))) (inj 5 2 (by decide) (by decide) (by decide))) (inj 3 2 (by decide) (by decide) (by decide)))
  have H1 := addB H2 t.g1 (t.lt 1 (by decide)) (lo 1 (by decide)) (cs (cs (cs (cs (ms 1 (by decide)) (inj 6 1 (by decide) (by decide) (by decide))) (inj 5 1 (by decide) (by decide) (by decide))) (inj 3 1 (by decide) (by decide) (by decide))) (inj 2 1 (by decide) (by decide) (by decide)))
  have H0 := addB H1 t.g0 (t.lt 0 (by decide)) (lo 0 (by decide)) (cs (cs (cs (cs (cs (ms 0 (by decide)) (inj 6 0 (by decide) (by decide) (by decide))) (inj 5 0 (by decide) (by decide) (by decide))) (inj 3 0 (by decide) (by decide) (by decide))) (inj 2 0 (by decide) (by decide) (by decide))) (inj 1 0 (by decide) (by decide) (by decide)))
  have H4 := addB H0 t.g4 (t.lt 4 (by decide)) (lo 4 (by decide)) (cs (cs (cs (cs (cs (cs (ms 4 (by decide)) (inj 6 4 (by decide) (by decide) (by decide))) (inj 5 4 (by decide) (by decide) (by decide))) (inj 3 4 (by decide) (by decide) (by decide))) (inj 2 4 (by decide) (by decide) (by decide))) (inj 1 4 (by decide) (by decide) (by decide))) (inj 0 4 (by decide) (by decide) (by decide)))
  exact ⟨H4.cons (.rsl (.slice none 0 0) 1 (ones (byteVs []))) DataAt.nil.1 (fun b hb => by cases hb) (fun t ht _ b hb => by cases hb), ⟨none, rfl⟩, fun i hi => by cases hi⟩
theorem Tr7.at_ (k : Nat) {h0 u : Hs} {S : List Nat} {m : List Th} {s : Nat → Nat} {ns : List MapEntry} {c links : Nat} {dv : Value} (H : Sto h0 S u m) (e : (m.drop k).take 7 = .blk (s 4) (fileO dv links) :: tr6 s ns c) : Tr7 s ns c links dv u := by
  have hs : ∀ (j b : Nat) (o : Gev.Obj), (Th.blk (s 4) (fileO dv links) :: tr6 s ns c)[j]? = some (.blk b o) → Holds (u.hp.get b) o ∧ b < u.nx := fun j b o hj => by
    have hm : Th.blk b o ∈ m := List.mem_of_mem_drop (List.mem_of_mem_take (by rw [e]; exact List.mem_of_getElem? hj))
    exact ⟨H.ok _ hm, (H.ids _ hm b rfl).1⟩
  refine ⟨(hs 1 _ _ rfl).1, (hs 2 _ _ rfl).1, (hs 3 _ _ rfl).1, (hs 4 _ _ rfl).1, (hs 0 _ _ rfl).1, (hs 5 _ _ rfl).1, (hs 6 _ _ rfl).1, fun id hid => ?_⟩
  match id, hid with
  | 0, _ => exact (hs 1 _ _ rfl).2
  | 1, _ => exact (hs 2 _ _ rfl).2
  | 2, _ => exact (hs 3 _ _ rfl).2
  | 3, _ => exact (hs 4 _ _ rfl).2
  | 4, _ => exact (hs 0 _ _ rfl).2
  | 5, _ => exact (hs 5 _ _ rfl).2
  | 6, _ => exact (hs 6 _ _ rfl).2
theorem ob_get {D : List UInt8} {i : Nat} (h : i < D.length) : (ones (byteVs D))[i]? = some [.int .u8 (.ofNat D[i].toNat)] := by
  unfold ones
  rw [List.getElem?_map, bV_get, List.getElem?_eq_getElem h]; rfl
theorem ones_drop (L : List Value) (n : Nat) : (ones L).drop n = ones (L.drop n) := List.map_drop.symm
theorem rdD_lt {D : List UInt8} {f n : Nat} (h : f < D.length) : rdD D f n = (D.drop f).take n := by
  unfold rdD
  rw [show min f D.length = f from by omega]
  by_cases g : n ≤ D.length - f
  · rw [show min n (D.length - f) = n from by omega]
  · rw [show min n (D.length - f) = D.length - f from by omega, List.take_of_length_le (by rw [List.length_drop]; omega), List.take_of_length_le (by rw [List.length_drop]; omega)]
theorem rdD_ge {D : List UInt8} {f n : Nat} (h : D.length ≤ f) : rdD D f n = [] := by
  unfold rdD
  rw [Nat.min_eq_right h, List.drop_length, List.take_nil]
/-- bytes written over others, the first i of them -/
def ovr (B : List UInt8) (a : Nat) (X : List UInt8) (i : Nat) : List UInt8 := B.take a ++ X.take i ++ B.drop (a + i)
theorem ovr_zero (B : List UInt8) (a : Nat) (X : List UInt8) : ovr B a X 0 = B := by
  unfold ovr; rw [List.take_zero, List.append_nil, Nat.add_zero, List.take_append_drop]
theorem ovr_len {B : List UInt8} {a : Nat} {X : List UInt8} {i : Nat} (hi : i ≤ X.length) (ha : i = 0 ∨ a + i ≤ B.length) : (ovr B a X i).length = B.length := by
  unfold ovr
  rw [List.length_append, List.length_append, List.length_take, List.length_take, List.length_drop]; omega
theorem ovr_set {B : List UInt8} {a : Nat} {X : List UInt8} {i : Nat} (hi : i < X.length) (ha : a + X.length ≤ B.length) : (ovr B a X i).set (a + i) X[i] = ovr B a X (i + 1) := by
  unfold ovr
  have e1 : (B.take a ++ X.take i).length = a + i := by rw [List.length_append, List.length_take, List.length_take]; omega
  rw [List.set_append_right _ _ (by rw [e1]; exact Nat.le_refl _), e1, Nat.sub_self]
  have e2 : B.drop (a + i) = B[a + i]'(by omega) :: B.drop (a + i + 1) := List.drop_eq_getElem_cons _
  rw [e2, List.set_cons_zero, List.take_succ_eq_append_getElem hi, ← List.append_assoc (B.take a), List.append_assoc (B.take a ++ X.take i)]
  rfl
theorem ovr_first {X : List UInt8} {n : Nat} : ovr (List.replicate n 0) 0 X X.length = X ++ List.replicate (n - X.length) 0 := by
  unfold ovr
  rw [List.take_zero, List.nil_append, List.take_length, Nat.zero_add, List.drop_replicate]
theorem ovr_last {X1 X2 : List UInt8} {a n : Nat} (hn : n = if X2 = [] then X1.length else max X1.length (a + X2.length)) : ovr (X1 ++ List.replicate (n - X1.length) 0) a X2 X2.length = newD X1 a X2 := by
  unfold newD
  by_cases h : X2 = []
  · rw [if_pos h] at hn ⊢
    subst h
    subst hn
    rw [Nat.sub_self]
    show ovr _ a [] 0 = _
    rw [ovr_zero]
    exact List.append_nil _
  · rw [if_neg h] at hn ⊢
    unfold ovr wrD cutD
    rw [← hn, List.take_length, List.take_of_length_le (show X1.length ≤ n by omega)]
theorem newD_first (X : List UInt8) : newD [] 0 X = X := by
  unfold newD
  split
  · rename_i e; exact e.symm
  · unfold wrD
    rw [List.take_zero, List.nil_append, Nat.zero_add, List.drop_eq_nil_of_le (by rw [cutD_len]; simp), List.append_nil]
end Go.Proofs.YtefdkblhnlkgaaaGreatDoor.treeLinks
