/- Contracts of functions, by the logic of residual programs. -/
import Derived.Test.YtefdkblhnlkgaaaGreatDoorTreeLinksTab
import Derived.Test.YtefdkblhnlkgaaaGreatDoorGevHos
import Derived.Test.YtefdkblhnlkgaaaGreatDoorGevFms
namespace Go.Proofs.YtefdkblhnlkgaaaGreatDoor.treeLinks
open Go Go.Gev
set_option linter.unusedVariables false
/-- bytes cut, or made longer with noughts -/
def cutD (D : List UInt8) (n : Nat) : List UInt8 := D.take n ++ List.replicate (n - D.length) 0
theorem cutD_len (D : List UInt8) (n : Nat) : (cutD D n).length = n := by unfold cutD; rw [List.length_append, List.length_take, List.length_replicate]; omega
theorem rep_bV (n : Nat) : rep [Value.int .u8 (.ofNat 0)] n = byteVs (List.replicate n 0) := by
  induction n with
  | zero => rfl
  | succ n ih => show _ :: _ = _ :: _; rw [← ih]; rfl
theorem rsl_id {v : Value} {u i : Nat} {L : List (List Value)} (h : Th.id (.rsl v u L) = some i) : vId v = some i := by
  cases L with
  | nil => cases h
  | cons x L => exact h
theorem ones_take (L : List Value) (n : Nat) : (ones L).take n = ones (L.take n) := List.map_take.symm
theorem setL_bV (n : Nat) (D E : List UInt8) (h : E.length ≤ n) : setL (byteVs (List.replicate n 0)) 0 (byteVs E) = byteVs (E ++ List.replicate (n - E.length) 0) := by
  unfold setL
  rw [List.take_zero, List.nil_append, bV_len, Nat.zero_add, ← bV_drop, ← bV_app]
  congr 2
  rw [List.drop_replicate]
/-- a file's item -/
def itm (k : Value) (dv mm up l : Value) : Gev.Obj := .row 45 0 true false [k, dv, mm, up, l]
def CFit (R : RnK) : Prop := ∀ (b n : Nat) (k dv mm up l : Value) (D : List UInt8) (h : Hs), Holds (h.hp.get b) (itm k dv mm up l) → b < h.nx → RdSl h dv 1 (ones (byteVs D)) → (∀ i, vId dv = some i → i < h.nx ∧ i ≠ b) → n ≤ 5000 →
  WP (R 42 [.pointer (some ⟨b, 0, none⟩), .int .i64 (.ofNat n)] h) fun v u => v = .tuple #[] ∧ Mut h u b ∧ ∃ i, Holds (u.hp.get b) (itm k (.slice (some ⟨i, 0, none⟩) n n) mm up l) ∧ Holds (u.hp.get i) (.row 5 1 true true (byteVs (cutD D n))) ∧ h.nx ≤ i ∧ i < u.nx
theorem fit_ok {R : RnK} {N : Nat} {b n : Nat} {k dv mm up l : Value} {D : List UInt8} {h : Hs} (ho : Holds (h.hp.get b) (itm k dv mm up l)) (hb : b < h.nx) (r : RdSl h dv 1 (ones (byteVs D))) (hd : ∀ i, vId dv = some i → i < h.nx ∧ i ≠ b) (hn : n ≤ 5000) :
    WP (r42 R N [.pointer (some ⟨b, 0, none⟩), .int .i64 (.ofNat n)] h) fun v u => v = .tuple #[] ∧ Mut h u b ∧ ∃ i, Holds (u.hp.get b) (itm k (.slice (some ⟨i, 0, none⟩) n n) mm up l) ∧ Holds (u.hp.get i) (.row 5 1 true true (byteVs (cutD D n))) ∧ h.nx ≤ i ∧ i < u.nx := by
  unfold r42
  unfold itm at ho ⊢
  have H := Sto.enterM [.rsl dv 1 (ones (byteVs D))] ho hb (fun t ht => by
    rw [List.mem_singleton.1 ht]
    exact ⟨rfl, r, fun i hi => hd i (rsl_id hi)⟩)
  repeat' (first | (with_reducible refine w_unC ?_) | (with_reducible refine w_enK ?_) | (with_reducible refine w_fieldA ?_) | (with_reducible refine w_nil ?_) | ((with_reducible refine w_mkslice H ?_ ?_ ?_) ; omega; rfl; (clear H; intro u H hu)) | ((with_reducible apply w_load 1 H) ; rfl; rfl; rfl))
  rw [rep_bV] at H
  have l2 : (ones (byteVs D)).length = D.length := by rw [ones_len, bV_len]
  refine w_copy 0 2 H rfl rfl (by decide) (by rw [ones_flatten]; exact bV_allOne D) (by rw [l2, bV_len, List.length_replicate]; omega) fun u2 H2 hu2 => ?_
  have eq : setL (byteVs (List.replicate n 0)) 0 ((ones (byteVs D)).take (min (ones (byteVs D)).length n)).flatten = byteVs (cutD D n) := by
    have e1 : ((ones (byteVs D)).take (min (ones (byteVs D)).length n)).flatten = byteVs (D.take n) := by
      rw [l2, bV_take, ones_take, ones_flatten, ← bV_take, ← bV_take]
      congr 1
      by_cases h9 : D.length ≤ n
      · rw [Nat.min_eq_left h9, List.take_length, List.take_of_length_le h9]
      · rw [Nat.min_eq_right (by omega)]
    rw [e1, setL_bV _ (List.replicate n 0) _ (by rw [List.length_take]; omega)]
    congr 1
    unfold cutD
    rw [List.length_take]
    congr 2
    omega
  rw [eq] at H2
  have fl : andB true (flatL ((ones (byteVs D)).take (min (ones (byteVs D)).length n)).flatten) = true := by
    rw [ones_take, ones_flatten, ← bV_take, bV_flat]; rfl
  rw [fl] at H2
  clear H
  have H := H2
  clear H2 eq fl
  dsimp only [List.set_cons_zero, List.set_cons_succ] at H
  repeat' (first | (with_reducible refine w_fieldA ?_) | (with_reducible refine w_nil ?_) | ((with_reducible apply w_store1 1 H) ; rfl; (simp only [List.length_cons, List.length_nil]; omega); rfl; (clear H; intro u H hu; (try dsimp only [List.set_cons_zero, List.set_cons_succ, cellsL, List.toList_toArray, splice, ev, rep, List.cons_append, List.nil_append] at H))))
  refine w_clrMN 1 0 H rfl rfl rfl (by decide) hb (fun e => ?_) fun u4 mu hol ho2 hid => ?_
  · have hu3 : Holds (u.hp.get b) _ := H.holds 1 rfl
    rw [e] at hu3
    obtain ⟨c1, f1, q1, _, q3⟩ := ho
    obtain ⟨c2, f2, r1, _, r3⟩ := hu3
    rw [q1] at r1
    injection r1 with r1; injection r1 with r1
    subst r1
    have := (q3 1).symm.trans (r3 1)
    have : dv = .slice (some ⟨h.nx, 0, none⟩) n n := by simpa using this
    have := (hd h.nx (by rw [this]; rfl)).1
    omega
  · exact ⟨rfl, mu, _, hol, ho2, hid _ rfl⟩
theorem w_lk (k : Nat) {h0 h : Hs} {S : List Nat} {m : List Th} {Q : Value → Hs → Prop} {id i cl : Nat} {es : List MapEntry} {n : Int} {v z : Value} {K : KV} (H : Sto h0 S h m) (hk : m[k]? = some (.rob id (.mp es cl))) (hf : findM (.int .i64 n) es 0 = some (some (i, v))) (w : WP (K v h) Q) :
    WP (after K (ret1 h (lk1 true h z false (.int .i64 n) (.map (some id))))) Q := by
  have hb : h.hp.get id = some (.mp es cl) := H.ok _ (List.mem_of_getElem? hk)
  have : lk1 true h z false (.int .i64 n) (.map (some id)) = some v := by
    show lk2 z false (.int .i64 n) (h.hp.get id) = some v
    rw [hb]
    show lkO z false (findM (.int .i64 n) es 0) = some v
    rw [hf]; rfl
  exact w_ret1 this w
theorem w_slLK {Q : Value → Hs → Prop} {h : Hs} {b o n c u u' l e : Nat} {rw_ fl : Bool} {L : List Value} {k1 : IntKind} {en : En} {K : KV} (hb : Holds (h.hp.get b) (.row e u' rw_ fl L)) (hu : u' = 0 ∨ u' = u) (hl : l < n) (w : WP (K (.slice (some ⟨b, o + l * u, none⟩) (n - l) (c - l)) h) Q) :
    WP (after K (oSlice u (.c (.slice (some ⟨b, o, none⟩) n c)) (some (.c (.int k1 (.ofNat l)))) none none en h)) Q := by
  obtain ⟨cs, f, hb, _, _⟩ := hb
  refine w_rs (v := .slice (some ⟨b, o + l * u, none⟩) (n - l) (c - l)) (h := h) ?_ w
  show ret1 h (slice3 h u en (some ⟨b, o, none⟩) (some (.c (.int k1 (.ofNat l)))) c (some n)) = _
  show ret1 h (match bnd en 0 n (some (.c (.int k1 (.ofNat l)))) with | none => none | some l => cutA h u l n c (some ⟨b, o, none⟩)) = _
  rw [show bnd en 0 n (some (.c (.int k1 (.ofNat l)))) = some l from top1_ok (k := k1) (by omega)]
  show ret1 h (match Nat.beq l 0 with | true => some (Value.slice (some ⟨b, o, none⟩) n c) | false => match Nat.beq n l with | true => some (Value.slice (some ⟨b, o, some 0⟩) 0 0) | false => match unitOk u (h.hp.get b) with | true => some (Value.slice (some ⟨b, Nat.add o (Nat.mul l u), none⟩) (Nat.sub n l) (Nat.sub c l)) | false => none) = _
  cases hz : Nat.beq l 0 with
  | true =>
    have : l = 0 := beq_iff.1 hz
    subst this
    rw [Nat.zero_mul, Nat.add_zero, Nat.sub_zero, Nat.sub_zero]; rfl
  | false =>
    rw [beq_false.2 (show n ≠ l by omega), hb]
    have uk : unitOk u (some (Blk.row cs L.length e u' rw_ f)) = true := by
      show orB (Nat.beq u' 0) (Nat.beq u' u) = true
      rcases hu with q | q
      · rw [q]; rfl
      · rw [q, Nat.beq_refl]; cases Nat.beq u 0 <;> rfl
    rw [uk]; rfl
/-! ### a file in a tree -/
/-- where the data stand -/
def DataAt (h : Hs) (dv : Value) (D : List UInt8) : Prop := RdSl h dv 1 (ones (byteVs D)) ∧ (∃ a, dv = .slice a D.length D.length) ∧ ∀ i, vId dv = some i → i < h.nx
theorem DataAt.nil {h : Hs} : DataAt h (.slice none 0 0) [] := ⟨⟨fun l hl => by simp [ones, byteVs] at hl, .inl ⟨none, 0, rfl, rfl⟩⟩, ⟨none, rfl⟩, fun i hi => by cases hi⟩
theorem DataAt.row {h : Hs} {D : List UInt8} {i : Nat} (ho : Holds (h.hp.get i) (.row 5 1 true true (byteVs D))) (hi : i < h.nx) : DataAt h (.slice (some ⟨i, 0, none⟩) D.length D.length) D := by
  obtain ⟨c, f, q1, q2, q3⟩ := ho
  refine ⟨⟨ones_one _, .inr ⟨i, 0, D.length, c, (byteVs D).length, 5, 1, true, f, by rw [ones_len, bV_len], by rw [ones_len, bV_len]; exact Nat.le_refl _, q1, .inr rfl, fun a j l hl hj => ?_⟩⟩, ⟨_, rfl⟩, fun k hk => by have q : some i = some k := hk; injection q with q; omega⟩
  have hj : j = 0 := by omega
  subst hj
  rw [Nat.zero_add, Nat.mul_one, Nat.add_zero, q3 a]
  unfold ones at hl
  rw [List.getElem?_map] at hl
  cases hx : (byteVs D)[a]? with
  | none => rw [hx] at hl; cases hl
  | some x => rw [hx] at hl; injection hl with hl; subst hl; rfl
structure FileAt (h : Hs) (p b : Nat) (dv mm up l : Value) (D : List UInt8) : Prop where
  tr : ∃ mid es cl i, RdAt h p 0 [.int .i64 (.ofNat 10), .map (some mid)] ∧ h.hp.get mid = some (.mp es cl) ∧ findM (.int .i64 (.ofNat 3)) es 0 = some (some (i, .pointer (some ⟨b, 0, none⟩))) ∧ mid < h.nx ∧ mid ≠ b
  pl : p < h.nx ∧ p ≠ b
  it : Holds (h.hp.get b) (itm (.int .i64 (.ofNat 1)) dv mm up l)
  bl : b < h.nx
  da : DataAt h dv D
  dn : ∀ i, vId dv = some i → i ≠ b ∧ i ≠ p
/-- a file behind a write -/
def wrD (D : List UInt8) (a : Nat) (X : List UInt8) : List UInt8 := (cutD D (max D.length (a + X.length))).take a ++ X ++ (cutD D (max D.length (a + X.length))).drop (a + X.length)
theorem write_ok {R : RnK} {N : Nat} (cf : CFit R) {p b a : Nat} {dv mm up l xv A B nn : Value} {D X : List UInt8} {h : Hs} (f : FileAt h p b dv mm up l D) (hx : RdSl h xv 1 (ones (byteVs X))) (hxd : ∀ i, vId xv = some i → i < h.nx ∧ i ≠ b ∧ some i ≠ vId dv) (h0 : X ≠ []) (ha : a + X.length ≤ 4096) (hD : D.length ≤ 4096) :
    WP (r41 R N [.pointer (some ⟨p, 0, none⟩), .int .i64 (.ofNat 3), .agg #[.int .i64 (.ofNat 10), A, B, .int .i64 (.ofNat a), nn, xv]] h) fun v u => v = .agg #[.int .i64 (.ofNat 0), .int .i64 (.ofNat 3), .int .i64 (.ofNat 0), .int .i64 (.ofNat 0), .int .i64 (.ofNat (max D.length (a + X.length))), .slice none 0 0, .slice none 0 0] ∧ Mut h u b ∧
      ∃ i, Holds (u.hp.get b) (itm (.int .i64 (.ofNat 1)) (.slice (some ⟨i, 0, none⟩) (max D.length (a + X.length)) (max D.length (a + X.length))) mm up l) ∧ Holds (u.hp.get i) (.row 5 1 true true (byteVs (wrD D a X))) ∧ h.nx ≤ i ∧ i < u.nx := by
  obtain ⟨⟨mid, es, cl, ix, t1, t2, t3, t4, t5⟩, ⟨p1, p2⟩, it, bl, da, dn⟩ := f
  obtain ⟨dr, ⟨da1, rfl⟩, dl⟩ := da
  unfold r41
  unfold itm at it ⊢
  have lx : (ones (byteVs X)).length = X.length := by rw [ones_len, bV_len]
  have H := Sto.enterM [.rel p 0 [.int .i64 (.ofNat 10), .map (some mid)], .rob mid (.mp es cl), .rsl (.slice da1 D.length D.length) 1 (ones (byteVs D)), .rsl xv 1 (ones (byteVs X))] it bl (fun t ht => by
    simp only [List.mem_cons, List.not_mem_nil, or_false] at ht
    rcases ht with rfl | rfl | rfl | rfl
    · exact ⟨rfl, t1, fun i hi => by injection hi with hi; subst hi; exact ⟨p1, p2⟩⟩
    · exact ⟨rfl, t2, fun i hi => by injection hi with hi; subst hi; exact ⟨t4, t5⟩⟩
    · exact ⟨rfl, dr, fun i hi => ⟨dl i (rsl_id hi), (dn i (rsl_id hi)).1⟩⟩
    · exact ⟨rfl, hx, fun i hi => ⟨(hxd i (rsl_id hi)).1, (hxd i (rsl_id hi)).2.1⟩⟩)
  repeat' (first | (with_reducible refine w_unC ?_) | (with_reducible refine w_enK ?_) | (with_reducible refine w_fieldA ?_) | (with_reducible refine w_nil ?_) | ((with_reducible refine w_boxA H ?_) ; (clear H; intro u H hu)) | ((with_reducible refine w_alloc H ?_) ; (clear H; intro u H hu)))
  refine w_loadE (o := 0) (j := 1) 3 H rfl rfl rfl ?_
  refine w_lk 4 H rfl t3 ?_
  have hX : 0 < X.length := by cases X with
    | nil => exact absurd rfl h0
    | cons x X => exact Nat.succ_pos _
  obtain ⟨xa, xc, rfl⟩ := hx.formN lx
  repeat' (first | (with_reducible refine w_jn ?_) | (with_reducible refine w_cndT ?_) | (with_reducible refine w_cndF ?_) | (with_reducible refine w_gFf ?_) | (with_reducible refine w_pickF ?_) | (with_reducible refine w_fieldA ?_) | (with_reducible refine w_nil ?_) | (with_reducible refine w_lenV ?_) | (with_reducible refine w_blind ?_) | (with_reducible refine w_max_NN ?_) | ((with_reducible refine w_gtr_NN (fun _ => ?_) (fun _ => ?_)) <;> first | (exfalso; omega) | skip) | ((with_reducible refine w_add_NN ?_ ?_) ; omega) | ((with_reducible refine w_sub_NN ?_ ?_ ?_) ; omega; omega) | ((with_reducible apply w_load 1 H) ; rfl; rfl; rfl) | ((with_reducible apply w_load 2 H) ; rfl; rfl; rfl))
  have hnu : h.nx ≤ u.nx := H.nx
  refine w_call (cf b _ _ _ mm up l D _ (H.holds 2 rfl) (H.lt 2 rfl) (H.ok _ (List.mem_of_getElem? (i := 5) rfl)) (fun i hi => ⟨Nat.lt_of_lt_of_le (dl i hi) hnu, (dn i hi).1⟩) (by omega)) fun v2 u2 hv => ?_
  obtain ⟨rfl, mu, i2, ho2, hd2, n1, n2⟩ := hv
  replace H := H.mutN 2 rfl mu ho2 (t := .blk i2 (.row 5 1 true true (byteVs (cutD D (max D.length (a + X.length)))))) hd2 (fun b' hb' => by
    injection hb' with hb'
    subst hb'
    exact ⟨n1, n2⟩)
  unfold itm at H
  dsimp only [List.set_cons_zero, List.set_cons_succ] at H
  refine w_bar mu.1 ?_
  have hlt : h.nx < u2.nx := H.lt 2 rfl
  generalize hM : max D.length (a + X.length) = M at *
  repeat' (first | (with_reducible refine w_fieldA ?_) | (with_reducible refine w_nil ?_) | ((with_reducible apply w_load 2 H) ; rfl; rfl; rfl) | ((with_reducible apply w_load 3 H) ; rfl; rfl; rfl))
  refine w_slLK (h := ⟨u2.hp, u2.nx, u2.nx⟩) (H.holds 0 rfl) (.inr rfl) (by omega) ?_
  refine w_light0 ?_
  repeat' (first | (with_reducible refine w_fieldA ?_) | ((with_reducible apply w_loadD 2 H) ; rfl; rfl; (intro _; simp only [HidOk, and_true]; omega)))
  rw [Nat.zero_add, Nat.mul_one]
  refine w_copy 0 7 H rfl rfl (by decide) (by rw [ones_flatten]; exact bV_allOne X) (by rw [lx, bV_len, cutD_len]; omega) fun u3 H2 hu3 => ?_
  have e3 : ((ones (byteVs X)).take (min (ones (byteVs X)).length (M - a))).flatten = byteVs X := by
    rw [lx, Nat.min_eq_left (by omega), ones_take, ones_flatten, ← bV_take, List.take_length]
  have e4 : setL (byteVs (cutD D M)) a (byteVs X) = byteVs (wrD D a X) := by
    unfold setL wrD
    rw [hM, bV_len, ← bV_take, ← bV_drop, ← bV_app, ← bV_app]
  rw [e3, e4, bV_flat] at H2
  clear H
  have H := H2
  clear H2
  dsimp only [List.set_cons_zero, List.set_cons_succ] at H
  refine w_bar (Nat.le_of_eq hu3.symm) ?_
  repeat' (first | (with_reducible refine w_fieldA ?_) | (with_reducible refine w_nil ?_) | (with_reducible refine w_lenV ?_) | ((with_reducible apply w_build) ; rfl; (try dsimp only [splice, ev, cellsL, rep, List.cons_append, List.nil_append])) | ((with_reducible apply w_storeV 1 H) ; rfl; rfl; rfl; omega; rfl; (clear H; intro u H hu; (try dsimp only [List.set_cons_zero, List.set_cons_succ, cellsL, List.toList_toArray, splice, ev, rep, List.cons_append, List.nil_append] at H))) | ((with_reducible apply w_retC 1 H) ; rfl; rfl; rfl) | ((with_reducible apply w_load 3 H) ; rfl; rfl; rfl))
  refine w_clrMN 3 0 H rfl rfl rfl (by decide) bl (fun e => ?_) fun u4 mu hol ho4 hid => ?_
  · have hu4 := H.holds 3 rfl
    rw [e] at hu4
    obtain ⟨c1, f1, q1, _, q3⟩ := it
    obtain ⟨c2, f2, r1, _, r3⟩ := hu4
    rw [q1] at r1
    injection r1 with r1; injection r1 with r1
    subst r1
    have := (q3 1).symm.trans (r3 1)
    have e5 : Value.slice da1 D.length D.length = .slice (some ⟨i2, 0, none⟩) M M := by simpa using this
    have := dl i2 (by rw [e5]; rfl)
    omega
  · exact ⟨rfl, mu, i2, hol, ho4, hid _ rfl⟩
theorem w_loadK {Q : Value → Hs → Prop} {hh : Hs} {b o e u : Nat} {rw_ fl : Bool} {L : List Value} {v : Value} {K : Value → An} (ho : Holds (hh.hp.get b) (.row e u rw_ fl L)) (hv : L[o]? = some v) (w : WP (K v) Q) : WP (kLoad (.pointer (some ⟨b, o, none⟩)) hh K) Q := by
  obtain ⟨c, f, q1, _, q3⟩ := ho
  rw [kLoad_ok q1 ((q3 o).trans hv)]; exact w
theorem Sto.toM {h u : Hs} {b : Nat} {o : Gev.Obj} {m : List Th} (H : Sto h [] u m) (hb : b < h.nx) (ho : Holds (u.hp.get b) o) (hm : ∀ t ∈ m, t.id ≠ some b) : Sto h [b] u (.blk b o :: m) := by
  refine ⟨H.nx, fun id hid hs => H.fr id hid List.not_mem_nil, fun k hk _ => H.lo k hk (fun s hs => by simp at hs), fun t ht => ?_, fun t ht i hi => ?_, H.chg, fun i j s t hi hj hij he b' hb' => ?_⟩
  · rcases List.mem_cons.1 ht with rfl | ht
    · exact ho
    · exact H.ok t ht
  · rcases List.mem_cons.1 ht with rfl | ht
    · have : b = i := by injection hi
      subst this
      exact ⟨Nat.lt_of_lt_of_le hb H.nx, fun _ => .inr (by simp)⟩
    · refine ⟨(H.ids t ht i hi).1, fun he => ?_⟩
      rcases (H.ids t ht i hi).2 he with g | g
      · exact .inl g
      · simp at g
  · cases i with
    | zero =>
      have : Th.blk b o = s := by simpa using hi
      subst this
      have : b = b' := by injection hb'
      subst this
      cases j with
      | zero => exact absurd rfl hij
      | succ j => exact hm t (List.mem_of_getElem? (by simpa using hj))
    | succ i =>
      cases j with
      | zero =>
        have : Th.blk b o = t := by simpa using hj
        subst this
        intro e
        have : b = b' := by injection e
        subst this
        exact hm s (List.mem_of_getElem? (by simpa using hi)) hb'
      | succ j => exact H.dj i j s t (by simpa using hi) (by simpa using hj) (by omega) he b' hb'
theorem FileAt.ext {h u : Hs} {p b : Nat} {dv mm up l : Value} {D : List UInt8} (f : FileAt h p b dv mm up l D) (hn : h.nx ≤ u.nx) (hg : ∀ id, id < h.nx → u.hp.get id = h.hp.get id) : FileAt u p b dv mm up l D := by
  obtain ⟨⟨mid, es, cl, ix, ⟨cs, sz, e, uu, rw_, ff, q1, q2⟩, t2, t3, t4, t5⟩, ⟨p1, p2⟩, it, bl, da, dn⟩ := f
  refine ⟨⟨mid, es, cl, ix, ⟨cs, sz, e, uu, rw_, ff, (hg p p1).trans q1, q2⟩, (hg mid t4).trans t2, t3, Nat.lt_of_lt_of_le t4 hn, t5⟩, ⟨Nat.lt_of_lt_of_le p1 hn, p2⟩, by rw [hg b bl]; exact it, Nat.lt_of_lt_of_le bl hn, ⟨da.1.congr fun i hi => hg i (da.2.2 i (rsl_id hi)), da.2.1, fun i hi => Nat.lt_of_lt_of_le (da.2.2 i hi) hn⟩, dn⟩
theorem itm_ne {B B' : Option Blk} {k dv dv' mm up l : Value} (h1 : Holds B (itm k dv mm up l)) (h2 : Holds B' (itm k dv' mm up l)) (hd : dv ≠ dv') : B' ≠ B := fun e => by
  obtain ⟨c1, f1, q1, _, q3⟩ := h1
  obtain ⟨c2, f2, r1, _, r3⟩ := h2
  rw [e, q1] at r1
  injection r1 with r1; injection r1 with r1
  subst r1
  have := (q3 1).symm.trans (r3 1)
  exact hd (by simpa using this)
theorem DataAt.ne {h : Hs} {dv : Value} {D : List UInt8} (d : DataAt h dv D) {i n c : Nat} (hi : h.nx ≤ i) : dv ≠ .slice (some ⟨i, 0, none⟩) n c := fun e => by
  have := d.2.2 i (by rw [e]; rfl)
  omega
/-- the way to the file -/
def WayTo (R : RnK) (p : Nat) (A : Value) (h : Hs) : Prop := ∀ u : Hs, h.nx ≤ u.nx → (∀ id, id < h.nx → u.hp.get id = h.hp.get id) → ∀ fl : Bool, WP (R 31 [.pointer (some ⟨p, 0, none⟩), A, .bool fl] u) fun v u' => v = .tuple #[.int .i64 (.ofNat 3), .int .i64 (.ofNat 0)] ∧ Sm u u'
theorem WayTo.ext {R : RnK} {p : Nat} {A : Value} {h u : Hs} (w : WayTo R p A h) (hn : h.nx ≤ u.nx) (hg : ∀ id, id < h.nx → u.hp.get id = h.hp.get id) : WayTo R p A u :=
  fun u' h1 h2 fl => w u' (Nat.le_trans hn h1) (fun id hid => (h2 id (Nat.lt_of_lt_of_le hid hn)).trans (hg id hid)) fl
def resW (n : Nat) : Value := .agg #[.int .i64 (.ofNat 0), .int .i64 (.ofNat 3), .int .i64 (.ofNat 0), .int .i64 (.ofNat 0), .int .i64 (.ofNat n), .slice none 0 0, .slice none 0 0]
def opV (k : Nat) (A : Value) (a n : Nat) (xv : Value) : Value := .agg #[.int .i64 (.ofNat k), A, .string ⟨#[]⟩, .int .i64 (.ofNat a), .int .i64 (.ofNat n), xv]
/-- behind a write -/
def WrPost (h : Hs) (b : Nat) (mm up l : Value) (D X : List UInt8) (a : Nat) (v : Value) (u : Hs) : Prop := v = resW (max D.length (a + X.length)) ∧ Mut h u b ∧
  ∃ i, Holds (u.hp.get b) (itm (.int .i64 (.ofNat 1)) (.slice (some ⟨i, 0, none⟩) (max D.length (a + X.length)) (max D.length (a + X.length))) mm up l) ∧ Holds (u.hp.get i) (.row 5 1 true true (byteVs (wrD D a X))) ∧ h.nx ≤ i ∧ i < u.nx
def CWrite (R : RnK) : Prop := ∀ (p b a n : Nat) (A dv mm up l xv : Value) (D X : List UInt8) (h : Hs), FileAt h p b dv mm up l D → RdSl h xv 1 (ones (byteVs X)) → (∀ i, vId xv = some i → i < h.nx ∧ i ≠ b ∧ some i ≠ vId dv) → X ≠ [] → a + X.length ≤ 4096 → D.length ≤ 4096 →
  WP (R 41 [.pointer (some ⟨p, 0, none⟩), .int .i64 (.ofNat 3), opV 10 A a n xv] h) (WrPost h b mm up l D X a)
theorem fileW_ok {R : RnK} {N : Nat} (cw : CWrite R) {p b a n : Nat} {A dv mm up l xv : Value} {D X : List UInt8} {h : Hs} (f : FileAt h p b dv mm up l D) (hx : RdSl h xv 1 (ones (byteVs X))) (hxd : ∀ i, vId xv = some i → i < h.nx ∧ i ≠ b ∧ some i ≠ vId dv) (h0 : X ≠ []) (ha : a + X.length ≤ 4096) (hD : D.length ≤ 4096) (wy : WayTo R p A h) :
    WP (r19 R N [.pointer (some ⟨p, 0, none⟩), opV 10 A a n xv] h) (WrPost h b mm up l D X a) := by
  have ff := f
  obtain ⟨⟨mid, es, cl, ix, t1, t2, t3, t4, t5⟩, ⟨p1, p2⟩, it, bl, da, dn⟩ := f
  unfold r19 opV
  have H := Sto.enterR h [.rel p 0 [.int .i64 (.ofNat 10), .map (some mid)], .rob mid (.mp es cl)] (fun t ht => by
    simp only [List.mem_cons, List.not_mem_nil, or_false] at ht
    rcases ht with rfl | rfl
    · exact ⟨rfl, t1, fun i hi => by injection hi with hi; subst hi; exact p1⟩
    · exact ⟨rfl, t2, fun i hi => by injection hi with hi; subst hi; exact t4⟩)
  repeat' (first | (with_reducible refine w_jn ?_) | (with_reducible refine w_cndF ?_) | (with_reducible refine w_gTf ?_) | (with_reducible refine w_gFf ?_) | (with_reducible refine w_pickF ?_) | (with_reducible refine w_unC ?_) | (with_reducible refine w_enK ?_) | (with_reducible refine w_fieldA ?_) | ((with_reducible refine w_boxA H ?_) ; (clear H; intro u H hu)) | ((with_reducible refine w_alloc H ?_) ; (clear H; intro u H hu)) | ((with_reducible refine w_lss_NN (fun _ => ?_) (fun _ => ?_)) <;> first | (exfalso; omega) | skip) | ((with_reducible apply w_load 1 H) ; rfl; rfl; rfl))
  refine w_call (wy _ H.nx (fun id hid => H.fr id hid List.not_mem_nil) true) fun v2 u2 hv => ?_
  obtain ⟨rfl, sm⟩ := hv
  replace H := H.same sm.same
  clear sm
  repeat' (first | (with_reducible refine w_jn ?_) | (with_reducible refine w_cndF ?_) | (with_reducible refine w_fieldA ?_) | (with_reducible refine w_nil ?_) | ((with_reducible apply w_extr) ; rfl) | ((with_reducible refine w_neq_NN (fun _ => ?_) (fun _ => ?_)) <;> first | (exfalso; omega) | skip))
  refine w_loadE (o := 0) (j := 1) 2 H rfl rfl rfl ?_
  refine w_lk 3 H rfl t3 ?_
  repeat' (first | (with_reducible refine w_fieldA ?_) | (with_reducible refine w_nil ?_))
  have it2 : Holds (u2.hp.get b) (itm (.int .i64 (.ofNat 1)) dv mm up l) := by rw [H.fr b bl List.not_mem_nil]; exact it
  refine w_loadK it2 rfl ?_
  repeat' (first | (with_reducible refine w_jn ?_) | (with_reducible refine w_cndT ?_) | (with_reducible refine w_cndF ?_) | (with_reducible refine w_fieldA ?_) | ((with_reducible refine w_eql_NN (fun _ => ?_) (fun _ => ?_)) <;> first | (exfalso; omega) | skip) | ((with_reducible apply w_load 1 H) ; rfl; rfl; rfl) | ((with_reducible apply w_loadsF 1 H) ; rfl; rfl; rfl))
  have g2 := ff.ext H.nx (fun id hid => H.fr id hid List.not_mem_nil)
  have hx2 := hx.congr (h' := u2) fun i hi => H.fr i (hxd i (rsl_id hi)).1 List.not_mem_nil
  refine w_call (cw p b a n A dv mm up l xv D X _ g2 hx2 (fun i hi => ⟨Nat.lt_of_lt_of_le (hxd i hi).1 H.nx, (hxd i hi).2⟩) h0 ha hD) fun v3 u3 hv => ?_
  obtain ⟨rfl, mu, i2, ho2, hd2, n1, n2⟩ := hv
  have rlt := (H.ids _ (List.mem_of_getElem? (i := 0) rfl) _ rfl).2 rfl
  have H2 := (Sto.toM H bl it2 (fun t ht => by
    simp only [List.mem_cons, List.not_mem_nil, or_false] at ht
    rcases ht with rfl | rfl | rfl | rfl
    · intro e
      injection e with e
      rcases rlt with g | g
      · omega
      · simp at g
    · intro e; injection e with e; omega
    · intro e; injection e with e; exact p2 e
    · intro e; injection e with e; exact t5 e)).mutN 0 rfl mu ho2 (t := .blk i2 (.row 5 1 true true (byteVs (wrD D a X)))) hd2 (fun b' hb' => by
    injection hb' with hb'
    subst hb'
    exact ⟨n1, n2⟩)
  have hnx2 : h.nx ≤ u2.nx := H.nx
  clear H
  have H := H2
  clear H2
  dsimp only [List.set_cons_zero, List.set_cons_succ] at H
  unfold resW
  unfold itm at H
  repeat' (first | ((with_reducible apply w_storeV 2 H) ; rfl; rfl; rfl; omega; rfl; (clear H; intro u H hu; (try dsimp only [List.set_cons_zero, List.set_cons_succ, cellsL, List.toList_toArray, splice, ev, rep, List.cons_append, List.nil_append] at H))) | ((with_reducible apply w_retC 2 H) ; rfl; rfl; rfl))
  refine w_clrMN 1 0 H rfl rfl rfl (by decide) bl (itm_ne it (H.holds 1 rfl) (da.ne (by omega))) fun u4 mu hol ho4 hid => ?_
  exact ⟨rfl, mu, i2, hol, ho4, hid _ rfl⟩
def CBClone (R : RnK) : Prop := ∀ (v : Value) (D : List UInt8) (h : Hs), D.length ≤ 10000 → Rd h v 1 (ones (byteVs D)) → WP (R 13 [v] h) fun v' u => New h u (.osl v' 5 1 true D.length (byteVs D))
theorem bclone_ok {R : RnK} {N : Nat} {v : Value} {D : List UInt8} {h : Hs} (hl : D.length ≤ 10000) (r : Rd h v 1 (ones (byteVs D))) : WP (r13 R N [v] h) fun v' u => New h u (.osl v' 5 1 true D.length (byteVs D)) := by
  have ll : (ones (byteVs D)).length = D.length := by rw [ones_len, bV_len]
  obtain ⟨a, c, rfl⟩ := r.1.formN ll
  unfold r13
  have H := Sto.enter1 r
  repeat' (first | (with_reducible refine w_unC ?_) | (with_reducible refine w_enK ?_))
  cases a with
  | none =>
    have d0 : D = [] := by
      rcases r.1.2 with ⟨_, _, _, e⟩ | ⟨_, _, _, _, _, _, _, _, _, e, _⟩
      · have : D.length = 0 := by rw [← ll, e]; rfl
        exact List.eq_nil_of_length_eq_zero this
      · cases e
    subst d0
    refine w_ob (v := .bool true) rfl ?_
    repeat' (first | (with_reducible refine w_jn ?_) | (with_reducible refine w_cndT ?_))
    exact w_clr H rfl ⟨Same.refl h, ⟨rfl, .inl ⟨rfl, rfl⟩⟩, fun b hb => by cases hb⟩
  | some a =>
    refine w_ob (v := .bool false) rfl ?_
    repeat' (first | (with_reducible refine w_jn ?_) | (with_reducible refine w_cndF ?_) | ((with_reducible apply w_mkrow H) ; rfl; (clear H; intro u H hu; (try dsimp only [List.set_cons_zero, List.set_cons_succ, cellsL, List.toList_toArray, splice, ev, rep, List.cons_append, List.nil_append] at H))))
    have H2 := H.osl 0 rfl (n := 0) (c := 0) rfl (Nat.le_refl _)
    dsimp only [List.set_cons_zero, List.set_cons_succ] at H2
    refine w_append 0 1 H2 rfl rfl (by decide) (by rw [ones_flatten]; exact bV_allOne D) (by rw [ll]; omega) fun v1 u1 H3 hn => ?_
    rw [ones_flatten, ll, bV_flat] at H3
    dsimp only [List.set_cons_zero, List.set_cons_succ, List.nil_append] at H3
    rw [Nat.zero_add] at H3
    exact w_clrO 0 H3 rfl fun v' h' n => n
/-- what is read -/
def rdD (D : List UInt8) (a n : Nat) : List UInt8 := (D.drop (min a D.length)).take (min n (D.length - min a D.length))
def resR (v : Value) : Value := .agg #[.int .i64 (.ofNat 0), .int .i64 (.ofNat 3), .int .i64 (.ofNat 0), .int .i64 (.ofNat 0), .int .i64 (.ofNat 0), v, .slice none 0 0]
def RdPost (h : Hs) (D : List UInt8) (a n : Nat) (v : Value) (u : Hs) : Prop := ∃ dv, v = resR dv ∧ New h u (.osl dv 5 1 true (rdD D a n).length (byteVs (rdD D a n)))
theorem fileR_ok {R : RnK} {N : Nat} (cc : CBClone R) {p b a n : Nat} {A dv mm up l : Value} {D : List UInt8} {h : Hs} (f : FileAt h p b dv mm up l D) (hD : D.length ≤ 4096) (wy : WayTo R p A h) :
    WP (r19 R N [.pointer (some ⟨p, 0, none⟩), opV 9 A a n (.slice none 0 0)] h) (RdPost h D a n) := by
  have ff := f
  obtain ⟨⟨mid, es, cl, ix, t1, t2, t3, t4, t5⟩, ⟨p1, p2⟩, it, bl, da, dn⟩ := f
  obtain ⟨dr, ⟨da1, rfl⟩, dl⟩ := da
  unfold r19 opV
  unfold itm at it
  have ll : (ones (byteVs D)).length = D.length := by rw [ones_len, bV_len]
  have H := Sto.enterR h [.rel p 0 [.int .i64 (.ofNat 10), .map (some mid)], .rob mid (.mp es cl), .rob b (.row 45 0 true false [.int .i64 (.ofNat 1), .slice da1 D.length D.length, mm, up, l]), .rsl (.slice da1 D.length D.length) 1 (ones (byteVs D))] (fun t ht => by
    simp only [List.mem_cons, List.not_mem_nil, or_false] at ht
    rcases ht with rfl | rfl | rfl | rfl
    · exact ⟨rfl, t1, fun i hi => by injection hi with hi; subst hi; exact p1⟩
    · exact ⟨rfl, t2, fun i hi => by injection hi with hi; subst hi; exact t4⟩
    · exact ⟨rfl, it, fun i hi => by injection hi with hi; subst hi; exact bl⟩
    · exact ⟨rfl, dr, fun i hi => dl i (rsl_id hi)⟩)
  repeat' (first | (with_reducible refine w_jn ?_) | (with_reducible refine w_cndF ?_) | (with_reducible refine w_gTf ?_) | (with_reducible refine w_gFf ?_) | (with_reducible refine w_pickF ?_) | (with_reducible refine w_unC ?_) | (with_reducible refine w_enK ?_) | (with_reducible refine w_fieldA ?_) | ((with_reducible refine w_boxA H ?_) ; (clear H; intro u H hu)) | ((with_reducible refine w_alloc H ?_) ; (clear H; intro u H hu)) | ((with_reducible refine w_lss_NN (fun _ => ?_) (fun _ => ?_)) <;> first | (exfalso; omega) | skip) | ((with_reducible apply w_load 1 H) ; rfl; rfl; rfl))
  refine w_call (wy _ H.nx (fun id hid => H.fr id hid List.not_mem_nil) true) fun v2 u2 hv => ?_
  obtain ⟨rfl, sm⟩ := hv
  replace H := H.same sm.same
  clear sm
  repeat' (first | (with_reducible refine w_jn ?_) | (with_reducible refine w_cndF ?_) | (with_reducible refine w_fieldA ?_) | (with_reducible refine w_nil ?_) | ((with_reducible apply w_extr) ; rfl) | ((with_reducible refine w_neq_NN (fun _ => ?_) (fun _ => ?_)) <;> first | (exfalso; omega) | skip))
  refine w_loadE (o := 0) (j := 1) 2 H rfl rfl rfl ?_
  refine w_lk 3 H rfl t3 ?_
  repeat' (first | (with_reducible refine w_jn ?_) | (with_reducible refine w_cndT ?_) | (with_reducible refine w_cndF ?_) | (with_reducible refine w_fieldA ?_) | (with_reducible refine w_nil ?_) | (with_reducible refine w_lenV ?_) | (with_reducible refine w_blind ?_) | (with_reducible refine w_min_NN ?_) | ((with_reducible refine w_eql_NN (fun _ => ?_) (fun _ => ?_)) <;> first | (exfalso; omega) | skip) | ((with_reducible refine w_add_NN ?_ ?_) ; omega) | ((with_reducible refine w_sub_NN ?_ ?_ ?_) ; omega; omega) | ((with_reducible apply w_load 1 H) ; rfl; rfl; rfl) | ((with_reducible apply w_loadR 4 H) ; rfl; rfl; rfl))
  refine w_slLH 5 H rfl (by omega) (by rw [ll]; omega) fun v4 H4 => ?_
  have e4 : ((ones (byteVs D)).drop (min a D.length)).take (min a D.length + min n (D.length - min a D.length) - min a D.length) = ones (byteVs (rdD D a n)) := by
    unfold rdD ones
    rw [← List.map_drop, ← List.map_take, bV_take, bV_drop, Nat.add_sub_cancel_left]
  rw [e4] at H4
  clear H
  have H := H4
  clear H4
  refine w_bar (Nat.le_refl _) ?_
  have lr : (rdD D a n).length ≤ 10000 := by unfold rdD; rw [List.length_take, List.length_drop]; omega
  refine w_call (cc v4 (rdD D a n) _ lr (H.rd 0 rfl)) fun v5 u5 n5 => ?_
  obtain ⟨a5, c5, rfl⟩ := n5.2.1.form
  refine w_bar n5.1.1.1 ?_
  replace H := H.call n5
  clear n5
  repeat' (first | (with_reducible refine w_blind ?_) | ((with_reducible apply w_build) ; rfl; (try dsimp only [splice, ev, cellsL, rep, List.cons_append, List.nil_append])) | ((with_reducible refine w_bar ?_ ?_) ; omega) | ((with_reducible apply w_storeV 2 H) ; rfl; rfl; rfl; omega; rfl; (clear H; intro u H hu; (try dsimp only [List.set_cons_zero, List.set_cons_succ, cellsL, List.toList_toArray, splice, ev, rep, List.cons_append, List.nil_append] at H))) | ((with_reducible apply w_retC 2 H) ; rfl; rfl; rfl))
  exact w_clrC resR 0 H rfl (fun _ _ _ => by simp [resR, blkV, blkP, blkC]) (fun _ _ _ _ => rfl) fun v' h' nn => ⟨v', rfl, nn⟩
def CISize (R : RnK) : Prop := ∀ (b : Nat) (D : List UInt8) (dv mm up l : Value) (h : Hs), Holds (h.hp.get b) (itm (.int .i64 (.ofNat 1)) dv mm up l) → b < h.nx → (∃ a, dv = .slice a D.length D.length) → R 40 [.pointer (some ⟨b, 0, none⟩)] h = some (.val (.int .i64 (.ofNat D.length)) h)
theorem isize_ok {R : RnK} {N b : Nat} {D : List UInt8} {dv mm up l : Value} {h : Hs} (it : Holds (h.hp.get b) (itm (.int .i64 (.ofNat 1)) dv mm up l)) (bl : b < h.nx) (hd : ∃ a, dv = .slice a D.length D.length) : r40 R N [.pointer (some ⟨b, 0, none⟩)] h = some (.val (.int .i64 (.ofNat D.length)) h) := by
  refine WP.eqn ?_
  obtain ⟨a, rfl⟩ := hd
  unfold r40
  have H := Sto.enterR h [.rob b (.row 45 0 true false [.int .i64 (.ofNat 1), .slice a D.length D.length, mm, up, l])] (fun t ht => by
    rw [List.mem_singleton.1 ht]
    exact ⟨rfl, it, fun i hi => by injection hi with hi; subst hi; exact bl⟩)
  repeat' (first | (with_reducible refine w_jn ?_) | (with_reducible refine w_cndF ?_) | (with_reducible refine w_unC ?_) | (with_reducible refine w_enK ?_) | (with_reducible refine w_fieldA ?_) | (with_reducible refine w_nil ?_) | (with_reducible refine w_lenV ?_) | ((with_reducible refine w_eql_NN (fun _ => ?_) (fun _ => ?_)) <;> first | (exfalso; omega) | skip) | ((with_reducible apply w_loadR 0 H) ; rfl; rfl; rfl))
  exact w_clr H rfl ⟨rfl, rfl⟩
def resS (l : Value) (n : Nat) : Value := .agg #[.int .i64 (.ofNat 0), .int .i64 (.ofNat 3), .int .i64 (.ofNat 1), l, .int .i64 (.ofNat n), .slice none 0 0, .slice none 0 0]
theorem lookS_ok {R : RnK} {N : Nat} (cs : CISize R) {p b n : Nat} {A dv mm up : Value} {D : List UInt8} {h : Hs} (f : FileAt h p b dv mm up (.int .i64 (.ofNat n)) D) (wy : WayTo R p A h) :
    r18 R N [.pointer (some ⟨p, 0, none⟩), opV 12 A 0 0 (.slice none 0 0)] h = some (.val (resS (.int .i64 (.ofNat n)) D.length) h) := by
  refine WP.eqn ?_
  have ff := f
  obtain ⟨⟨mid, es, cl, ix, t1, t2, t3, t4, t5⟩, ⟨p1, p2⟩, it, bl, da, dn⟩ := f
  obtain ⟨dr, ⟨da1, rfl⟩, dl⟩ := da
  unfold r18 opV
  unfold itm at it
  have H := Sto.enterR h [.rel p 0 [.int .i64 (.ofNat 10), .map (some mid)], .rob mid (.mp es cl), .rob b (.row 45 0 true false [.int .i64 (.ofNat 1), .slice da1 D.length D.length, mm, up, .int .i64 (.ofNat n)])] (fun t ht => by
    simp only [List.mem_cons, List.not_mem_nil, or_false] at ht
    rcases ht with rfl | rfl | rfl
    · exact ⟨rfl, t1, fun i hi => by injection hi with hi; subst hi; exact p1⟩
    · exact ⟨rfl, t2, fun i hi => by injection hi with hi; subst hi; exact t4⟩
    · exact ⟨rfl, it, fun i hi => by injection hi with hi; subst hi; exact bl⟩)
  repeat' (first | (with_reducible refine w_unC ?_) | (with_reducible refine w_enK ?_) | (with_reducible refine w_fieldA ?_) | ((with_reducible refine w_boxA H ?_) ; (clear H; intro u H hu)) | ((with_reducible refine w_alloc H ?_) ; (clear H; intro u H hu)) | ((with_reducible refine w_eql_NN (fun _ => ?_) (fun _ => ?_)) <;> first | (exfalso; omega) | skip) | ((with_reducible apply w_load 1 H) ; rfl; rfl; rfl))
  refine w_call (wy _ H.nx (fun id hid => H.fr id hid List.not_mem_nil) false) fun v2 u2 hv => ?_
  obtain ⟨rfl, sm⟩ := hv
  replace H := H.same sm.same
  clear sm
  repeat' (first | (with_reducible refine w_jn ?_) | (with_reducible refine w_cndF ?_) | (with_reducible refine w_fieldA ?_) | (with_reducible refine w_nil ?_) | ((with_reducible apply w_extr) ; rfl) | ((with_reducible refine w_neq_NN (fun _ => ?_) (fun _ => ?_)) <;> first | (exfalso; omega) | skip))
  refine w_loadE (o := 0) (j := 1) 2 H rfl rfl rfl ?_
  refine w_lk 3 H rfl t3 ?_
  repeat' (first | (with_reducible refine w_jn ?_) | (with_reducible refine w_cndF ?_) | (with_reducible refine w_fieldA ?_) | (with_reducible refine w_nil ?_) | ((with_reducible refine w_eql_NN (fun _ => ?_) (fun _ => ?_)) <;> first | (exfalso; omega) | skip) | ((with_reducible apply w_load 1 H) ; rfl; rfl; rfl) | ((with_reducible apply w_loadR 4 H) ; rfl; rfl; rfl))
  refine w_callE (cs b D _ mm up _ ⟨u2.hp, u2.nx, u2.nx⟩ (show Holds (u2.hp.get b) _ from H.ok _ (List.mem_of_getElem? (i := 4) rfl)) (H.ids _ (List.mem_of_getElem? (i := 4) rfl) _ rfl).1 ⟨da1, rfl⟩) ?_
  repeat' (first | (with_reducible refine w_light0 ?_) | (with_reducible refine w_blind ?_) | ((with_reducible apply w_build) ; rfl; (try dsimp only [splice, ev, cellsL, rep, List.cons_append, List.nil_append])) | ((with_reducible refine w_bar ?_ ?_) ; omega) | ((with_reducible apply w_storeV 0 H) ; rfl; rfl; rfl; omega; rfl; (clear H; intro u H hu; (try dsimp only [List.set_cons_zero, List.set_cons_succ, cellsL, List.toList_toArray, splice, ev, rep, List.cons_append, List.nil_append] at H))) | ((with_reducible apply w_retC 0 H) ; rfl; rfl; rfl))
  exact w_clr H rfl ⟨rfl, rfl⟩
/-! ### Do -/
def CFileW (R Rw : RnK) : Prop := ∀ (p b a n : Nat) (A dv mm up l xv : Value) (D X : List UInt8) (h : Hs), FileAt h p b dv mm up l D → RdSl h xv 1 (ones (byteVs X)) → (∀ i, vId xv = some i → i < h.nx ∧ i ≠ b ∧ some i ≠ vId dv) → X ≠ [] → a + X.length ≤ 4096 → D.length ≤ 4096 → WayTo Rw p A h →
  WP (R 19 [.pointer (some ⟨p, 0, none⟩), opV 10 A a n xv] h) (WrPost h b mm up l D X a)
def CFileR (R Rw : RnK) : Prop := ∀ (p b a n : Nat) (A dv mm up l : Value) (D : List UInt8) (h : Hs), FileAt h p b dv mm up l D → D.length ≤ 4096 → WayTo Rw p A h →
  WP (R 19 [.pointer (some ⟨p, 0, none⟩), opV 9 A a n (.slice none 0 0)] h) (RdPost h D a n)
def CLookS (R Rw : RnK) : Prop := ∀ (p b n : Nat) (A dv mm up : Value) (D : List UInt8) (h : Hs), FileAt h p b dv mm up (.int .i64 (.ofNat n)) D → WayTo Rw p A h →
  R 18 [.pointer (some ⟨p, 0, none⟩), opV 12 A 0 0 (.slice none 0 0)] h = some (.val (resS (.int .i64 (.ofNat n)) D.length) h)
theorem doS_ok {R Rw : RnK} {N : Nat} (cl : CLookS R Rw) {p b n : Nat} {A dv mm up : Value} {D : List UInt8} {h : Hs} (f : FileAt h p b dv mm up (.int .i64 (.ofNat n)) D) (wy : WayTo Rw p A h) :
    r7 R N [.pointer (some ⟨p, 0, none⟩), opV 12 A 0 0 (.slice none 0 0)] h = some (.val (resS (.int .i64 (.ofNat n)) D.length) h) := by
  refine WP.eqn ?_
  have H := Sto.enter h
  unfold r7 opV
  have old : ∀ {u : Hs} {m : List Th}, Sto h [] u m → ∀ id, id < h.nx → u.hp.get id = h.hp.get id := fun H id hid => H.fr id hid List.not_mem_nil
  repeat' (first | (with_reducible refine w_jn ?_) | (with_reducible refine w_cndT ?_) | (with_reducible refine w_cndF ?_) | (with_reducible refine w_unC ?_) | (with_reducible refine w_enK ?_) | (with_reducible refine w_fieldA ?_) | ((with_reducible refine w_boxA H ?_) ; (clear H; intro u H hu)) | ((with_reducible refine w_alloc H ?_) ; (clear H; intro u H hu)) | ((with_reducible refine w_eql_NN (fun _ => ?_) (fun _ => ?_)) <;> first | (exfalso; omega) | skip) | ((with_reducible apply w_load 1 H) ; rfl; rfl; rfl) | ((with_reducible apply w_loadsF 1 H) ; rfl; rfl; rfl))
  refine w_callE (cl p b n A dv mm up D _ (f.ext H.nx (old H)) (wy.ext H.nx (old H))) ?_
  unfold resS
  repeat' (first | ((with_reducible apply w_storeV 0 H) ; rfl; rfl; rfl; omega; rfl; (clear H; intro u H hu; (try dsimp only [List.set_cons_zero, List.set_cons_succ, cellsL, List.toList_toArray, splice, ev, rep, List.cons_append, List.nil_append] at H))) | ((with_reducible apply w_retC 0 H) ; rfl; rfl; rfl))
  exact w_clr H rfl ⟨rfl, rfl⟩
theorem doR_ok {R Rw : RnK} {N : Nat} (cf : CFileR R Rw) {p b a n : Nat} {A dv mm up l : Value} {D : List UInt8} {h : Hs} (f : FileAt h p b dv mm up l D) (hD : D.length ≤ 4096) (wy : WayTo Rw p A h) :
    WP (r7 R N [.pointer (some ⟨p, 0, none⟩), opV 9 A a n (.slice none 0 0)] h) (RdPost h D a n) := by
  have H := Sto.enter h
  unfold r7 opV
  have old : ∀ {u : Hs} {m : List Th}, Sto h [] u m → ∀ id, id < h.nx → u.hp.get id = h.hp.get id := fun H id hid => H.fr id hid List.not_mem_nil
  repeat' (first | (with_reducible refine w_jn ?_) | (with_reducible refine w_cndT ?_) | (with_reducible refine w_cndF ?_) | (with_reducible refine w_unC ?_) | (with_reducible refine w_enK ?_) | (with_reducible refine w_fieldA ?_) | ((with_reducible refine w_boxA H ?_) ; (clear H; intro u H hu)) | ((with_reducible refine w_alloc H ?_) ; (clear H; intro u H hu)) | ((with_reducible refine w_eql_NN (fun _ => ?_) (fun _ => ?_)) <;> first | (exfalso; omega) | skip) | ((with_reducible apply w_load 1 H) ; rfl; rfl; rfl) | ((with_reducible apply w_loadsF 1 H) ; rfl; rfl; rfl))
  refine w_call (cf p b a n A dv mm up l D _ (f.ext H.nx (old H)) hD (wy.ext H.nx (old H))) fun v2 u2 hv => ?_
  obtain ⟨d2, rfl, n2⟩ := hv
  obtain ⟨a5, c5, rfl⟩ := n2.2.1.form
  replace H := H.call n2
  clear n2
  unfold resR
  repeat' (first | ((with_reducible apply w_storeV 1 H) ; rfl; rfl; rfl; omega; rfl; (clear H; intro u H hu; (try dsimp only [List.set_cons_zero, List.set_cons_succ, cellsL, List.toList_toArray, splice, ev, rep, List.cons_append, List.nil_append] at H))) | ((with_reducible apply w_retC 1 H) ; rfl; rfl; rfl))
  exact w_clrC resR 0 H rfl (fun _ _ _ => by simp [resR, blkV, blkP, blkC]) (fun _ _ _ _ => rfl) fun v' h' nn => ⟨v', rfl, nn⟩
theorem doW_ok {R Rw : RnK} {N : Nat} (cf : CFileW R Rw) {p b a n : Nat} {A dv mm up l xv : Value} {D X : List UInt8} {h : Hs} (f : FileAt h p b dv mm up l D) (hx : RdSl h xv 1 (ones (byteVs X))) (hxd : ∀ i, vId xv = some i → i < h.nx ∧ i ≠ b ∧ some i ≠ vId dv) (h0 : X ≠ []) (ha : a + X.length ≤ 4096) (hD : D.length ≤ 4096) (wy : WayTo Rw p A h) :
    WP (r7 R N [.pointer (some ⟨p, 0, none⟩), opV 10 A a n xv] h) (WrPost h b mm up l D X a) := by
  have H := Sto.enter h
  unfold r7 opV
  have old : ∀ {u : Hs} {m : List Th}, Sto h [] u m → ∀ id, id < h.nx → u.hp.get id = h.hp.get id := fun H id hid => H.fr id hid List.not_mem_nil
  repeat' (first | (with_reducible refine w_jn ?_) | (with_reducible refine w_cndT ?_) | (with_reducible refine w_cndF ?_) | (with_reducible refine w_unC ?_) | (with_reducible refine w_enK ?_) | (with_reducible refine w_fieldA ?_) | ((with_reducible refine w_boxA H ?_) ; (clear H; intro u H hu)) | ((with_reducible refine w_alloc H ?_) ; (clear H; intro u H hu)) | ((with_reducible refine w_eql_NN (fun _ => ?_) (fun _ => ?_)) <;> first | (exfalso; omega) | skip) | ((with_reducible apply w_load 1 H) ; rfl; rfl; rfl) | ((with_reducible apply w_loadsF 1 H) ; rfl; rfl; rfl))
  have hxu := hx.congr (h' := _) fun i hi => old H i (hxd i (rsl_id hi)).1
  refine w_call (cf p b a n A dv mm up l xv D X _ (f.ext H.nx (old H)) hxu (fun i hi => ⟨Nat.lt_of_lt_of_le (hxd i hi).1 H.nx, (hxd i hi).2⟩) h0 ha hD (wy.ext H.nx (old H))) fun v2 u2 hv => ?_
  obtain ⟨rfl, mu, i2, ho2, hd2, n1, n2⟩ := hv
  have rlt0 := (H.ids _ (List.mem_of_getElem? (i := 0) rfl) _ rfl).2 rfl
  have rlt1 := (H.ids _ (List.mem_of_getElem? (i := 1) rfl) _ rfl).2 rfl
  have bl := f.bl
  have it2 := (f.ext H.nx (old H)).it
  have H2 := (Sto.toM H bl it2 (fun t ht => by
    simp only [List.mem_cons, List.not_mem_nil, or_false] at ht
    rcases ht with rfl | rfl
    · intro e
      injection e with e
      rcases rlt0 with g | g
      · omega
      · simp at g
    · intro e; injection e with e; rcases rlt1 with g | g
      · omega
      · simp at g)).mutN 0 rfl mu ho2 (t := .blk i2 (.row 5 1 true true (byteVs (wrD D a X)))) hd2 (fun b' hb' => by
    injection hb' with hb'
    subst hb'
    exact ⟨n1, n2⟩)
  have hnx2 := H.nx
  clear H
  have H := H2
  clear H2
  dsimp only [List.set_cons_zero, List.set_cons_succ] at H
  unfold resW
  unfold itm at H
  repeat' (first | ((with_reducible apply w_storeV 2 H) ; rfl; rfl; rfl; omega; rfl; (clear H; intro u H hu; (try dsimp only [List.set_cons_zero, List.set_cons_succ, cellsL, List.toList_toArray, splice, ev, rep, List.cons_append, List.nil_append] at H))) | ((with_reducible apply w_retC 2 H) ; rfl; rfl; rfl))
  refine w_clrMN 1 0 H rfl rfl rfl (by decide) bl (itm_ne f.it (H.holds 1 rfl) (f.da.ne (by omega))) fun u4 mu hol ho4 hid => ?_
  exact ⟨rfl, mu, i2, hol, ho4, hid _ rfl⟩
/-! ### nothing is written -/
def CWriteN (R : RnK) : Prop := ∀ (p b a n xc : Nat) (xa : Option Addr) (A dv mm up l : Value) (D : List UInt8) (h : Hs), FileAt h p b dv mm up l D → R 41 [.pointer (some ⟨p, 0, none⟩), .int .i64 (.ofNat 3), opV 10 A a n (.slice xa 0 xc)] h = some (.val (resW D.length) h)
theorem writeN_ok {R : RnK} {N : Nat} {p b a n xc : Nat} {xa : Option Addr} {A dv mm up l : Value} {D : List UInt8} {h : Hs} (f : FileAt h p b dv mm up l D) :
    r41 R N [.pointer (some ⟨p, 0, none⟩), .int .i64 (.ofNat 3), opV 10 A a n (.slice xa 0 xc)] h = some (.val (resW D.length) h) := by
  refine WP.eqn ?_
  obtain ⟨⟨mid, es, cl, ix, t1, t2, t3, t4, t5⟩, ⟨p1, p2⟩, it, bl, da, dn⟩ := f
  obtain ⟨dr, ⟨da1, rfl⟩, dl⟩ := da
  unfold r41 opV
  unfold itm at it
  have H := Sto.enterR h [.rel p 0 [.int .i64 (.ofNat 10), .map (some mid)], .rob mid (.mp es cl), .rob b (.row 45 0 true false [.int .i64 (.ofNat 1), .slice da1 D.length D.length, mm, up, l])] (fun t ht => by
    simp only [List.mem_cons, List.not_mem_nil, or_false] at ht
    rcases ht with rfl | rfl | rfl
    · exact ⟨rfl, t1, fun i hi => by injection hi with hi; subst hi; exact p1⟩
    · exact ⟨rfl, t2, fun i hi => by injection hi with hi; subst hi; exact t4⟩
    · exact ⟨rfl, it, fun i hi => by injection hi with hi; subst hi; exact bl⟩)
  repeat' (first | (with_reducible refine w_unC ?_) | (with_reducible refine w_enK ?_) | (with_reducible refine w_fieldA ?_) | (with_reducible refine w_nil ?_) | ((with_reducible refine w_boxA H ?_) ; (clear H; intro u H hu)) | ((with_reducible refine w_alloc H ?_) ; (clear H; intro u H hu)))
  refine w_loadE (o := 0) (j := 1) 2 H rfl rfl rfl ?_
  refine w_lk 3 H rfl t3 ?_
  repeat' (first | (with_reducible refine w_jn ?_) | (with_reducible refine w_cndF ?_) | (with_reducible refine w_fieldA ?_) | (with_reducible refine w_nil ?_) | (with_reducible refine w_lenV ?_) | ((with_reducible apply w_build) ; rfl; (try dsimp only [splice, ev, cellsL, rep, List.cons_append, List.nil_append])) | ((with_reducible refine w_gtr_NN (fun _ => ?_) (fun _ => ?_)) <;> first | (exfalso; omega) | skip) | ((with_reducible apply w_storeV 0 H) ; rfl; rfl; rfl; omega; rfl; (clear H; intro u H hu; (try dsimp only [List.set_cons_zero, List.set_cons_succ, cellsL, List.toList_toArray, splice, ev, rep, List.cons_append, List.nil_append] at H))) | ((with_reducible apply w_retC 0 H) ; rfl; rfl; rfl) | ((with_reducible apply w_load 1 H) ; rfl; rfl; rfl) | ((with_reducible apply w_loadR 4 H) ; rfl; rfl; rfl))
  exact w_clr H rfl ⟨rfl, rfl⟩
def CFileN (R Rw : RnK) : Prop := ∀ (p b a n xc : Nat) (xa : Option Addr) (A dv mm up l : Value) (D : List UInt8) (h : Hs), FileAt h p b dv mm up l D → WayTo Rw p A h → R 19 [.pointer (some ⟨p, 0, none⟩), opV 10 A a n (.slice xa 0 xc)] h = some (.val (resW D.length) h)
theorem fileN_ok {R : RnK} {N : Nat} (cw : CWriteN R) {p b a n xc : Nat} {xa : Option Addr} {A dv mm up l : Value} {D : List UInt8} {h : Hs} (f : FileAt h p b dv mm up l D) (wy : WayTo R p A h) :
    r19 R N [.pointer (some ⟨p, 0, none⟩), opV 10 A a n (.slice xa 0 xc)] h = some (.val (resW D.length) h) := by
  refine WP.eqn ?_
  have ff := f
  obtain ⟨⟨mid, es, cl, ix, t1, t2, t3, t4, t5⟩, ⟨p1, p2⟩, it, bl, da, dn⟩ := f
  unfold r19 opV
  have H := Sto.enterR h [.rel p 0 [.int .i64 (.ofNat 10), .map (some mid)], .rob mid (.mp es cl)] (fun t ht => by
    simp only [List.mem_cons, List.not_mem_nil, or_false] at ht
    rcases ht with rfl | rfl
    · exact ⟨rfl, t1, fun i hi => by injection hi with hi; subst hi; exact p1⟩
    · exact ⟨rfl, t2, fun i hi => by injection hi with hi; subst hi; exact t4⟩)
  repeat' (first | (with_reducible refine w_jn ?_) | (with_reducible refine w_cndF ?_) | (with_reducible refine w_gTf ?_) | (with_reducible refine w_gFf ?_) | (with_reducible refine w_pickF ?_) | (with_reducible refine w_unC ?_) | (with_reducible refine w_enK ?_) | (with_reducible refine w_fieldA ?_) | ((with_reducible refine w_boxA H ?_) ; (clear H; intro u H hu)) | ((with_reducible refine w_alloc H ?_) ; (clear H; intro u H hu)) | ((with_reducible refine w_lss_NN (fun _ => ?_) (fun _ => ?_)) <;> first | (exfalso; omega) | skip) | ((with_reducible apply w_load 1 H) ; rfl; rfl; rfl))
  refine w_call (wy _ H.nx (fun id hid => H.fr id hid List.not_mem_nil) true) fun v2 u2 hv => ?_
  obtain ⟨rfl, sm⟩ := hv
  replace H := H.same sm.same
  clear sm
  repeat' (first | (with_reducible refine w_jn ?_) | (with_reducible refine w_cndF ?_) | (with_reducible refine w_fieldA ?_) | (with_reducible refine w_nil ?_) | ((with_reducible apply w_extr) ; rfl) | ((with_reducible refine w_neq_NN (fun _ => ?_) (fun _ => ?_)) <;> first | (exfalso; omega) | skip))
  refine w_loadE (o := 0) (j := 1) 2 H rfl rfl rfl ?_
  refine w_lk 3 H rfl t3 ?_
  repeat' (first | (with_reducible refine w_fieldA ?_) | (with_reducible refine w_nil ?_))
  have it2 : Holds (u2.hp.get b) (itm (.int .i64 (.ofNat 1)) dv mm up l) := by rw [H.fr b bl List.not_mem_nil]; exact it
  refine w_loadK it2 rfl ?_
  repeat' (first | (with_reducible refine w_jn ?_) | (with_reducible refine w_cndT ?_) | (with_reducible refine w_cndF ?_) | (with_reducible refine w_fieldA ?_) | ((with_reducible refine w_eql_NN (fun _ => ?_) (fun _ => ?_)) <;> first | (exfalso; omega) | skip) | ((with_reducible apply w_load 1 H) ; rfl; rfl; rfl) | ((with_reducible apply w_loadsF 1 H) ; rfl; rfl; rfl))
  refine w_callE (cw p b a n xc xa A dv mm up l D _ (ff.ext H.nx (fun id hid => H.fr id hid List.not_mem_nil))) ?_
  unfold resW
  repeat' (first | ((with_reducible apply w_storeV 0 H) ; rfl; rfl; rfl; omega; rfl; (clear H; intro u H hu; (try dsimp only [List.set_cons_zero, List.set_cons_succ, cellsL, List.toList_toArray, splice, ev, rep, List.cons_append, List.nil_append] at H))) | ((with_reducible apply w_retC 0 H) ; rfl; rfl; rfl))
  exact w_clr H rfl ⟨rfl, rfl⟩
theorem doN_ok {R Rw : RnK} {N : Nat} (cf : CFileN R Rw) {p b a n xc : Nat} {xa : Option Addr} {A dv mm up l : Value} {D : List UInt8} {h : Hs} (f : FileAt h p b dv mm up l D) (wy : WayTo Rw p A h) :
    r7 R N [.pointer (some ⟨p, 0, none⟩), opV 10 A a n (.slice xa 0 xc)] h = some (.val (resW D.length) h) := by
  refine WP.eqn ?_
  have H := Sto.enter h
  unfold r7 opV
  have old : ∀ {u : Hs} {m : List Th}, Sto h [] u m → ∀ id, id < h.nx → u.hp.get id = h.hp.get id := fun H id hid => H.fr id hid List.not_mem_nil
  repeat' (first | (with_reducible refine w_jn ?_) | (with_reducible refine w_cndT ?_) | (with_reducible refine w_cndF ?_) | (with_reducible refine w_unC ?_) | (with_reducible refine w_enK ?_) | (with_reducible refine w_fieldA ?_) | ((with_reducible refine w_boxA H ?_) ; (clear H; intro u H hu)) | ((with_reducible refine w_alloc H ?_) ; (clear H; intro u H hu)) | ((with_reducible refine w_eql_NN (fun _ => ?_) (fun _ => ?_)) <;> first | (exfalso; omega) | skip) | ((with_reducible apply w_load 1 H) ; rfl; rfl; rfl) | ((with_reducible apply w_loadsF 1 H) ; rfl; rfl; rfl))
  refine w_callE (cf p b a n xc xa A dv mm up l D _ (f.ext H.nx (old H)) (wy.ext H.nx (old H))) ?_
  unfold resW
  repeat' (first | ((with_reducible apply w_storeV 0 H) ; rfl; rfl; rfl; omega; rfl; (clear H; intro u H hu; (try dsimp only [List.set_cons_zero, List.set_cons_succ, cellsL, List.toList_toArray, splice, ev, rep, List.cons_append, List.nil_append] at H))) | ((with_reducible apply w_retC 0 H) ; rfl; rfl; rfl))
  exact w_clr H rfl ⟨rfl, rfl⟩
/-! ### what the laws use of Do -/
structure Dos (R Rw : RnK) : Prop where
  w : ∀ (p b a n : Nat) (A dv mm up l xv : Value) (D X : List UInt8) (h : Hs), FileAt h p b dv mm up l D → RdSl h xv 1 (ones (byteVs X)) → (∀ i, vId xv = some i → i < h.nx ∧ i ≠ b ∧ some i ≠ vId dv) → X ≠ [] → a + X.length ≤ 4096 → D.length ≤ 4096 → WayTo Rw p A h →
    WP (R 7 [.pointer (some ⟨p, 0, none⟩), opV 10 A a n xv] h) (WrPost h b mm up l D X a)
  n : ∀ (p b a n xc : Nat) (xa : Option Addr) (A dv mm up l : Value) (D : List UInt8) (h : Hs), FileAt h p b dv mm up l D → WayTo Rw p A h → R 7 [.pointer (some ⟨p, 0, none⟩), opV 10 A a n (.slice xa 0 xc)] h = some (.val (resW D.length) h)
  r : ∀ (p b a n : Nat) (A dv mm up l : Value) (D : List UInt8) (h : Hs), FileAt h p b dv mm up l D → D.length ≤ 4096 → WayTo Rw p A h → WP (R 7 [.pointer (some ⟨p, 0, none⟩), opV 9 A a n (.slice none 0 0)] h) (RdPost h D a n)
  s : ∀ (p b n : Nat) (A dv mm up : Value) (D : List UInt8) (h : Hs), FileAt h p b dv mm up (.int .i64 (.ofNat n)) D → WayTo Rw p A h → R 7 [.pointer (some ⟨p, 0, none⟩), opV 12 A 0 0 (.slice none 0 0)] h = some (.val (resS (.int .i64 (.ofNat n)) D.length) h)
def resE (e : Nat) : Value := .agg #[.int .i64 (.ofNat e), .int .i64 (.ofNat 0), .int .i64 (.ofNat 0), .int .i64 (.ofNat 0), .int .i64 (.ofNat 0), .slice none 0 0, .slice none 0 0]
def CFail (R : RnK) : Prop := ∀ (e : Nat) (h : Hs), R 12 [.int .i64 (.ofNat e)] h = some (.val (resE e) h)
theorem fail_ok {R : RnK} {N e : Nat} {h : Hs} : r12 R N [.int .i64 (.ofNat e)] h = some (.val (resE e) h) := by
  refine WP.eqn ?_
  have H := Sto.enter h
  unfold r12 resE
  repeat' (first | (with_reducible refine w_unC ?_) | (with_reducible refine w_enK ?_) | ((with_reducible apply w_build) ; rfl; (try dsimp only [splice, ev, cellsL, rep, List.cons_append, List.nil_append])) | ((with_reducible refine w_alloc H ?_) ; (clear H; intro u H hu)) | ((with_reducible apply w_storeV 0 H) ; rfl; rfl; rfl; omega; rfl; (clear H; intro u H hu; (try dsimp only [List.set_cons_zero, List.set_cons_succ, cellsL, List.toList_toArray, splice, ev, rep, List.cons_append, List.nil_append] at H))) | ((with_reducible apply w_retC 0 H) ; rfl; rfl; rfl))
  exact w_clr H rfl ⟨rfl, rfl⟩
/-- there is no such name -/
def WayNo (R : RnK) (p : Nat) (A : Value) (h : Hs) : Prop := ∀ u : Hs, h.nx ≤ u.nx → (∀ id, id < h.nx → u.hp.get id = h.hp.get id) → WP (R 31 [.pointer (some ⟨p, 0, none⟩), A, .bool false] u) fun v u' => v = .tuple #[.int .i64 (.ofNat 0), .int .i64 (.ofNat 2)] ∧ Sm u u'
theorem WayNo.ext {R : RnK} {p : Nat} {A : Value} {h u : Hs} (w : WayNo R p A h) (hn : h.nx ≤ u.nx) (hg : ∀ id, id < h.nx → u.hp.get id = h.hp.get id) : WayNo R p A u :=
  fun u' h1 h2 => w u' (Nat.le_trans hn h1) (fun id hid => (h2 id (Nat.lt_of_lt_of_le hid hn)).trans (hg id hid))
theorem lookG_ok {R : RnK} {N p : Nat} (cf : CFail R) {A : Value} {h : Hs} (wy : WayNo R p A h) :
    r18 R N [.pointer (some ⟨p, 0, none⟩), opV 12 A 0 0 (.slice none 0 0)] h = some (.val (resE 2) h) := by
  refine WP.eqn ?_
  unfold r18 opV
  have H := Sto.enter h
  repeat' (first | (with_reducible refine w_unC ?_) | (with_reducible refine w_enK ?_) | (with_reducible refine w_fieldA ?_) | ((with_reducible refine w_boxA H ?_) ; (clear H; intro u H hu)) | ((with_reducible refine w_alloc H ?_) ; (clear H; intro u H hu)) | ((with_reducible refine w_eql_NN (fun _ => ?_) (fun _ => ?_)) <;> first | (exfalso; omega) | skip) | ((with_reducible apply w_load 1 H) ; rfl; rfl; rfl))
  refine w_call (wy _ H.nx (fun id hid => H.fr id hid List.not_mem_nil)) fun v2 u2 hv => ?_
  obtain ⟨rfl, sm⟩ := hv
  replace H := H.same sm.same
  clear sm
  repeat' (first | (with_reducible refine w_jn ?_) | (with_reducible refine w_cndT ?_) | ((with_reducible apply w_extr) ; rfl) | ((with_reducible refine w_neq_NN (fun _ => ?_) (fun _ => ?_)) <;> first | (exfalso; omega) | skip))
  refine w_callE (cf 2 _) ?_
  unfold resE
  repeat' (first | ((with_reducible apply w_storeV 0 H) ; rfl; rfl; rfl; omega; rfl; (clear H; intro u H hu; (try dsimp only [List.set_cons_zero, List.set_cons_succ, cellsL, List.toList_toArray, splice, ev, rep, List.cons_append, List.nil_append] at H))) | ((with_reducible apply w_retC 0 H) ; rfl; rfl; rfl))
  exact w_clr H rfl ⟨rfl, rfl⟩
def CLookG (R Rw : RnK) : Prop := ∀ (p : Nat) (A : Value) (h : Hs), WayNo Rw p A h → R 18 [.pointer (some ⟨p, 0, none⟩), opV 12 A 0 0 (.slice none 0 0)] h = some (.val (resE 2) h)
theorem doG_ok {R Rw : RnK} {N p : Nat} (cl : CLookG R Rw) {A : Value} {h : Hs} (wy : WayNo Rw p A h) :
    r7 R N [.pointer (some ⟨p, 0, none⟩), opV 12 A 0 0 (.slice none 0 0)] h = some (.val (resE 2) h) := by
  refine WP.eqn ?_
  have H := Sto.enter h
  unfold r7 opV
  have old : ∀ {u : Hs} {m : List Th}, Sto h [] u m → ∀ id, id < h.nx → u.hp.get id = h.hp.get id := fun H id hid => H.fr id hid List.not_mem_nil
  repeat' (first | (with_reducible refine w_jn ?_) | (with_reducible refine w_cndT ?_) | (with_reducible refine w_cndF ?_) | (with_reducible refine w_unC ?_) | (with_reducible refine w_enK ?_) | (with_reducible refine w_fieldA ?_) | ((with_reducible refine w_boxA H ?_) ; (clear H; intro u H hu)) | ((with_reducible refine w_alloc H ?_) ; (clear H; intro u H hu)) | ((with_reducible refine w_eql_NN (fun _ => ?_) (fun _ => ?_)) <;> first | (exfalso; omega) | skip) | ((with_reducible apply w_load 1 H) ; rfl; rfl; rfl) | ((with_reducible apply w_loadsF 1 H) ; rfl; rfl; rfl))
  refine w_callE (cl p A _ (wy.ext H.nx (old H))) ?_
  unfold resE
  repeat' (first | ((with_reducible apply w_storeV 0 H) ; rfl; rfl; rfl; omega; rfl; (clear H; intro u H hu; (try dsimp only [List.set_cons_zero, List.set_cons_succ, cellsL, List.toList_toArray, splice, ev, rep, List.cons_append, List.nil_append] at H))) | ((with_reducible apply w_retC 0 H) ; rfl; rfl; rfl))
  exact w_clr H rfl ⟨rfl, rfl⟩
end Go.Proofs.YtefdkblhnlkgaaaGreatDoor.treeLinks
