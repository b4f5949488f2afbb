/- The residual programs with numbers that are not known: what each step of theirs gives. -/
import Derived.Test.YtndlcnfnoiabbaaGevKM
import Derived.IntWalk
namespace Go.Gev
theorem mkB_eq (b : Bool) (K : Value → An) : mkB b K = K (.bool b) := by cases b <;> rfl
theorem mkN_eq (k : IntKind) (n : Nat) (K : Value → An) : mkN k n K = K (.int k (.ofNat n)) := by cases n <;> rfl
theorem litN_eq (n : Nat) (K : Nat → An) : litN n K = K n := by cases n <;> rfl
theorem nn_neg {m : Nat} {b : Int} {s : An} {F : Nat → Nat → An} : nn (.negSucc m) b s F = s := rfl
theorem nn_neg2 {m n : Nat} {s : An} {F : Nat → Nat → An} : nn (.ofNat m) (.negSucc n) s F = s := rfl
theorem kI64_lss (a b : Int) (K : Value → An) : kI64 .lss (.int .i64 a) (.int .i64 b) K = K (.bool (decide (a < b))) := by
 show cLss .i64 9223372036854775807 K a b = _
 unfold cLss
 cases a with
 | negSucc m => rw [nn_neg, mkB_eq, ltI_eq]
 | ofNat m => cases b with
  | negSucc n => rw [nn_neg2, mkB_eq, ltI_eq]
  | ofNat n =>
   show ifB (Nat.ble n m) _ _ = _
   have : decide ((Int.ofNat m) < (Int.ofNat n)) = !(Nat.ble n m) := by
    rw [ble_eq]
    by_cases h : n ≤ m
    ·have h2 : ¬ ((Int.ofNat m) < (Int.ofNat n)) := by simp only [Int.ofNat_eq_natCast]; omega
     simp [h]
    ·have h2 : ((Int.ofNat m) < (Int.ofNat n)) := by simp only [Int.ofNat_eq_natCast]; omega
     simp only [decide_eq_true h2, decide_eq_false h, Bool.not_false]
   rw [this]
   cases Nat.ble n m <;> rfl
theorem kI64_gtr (a b : Int) (K : Value → An) : kI64 .gtr (.int .i64 a) (.int .i64 b) K = K (.bool (decide (b < a))) := by
 show cGtr .i64 9223372036854775807 K a b = _
 unfold cGtr
 cases a with
 | negSucc m => rw [nn_neg, mkB_eq, ltI_eq]
 | ofNat m => cases b with
  | negSucc n => rw [nn_neg2, mkB_eq, ltI_eq]
  | ofNat n =>
   show ifB (Nat.ble m n) _ _ = _
   have : decide ((Int.ofNat n) < (Int.ofNat m)) = !(Nat.ble m n) := by
    rw [ble_eq]
    by_cases h : m ≤ n
    ·have h2 : ¬ ((Int.ofNat n) < (Int.ofNat m)) := by simp only [Int.ofNat_eq_natCast]; omega
     simp [h]
    ·have h2 : ((Int.ofNat n) < (Int.ofNat m)) := by simp only [Int.ofNat_eq_natCast]; omega
     simp only [decide_eq_true h2, decide_eq_false h, Bool.not_false]
   rw [this]
   cases Nat.ble m n <;> rfl
theorem kI64_leq (a b : Int) (K : Value → An) : kI64 .leq (.int .i64 a) (.int .i64 b) K = K (.bool (decide (a ≤ b))) := by
 show cLeq .i64 9223372036854775807 K a b = _
 unfold cLeq
 cases a with
 | negSucc m => rw [nn_neg, mkB_eq, leI_eq]
 | ofNat m => cases b with
  | negSucc n => rw [nn_neg2, mkB_eq, leI_eq]
  | ofNat n => show mkB (Nat.ble m n) K = _; rw [mkB_eq, ← leI_ofNat, leI_eq]
theorem kI64_geq (a b : Int) (K : Value → An) : kI64 .geq (.int .i64 a) (.int .i64 b) K = K (.bool (decide (b ≤ a))) := by
 show cGeq .i64 9223372036854775807 K a b = _
 unfold cGeq
 cases a with
 | negSucc m => rw [nn_neg, mkB_eq, leI_eq]
 | ofNat m => cases b with
  | negSucc n => rw [nn_neg2, mkB_eq, leI_eq]
  | ofNat n => show mkB (Nat.ble n m) K = _; rw [mkB_eq, ← leI_ofNat, leI_eq]
theorem kI64_eql (a b : Int) (K : Value → An) : kI64 .eql (.int .i64 a) (.int .i64 b) K = K (.bool (a == b)) := by
 show cEql .i64 9223372036854775807 K a b = _
 unfold cEql
 cases a with
 | negSucc m => rw [nn_neg, mkB_eq, eqI_eq]
 | ofNat m => cases b with
  | negSucc n => rw [nn_neg2, mkB_eq, eqI_eq]
  | ofNat n => show mkB (Nat.beq m n) K = _; rw [mkB_eq, ← eqI_ofNat, eqI_eq]
theorem kI64_neq (a b : Int) (K : Value → An) : kI64 .neq (.int .i64 a) (.int .i64 b) K = K (.bool (a != b)) := by
 have hn : ∀ c : Bool, notB c = !c := fun c => by cases c <;> rfl
 show cNeq .i64 9223372036854775807 K a b = _
 unfold cNeq
 cases a with
 | negSucc m => rw [nn_neg, mkB_eq, eqI_eq, hn]; rfl
 | ofNat m => cases b with
  | negSucc n => rw [nn_neg2, mkB_eq, eqI_eq, hn]; rfl
  | ofNat n =>
   show ifB (Nat.beq m n) _ _ = _
   have : (Int.ofNat m != Int.ofNat n) = !(Nat.beq m n) := by rw [← eqI_ofNat, eqI_eq]; rfl
   rw [this]
   cases Nat.beq m n <;> rfl
def In64 (n : Int) : Prop := -9223372036854775808 ≤ n ∧ n ≤ 9223372036854775807
theorem wrap_in {n : Int} (h : In64 n) : wrapF .i64 n = n := by rw [wrapF_eq]; exact IntWalk.i64_in n h
theorem kI64_add {a b : Int} (h : In64 (a + b)) (K : Value → An) : kI64 .add (.int .i64 a) (.int .i64 b) K = K (.int .i64 (a + b)) := by
 have slow : obK K (fAdd .i64 a b) = K (.int .i64 (a + b)) := by
  show K (.int .i64 (wrapF .i64 (Int.add a b))) = _
  rw [wrap_in (show In64 (Int.add a b) from h)]; rfl
 show cAdd .i64 9223372036854775807 K a b = _
 unfold cAdd
 cases a with
 | negSucc m => exact slow
 | ofNat m => cases b with
  | negSucc n => exact slow
  | ofNat n =>
   show ifB _ (mkN .i64 (Nat.add m n) K) _ = _
   rw [mkN_eq, slow]
   have : (Int.ofNat (Nat.add m n)) = Int.ofNat m + Int.ofNat n := rfl
   rw [this]
   cases Nat.ble (Nat.add m n) 9223372036854775807 <;> rfl
theorem kI64_sub {a b : Int} (h : In64 (a - b)) (K : Value → An) : kI64 .sub (.int .i64 a) (.int .i64 b) K = K (.int .i64 (a - b)) := by
 have slow : obK K (fSub .i64 a b) = K (.int .i64 (a - b)) := by
  show K (.int .i64 (wrapF .i64 (Int.sub a b))) = _
  rw [wrap_in (show In64 (Int.sub a b) from h)]; rfl
 show cSub .i64 9223372036854775807 K a b = _
 unfold cSub
 cases a with
 | negSucc m => exact slow
 | ofNat m => cases b with
  | negSucc n => exact slow
  | ofNat n =>
   show ifB (Nat.ble n m) (ifB _ (mkN .i64 (Nat.sub m n) K) _) _ = _
   rw [mkN_eq, slow]
   cases hb : Nat.ble n m with
   | false => rfl
   | true =>
    have hle := Nat.le_of_ble_eq_true hb
    have : (Int.ofNat (Nat.sub m n)) = Int.ofNat m - Int.ofNat n := (int_sub_ofNat hle).symm
    rw [this]
    cases Nat.ble m 9223372036854775807 <;> rfl
theorem kLenV_ok (a : Option Addr) (n c : Nat) (K : Value → An) : kLenV (.slice a n c) K = K (.int .i64 (.ofNat n)) := mkN_eq _ _ _
theorem kFieldA_ok (k b o : Nat) (K : Value → An) : kFieldA k (.pointer (some ⟨b, o, none⟩)) K = K (.pointer (some ⟨b, o + k, none⟩)) := by
 show litN (Nat.add o k) (fun o' => K (.pointer (some ⟨b, o', none⟩))) = _
 rw [litN_eq]; rfl
theorem kIdxA_ok {k n : Nat} (h : k < n) (u b o c : Nat) (K : Value → An) : kIdxA u (.slice (some ⟨b, o, none⟩) n c) (.int .i64 (.ofNat k)) K = K (.pointer (some ⟨b, o + k * u, none⟩)) := by
 show ifB (Nat.ble n k) none (litN (Nat.add o (Nat.mul k u)) fun o' => K (.pointer (some ⟨b, o', none⟩))) = _
 have : Nat.ble n k = false := by
  cases hb : Nat.ble n k with
  | false => rfl
  | true => have := Nat.le_of_ble_eq_true hb; omega
 rw [this, litN_eq]; rfl
theorem kLoad_ok {h : Hs} {b o : Nat} {c : Tr Value} {n e u : Nat} {rw_ fl : Bool} {v : Value} (hb : h.hp.get b = some (.row c n e u rw_ fl)) (hv : c.get o = some v) (K : Value → An) : kLoad (.pointer (some ⟨b, o, none⟩)) h K = K v := by
 show getB h b _ = _
 unfold getB
 rw [getK_eq, hb]
 show obK K (Tr.getK c o) = _
 rw [getK_eq, hv]; rfl
noncomputable def two (a b : Value) : Tr Value := ((ofList [Value.int .i64 (.ofNat 0), Value.int .i64 (.ofNat 0)]).set 0 (some a)).set 1 (some b)
theorem kCall_ok {R : RnK} {f : FuncId} {args : List Value} {h h' : Hs} {v : Value} (hr : R f args h = some (.val v h')) (K : KV) : kCall R f args h K = K v h' := by
 unfold kCall; rw [hr]
theorem lpT_succ {T : Type} (b : T) (N : Nat) (G : T → T) : lpT b (N + 1) G = G (lpT b N G) := rfl
theorem after_some (K : KV) (v : Value) (h : Hs) : after K (some (v, h)) = K v h := rfl
def Sl (h : Hs) (v : Value) (L : List (Int × Int)) : Prop :=
 ∃ a c, v = .slice a L.length c ∧ ∀ i f l, L[i]? = some (f, l) → ∃ b o cc n e u rw_ fl, a = some ⟨b, o, none⟩ ∧ b < h.nx ∧ h.hp.get b = some (.row cc n e u rw_ fl) ∧ cc.get (o + i * 2) = some (.int .i64 f) ∧ cc.get (o + i * 2 + 1) = some (.int .i64 l)
def Ext (h h' : Hs) : Prop := h.nx ≤ h'.nx ∧ ∀ id, id < h.nx → h'.hp.get id = h.hp.get id
theorem Ext.refl (h : Hs) : Ext h h := ⟨Nat.le_refl _, fun _ _ => rfl⟩
theorem Ext.trans {a b c : Hs} (h : Ext a b) (k : Ext b c) : Ext a c := ⟨Nat.le_trans h.1 k.1, fun id hid => (k.2 id (Nat.lt_of_lt_of_le hid h.1)).trans (h.2 id hid)⟩
theorem Sl.mono {h h' : Hs} {v : Value} {L : List (Int × Int)} (s : Sl h v L) (e : Ext h h') : Sl h' v L := by
 obtain ⟨a, c, h1, h2⟩ := s
 refine ⟨a, c, h1, fun i f l hi => ?_⟩
 obtain ⟨b, o, cc, n, e', u, rw_, fl, q1, q2, q3, q4, q5⟩ := h2 i f l hi
 exact ⟨b, o, cc, n, e', u, rw_, fl, q1, Nat.lt_of_lt_of_le q2 e.1, (e.2 b q2).trans q3, q4, q5⟩
theorem Sl.len {h : Hs} {v : Value} {L : List (Int × Int)} (s : Sl h v L) (K : Value → An) : kLenV v K = K (.int .i64 (.ofNat L.length)) := by
 obtain ⟨a, c, rfl, _⟩ := s; exact kLenV_ok _ _ _ _
theorem newRow_get (h : Hs) (e u : Nat) (cs : List Value) (id : Nat) : (newRow h e u cs).hp.get id = if h.nx = id then some (.row (ofList cs) cs.length e u true (flatL cs)) else h.hp.get id := by
 unfold newRow; rw [Tr.get_set]
def Own (n0 : Nat) (t : TypeId) (h : Hs) (v : Value) (L : List (Int × Int)) : Prop :=
 (v = .slice none 0 0 ∧ L = []) ∨ ∃ id cc, v = .slice (some ⟨id, 0, none⟩) L.length L.length ∧ n0 ≤ id ∧ id < h.nx ∧ h.hp.get id = some (.row cc (L.length * 2) t 2 true true) ∧
  ∀ i f l, L[i]? = some (f, l) → cc.get (i * 2) = some (.int .i64 f) ∧ cc.get (i * 2 + 1) = some (.int .i64 l)
theorem Own.push2 {n0 l0 : Nat} {t : TypeId} {h : Hs} {v : Value} {L : List (Int × Int)} (o : Own n0 t h v L) (hL : L.length ≤ 1000) (hn : n0 ≤ h.nx) (h00 : l0 ≤ n0) (hl : l0 ≤ h.lo) (f l : Int) (K : KV) :
 ∃ v' h', after (fun x h81 => after (fun y h83 => K y h83) (app0 t 2 16 h81 v x)) (oMkrow t 2 1 [.int .i64 (.ofNat 0), .int .i64 (.ofNat 0)] [(0, 2, .c (.agg #[.int .i64 f, .int .i64 l]))] enE h) = K v' h' ∧
  Own n0 t h' v' (L ++ [(f, l)]) ∧ h.nx ≤ h'.nx ∧ l0 ≤ h'.lo ∧ ∀ id, id < n0 → h'.hp.get id = h.hp.get id := by
 have hmk : oMkrow t 2 1 [.int .i64 (.ofNat 0), .int .i64 (.ofNat 0)] [(0, 2, .c (.agg #[.int .i64 f, .int .i64 l]))] enE h = some (.slice (some ⟨h.nx, 0, none⟩) 1 1, newRow h t 2 [.int .i64 f, .int .i64 l]) := rfl
 rw [hmk, after_some]
 have hrow : rowOf (newRow h t 2 [.int .i64 f, .int .i64 l]) 2 1 (some ⟨h.nx, 0, none⟩) = some [.int .i64 f, .int .i64 l] := by
  show blkCells 2 0 ((newRow h t 2 [.int .i64 f, .int .i64 l]).hp.get h.nx) = _
  unfold newRow
  rw [Tr.get_set, if_pos rfl]; rfl
 have happ : ∀ v, app0 t 2 16 (newRow h t 2 [.int .i64 f, .int .i64 l]) v (.slice (some ⟨h.nx, 0, none⟩) 1 1) = app2 (newRow h t 2 [.int .i64 f, .int .i64 l]) t 2 16 1 [.int .i64 f, .int .i64 l] v := fun v => by
  show app1 _ t 2 16 1 v (rowOf _ 2 1 (some ⟨h.nx, 0, none⟩)) = _
  rw [hrow]; rfl
 rw [happ]
 have hg1 : ∀ id, id < h.nx → (newRow h t 2 [.int .i64 f, .int .i64 l]).hp.get id = h.hp.get id := fun id hid => by
  unfold newRow; rw [Tr.get_set, if_neg (by omega)]
 rcases o with ⟨rfl, rfl⟩ | ⟨id, cc, rfl, o2, o3, o4, o5⟩
 ·refine ⟨.slice (some ⟨h.nx + 1, 0, none⟩) 1 1, newRow (newRow h t 2 [.int .i64 f, .int .i64 l]) t 2 [.int .i64 f, .int .i64 l], rfl, .inr ⟨h.nx + 1, ofList [.int .i64 f, .int .i64 l], rfl, by omega, ?_, ?_, fun i f' l' hi => ?_⟩, ?_, ?_, fun id hid => ?_⟩
  ·exact Nat.lt_succ_self _
  ·rw [newRow_get, if_pos (show (newRow h t 2 [Value.int .i64 f, .int .i64 l]).nx = h.nx + 1 from rfl)]; rfl
  ·cases i with
   | zero => simp only [List.nil_append, List.getElem?_cons_zero, Option.some.injEq, Prod.mk.injEq] at hi; obtain ⟨rfl, rfl⟩ := hi; exact ⟨rfl, rfl⟩
   | succ i => simp at hi
  ·exact Nat.le_trans (Nat.le_succ _) (Nat.le_succ _)
  ·exact hl
  ·have : (newRow (newRow h t 2 [.int .i64 f, .int .i64 l]) t 2 [.int .i64 f, .int .i64 l]).hp.get id = (newRow h t 2 [.int .i64 f, .int .i64 l]).hp.get id := by
    rw [newRow_get, if_neg (show ¬(newRow h t 2 [Value.int .i64 f, .int .i64 l]).nx = id from fun e => by have : h.nx + 1 = id := e; omega)]
   rw [this]; exact hg1 id (by omega)
 ·have hle : Nat.ble (Nat.mul (Nat.add L.length 1) 16) 70368744177664 = true := Nat.ble_eq_true_of_le (by show (L.length + 1) * 16 ≤ _; omega)
  have hget : (newRow h t 2 [.int .i64 f, .int .i64 l]).hp.get id = some (.row cc (L.length * 2) t 2 true true) := (hg1 id o3).trans o4
  have hbt : Nat.beq t t = true := Nat.beq_refl t
  have hbm : Nat.beq (Nat.mul L.length 2) (L.length * 2) = true := Nat.beq_refl _
  have e : app2 (newRow h t 2 [.int .i64 f, .int .i64 l]) t 2 16 1 [.int .i64 f, .int .i64 l] (.slice (some ⟨id, 0, none⟩) L.length L.length) =
   some (.slice (some ⟨h.nx + 1, 0, none⟩) (L.length + 1) (L.length + 1), ⟨((newRow h t 2 [.int .i64 f, .int .i64 l]).hp.set id none).set (h.nx + 1) (some (.row (ofListFrom [.int .i64 f, .int .i64 l] (L.length * 2) cc) (L.length * 2 + 2) t 2 true true)), h.nx + 2, minN h.lo id⟩) := by
   show (match Nat.ble (Nat.mul (Nat.add L.length 1) 16) 70368744177664 with | false => none | true => app3 (newRow h t 2 [.int .i64 f, .int .i64 l]) t 2 id L.length 1 [.int .i64 f, .int .i64 l] ((newRow h t 2 [.int .i64 f, .int .i64 l]).hp.get id)) = _
   rw [hle, hget]
   show (match Nat.beq t t with | false => none | true => app4 (newRow h t 2 [.int .i64 f, .int .i64 l]) t 2 id L.length 1 cc (L.length * 2) true [.int .i64 f, .int .i64 l] (frcB cc (Nat.beq (Nat.mul L.length 2) (L.length * 2))) (loadN cc (Nat.mul L.length 2) 0 [])) = _
   rw [frcB_eq, hbt, hbm]; rfl
  rw [e, after_some]
  refine ⟨_, _, rfl, .inr ⟨h.nx + 1, ofListFrom [.int .i64 f, .int .i64 l] (L.length * 2) cc, by rw [List.length_append]; rfl, by omega, Nat.lt_succ_self _, ?_, fun i f' l' hi => ?_⟩, ?_, ?_, fun id' hid => ?_⟩
  ·dsimp only
   rw [Tr.get_set, if_pos rfl, List.length_append]; congr 2; show _ = (L.length + 1) * 2; omega
  ·rw [show ofListFrom [Value.int .i64 f, .int .i64 l] (L.length * 2) cc = ((cc.set (L.length * 2) (some (.int .i64 f))).set (L.length * 2 + 1) (some (.int .i64 l))) from by rw [ofListFrom, Tr.frc_eq, ofListFrom, Tr.frc_eq, ofListFrom]]
   show ((cc.set (L.length * 2) (some (.int .i64 f))).set (L.length * 2 + 1) (some (.int .i64 l))).get (i * 2) = _ ∧ ((cc.set (L.length * 2) (some (.int .i64 f))).set (L.length * 2 + 1) (some (.int .i64 l))).get (i * 2 + 1) = _
   rcases Nat.lt_or_ge i L.length with hi2 | hi2
   ·rw [List.getElem?_append_left hi2] at hi
    obtain ⟨p1, p2⟩ := o5 i f' l' hi
    rw [Tr.get_set, if_neg (by omega), Tr.get_set, if_neg (by omega), Tr.get_set, if_neg (by omega), Tr.get_set, if_neg (by omega)]
    exact ⟨p1, p2⟩
   ·rw [List.getElem?_append_right hi2] at hi
    have : i = L.length := by
     rcases Nat.lt_or_ge (i - L.length) 1 with q | q
     ·omega
     ·rw [List.getElem?_eq_none (by simpa using q)] at hi; cases hi
    subst this
    simp only [Nat.sub_self, List.getElem?_cons_zero, Option.some.injEq, Prod.mk.injEq] at hi
    obtain ⟨rfl, rfl⟩ := hi
    rw [Tr.get_set, if_neg (by omega), Tr.get_set, if_pos rfl, Tr.get_set, if_pos rfl]
    exact ⟨rfl, rfl⟩
  ·show h.nx ≤ h.nx + 2; omega
  ·show l0 ≤ minN h.lo id; rw [minN_eq]; omega
  ·dsimp only
   rw [Tr.get_set, if_neg (by omega), Tr.get_set, if_neg (by omega)]
   exact hg1 id' (by omega)
theorem Own.push {n0 : Nat} {t : TypeId} {h : Hs} {v : Value} {L : List (Int × Int)} (o : Own n0 t h v L) (hL : L.length ≤ 1000) (hn : n0 ≤ h.nx) (hl : n0 ≤ h.lo) (f l : Int) (K : KV) :
 ∃ v' h', after (fun x h81 => after (fun y h83 => K y h83) (app0 t 2 16 h81 v x)) (oMkrow t 2 1 [.int .i64 (.ofNat 0), .int .i64 (.ofNat 0)] [(0, 2, .c (.agg #[.int .i64 f, .int .i64 l]))] enE h) = K v' h' ∧
  Own n0 t h' v' (L ++ [(f, l)]) ∧ h.nx ≤ h'.nx ∧ n0 ≤ h'.lo ∧ ∀ id, id < n0 → h'.hp.get id = h.hp.get id := o.push2 hL hn (Nat.le_refl _) hl f l K
theorem enK_eq (h : Hs) (F : Hs → An) : enK h F = F ⟨h.hp, h.nx, h.nx⟩ := by cases h; rfl
theorem Sl.lo {h : Hs} {v : Value} {L : List (Int × Int)} (s : Sl h v L) (n : Nat) : Sl ⟨h.hp, h.nx, n⟩ v L := s
end Go.Gev
