/- Contracts of functions, by the logic of residual programs. -/
import Derived.Test.YtmolikcajfphlaaEditSlotsTab
import Derived.Test.YtmolikcajfphlaaGevHos
import Derived.Test.YtmolikcajfphlaaGevFms
namespace Go.Proofs.Ytmolikcajfphlaa.editSlots
open Go Go.Gev
set_option linter.unusedVariables false
def rot (x s : Nat) : Nat := (x * 2 ^ s % 18446744073709551616) ||| (x / 2 ^ (64 - s))
theorem rot_lt {x s : Nat} (hx : x < 18446744073709551616) : rot x s < 18446744073709551616 := by
 unfold rot
 have : (18446744073709551616 : Nat) = 2 ^ 64 := by decide
 rw [this] at *
 exact Nat.or_lt_two_pow (Nat.mod_lt _ (by decide)) (Nat.lt_of_le_of_lt (Nat.div_le_self _ _) hx)
theorem rotate_ok {R : RnK} {N : Nat} {x : Nat} {h : Hs} (hx : x < 18446744073709551616) : r87 R N [.int .u64 (.ofNat x), .int .i64 (.ofNat 9)] h = some (.val (.int .u64 (.ofNat (rot x 9))) h) := by
 refine WP.eqn ?_
 unfold r87
 have H := Sto.enter h
 have e1 : 9 &&& 63 = 9 := rfl
 repeat' (first | (with_reducible refine w_unC ?_) | (with_reducible refine w_enK ?_) | ((with_reducible refine w_toU ?_ ?_) ; omega) | ((with_reducible refine w_shr ?_ ?_) ; omega) | ((with_reducible refine w_shl ?_ ?_) ; omega) | ((with_reducible refine w_uand ?_ ?_ ?_) ; omega; omega) | ((with_reducible refine w_usub ?_ ?_ ?_) ; omega; omega))
 rw [e1]
 repeat' (first | ((with_reducible refine w_uor ?_ ?_ ?_) ; omega; omega))
 exact w_clr H rfl ⟨rfl, rfl⟩
def sealOn (s : Nat) (l : List Nat) : Nat := l.foldl (fun s v => rot s 9 ^^^ v) s
def sealOf (l : List Nat) : Nat := sealOn 7811896474847682849 l
def Wl (l : List Nat) : List (List Value) := l.map fun n => [Value.int .u64 (.ofNat n)]
def Small (l : List Nat) : Prop := ∀ n ∈ l, n < 18446744073709551616
theorem xor_lt {a b : Nat} (ha : a < 18446744073709551616) (hb : b < 18446744073709551616) : a ^^^ b < 18446744073709551616 := by
 have : (18446744073709551616 : Nat) = 2 ^ 64 := by decide
 rw [this] at *
 exact Nat.xor_lt_two_pow ha hb
def CRot (R : RnK) : Prop := ∀ (x : Nat) (h : Hs), x < 18446744073709551616 → R 87 [.int .u64 (.ofNat x), .int .i64 (.ofNat 9)] h = some (.val (.int .u64 (.ofNat (rot x 9))) h)
theorem sealOn_ok {R : RnK} {N : Nat} (c : CRot R) {s : Nat} {l : List Nat} {v : Value} {h : Hs} (hs : s < 18446744073709551616) (hl : Small l) (hr : Rd h v 1 (Wl l)) (hN : l.length < N) (hb : l.length < 1000000) :
 r75 R N [.int .u64 (.ofNat s), v] h = some (.val (.int .u64 (.ofNat (sealOn s l))) h) := by
 refine WP.eqn ?_
 unfold r75
 have H := Sto.enter1 hr
 repeat' (first | (with_reducible refine w_jn ?_) | (with_reducible refine w_unC ?_) | (with_reducible refine w_enK ?_) | ((with_reducible apply w_lenR 0 H) ; rfl))
 rw [show (Wl l).length = l.length from List.length_map _]
 refine lp_ind (Good := fun n (self : L4) => ∀ (i s : Nat) (x y : Value), i + n = l.length → s < 18446744073709551616 → WP (self (.int .i64 (.ofNat i)) x (.int .u64 (.ofNat s)) y ⟨h.hp, h.nx, h.nx⟩) (fun v' h' => v' = .int .u64 (.ofNat (sealOn s (l.drop i))) ∧ h' = h)) (fun n self ih i s x y hi hs => ?_) N l.length hN 0 s _ _ (by omega) hs
 repeat' (first | (with_reducible refine w_jn ?_) | (with_reducible refine w_cndT ?_) | (with_reducible refine w_cndF ?_) | ((with_reducible refine w_lss_NN (fun _ => ?_) (fun _ => ?_)) <;> first | (exfalso; omega) | skip))
 ·have hi : i < l.length := by omega
  refine w_at1 0 H rfl (show (Wl l)[i]? = some [Value.int .u64 (.ofNat l[i])] from by unfold Wl; rw [List.getElem?_map, List.getElem?_eq_getElem hi]; rfl) rfl rfl ?_
  refine w_callE (c _ _ hs) ?_
  have h1 := rot_lt (s := 9) hs
  have h2 := hl l[i] (List.getElem_mem hi)
  repeat' (first | ((with_reducible refine w_add_NN ?_ ?_) ; omega) | ((with_reducible refine w_uxor ?_ ?_ ?_) ; omega; omega))
  have e : sealOn s (l.drop i) = sealOn (rot s 9 ^^^ l[i]) (l.drop (i + 1)) := by rw [List.drop_eq_getElem_cons hi]; rfl
  rw [e]
  exact ih (n - 1) (by omega) (i + 1) _ _ _ (by omega) (xor_lt h1 h2)
 ·rw [List.drop_of_length_le (by omega)]
  exact w_clr H rfl ⟨rfl, rfl⟩
def CSealOn (R : RnK) : Prop := ∀ (s : Nat) (l : List Nat) (v : Value) (h : Hs), s < 18446744073709551616 → Small l → l.length < 100000 → Rd h v 1 (Wl l) → R 75 [.int .u64 (.ofNat s), v] h = some (.val (.int .u64 (.ofNat (sealOn s l))) h)
theorem sealOf_ok {R : RnK} {N : Nat} (c : CSealOn R) {l : List Nat} {v : Value} {h : Hs} (hl : Small l) (hb : l.length < 100000) (hr : Rd h v 1 (Wl l)) :
 r59 R N [v] h = some (.val (.int .u64 (.ofNat (sealOf l))) h) := by
 refine WP.eqn ?_
 unfold r59
 have H := Sto.enter1 hr
 refine w_callE (c 7811896474847682849 l _ _ (by omega) hl hb (H.rd 0 rfl)) ?_
 exact w_clr H rfl ⟨rfl, rfl⟩
structure Geo where
 b : Nat
 n : Nat
 c : Nat
 k : Nat
def Geo.v (g : Geo) : Value := .agg #[.int .i64 (.ofNat g.b), .int .i64 (.ofNat g.n), .int .i64 (.ofNat g.c), .int .i64 (.ofNat g.k)]
def Geo.bitsAt (g : Geo) : Nat := 1 + g.c * g.k
def Geo.bitsN (g : Geo) : Nat := (g.b + 511) / 512
def Geo.dataAt (g : Geo) : Nat := g.bitsAt + g.bitsN + 2 * g.n
structure Geo.Box (g : Geo) : Prop where
 b1 : 64 ≤ g.b
 b2 : g.b ≤ 1024
 n1 : 4 ≤ g.n
 n2 : g.n ≤ 64
 c1 : 1 ≤ g.c
 c2 : g.c ≤ 8
 k1 : 16 ≤ g.k
 k2 : g.k ≤ 110
def Geo.Ok (g : Geo) : Prop := g.Box ∧ g.dataAt + 2 ≤ g.b
instance (g : Geo) : Decidable g.Box := decidable_of_iff (64 ≤ g.b ∧ g.b ≤ 1024 ∧ 4 ≤ g.n ∧ g.n ≤ 64 ∧ 1 ≤ g.c ∧ g.c ≤ 8 ∧ 16 ≤ g.k ∧ g.k ≤ 110) ⟨fun ⟨a, b, c, d, e, f, g, h⟩ => ⟨a, b, c, d, e, f, g, h⟩, fun ⟨a, b, c, d, e, f, g, h⟩ => ⟨a, b, c, d, e, f, g, h⟩⟩
instance (g : Geo) : Decidable g.Ok := inferInstanceAs (Decidable (g.Box ∧ g.dataAt + 2 ≤ g.b))
theorem Geo.Box.ck {g : Geo} (x : g.Box) : 16 ≤ g.c * g.k ∧ g.c * g.k ≤ 880 :=
 ⟨Nat.mul_le_mul x.c1 x.k1, Nat.mul_le_mul x.c2 x.k2⟩
theorem Geo.Box.num {g : Geo} (x : g.Box) : 17 ≤ g.bitsAt ∧ g.bitsAt ≤ 881 ∧ 1 ≤ g.bitsN ∧ g.bitsN ≤ 2 ∧ g.dataAt = g.bitsAt + g.bitsN + 2 * g.n := by
 have := x.ck
 have := x.b1
 have := x.b2
 unfold Geo.bitsAt Geo.bitsN Geo.dataAt Geo.bitsAt Geo.bitsN
 omega
def CIn (R : RnK) : Prop := ∀ (a b c : Int) (h : Hs), R 51 [.int .i64 a, .int .i64 b, .int .i64 c] h = some (.val (.bool (decide (b ≤ a ∧ a ≤ c))) h)
theorem in_ok {R : RnK} {N : Nat} {a b c : Int} {h : Hs} : r51 R N [.int .i64 a, .int .i64 b, .int .i64 c] h = some (.val (.bool (decide (b ≤ a ∧ a ≤ c))) h) := by
 refine WP.eqn ?_
 unfold r51
 have H := Sto.enter h
 repeat' (first | (with_reducible refine w_gTt ?_) | (with_reducible refine w_gTf ?_) | (with_reducible refine w_pickT ?_) | (with_reducible refine w_pickF ?_) | (with_reducible refine w_unC ?_) | (with_reducible refine w_enK ?_) | ((with_reducible refine w_leq_II (fun _ => ?_) (fun _ => ?_)) <;> first | (exfalso; omega) | skip) | ((with_reducible refine w_geq_II (fun _ => ?_) (fun _ => ?_)) <;> first | (exfalso; omega) | skip))
 all_goals exact w_clrB H (by simp; omega)
theorem CIn.nat {R : RnK} (c : CIn R) (x y z : Nat) (h : Hs) : R 51 [.int .i64 (.ofNat x), .int .i64 (.ofNat y), .int .i64 (.ofNat z)] h = some (.val (.bool (decide (y ≤ x ∧ x ≤ z))) h) := by
 rw [c]
 congr 3
 simp
theorem CIn.int {R : RnK} (c : CIn R) (x : Int) (y z : Nat) (h : Hs) : R 51 [.int .i64 x, .int .i64 (.ofNat y), .int .i64 (.ofNat z)] h = some (.val (.bool (decide ((y : Int) ≤ x ∧ x ≤ (z : Int)))) h) := c x y z h
def CBits (R : RnK) : Prop := ∀ (g : Geo) (h : Hs), g.Box → R 52 [g.v] h = some (.val (.tuple #[.int .i64 (.ofNat g.bitsAt), .int .i64 (.ofNat g.bitsN)]) h)
theorem bits_ok {R : RnK} {N : Nat} {g : Geo} {h : Hs} (x : g.Box) : r52 R N [g.v] h = some (.val (.tuple #[.int .i64 (.ofNat g.bitsAt), .int .i64 (.ofNat g.bitsN)]) h) := by
 refine WP.eqn ?_
 unfold r52 Geo.v
 have H := Sto.enter h
 have h1 := x.ck
 have h2 := x.b2
 repeat' (first | (with_reducible refine w_unC ?_) | (with_reducible refine w_enK ?_) | (with_reducible refine w_fieldA ?_) | ((with_reducible refine w_boxA H ?_) ; (clear H; intro u H hu)) | ((with_reducible refine w_add_NN ?_ ?_) ; omega) | ((with_reducible refine w_mul_NN ?_ ?_) ; omega) | ((with_reducible refine w_sub_NN ?_ ?_ ?_) ; omega; omega) | ((with_reducible refine w_quo_NN ?_ ?_ ?_) ; omega; omega) | ((with_reducible apply w_load 0 H) ; rfl; rfl; rfl))
 refine w_clr H rfl ⟨?_, rfl⟩
 unfold Geo.bitsAt Geo.bitsN
 rw [show g.b + 512 - 1 = g.b + 511 from by omega]
def CData (R : RnK) : Prop := ∀ (g : Geo) (h : Hs), g.Box → R 71 [g.v] h = some (.val (.tuple #[.int .i64 (.ofNat g.dataAt), .int .i64 ((g.b : Int) - 1 - (g.dataAt : Int))]) h)
theorem data_ok {R : RnK} {N : Nat} (cb : CBits R) {g : Geo} {h : Hs} (x : g.Box) : r71 R N [g.v] h = some (.val (.tuple #[.int .i64 (.ofNat g.dataAt), .int .i64 ((g.b : Int) - 1 - (g.dataAt : Int))]) h) := by
 refine WP.eqn ?_
 unfold r71 Geo.v
 have H := Sto.enter h
 have h1 := x.num
 have h2 := x.b2
 have h3 := x.n2
 have h4 := x.b1
 repeat' (first | (refine w_callE (cb g _ x) ?_) | (with_reducible refine w_unC ?_) | (with_reducible refine w_enK ?_) | (with_reducible refine w_fieldA ?_) | ((with_reducible apply w_extr) ; rfl) | ((with_reducible refine w_boxA H ?_) ; (clear H; intro u H hu)) | ((with_reducible refine w_add_NN ?_ ?_) ; omega) | ((with_reducible refine w_mul_NN ?_ ?_) ; omega) | ((with_reducible refine w_sub_NN ?_ ?_ ?_) ; omega; omega) | ((with_reducible refine w_sub_NNI ?_ ?_ ?_) ; omega; omega) | ((with_reducible apply w_load 0 H) ; rfl; rfl; rfl) | ((with_reducible apply w_loadsF 0 H) ; rfl; rfl; rfl))
 all_goals (refine w_clr H rfl ⟨?_, rfl⟩; rw [h1.2.2.2.2])
 rw [show ((g.b - 1 : Nat) : Int) = (g.b : Int) - 1 from by omega]
def CGood (R : RnK) : Prop := ∀ (g : Geo) (h : Hs), R 42 [g.v] h = some (.val (.bool (decide g.Ok)) h)
theorem good_ok {R : RnK} {N : Nat} (ci : CIn R) (cd : CData R) {g : Geo} {h : Hs} : r42 R N [g.v] h = some (.val (.bool (decide g.Ok)) h) := by
 refine WP.eqn ?_
 unfold r42 Geo.v
 have H := Sto.enter h
 repeat' (first | ((refine w_callB (ci.nat _ _ _ _) (fun _ => ?_) (fun _ => ?_)) <;> first | (exfalso; omega) | skip) | (with_reducible refine w_jn ?_) | (with_reducible refine w_cndT ?_) | (with_reducible refine w_cndF ?_) | (with_reducible refine w_gFt ?_) | (with_reducible refine w_gFf ?_) | (with_reducible refine w_pickT ?_) | (with_reducible refine w_pickF ?_) | (with_reducible refine w_notT ?_) | (with_reducible refine w_notF ?_) | (with_reducible refine w_unC ?_) | (with_reducible refine w_enK ?_) | (with_reducible refine w_fieldA ?_) | ((with_reducible refine w_boxA H ?_) ; (clear H; intro u H hu)) | ((with_reducible apply w_load 0 H) ; rfl; rfl; rfl) | ((with_reducible apply w_loadsF 0 H) ; rfl; rfl; rfl))
 ·have x : g.Box := ⟨by omega, by omega, by omega, by omega, by omega, by omega, by omega, by omega⟩
  have h1 := x.num
  refine w_callE (cd g _ x) ?_
  repeat' (first | ((with_reducible apply w_extr) ; rfl) | ((with_reducible refine w_geq_IN (fun _ => ?_) (fun _ => ?_)) <;> first | (exfalso; omega) | skip))
  all_goals exact w_clrB H (by unfold Geo.Ok; simp [x]; omega)
 all_goals exact w_clrB H (by unfold Geo.Ok; simp; intro x; have := x.1; have := x.2; have := x.3; have := x.4; have := x.5; have := x.6; have := x.7; have := x.8; omega)
def Geo.dataN (g : Geo) : Nat := g.b - 1 - g.dataAt
def Geo.nodeAt (g : Geo) (i : Nat) : Nat := if 1 ≤ i ∧ i ≤ g.n then g.bitsAt + g.bitsN + i - 1 else 0
def Geo.lostAt (g : Geo) : Nat := g.bitsAt + g.bitsN + g.n
def CDataF (R : RnK) : Prop := ∀ (g : Geo) (h : Hs), g.Ok → R 47 [g.v] h = some (.val (.tuple #[.int .i64 (.ofNat g.dataAt), .int .i64 (.ofNat g.dataN)]) h)
theorem dataF_ok {R : RnK} {N : Nat} (cg : CGood R) (cd : CData R) {g : Geo} {h : Hs} (x : g.Ok) : r47 R N [g.v] h = some (.val (.tuple #[.int .i64 (.ofNat g.dataAt), .int .i64 (.ofNat g.dataN)]) h) := by
 refine WP.eqn ?_
 unfold r47 Geo.v
 have H := Sto.enter h
 have h2 := x.2
 repeat' (first | ((refine w_callB (cg g _) (fun _ => ?_) (fun _ => ?_)) <;> first | (exfalso; omega) | skip) | (refine w_callE (cd g _ x.1) ?_) | (with_reducible refine w_jn ?_) | (with_reducible refine w_cndT ?_) | (with_reducible refine w_cndF ?_) | (with_reducible refine w_notT ?_) | (with_reducible refine w_notF ?_) | (with_reducible refine w_unC ?_) | (with_reducible refine w_enK ?_) | ((with_reducible apply w_extr) ; rfl) | ((with_reducible refine w_boxA H ?_) ; (clear H; intro u H hu)) | ((with_reducible apply w_loadsF 0 H) ; rfl; rfl; rfl))
 ·refine w_clr H rfl ⟨?_, rfl⟩
  rw [show (g.b : Int) - 1 - (g.dataAt : Int) = .ofNat g.dataN from by unfold Geo.dataN; simp only [Int.ofNat_eq_natCast]; omega]
 ·exact absurd x ‹_›
def CNode (R : RnK) : Prop := ∀ (g : Geo) (i : Nat) (h : Hs), g.Ok → i ≤ 100000 → R 22 [g.v, .int .i64 (.ofNat i)] h = some (.val (.int .i64 (.ofNat (g.nodeAt i))) h)
theorem node_ok {R : RnK} {N : Nat} (cg : CGood R) (ci : CIn R) (cb : CBits R) {g : Geo} {i : Nat} {h : Hs} (x : g.Ok) (hi : i ≤ 100000) : r22 R N [g.v, .int .i64 (.ofNat i)] h = some (.val (.int .i64 (.ofNat (g.nodeAt i))) h) := by
 refine WP.eqn ?_
 unfold r22 Geo.v
 have H := Sto.enter h
 have h1 := x.1.num
 repeat' (first | ((refine w_callB (cg g _) (fun _ => ?_) (fun _ => ?_)) <;> first | (exfalso; omega) | skip) | ((refine w_callB (ci.nat _ _ _ _) (fun _ => ?_) (fun _ => ?_)) <;> first | (exfalso; omega) | skip) | (refine w_callE (cb g _ x.1) ?_) | (with_reducible refine w_jn ?_) | (with_reducible refine w_cndT ?_) | (with_reducible refine w_cndF ?_) | (with_reducible refine w_gFt ?_) | (with_reducible refine w_gFf ?_) | (with_reducible refine w_pickT ?_) | (with_reducible refine w_pickF ?_) | (with_reducible refine w_notT ?_) | (with_reducible refine w_notF ?_) | (with_reducible refine w_unC ?_) | (with_reducible refine w_enK ?_) | (with_reducible refine w_fieldA ?_) | ((with_reducible apply w_extr) ; rfl) | ((with_reducible refine w_boxA H ?_) ; (clear H; intro u H hu)) | ((with_reducible refine w_add_NN ?_ ?_) ; omega) | ((with_reducible refine w_sub_NN ?_ ?_ ?_) ; omega; omega) | ((with_reducible apply w_load 0 H) ; rfl; rfl; rfl) | ((with_reducible apply w_loadsF 0 H) ; rfl; rfl; rfl))
 ·refine w_clr H rfl ⟨?_, rfl⟩
  rw [show g.nodeAt i = g.bitsAt + g.bitsN + i - 1 from if_pos (by assumption)]
 ·refine w_clr H rfl ⟨?_, rfl⟩
  rw [show g.nodeAt i = 0 from if_neg (by assumption)]
 ·exact absurd x ‹_›
def CLost (R : RnK) : Prop := ∀ (g : Geo) (h : Hs), g.Ok → R 44 [g.v] h = some (.val (.tuple #[.int .i64 (.ofNat g.lostAt), .int .i64 (.ofNat g.n)]) h)
theorem lost_ok {R : RnK} {N : Nat} (cg : CGood R) (cn : CNode R) {g : Geo} {h : Hs} (x : g.Ok) : r44 R N [g.v] h = some (.val (.tuple #[.int .i64 (.ofNat g.lostAt), .int .i64 (.ofNat g.n)]) h) := by
 refine WP.eqn ?_
 unfold r44 Geo.v
 have H := Sto.enter h
 have h1 := x.1.num
 have h2 := x.1.n1
 have h3 := x.1.n2
 have e : g.nodeAt g.n = g.bitsAt + g.bitsN + g.n - 1 := if_pos (by omega)
 repeat' (first | ((refine w_callB (cg g _) (fun _ => ?_) (fun _ => ?_)) <;> first | (exfalso; omega) | skip) | (refine w_callE (cn g _ _ x (by omega)) ?_) | (with_reducible refine w_jn ?_) | (with_reducible refine w_cndT ?_) | (with_reducible refine w_cndF ?_) | (with_reducible refine w_notT ?_) | (with_reducible refine w_notF ?_) | (with_reducible refine w_unC ?_) | (with_reducible refine w_enK ?_) | (with_reducible refine w_fieldA ?_) | (with_reducible refine w_light0 ?_) | ((with_reducible refine w_boxA H ?_) ; (clear H; intro u H hu)) | ((with_reducible refine w_add_NN ?_ ?_) ; omega) | ((with_reducible apply w_load 0 H) ; rfl; rfl; rfl) | ((with_reducible apply w_loadsF 0 H) ; rfl; rfl; rfl) | ((with_reducible apply w_loadD 0 H) ; rfl; rfl; (intro _; simp only [HidOk, and_true]; omega)))
 ·refine w_clr H rfl ⟨?_, rfl⟩
  rw [e, show g.bitsAt + g.bitsN + g.n - 1 + 1 = g.lostAt from by unfold Geo.lostAt; omega]
 ·exact absurd x ‹_›
def Wc (l : List Nat) : List Value := l.map fun n => Value.int .u64 (.ofNat n)
theorem Wl_ones (l : List Nat) : Wl l = ones (Wc l) := by unfold Wl ones Wc; rw [List.map_map]; rfl
theorem Wl_len (l : List Nat) : (Wl l).length = l.length := List.length_map _
theorem Wl_get {l : List Nat} {i : Nat} (hi : i < l.length) : (Wl l)[i]? = some [Value.int .u64 (.ofNat l[i])] := by
 unfold Wl; rw [List.getElem?_map, List.getElem?_eq_getElem hi]; rfl
def CEqW (R : RnK) : Prop := ∀ (a b : List Nat) (v w : Value) (h : Hs), a.length < 100000 → Rd h v 1 (Wl a) → Rd h w 1 (Wl b) → R 64 [v, w] h = some (.val (.bool (decide (a = b))) h)
theorem eqW_ok {R : RnK} {N : Nat} {a b : List Nat} {v w : Value} {h : Hs} (hN : 100000 < N) (ha : a.length < 100000) (r1 : Rd h v 1 (Wl a)) (r2 : Rd h w 1 (Wl b)) : r64 R N [v, w] h = some (.val (.bool (decide (a = b))) h) := by
 refine WP.eqn ?_
 unfold r64
 have H := Sto.enter2 r1 r2
 have l1 := Wl_len a
 have l2 := Wl_len b
 repeat' (first | (with_reducible refine w_jn ?_) | (with_reducible refine w_cndT ?_) | (with_reducible refine w_cndF ?_) | (with_reducible refine w_unC ?_) | (with_reducible refine w_enK ?_) | ((with_reducible refine w_neq_NN (fun _ => ?_) (fun _ => ?_)) <;> first | (exfalso; omega) | skip) | ((with_reducible apply w_lenR 0 H) ; rfl) | ((with_reducible apply w_lenR 1 H) ; rfl))
 ·refine lp_ind (Good := fun n (self : L5) => ∀ (i : Nat) (x1 x2 x3 x4 : Value), i + n = a.length → (∀ j, j < i → a[j]? = b[j]?) → WP (self (.int .i64 (.ofNat i)) x1 x2 x3 x4 ⟨h.hp, h.nx, h.nx⟩) (fun v' h' => v' = .bool (decide (a = b)) ∧ h' = h)) (fun n self ih i x1 x2 x3 x4 hi hq => ?_) N a.length (by omega) 0 _ _ _ _ (by omega) (fun j hj => by omega)
  repeat' (first | (with_reducible refine w_jn ?_) | (with_reducible refine w_cndT ?_) | (with_reducible refine w_cndF ?_) | ((with_reducible refine w_lss_NN (fun _ => ?_) (fun _ => ?_)) <;> first | (exfalso; omega) | skip))
  ·have ia : i < a.length := by omega
   have ib : i < b.length := by omega
   refine w_at1 0 H rfl (Wl_get ia) rfl rfl ?_
   refine w_at1 1 H rfl (Wl_get ib) rfl rfl ?_
   repeat' (first | (with_reducible refine w_jn ?_) | (with_reducible refine w_cndT ?_) | (with_reducible refine w_cndF ?_) | ((with_reducible refine w_uneq (fun _ => ?_) (fun _ => ?_)) <;> first | (exfalso; omega) | skip) | ((with_reducible refine w_add_NN ?_ ?_) ; omega))
   ·refine ih (n - 1) (by omega) (i + 1) _ _ _ _ (by omega) fun j hj => ?_
    by_cases e : j = i
    ·subst e; rw [List.getElem?_eq_getElem ia, List.getElem?_eq_getElem ib]; congr 1
    ·exact hq j (by omega)
   ·exact w_clrB H (by simp; intro e; subst e; exact absurd rfl ‹_›)
  ·exact w_clrB H (by simp; exact List.ext_getElem? fun j => if hj : j < i then hq j hj else by rw [List.getElem?_eq_none (by omega), List.getElem?_eq_none (by omega)])
 ·exact w_clrB H (by simp; intro e; subst e; omega)
def headW (g : Geo) (ph : Nat) : List Nat := [5497010944029229057, g.b, g.n, g.c, g.k, 0, ph, sealOf [5497010944029229057, g.b, g.n, g.c, g.k, 0]]
theorem sealOn_lt {l : List Nat} : ∀ {s : Nat}, s < 18446744073709551616 → Small l → sealOn s l < 18446744073709551616 := by
 induction l with
 | nil => intro s hs _; exact hs
 | cons x l ih => intro s hs hl; exact ih (xor_lt (rot_lt hs) (hl x List.mem_cons_self)) fun n hn => hl n (List.mem_cons_of_mem _ hn)
theorem sealOf_lt {l : List Nat} (hl : Small l) : sealOf l < 18446744073709551616 := sealOn_lt (by decide) hl
def CSealOf (R : RnK) : Prop := ∀ (l : List Nat) (v : Value) (h : Hs), Small l → l.length < 100000 → Rd h v 1 (Wl l) → R 59 [v] h = some (.val (.int .u64 (.ofNat (sealOf l))) h)
theorem Rd.none (h : Hs) (u : Nat) : Rd h (.slice none 0 0) u [] := ⟨⟨(fun l hl => by cases hl), .inl ⟨_, _, rfl, rfl⟩⟩, fun b hb => by cases hb⟩
def getHead (l : List Nat) : Option (Geo × Nat) := match l with
 | [_, b, n, c, k, _, ph, _] => if (⟨b, n, c, k⟩ : Geo).Ok ∧ l = headW ⟨b, n, c, k⟩ ph then some (⟨b, n, c, k⟩, ph) else none
 | _ => none
theorem Wl_take (l : List Nat) (k : Nat) : (Wl l).take k = Wl (l.take k) := (List.map_take ..).symm
theorem Wl_drop (l : List Nat) (k : Nat) : (Wl l).drop k = Wl (l.drop k) := (List.map_drop ..).symm
theorem Small.take {l : List Nat} (h : Small l) (k : Nat) : Small (l.take k) := fun n hn => h n (List.mem_of_mem_take hn)
theorem Small.drop {l : List Nat} (h : Small l) (k : Nat) : Small (l.drop k) := fun n hn => h n (List.mem_of_mem_drop hn)
def headOf (n : Nat) (l : List Nat) : Option (Geo × Nat) := (getHead l).filter fun p => p.1.b = n
def sized (l : List Nat) : Prop := l.length % 8 = 0 ∧ 64 ≤ l.length / 8 ∧ l.length / 8 ≤ 1024
instance (l : List Nat) : Decidable (sized l) := inferInstanceAs (Decidable (_ ∧ _))
theorem ones_flatten (L : List Value) : (ones L).flatten = L := by
 induction L with
 | nil => rfl
 | cons x L ih => show x :: (ones L).flatten = _; rw [ih]
theorem Wl_flat (l : List Nat) : (Wl l).flatten = Wc l := by rw [Wl_ones, ones_flatten]
theorem Wc_one (l : List Nat) : allOne (Wc l) = true := allOne_of _ fun v hv => by
 unfold Wc at hv
 rw [List.mem_map] at hv
 obtain ⟨n, _, rfl⟩ := hv
 exact ⟨_, _, rfl⟩
theorem Wc_flatL (l : List Nat) : flatL (Wc l) = true := flatL_of _ fun v hv => by
 unfold Wc at hv
 rw [List.mem_map] at hv
 obtain ⟨n, _, rfl⟩ := hv
 exact ⟨_, _, rfl⟩
theorem Wc_len (l : List Nat) : (Wc l).length = l.length := List.length_map _
theorem Wc_set (l : List Nat) (i n : Nat) : (Wc l).set i (.int .u64 (.ofNat n)) = Wc (l.set i n) := by unfold Wc; rw [List.map_set]
theorem Wc_get {l : List Nat} {i : Nat} (hi : i < l.length) : (Wc l)[i]? = some (.int .u64 (.ofNat l[i])) := by
 unfold Wc; rw [List.getElem?_map, List.getElem?_eq_getElem hi]; rfl
abbrev OW (v : Value) (l : List Nat) : Th := .osl v 39 1 true l.length (Wc l)
theorem rd_nil_of {h : Hs} {n c u : Nat} {L : List (List Value)} (r : Rd h (.slice none n c) u L) : L = [] ∧ n = 0 := by
 rcases r.1.2 with ⟨a, c, e, q⟩ | ⟨id, o, c, cs, sz, e, u', rw_, f, q, _⟩
 ·injection e with _ e2
  exact ⟨q, e2⟩
 ·injection q with q; cases q
def CCloneW (R : RnK) : Prop := ∀ (l : List Nat) (v : Value) (h : Hs), l.length < 100000 → Rd h v 1 (Wl l) → WP (R 19 [v] h) fun v' h' => New h h' (OW v' l)
theorem cloneW_ok {R : RnK} {N : Nat} {l : List Nat} {v : Value} {h : Hs} (hb : l.length < 100000) (r : Rd h v 1 (Wl l)) : WP (r19 R N [v] h) fun v' h' => New h h' (OW v' l) := by
 unfold r19
 have H := Sto.enter1 r
 obtain ⟨a, c, rfl⟩ := r.1.form
 have e := Wl_len l
 cases a with
 | none =>
  have hl : l = [] := by have := (rd_nil_of r).1; unfold Wl at this; exact List.map_eq_nil_iff.1 this
  subst hl
  refine w_unC ?_
  refine w_enK ?_
  refine w_ob rfl ?_
  repeat' (first | (with_reducible refine w_jn ?_) | (with_reducible refine w_cndT ?_))
  exact w_clr H rfl ⟨Same.refl h, ⟨rfl, .inl ⟨rfl, rfl⟩⟩, fun b hb => by cases hb⟩
 | some a =>
  refine w_unC ?_
  refine w_enK ?_
  refine w_ob rfl ?_
  repeat' (first | (with_reducible refine w_jn ?_) | (with_reducible refine w_cndF ?_) | ((with_reducible apply w_mkrow H) ; rfl; (clear H; intro u H hu; (try dsimp only [List.set_cons_zero, List.set_cons_succ, cellsL, List.toList_toArray, splice, ev, rep, List.cons_append, List.nil_append] at H))))
  have H2 := H.osl 0 rfl (n := 0) (c := 0) rfl (Nat.le_refl _)
  refine w_append 0 1 H2 rfl rfl (by omega) (by rw [Wl_flat]; exact Wc_one l) (by omega) fun v' h' H3 hn => ?_
  rw [Wl_flat, e, Wc_flatL] at H3
  skip
  have e0 : 0 + l.length = l.length := Nat.zero_add _
  rw [e0] at H3
  exact w_clrO 0 H3 rfl fun v' h' n => n
def clrBit (w k : Nat) : Nat := w &&& (18446744073709551615 - 2 ^ k)
def putBit (w k : Nat) (yes : Bool) : Nat := if yes then clrBit w k ||| 2 ^ k else clrBit w k
def setBit (l : List Nat) (yes : Bool) (i : Int) : List Nat := if 0 ≤ i ∧ i.toNat / 64 < l.length then l.set (i.toNat / 64) (putBit (l.getD (i.toNat / 64) 0) (i.toNat % 64) yes) else l
theorem setBit_len (l : List Nat) (yes : Bool) (i : Int) : (setBit l yes i).length = l.length := by
 unfold setBit; split
 ·rw [List.length_set]
 ·rfl
theorem pow_le63 {k : Nat} (hk : k < 64) : 2 ^ k ≤ 9223372036854775808 := by
 have := Nat.pow_le_pow_right (show 0 < 2 by omega) (show k ≤ 63 by omega)
 simpa using this
theorem clrBit_lt {w k : Nat} (hw : w < 18446744073709551616) : clrBit w k < 18446744073709551616 := Nat.lt_of_le_of_lt Nat.and_le_left hw
theorem or_lt {a b : Nat} (ha : a < 18446744073709551616) (hb : b < 18446744073709551616) : a ||| b < 18446744073709551616 := by
 have : (18446744073709551616 : Nat) = 2 ^ 64 := by decide
 rw [this] at *
 exact Nat.or_lt_two_pow ha hb
theorem putBit_lt {w k : Nat} {yes : Bool} (hw : w < 18446744073709551616) (hk : k < 64) : putBit w k yes < 18446744073709551616 := by
 have := pow_le63 hk
 unfold putBit; split
 ·exact or_lt (clrBit_lt hw) (by omega)
 ·exact clrBit_lt hw
theorem Small.set {l : List Nat} (h : Small l) (i n : Nat) (hn : n < 18446744073709551616) : Small (l.set i n) := fun x hx => by
 rcases List.mem_or_eq_of_mem_set hx with h1 | h1
 ·exact h x h1
 ·omega
theorem Small.getD {l : List Nat} (h : Small l) (i : Nat) : l.getD i 0 < 18446744073709551616 := by
 rw [List.getD_eq_getElem?_getD]
 cases e : l[i]? with
 | none => simp
 | some x => exact h x (List.mem_of_getElem? e)
theorem setBit_small {l : List Nat} (h : Small l) (yes : Bool) (i : Int) : Small (setBit l yes i) := by
 unfold setBit; split
 ·exact h.set _ _ (putBit_lt (h.getD _) (Nat.mod_lt _ (by omega)))
 ·exact h
structure Nd where
 ty : Nat
 ln : Nat
 sz : Nat
 rs : List (Nat × Nat)
def rv (r : Nat × Nat) : List Value := [.int .i64 (.ofNat r.1), .int .i64 (.ofNat r.2)]
def Rl (l : List (Nat × Nat)) : List (List Value) := l.map rv
theorem Rl_len (l : List (Nat × Nat)) : (Rl l).length = l.length := List.length_map _
theorem Rl_get {l : List (Nat × Nat)} {i : Nat} (hi : i < l.length) : (Rl l)[i]? = some [.int .i64 (.ofNat l[i].1), .int .i64 (.ofNat l[i].2)] := by
 unfold Rl; rw [List.getElem?_map, List.getElem?_eq_getElem hi]; rfl
def Nd.v (d : Nd) (a : Option Addr) (c : Nat) : Value := .agg #[.int .i64 (.ofNat d.ty), .int .i64 (.ofNat d.ln), .int .i64 (.ofNat d.sz), .slice a d.rs.length c]
def CNin (R : RnK) : Prop := ∀ (a b c : Int) (h : Hs), R 54 [.int .i64 a, .int .i64 b, .int .i64 c] h = some (.val (.bool (decide (b ≤ a ∧ a ≤ c))) h)
theorem nin_ok {R : RnK} {N : Nat} {a b c : Int} {h : Hs} : r54 R N [.int .i64 a, .int .i64 b, .int .i64 c] h = some (.val (.bool (decide (b ≤ a ∧ a ≤ c))) h) := by
 refine WP.eqn ?_
 unfold r54
 have H := Sto.enter h
 repeat' (first | (with_reducible refine w_gTt ?_) | (with_reducible refine w_gTf ?_) | (with_reducible refine w_pickT ?_) | (with_reducible refine w_pickF ?_) | (with_reducible refine w_unC ?_) | (with_reducible refine w_enK ?_) | ((with_reducible refine w_leq_II (fun _ => ?_) (fun _ => ?_)) <;> first | (exfalso; omega) | skip) | ((with_reducible refine w_geq_II (fun _ => ?_) (fun _ => ?_)) <;> first | (exfalso; omega) | skip))
 all_goals exact w_clrB H (by simp; omega)
theorem CNin.nat {R : RnK} (c : CNin R) (x y z : Nat) (h : Hs) : R 54 [.int .i64 (.ofNat x), .int .i64 (.ofNat y), .int .i64 (.ofNat z)] h = some (.val (.bool (decide (y ≤ x ∧ x ≤ z))) h) := by
 rw [c]
 congr 3
 simp
def Nd.free (d : Nd) : Prop := d.ty = 0 ∧ d.ln = 0 ∧ d.sz = 0 ∧ d.rs = []
instance (d : Nd) : Decidable d.free := inferInstanceAs (Decidable (_ ∧ _ ∧ _ ∧ _))
def CFree (R : RnK) : Prop := ∀ (d : Nd) (a : Option Addr) (c : Nat) (h : Hs), d.rs.length < 100000 → R 53 [d.v a c] h = some (.val (.bool (decide d.free)) h)
theorem free_ok {R : RnK} {N : Nat} {d : Nd} {a : Option Addr} {c : Nat} {h : Hs} : r53 R N [d.v a c] h = some (.val (.bool (decide d.free)) h) := by
 refine WP.eqn ?_
 unfold r53 Nd.v
 have H := Sto.enter h
 repeat' (first | (with_reducible refine w_gTt ?_) | (with_reducible refine w_gTf ?_) | (with_reducible refine w_pickT ?_) | (with_reducible refine w_pickF ?_) | (with_reducible refine w_unC ?_) | (with_reducible refine w_enK ?_) | (with_reducible refine w_fieldA ?_) | (with_reducible refine w_lenV ?_) | ((with_reducible refine w_boxA H ?_) ; (clear H; intro u H hu)) | ((with_reducible refine w_eql_NN (fun _ => ?_) (fun _ => ?_)) <;> first | (exfalso; omega) | skip) | ((with_reducible apply w_load 0 H) ; rfl; rfl; rfl))
 all_goals exact w_clrB H (by unfold Nd.free; rw [← List.length_eq_zero_iff]; exact ⟨fun q => by first | exact absurd q (by decide) | omega, fun q => by first | rfl | (exfalso; omega)⟩)
def runFits (r : Nat × Nat) : Bool := decide (r.1 ≤ 2147483648 ∧ 1 ≤ r.2 ∧ r.2 ≤ 2147483648)
def CFits1 (R : RnK) : Prop := ∀ (r : Nat × Nat) (h : Hs), R 74 [.agg (rv r).toArray] h = some (.val (.bool (!runFits r)) h)
theorem fits1_ok {R : RnK} {N : Nat} (ci : CNin R) {r : Nat × Nat} {h : Hs} : r74 R N [.agg (rv r).toArray] h = some (.val (.bool (!runFits r)) h) := by
 refine WP.eqn ?_
 unfold r74 rv runFits
 have H := Sto.enter h
 repeat' (first | ((refine w_callB (ci.nat _ _ _ _) (fun _ => ?_) (fun _ => ?_)) <;> first | (exfalso; omega) | skip) | (with_reducible refine w_gFt ?_) | (with_reducible refine w_gFf ?_) | (with_reducible refine w_pickT ?_) | (with_reducible refine w_pickF ?_) | (with_reducible refine w_notT ?_) | (with_reducible refine w_notF ?_) | (with_reducible refine w_unC ?_) | (with_reducible refine w_enK ?_) | (with_reducible refine w_fieldA ?_) | ((with_reducible refine w_boxA H ?_) ; (clear H; intro u H hu)) | ((with_reducible apply w_load 0 H) ; rfl; rfl; rfl))
 all_goals (refine w_clr H rfl ⟨?_, rfl⟩; congr 1; symm; simp; omega)
def CIdxR (R R0 : RnK) : Prop := ∀ (g : FuncId) (p : Nat × Nat → Bool) (l : List (Nat × Nat)) (v : Value) (h : Hs), l.length < 100000 → (∀ r ∈ l, ∀ u : Hs, R0 g [.agg (rv r).toArray] u = some (.val (.bool (p r)) u)) → Rd h v 2 (Rl l) →
 R 86 [v, .func (.func g) #[] #[]] h = some (.val (.int .i64 (match l.findIdx? p with | some i => (i : Int) | none => -1)) h)
theorem idxR_ok {R : RnK} {N : Nat} {g : FuncId} {p : Nat × Nat → Bool} {l : List (Nat × Nat)} {v : Value} {h : Hs} (hN : 100000 < N) (hl : l.length < 100000) (hp : ∀ r ∈ l, ∀ u : Hs, R g [.agg (rv r).toArray] u = some (.val (.bool (p r)) u)) (r : Rd h v 2 (Rl l)) :
 r86 R N [v, .func (.func g) #[] #[]] h = some (.val (.int .i64 (match l.findIdx? p with | some i => (i : Int) | none => -1)) h) := by
 refine WP.eqn ?_
 unfold r86
 have H := Sto.enter1 r
 have e := Rl_len l
 repeat' (first | (with_reducible refine w_jn ?_) | (with_reducible refine w_unC ?_) | (with_reducible refine w_enK ?_) | ((with_reducible apply w_lenR 0 H) ; rfl))
 refine lp_ind (Good := fun n (self : L5) => ∀ (i : Nat) (x1 x2 x3 x4 : Value), i + n = l.length → (∀ j (hj : j < l.length), j < i → p l[j] = false) → WP (self (.int .i64 (.ofNat i)) x1 x2 x3 x4 ⟨h.hp, h.nx, h.nx⟩) (fun v' h' => v' = .int .i64 (match l.findIdx? p with | some i => (i : Int) | none => -1) ∧ h' = h)) (fun n self ih i x1 x2 x3 x4 hi hq => ?_) N l.length (by omega) 0 _ _ _ _ (by omega) (fun j hj hj2 => by omega)
 repeat' (first | (with_reducible refine w_jn ?_) | (with_reducible refine w_cndT ?_) | (with_reducible refine w_cndF ?_) | ((with_reducible refine w_lss_NN (fun _ => ?_) (fun _ => ?_)) <;> first | (exfalso; omega) | skip))
 ·have ii : i < l.length := by omega
  refine w_at 0 H rfl (Rl_get ii) rfl rfl ?_
  refine w_callV (cap := []) ?_
  refine w_callE (hp l[i] (List.getElem_mem ii) _) ?_
  cases q : p l[i] with
  | true =>
   repeat' (first | (with_reducible refine w_jn ?_) | (with_reducible refine w_cndT ?_))
   refine w_clr H rfl ⟨?_, rfl⟩
   have : l.findIdx? p = some i := by
    rw [List.findIdx?_eq_some_iff_getElem]
    exact ⟨ii, q, fun j hj => by simpa using hq j (by omega) hj⟩
   rw [this]; rfl
  | false =>
   repeat' (first | (with_reducible refine w_jn ?_) | (with_reducible refine w_cndF ?_) | ((with_reducible refine w_add_NN ?_ ?_) ; omega))
   refine ih (n - 1) (by omega) (i + 1) _ _ _ _ (by omega) fun j hj hj2 => ?_
   by_cases e : j = i
   ·subst e; exact q
   ·exact hq j hj (by omega)
 ·refine w_clr H rfl ⟨?_, rfl⟩
  have : l.findIdx? p = none := by
   rw [List.findIdx?_eq_none_iff]
   intro x hx
   obtain ⟨j, hj, rfl⟩ := List.getElem_of_mem hx
   exact hq j hj (by omega)
  rw [this]; rfl
theorem containsR_ok {R R0 : RnK} {N : Nat} {g : FuncId} {p : Nat × Nat → Bool} {l : List (Nat × Nat)} {v : Value} {h : Hs} (ci : CIdxR R R0) (hl : l.length < 100000) (hp : ∀ r ∈ l, ∀ u : Hs, R0 g [.agg (rv r).toArray] u = some (.val (.bool (p r)) u)) (r : Rd h v 2 (Rl l)) :
 r73 R N [v, .func (.func g) #[] #[]] h = some (.val (.bool (l.any p)) h) := by
 refine WP.eqn ?_
 unfold r73
 have H := Sto.enter1 r
 refine w_unC ?_
 refine w_unC ?_
 refine w_enK ?_
 refine w_callE (ci g p l v _ hl hp r) ?_
 cases q : l.findIdx? p with
 | some i =>
  dsimp only
  rw [show (Value.int .i64 (i : Int)) = .int .i64 (.ofNat i) from rfl]
  repeat' (first | ((with_reducible refine w_geq_NN (fun _ => ?_) (fun _ => ?_)) <;> first | (exfalso; omega) | skip))
  refine w_clr H rfl ⟨?_, rfl⟩
  congr 1; symm
  rw [List.findIdx?_eq_some_iff_getElem] at q
  obtain ⟨ii, q1, _⟩ := q
  exact List.any_eq_true.2 ⟨_, List.getElem_mem ii, q1⟩
 | none =>
  dsimp only
  repeat' (first | ((with_reducible refine w_geq_IN (fun _ => ?_) (fun _ => ?_)) <;> first | (exfalso; omega) | skip))
  refine w_clr H rfl ⟨?_, rfl⟩
  congr 1; symm
  rw [List.findIdx?_eq_none_iff] at q
  rw [Bool.eq_false_iff]
  intro hx
  obtain ⟨x, hx1, hx2⟩ := List.any_eq_true.1 hx
  rw [q x hx1] at hx2; cases hx2
def CContR (R R0 : RnK) : Prop := ∀ (g : FuncId) (p : Nat × Nat → Bool) (l : List (Nat × Nat)) (v : Value) (h : Hs), l.length < 100000 → (∀ r ∈ l, ∀ u : Hs, R0 g [.agg (rv r).toArray] u = some (.val (.bool (p r)) u)) → Rd h v 2 (Rl l) →
 R 73 [v, .func (.func g) #[] #[]] h = some (.val (.bool (l.any p)) h)
def Nd.fits (d : Nd) : Prop := if d.ty = 0 then d.free else d.ty ≤ 3 ∧ d.ln ≤ 16777215 ∧ d.sz ≤ 1099511627776 ∧ d.rs.length ≤ 4 ∧ d.rs.all runFits = true
instance (d : Nd) : Decidable d.fits := inferInstanceAs (Decidable (if d.ty = 0 then d.free else _))
def CFitsN (R : RnK) : Prop := ∀ (d : Nd) (a : Option Addr) (c : Nat) (h : Hs), d.rs.length < 100000 → Rd h (.slice a d.rs.length c) 2 (Rl d.rs) → R 58 [d.v a c] h = some (.val (.bool (decide d.fits)) h)
theorem fitsN_ok {R R0 : RnK} {N : Nat} (ci : CNin R) (cf : CFree R) (cc : CContR R R0) (c1 : CFits1 R0) {d : Nd} {a : Option Addr} {c : Nat} {h : Hs} (hl : d.rs.length < 100000) (r : Rd h (.slice a d.rs.length c) 2 (Rl d.rs)) : r58 R N [d.v a c] h = some (.val (.bool (decide d.fits)) h) := by
 refine WP.eqn ?_
 have anyAll : d.rs.any (fun r => !runFits r) = !d.rs.all runFits := by rw [List.all_eq_not_any_not, Bool.not_not]
 have cfh := cf d a c
 unfold r58 Nd.v
 unfold Nd.v at cfh
 have H := Sto.enter1 r
 have zf : ¬ d.ty = 0 → (d.fits ↔ d.ty ≤ 3 ∧ d.ln ≤ 16777215 ∧ d.sz ≤ 1099511627776 ∧ d.rs.length ≤ 4 ∧ d.rs.all runFits = true) := fun q => by unfold Nd.fits; rw [if_neg q]
 repeat' (first | ((refine w_callB (ci.nat _ _ _ _) (fun _ => ?_) (fun _ => ?_)) <;> first | (exfalso; omega) | skip) | (with_reducible refine w_jn ?_) | (with_reducible refine w_cndT ?_) | (with_reducible refine w_cndF ?_) | (with_reducible refine w_gFt ?_) | (with_reducible refine w_gFf ?_) | (with_reducible refine w_pickT ?_) | (with_reducible refine w_pickF ?_) | (with_reducible refine w_notT ?_) | (with_reducible refine w_notF ?_) | (with_reducible refine w_unC ?_) | (with_reducible refine w_enK ?_) | (with_reducible refine w_fieldA ?_) | (with_reducible refine w_lenV ?_) | ((with_reducible refine w_boxA H ?_) ; (clear H; intro u H hu)) | ((with_reducible refine w_gtr_NN (fun _ => ?_) (fun _ => ?_)) <;> first | (exfalso; omega) | skip) | ((with_reducible refine w_eql_NN (fun _ => ?_) (fun _ => ?_)) <;> first | (exfalso; omega) | skip) | ((with_reducible apply w_load 0 H) ; rfl; rfl; rfl) | ((with_reducible apply w_loadsF 0 H) ; rfl; rfl; rfl))
 ·rw [show decide d.fits = decide d.free from by congr 1; unfold Nd.fits; rw [if_pos (by assumption)]]
  refine w_callE (cfh _ hl) ?_
  exact w_clr H rfl ⟨rfl, rfl⟩
 all_goals first
  | exact w_clrB H (by rw [zf (by omega)]; exact ⟨fun q => absurd q (by decide), fun q => by exfalso; omega⟩)
  | (refine w_callE (cc _ (fun r => !runFits r) d.rs _ _ hl (fun r _ u => c1 r u) (H.rd 1 rfl)) ?_
     rw [anyAll]
     refine w_not ?_
     rw [Bool.not_not]
     refine w_clrB H ?_
     rw [zf (by omega)]
     exact ⟨fun q => ⟨by omega, by omega, by omega, by omega, q⟩, fun q => q.2.2.2.2⟩)
def runW (r : Nat × Nat) : Nat := r.1 ||| (r.2 * 4294967296 % 18446744073709551616)
def Nd.head (d : Nd) : List Nat := [d.ty ||| (d.ln * 256 % 18446744073709551616), d.sz]
def Nd.body (d : Nd) : List Nat := d.head ++ d.rs.map runW ++ List.replicate (5 - d.rs.length) 0
def nodeW (d : Nd) : List Nat := if d.ty = 0 then List.replicate 8 0 else d.body ++ [sealOf d.body]
theorem runFits_of {r : Nat × Nat} (h : runFits r = true) : r.1 ≤ 2147483648 ∧ 1 ≤ r.2 ∧ r.2 ≤ 2147483648 := by simpa [runFits] using h
theorem runW_lt {r : Nat × Nat} (h : runFits r = true) : runW r < 18446744073709551616 := by
 have := runFits_of h
 exact or_lt (by omega) (Nat.mod_lt _ (by omega))
theorem body_len {d : Nd} (h : d.rs.length ≤ 4) : d.body.length = 7 := by
 unfold Nd.body Nd.head
 simp only [List.length_append, List.length_cons, List.length_nil, List.length_map, List.length_replicate]
 omega
theorem body_small {d : Nd} (h0 : d.ty ≤ 3) (h1 : d.sz ≤ 1099511627776) (h2 : d.rs.all runFits = true) : Small d.body := by
 intro n hn
 unfold Nd.body Nd.head at hn
 simp only [List.mem_append, List.mem_cons, List.not_mem_nil, or_false, List.mem_map, List.mem_replicate] at hn
 rcases hn with ((rfl | rfl) | ⟨r, hr, rfl⟩) | ⟨_, rfl⟩
 ·exact or_lt (by omega) (Nat.mod_lt _ (by omega))
 ·omega
 ·exact runW_lt (List.all_eq_true.1 h2 r hr)
 ·omega
def CNodePut (R : RnK) : Prop := ∀ (d : Nd) (a : Option Addr) (c : Nat) (h : Hs), d.rs.length < 100000 → Rd h (.slice a d.rs.length c) 2 (Rl d.rs) → (d.fits → WP (R 26 [d.v a c] h) fun v h' => New h h' (.osl v 39 1 true 8 (Wc (nodeW d)))) ∧ (¬ d.fits → R 26 [d.v a c] h = some (.val (.slice none 0 0) h))
theorem nodePut_no {R : RnK} {N : Nat} (cf : CFitsN R) {d : Nd} {a : Option Addr} {c : Nat} {h : Hs} (hl : d.rs.length < 100000) (r : Rd h (.slice a d.rs.length c) 2 (Rl d.rs)) (hx : ¬ d.fits) : r26 R N [d.v a c] h = some (.val (.slice none 0 0) h) := by
 refine WP.eqn ?_
 have cfh := fun u => cf d a c u hl
 unfold r26 Nd.v
 unfold Nd.v at cfh
 have H := Sto.enter1 r
 repeat' (first | (with_reducible refine w_unC ?_) | (with_reducible refine w_enK ?_) | ((with_reducible refine w_boxA H ?_) ; (clear H; intro u H hu)) | ((with_reducible apply w_loadsF 0 H) ; rfl; rfl; rfl))
 refine w_callB (cfh _ (H.rd 1 rfl)) (fun q => absurd q hx) fun _ => ?_
 repeat' (first | (with_reducible refine w_jn ?_) | (with_reducible refine w_cndT ?_) | (with_reducible refine w_notF ?_))
 exact w_clr H rfl ⟨rfl, rfl⟩
def Nd.part (d : Nd) (i : Nat) : List Nat := d.head ++ (d.rs.take i).map runW ++ List.replicate (6 - i) 0
theorem part_len {d : Nd} {i : Nat} (h : d.rs.length ≤ 4) (hi : i ≤ d.rs.length) : (d.part i).length = 8 := by
 unfold Nd.part Nd.head
 simp only [List.length_append, List.length_cons, List.length_nil, List.length_map, List.length_replicate, List.length_take]
 omega
theorem part_set {d : Nd} {i : Nat} (h : d.rs.length ≤ 4) (hi : i < d.rs.length) : (d.part i).set (2 + i) (runW d.rs[i]) = d.part (i + 1) := by
 unfold Nd.part
 have l1 : (d.head ++ (d.rs.take i).map runW).length = 2 + i := by
  unfold Nd.head
  simp only [List.length_append, List.length_cons, List.length_nil, List.length_map, List.length_take]; omega
 rw [List.set_append_right _ _ (by omega), l1, Nat.sub_self, show 6 - i = (6 - (i + 1)) + 1 from by omega, List.replicate_succ, List.set_cons_zero, List.take_add_one, List.getElem?_eq_getElem hi, List.map_append]
 simp only [Option.toList_some, List.map_cons, List.map_nil, List.append_assoc, List.singleton_append]
theorem part_end {d : Nd} (h : d.rs.length ≤ 4) : (d.part d.rs.length).take 7 = d.body ∧ (d.part d.rs.length).set 7 (sealOf d.body) = d.body ++ [sealOf d.body] := by
 have e : d.part d.rs.length = d.body ++ [0] := by
  unfold Nd.part Nd.body
  rw [List.take_length, show 6 - d.rs.length = 5 - d.rs.length + 1 from by omega, List.replicate_succ', ← List.append_assoc]
 have l := body_len h
 rw [e]
 refine ⟨by rw [List.take_append_of_le_length (by omega), List.take_of_length_le (by omega)], ?_⟩
 rw [List.set_append_right _ _ (by omega), l]; rfl
theorem Wl_ones2 (l : List Nat) (n : Nat) : ones ((Wc l).take n) = Wl (l.take n) := by
 rw [Wl_ones]; unfold Wc; rw [List.map_take]
theorem nodePut_ok {R : RnK} {N : Nat} (cf : CFitsN R) (cs : CSealOf R) {d : Nd} {a : Option Addr} {c : Nat} {h : Hs} (hN : 100 < N) (hl : d.rs.length < 100000) (r : Rd h (.slice a d.rs.length c) 2 (Rl d.rs)) (hx : d.fits) : WP (r26 R N [d.v a c] h) fun v h' => New h h' (.osl v 39 1 true 8 (Wc (nodeW d))) := by
 have cfh := fun u => cf d a c u hl
 unfold r26 Nd.v
 unfold Nd.v at cfh
 have H := Sto.enter1 r
 repeat' (first | (with_reducible refine w_unC ?_) | (with_reducible refine w_enK ?_) | ((with_reducible refine w_boxA H ?_) ; (clear H; intro u H hu)) | ((with_reducible apply w_loadsF 0 H) ; rfl; rfl; rfl))
 refine w_callB (cfh _ (H.rd 1 rfl)) (fun _ => ?_) fun q => absurd hx q
 unfold Nd.fits at hx
 by_cases z : d.ty = 0
 ·repeat' (first | (with_reducible refine w_jn ?_) | (with_reducible refine w_cndT ?_) | (with_reducible refine w_cndF ?_) | (with_reducible refine w_notT ?_) | (with_reducible refine w_fieldA ?_) | ((with_reducible refine w_mkslice H ?_ ?_ ?_) ; omega; rfl; (clear H; intro u H hu)) | ((with_reducible refine w_eql_NN (fun _ => ?_) (fun _ => ?_)) <;> first | (exfalso; omega) | skip) | ((with_reducible apply w_load 1 H) ; rfl; rfl; rfl))
  have e : nodeW d = List.replicate 8 0 := if_pos z
  rw [e]
  rw [show rep [Value.int .u64 (.ofNat 0)] 8 = Wc (List.replicate 8 0) from rfl] at H
  have H2 := H.osl 0 rfl (n := 8) (c := 8) rfl (Nat.le_refl _)
  exact w_clrO 0 H2 rfl fun v' h' n => n
 ·rw [if_neg z] at hx
  obtain ⟨x1, x2, x3, x4, x5⟩ := hx
  repeat' (first | (with_reducible refine w_jn ?_) | (with_reducible refine w_cndF ?_) | (with_reducible refine w_notT ?_) | (with_reducible refine w_fieldA ?_) | ((with_reducible refine w_mkslice H ?_ ?_ ?_) ; omega; rfl; (clear H; intro u H hu)) | ((with_reducible refine w_eql_NN (fun _ => ?_) (fun _ => ?_)) <;> first | (exfalso; omega) | skip) | ((with_reducible refine w_toU ?_ ?_) ; omega) | ((with_reducible refine w_shl ?_ ?_) ; omega) | ((with_reducible refine w_uor ?_ ?_ ?_) ; omega; omega) | ((with_reducible apply w_load 1 H) ; rfl; rfl; rfl))
  rw [show rep [Value.int .u64 (.ofNat 0)] 8 = Wc (List.replicate 8 0) from rfl] at H
  replace H := H.osl 0 rfl (n := 8) (c := 8) rfl (Nat.le_refl _)
  dsimp only [List.set_cons_zero] at H
  refine w_storeO 0 H rfl (by rw [Wc_len, List.length_replicate]; omega) rfl fun u1 H1 hu1 => ?_
  rw [Wc_set] at H1
  clear H; have H := H1; clear H1
  dsimp only [List.set_cons_zero] at H
  repeat' (first | (with_reducible refine w_fieldA ?_) | ((with_reducible refine w_toU ?_ ?_) ; omega) | ((with_reducible apply w_load 1 H) ; rfl; rfl; rfl))
  refine w_storeO 0 H rfl (by rw [Wc_len, List.length_set, List.length_replicate]; omega) rfl fun u1 H1 hu1 => ?_
  rw [Wc_set] at H1
  clear H; have H := H1; clear H1
  dsimp only [List.set_cons_zero] at H
  have p0 : ((List.replicate 8 0).set 0 (d.ty ||| d.ln * 2 ^ 8 % 18446744073709551616)).set 1 d.sz = d.part 0 := rfl
  rw [p0] at H
  repeat' (first | (with_reducible refine w_jn ?_) | (with_reducible refine w_fieldA ?_) | (with_reducible refine w_lenV ?_) | ((with_reducible apply w_load 1 H) ; rfl; rfl; rfl))
  obtain ⟨m0, hm0, H0⟩ : ∃ m0, m0 = _ ∧ Sto h [] _ m0 := ⟨_, rfl, H⟩
  clear p0
  refine lp_ind (Good := fun n (self : L4) => ∀ (i : Nat) (y1 y2 y3 : Value) (u : Hs), i + n = d.rs.length → Sto h [] u (m0.set 0 (.osl (.slice (some ⟨_, 0, none⟩) 8 8) 39 1 true 8 (Wc (d.part i)))) → WP (self (.int .i64 (.ofNat i)) y1 y2 y3 u) (fun v h' => New h h' (.osl v 39 1 true 8 (Wc (nodeW d))))) (fun n self ih i y1 y2 y3 u hi H1 => ?_) N d.rs.length (by omega) 0 _ _ _ _ (by omega) (by rw [hm0]; exact H)
  clear H0 H
  have hm1 := hm0
  rw [hm0] at H1
  have H := H1
  dsimp only [List.set_cons_zero] at H
  repeat' (first | (with_reducible refine w_jn ?_) | (with_reducible refine w_cndT ?_) | (with_reducible refine w_cndF ?_) | ((with_reducible refine w_lss_NN (fun _ => ?_) (fun _ => ?_)) <;> first | (exfalso; omega) | skip))
  ·have ii : i < d.rs.length := by omega
   refine w_at 2 H rfl (Rl_get ii) rfl rfl ?_
   have f := runFits_of (List.all_eq_true.1 x5 _ (List.getElem_mem ii))
   repeat' (first | (with_reducible refine w_fieldA ?_) | ((with_reducible refine w_alloc H ?_) ; (clear H; intro u H hu)) | ((with_reducible refine w_add_NN ?_ ?_) ; omega) | ((with_reducible refine w_toU ?_ ?_) ; omega) | ((with_reducible refine w_shl ?_ ?_) ; omega) | ((with_reducible refine w_uor ?_ ?_ ?_) ; omega; omega) | ((with_reducible apply w_load 0 H) ; rfl; rfl; rfl) | ((with_reducible apply w_storeV 0 H) ; rfl; rfl; rfl; omega; rfl; (clear H; intro u H hu; (try dsimp only [List.set_cons_zero, List.set_cons_succ, cellsL, List.toList_toArray, splice, ev, rep, List.cons_append, List.nil_append] at H))))
   refine w_storeO 1 H rfl (by rw [Wc_len, part_len x4 (by omega)]; omega) rfl fun u1 H1 hu1 => ?_
   rw [Wc_set] at H1
   clear H; have H := H1.tail; clear H1
   dsimp only [List.set_cons_zero, List.set_cons_succ] at H
   repeat' (first | ((with_reducible refine w_add_NN ?_ ?_) ; omega))
   refine ih (n - 1) (by omega) (i + 1) _ _ _ _ (by omega) ?_
   rw [hm1, ← part_set x4 ii]
   exact H
  ·have ie : i = d.rs.length := by omega
   subst ie
   obtain ⟨e1, e2⟩ := part_end x4
   refine w_slHB (by omega) ?_
   have rd := H.rdPO (n' := 7) 0 rfl (by omega)
   rw [Wl_ones2, e1] at rd
   refine w_callE (cs d.body _ _ (body_small x1 x3 x5) (by rw [body_len x4]; omega) rd) ?_
   refine w_storeO 0 H rfl (by rw [Wc_len, part_len x4 (by omega)]; omega) rfl fun u1 H1 hu1 => ?_
   rw [Wc_set, e2] at H1
   have e3 : nodeW d = d.body ++ [sealOf d.body] := if_neg z
   rw [e3]
   exact w_clrO 0 H1 rfl fun v' h' n => n
def putW (W : List Nat) (o : Nat) (ws : List Nat) : List Nat := W.take o ++ ws ++ W.drop (o + ws.length)
theorem putW_len {W ws : List Nat} {o : Nat} (h : o + ws.length ≤ W.length) : (putW W o ws).length = W.length := by
 unfold putW
 simp only [List.length_append, List.length_take, List.length_drop]; omega
theorem setL_putW (W ws : List Nat) (o : Nat) : setL (Wc W) o (Wc ws) = Wc (putW W o ws) := by
 unfold setL putW
 rw [Wc_len]
 unfold Wc
 simp only [List.map_append, List.map_take, List.map_drop]
theorem Rl_two (rs : List (Nat × Nat)) : ∀ l ∈ Rl rs, l.length = 2 := fun l hl => by
 unfold Rl at hl
 rw [List.mem_map] at hl
 obtain ⟨r, _, rfl⟩ := hl
 rfl
theorem nodeW_len {d : Nd} (h : d.rs.length ≤ 4) : (nodeW d).length = 8 := by
 unfold nodeW; split
 ·rw [List.length_replicate]
 ·rw [List.length_append, body_len h]; rfl
def imgV (g : Geo) (s : Value) : Value := .agg #[.int .i64 (.ofNat g.b), .int .i64 (.ofNat g.n), .int .i64 (.ofNat g.c), .int .i64 (.ofNat g.k), s]
end Go.Proofs.Ytmolikcajfphlaa.editSlots
