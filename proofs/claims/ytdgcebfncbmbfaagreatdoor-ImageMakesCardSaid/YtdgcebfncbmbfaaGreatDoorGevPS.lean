/- The fast forms of the operations say what the operations say. -/
import Derived.Test.YtdgcebfncbmbfaaGreatDoorGevKC
import Derived.Test.YtdgcebfncbmbfaaGreatDoorGevTr
import Derived.Test.YtdgcebfncbmbfaaGreatDoorGevDraw1
namespace Go.Gev
open Go.RowKit
theorem d_a : ∀ (f g k : Nat), k < f → k < g → pthF f k = pthF g k := by
 intro f
 induction f with
 | zero => intro g k h; omega
 | succ f ih =>
  intro g k h1 h2
  cases g with
  | zero => omega
  | succ g =>
   cases k with
   | zero => rfl
   | succ k =>
    have : k / 2 ≤ k := Nat.div_le_self k 2
    simp only [pthF]
    rw [ih g (Nat.div k 2) (by show k / 2 < f; omega) (by show k / 2 < g; omega)]
theorem W_5 {α : Type} (t : Tr α) : ∀ (f k : Nat), k < f → t.getp (pthF f k) = t.getK k := by
 induction t with
 | e => intro f k _; rw [Tr.getp_e]; rfl
 | n v l r il ir =>
  intro f k hk
  cases f with
  | zero => omega
  | succ f =>
   cases k with
   | zero => rfl
   | succ k =>
    have : k / 2 ≤ k := Nat.div_le_self k 2
    have e : (Tr.n v l r).getK (k + 1) = Bool.rec (motive := fun _ => Option α) (l.getK (Nat.div k 2)) (r.getK (Nat.div k 2)) (Nat.beq (Nat.mod k 2) 0) := rfl
    rw [e]
    simp only [pthF]
    rw [Tr.getp_cons]
    cases Nat.beq (Nat.mod k 2) 0 with
    | true => exact ir f _ (by show k / 2 < f; omega)
    | false => exact il f _ (by show k / 2 < f; omega)
theorem B_o {α : Type} (t : Tr α) (k : Nat) : t.getK k = t.get k := (W_5 t _ k (Nat.lt_succ_self k)).symm
theorem W_i {α : Type} (x : α) (t : Tr α) : ∀ (f k : Nat), k < f → t.setp (some x) (pthF f k) = Tr.setK x t k := by
 induction t with
 | e => intro f k hk; show _ = Tr.setp (some x) (pth k) .e; rw [pth, d_a f _ k hk (Nat.lt_succ_self k)]
 | n v l r il ir =>
  intro f k hk
  cases f with
  | zero => omega
  | succ f =>
   cases k with
   | zero => rfl
   | succ k =>
    have : k / 2 ≤ k := Nat.div_le_self k 2
    have e : Tr.setK x (Tr.n v l r) (k + 1) = Bool.rec (motive := fun _ => Tr α) (.n v (Tr.setK x l (Nat.div k 2)) r) (.n v l (Tr.setK x r (Nat.div k 2))) (Nat.beq (Nat.mod k 2) 0) := rfl
    rw [e]
    simp only [pthF]
    rw [Tr.setp_cons]
    cases Nat.beq (Nat.mod k 2) 0 with
    | true => simp only [if_true]; rw [ir f _ (by show k / 2 < f; omega)]
    | false => simp only [Bool.false_eq_true, if_false]; rw [il f _ (by show k / 2 < f; omega)]
theorem D_a {α : Type} (x : α) (t : Tr α) (k : Nat) : Tr.setK x t k = t.set k (some x) := (W_i x t _ k (Nat.lt_succ_self k)).symm
theorem L_t {v : Value} {F : Bool → An} {o : Out} (h : i_t v F = some o) : ∃ b, v = .bool b ∧ F b = some o := by
 cases v <;> first | exact ⟨_, rfl, h⟩ | cases h
theorem C_c {v : Value} {F : IntKind → Int → An} {o : Out} (h : vInt v F = some o) : ∃ k n, v = .int k n ∧ F k n = some o := by
 cases v <;> first | exact ⟨_, _, rfl, h⟩ | cases h
theorem Y_3 {v : Value} {F : ByteArray → An} {o : Out} (h : vStr v F = some o) : ∃ b, v = .string b ∧ F b = some o := by
 cases v <;> first | exact ⟨_, rfl, h⟩ | cases h
theorem Z_6 {v : Value} {F : Option Addr → An} {o : Out} (h : vPtr v F = some o) : ∃ b, v = .pointer b ∧ F b = some o := by
 cases v <;> first | exact ⟨_, rfl, h⟩ | cases h
theorem J_s {v : Value} {F : Option Addr → Nat → Nat → An} {o : Out} (h : Z_z v F = some o) : ∃ a n c, v = .slice a n c ∧ F a n c = some o := by
 cases v <;> first | exact ⟨_, _, _, rfl, h⟩ | cases h
theorem V_m {v : Value} {F : Array Value → An} {o : Out} (h : vAgg v F = some o) : ∃ b, v = .agg b ∧ F b = some o := by
 cases v <;> first | exact ⟨_, rfl, h⟩ | cases h
theorem V_o {v : Value} {F : Array Value → An} {o : Out} (h : vTup v F = some o) : ∃ b, v = .tuple b ∧ F b = some o := by
 cases v <;> first | exact ⟨_, rfl, h⟩ | cases h
theorem B_m {c : Bool} {a b : An} {o : Out} (h : ifB c a b = some o) : (c = true ∧ a = some o) ∨ (c = false ∧ b = some o) := by
 cases c
 ·exact .inr ⟨rfl, h⟩
 ·exact .inl ⟨rfl, h⟩
theorem A_t {K : Value → An} {x : Option Value} {o : Out} (h : obK K x = some o) : ∃ v, x = some v ∧ K v = some o := by
 cases x with
 | none => cases h
 | some v => exact ⟨v, rfl, h⟩
theorem O_8 {n : Nat} {K : Nat → An} {o : Out} (h : litN n K = some o) : K n = some o := by cases n <;> exact h
theorem C_m {k : IntKind} {n : Nat} {K : Value → An} {o : Out} (h : mkN k n K = some o) : K (.int k (.ofNat n)) = some o := by cases n <;> exact h
theorem D_z {b : Bool} {K : Value → An} {o : Out} (h : mkB b K = some o) : K (.bool b) = some o := by cases b <;> exact h
theorem K_8 {k : IntKind} {a : An} {o : Out} (h : h_f k a = some o) : k = .i64 ∧ a = some o := by cases k <;> first | exact ⟨rfl, h⟩ | cases h
theorem H_7 {k : IntKind} {a : An} {o : Out} (h : c_m k a = some o) : k = .u64 ∧ a = some o := by cases k <;> first | exact ⟨rfl, h⟩ | cases h
theorem M_6 {k : IntKind} {a : An} {o : Out} (h : isU8 k a = some o) : k = .u8 ∧ a = some o := by cases k <;> first | exact ⟨rfl, h⟩ | cases h
theorem T_q {x y : Value} {F : Int → Int → An} {o : Out} (h : two64 x y F = some o) : ∃ a b, x = .int .i64 a ∧ y = .int .i64 b ∧ F a b = some o := by
 obtain ⟨k, a, rfl, h1⟩ := C_c (v := x) h
 obtain ⟨rfl, h2⟩ := K_8 h1
 obtain ⟨k, b, rfl, h3⟩ := C_c (v := y) h2
 obtain ⟨rfl, h4⟩ := K_8 h3
 exact ⟨a, b, rfl, rfl, h4⟩
theorem a_p {x y : Value} {F : Int → Int → An} {o : Out} (h : twoU x y F = some o) : ∃ a b, x = .int .u64 a ∧ y = .int .u64 b ∧ F a b = some o := by
 obtain ⟨k, a, rfl, h1⟩ := C_c (v := x) h
 obtain ⟨rfl, h2⟩ := H_7 h1
 obtain ⟨k, b, rfl, h3⟩ := C_c (v := y) h2
 obtain ⟨rfl, h4⟩ := H_7 h3
 exact ⟨a, b, rfl, rfl, h4⟩
theorem Z_2 {x y : Value} {F : Int → Int → An} {o : Out} (h : two8 x y F = some o) : ∃ a b, x = .int .u8 a ∧ y = .int .u8 b ∧ F a b = some o := by
 obtain ⟨k, a, rfl, h1⟩ := C_c (v := x) h
 obtain ⟨rfl, h2⟩ := M_6 h1
 obtain ⟨k, b, rfl, h3⟩ := C_c (v := y) h2
 obtain ⟨rfl, h4⟩ := M_6 h3
 exact ⟨a, b, rfl, rfl, h4⟩
theorem C_r {a b : Int} {s : An} {F : Nat → Nat → An} {o : Out} (h : nn a b s F = some o) : (∃ m n : Nat, a = .ofNat m ∧ b = .ofNat n ∧ F m n = some o) ∨ s = some o := by
 cases a with
 | negSucc m => exact .inr h
 | ofNat m => cases b with
  | negSucc n => exact .inr h
  | ofNat n => exact .inl ⟨m, n, rfl, rfl, h⟩
def MxOf (k : IntKind) (mx : Nat) : Prop := (∀ m : Nat, inK k (.ofNat m) = Nat.ble m mx) ∧ k.bits ≤ 64 ∧ mx < 2 ^ k.bits
theorem f_d : MxOf .i64 9223372036854775807 := ⟨fun _ => rfl, by decide, by decide⟩
theorem f_f : MxOf .u64 18446744073709551615 := ⟨fun _ => rfl, by decide, by decide⟩
theorem j_1 : MxOf .u8 255 := ⟨fun _ => rfl, by decide, by decide⟩
theorem F_1 {k : IntKind} {mx m : Nat} (h : MxOf k mx) (hm : Nat.ble m mx = true) : C_8 k (.ofNat m) = .ofNat m := by
 unfold C_8
 rw [h.1 m, hm]
theorem G_1 {m n : Nat} (h : n ≤ m) : Int.sub (.ofNat m) (.ofNat n) = .ofNat (Nat.sub m n) := by
 show (m : Int) - (n : Int) = ((m - n : Nat) : Int)
 omega
theorem J_2 (m n : Nat) : eqI (.ofNat m) (.ofNat n) = Nat.beq m n := rfl
theorem J_j (m n : Nat) : leI (.ofNat m) (.ofNat n) = Nat.ble m n := rfl
theorem O_v (m n : Nat) : ltI (.ofNat m) (.ofNat n) = notB (Nat.ble n m) := by unfold ltI; rw [J_j]; cases Nat.ble n m <;> rfl
theorem K_w {k : IntKind} {mx m : Nat} (h : MxOf k mx) (hm : Nat.ble m mx = true) : Nat.mod m (Nat.pow 2 k.bits) = m :=
 Nat.mod_eq_of_lt (Nat.lt_of_le_of_lt (Nat.le_of_ble_eq_true hm) h.2.2)
section
variable {k : IntKind} {mx : Nat} {K : Value → An} {a b : Int} {o : Out}
theorem X_w (hk : MxOf k mx) (h : cAdd k mx K a b = some o) : ∃ v, fAdd k a b = some v ∧ K v = some o := by
 rcases C_r h with ⟨m, n, rfl, rfl, h⟩ | h
 ·rcases B_m h with ⟨hb, h⟩ | ⟨_, h⟩
  ·exact ⟨_, by rw [fAdd]; exact congrArg (fun z => some (Value.int k z)) (F_1 hk hb), C_m h⟩
  ·exact A_t h
 ·exact A_t h
theorem X_p (hk : MxOf k mx) (h : cSub k mx K a b = some o) : ∃ v, fSub k a b = some v ∧ K v = some o := by
 rcases C_r h with ⟨m, n, rfl, rfl, h⟩ | h
 ·rcases B_m h with ⟨hb, h⟩ | ⟨_, h⟩
  ·rcases B_m h with ⟨hc, h⟩ | ⟨_, h⟩
   ·refine ⟨.int k (.ofNat (Nat.sub m n)), ?_, C_m h⟩
    rw [fSub, G_1 (Nat.le_of_ble_eq_true hb), F_1 hk]
    have := Nat.le_of_ble_eq_true hc
    exact Nat.ble_eq_true_of_le (by show m - n ≤ mx; omega)
   ·exact A_t h
  ·exact A_t h
 ·exact A_t h
theorem V_q (hk : MxOf k mx) (h : cMul k mx K a b = some o) : ∃ v, fMul k a b = some v ∧ K v = some o := by
 rcases C_r h with ⟨m, n, rfl, rfl, h⟩ | h
 ·rcases B_m h with ⟨hb, h⟩ | ⟨_, h⟩
  ·exact ⟨_, by rw [fMul]; exact congrArg (fun z => some (Value.int k z)) (F_1 hk hb), C_m h⟩
  ·exact A_t h
 ·exact A_t h
theorem X_j (hk : MxOf k mx) (h : cQuo k mx K a b = some o) : ∃ v, fQuo k a b = some v ∧ K v = some o := by
 rcases C_r h with ⟨m, n, rfl, rfl, h⟩ | h
 ·cases n with
  | zero => cases h
  | succ n =>
   rcases B_m h with ⟨hb, h⟩ | ⟨_, h⟩
   ·refine ⟨.int k (.ofNat (Nat.div m (n + 1))), ?_, C_m h⟩
    have e : eqI (.ofNat (n + 1)) 0 = false := rfl
    rw [fQuo, e]
    exact congrArg (fun z => some (Value.int k z)) (F_1 hk hb)
   ·exact A_t h
 ·exact A_t h
theorem a_g (h : cRem k mx K a b = some o) : ∃ v, fRem k a b = some v ∧ K v = some o := by
 rcases C_r h with ⟨m, n, rfl, rfl, h⟩ | h
 ·cases n with
  | zero => cases h
  | succ n =>
   refine ⟨.int k (.ofNat (Nat.mod m (n + 1))), ?_, C_m h⟩
   have e : eqI (.ofNat (n + 1)) 0 = false := rfl
   rw [fRem, e]
   rfl
 ·exact A_t h
theorem Y_x (h : cEql k mx K a b = some o) : ∃ v, fEql k a b = some v ∧ K v = some o := by
 rcases C_r h with ⟨m, n, rfl, rfl, h⟩ | h
 ·exact ⟨_, rfl, D_z h⟩
 ·exact ⟨_, rfl, D_z h⟩
theorem Z_l (h : cNeq k mx K a b = some o) : ∃ v, fNeq k a b = some v ∧ K v = some o := by
 rcases C_r h with ⟨m, n, rfl, rfl, h⟩ | h
 ·refine ⟨_, rfl, ?_⟩
  rw [J_2]
  rcases B_m h with ⟨hb, h⟩ | ⟨hb, h⟩ <;> (rw [hb]; exact h)
 ·exact ⟨_, rfl, D_z h⟩
theorem X_t (h : cLss k mx K a b = some o) : ∃ v, fLss k a b = some v ∧ K v = some o := by
 rcases C_r h with ⟨m, n, rfl, rfl, h⟩ | h
 ·refine ⟨_, rfl, ?_⟩
  rw [O_v]
  rcases B_m h with ⟨hb, h⟩ | ⟨hb, h⟩ <;> (rw [hb]; exact h)
 ·exact ⟨_, rfl, D_z h⟩
theorem X_5 (h : cLeq k mx K a b = some o) : ∃ v, fLeq k a b = some v ∧ K v = some o := by
 rcases C_r h with ⟨m, n, rfl, rfl, h⟩ | h
 ·exact ⟨_, rfl, D_z h⟩
 ·exact ⟨_, rfl, D_z h⟩
theorem U_4 (h : cGtr k mx K a b = some o) : ∃ v, fGtr k a b = some v ∧ K v = some o := by
 rcases C_r h with ⟨m, n, rfl, rfl, h⟩ | h
 ·refine ⟨_, rfl, ?_⟩
  rw [O_v]
  rcases B_m h with ⟨hb, h⟩ | ⟨hb, h⟩ <;> (rw [hb]; exact h)
 ·exact ⟨_, rfl, D_z h⟩
theorem U_9 (h : cGeq k mx K a b = some o) : ∃ v, fGeq k a b = some v ∧ K v = some o := by
 rcases C_r h with ⟨m, n, rfl, rfl, h⟩ | h
 ·exact ⟨_, rfl, D_z h⟩
 ·exact ⟨_, rfl, D_z h⟩
theorem Q_2 {f : Nat → Nat → Nat} (hk : MxOf k mx) (hf : ∀ x y w, x < 2 ^ w → y < 2 ^ w → f x y < 2 ^ w) (hw : mx + 1 = 2 ^ (Nat.log2 (mx + 1))) {m n : Nat} (hm : Nat.ble m mx = true) (hn : Nat.ble n mx = true) : C_8 k (.ofNat (f m n)) = .ofNat (f m n) := by
 refine F_1 hk (Nat.ble_eq_true_of_le ?_)
 have h1 := Nat.le_of_ble_eq_true hm
 have h2 := Nat.le_of_ble_eq_true hn
 have := hf m n (Nat.log2 (mx + 1)) (by omega) (by omega)
 omega
theorem V_p (hk : MxOf k mx) (hw : mx + 1 = 2 ^ (Nat.log2 (mx + 1))) (h : cAnd k mx K a b = some o) : ∃ v, E_x .and k a b = some v ∧ K v = some o := by
 rcases C_r h with ⟨m, n, rfl, rfl, h⟩ | h
 ·rcases B_m h with ⟨hb, h⟩ | ⟨_, h⟩
  ·rcases B_m h with ⟨hc, h⟩ | ⟨_, h⟩
   ·refine ⟨.int k (.ofNat (Nat.land m n)), ?_, C_m h⟩
    show some (Value.int k (C_8 k (.ofNat (Nat.land (Nat.mod m (Nat.pow 2 k.bits)) (Nat.mod n (Nat.pow 2 k.bits)))))) = _
    rw [K_w hk hb, K_w hk hc, Q_2 (f := Nat.land) hk (fun x y w hx hy => Nat.and_lt_two_pow x hy) hw hb hc]
   ·exact A_t h
  ·exact A_t h
 ·exact A_t h
theorem b_7 (hk : MxOf k mx) (hw : mx + 1 = 2 ^ (Nat.log2 (mx + 1))) (h : cOr k mx K a b = some o) : ∃ v, E_x .or k a b = some v ∧ K v = some o := by
 rcases C_r h with ⟨m, n, rfl, rfl, h⟩ | h
 ·rcases B_m h with ⟨hb, h⟩ | ⟨_, h⟩
  ·rcases B_m h with ⟨hc, h⟩ | ⟨_, h⟩
   ·refine ⟨.int k (.ofNat (Nat.lor m n)), ?_, C_m h⟩
    show some (Value.int k (C_8 k (.ofNat (Nat.lor (Nat.mod m (Nat.pow 2 k.bits)) (Nat.mod n (Nat.pow 2 k.bits)))))) = _
    rw [K_w hk hb, K_w hk hc, Q_2 (f := Nat.lor) hk (fun x y w hx hy => Nat.or_lt_two_pow hx hy) hw hb hc]
   ·exact A_t h
  ·exact A_t h
 ·exact A_t h
theorem a_d (hk : MxOf k mx) (hw : mx + 1 = 2 ^ (Nat.log2 (mx + 1))) (h : cXor k mx K a b = some o) : ∃ v, E_x .xor k a b = some v ∧ K v = some o := by
 rcases C_r h with ⟨m, n, rfl, rfl, h⟩ | h
 ·rcases B_m h with ⟨hb, h⟩ | ⟨_, h⟩
  ·rcases B_m h with ⟨hc, h⟩ | ⟨_, h⟩
   ·refine ⟨.int k (.ofNat (Nat.xor m n)), ?_, C_m h⟩
    show some (Value.int k (C_8 k (.ofNat (Nat.xor (Nat.mod m (Nat.pow 2 k.bits)) (Nat.mod n (Nat.pow 2 k.bits)))))) = _
    rw [K_w hk hb, K_w hk hc, Q_2 (f := Nat.xor) hk (fun x y w hx hy => Nat.xor_lt_two_pow hx hy) hw hb hc]
   ·exact A_t h
  ·exact A_t h
 ·exact A_t h
theorem M_q (hk : MxOf k mx) (hw : mx + 1 = 2 ^ (Nat.log2 (mx + 1))) (op : BinOp) (h : cOf op k mx K a b = some o) : ∃ v, fOf op k a b = some v ∧ K v = some o := by
 cases op with
 | add => exact X_w hk h
 | sub => exact X_p hk h
 | mul => exact V_q hk h
 | quo => exact X_j hk h
 | rem => exact a_g (mx := mx) h
 | and => exact V_p hk hw h
 | or => exact b_7 hk hw h
 | xor => exact a_d hk hw h
 | shl => exact A_t h
 | shr => exact A_t h
 | andNot => exact A_t h
 | eql => exact Y_x (k := k) (mx := mx) h
 | neq => exact Z_l (k := k) (mx := mx) h
 | lss => exact X_t (k := k) (mx := mx) h
 | leq => exact X_5 (k := k) (mx := mx) h
 | gtr => exact U_4 (k := k) (mx := mx) h
 | geq => exact U_9 (k := k) (mx := mx) h
end
theorem U_2 (f : F2) (k : IntKind) (a b : Int) : i2 f (.int k a) (.int k b) = f k a b := by
 show (match Nat.beq (kn k) (kn k) with | true => f k a b | false => none) = _
 rw [Nat.beq_refl]
theorem W_n {op : BinOp} {x y : Value} {K : Value → An} {o : Out} (h : kI64 op x y K = some o) : ∃ v, i2 (fOf op) x y = some v ∧ K v = some o := by
 obtain ⟨a, b, rfl, rfl, h⟩ := T_q h
 rw [U_2]
 exact M_q f_d (by decide) op h
theorem Z_u {op : BinOp} {x y : Value} {K : Value → An} {o : Out} (h : kU64 op x y K = some o) : ∃ v, i2 (fOf op) x y = some v ∧ K v = some o := by
 obtain ⟨a, b, rfl, rfl, h⟩ := a_p h
 rw [U_2]
 exact M_q f_f (by decide) op h
theorem c_f {op : BinOp} {x y : Value} {K : Value → An} {o : Out} (h : kU8 op x y K = some o) : ∃ v, i2 (fOf op) x y = some v ∧ K v = some o := by
 obtain ⟨a, b, rfl, rfl, h⟩ := Z_2 h
 rw [U_2]
 exact M_q j_1 (by decide) op h
theorem Y_b {x y : Value} {K : Value → An} {o : Out} (h : kShl x y K = some o) : ∃ v, sh2 .shl x y = some v ∧ K v = some o := by
 obtain ⟨k, a, rfl, h⟩ := C_c (v := x) h
 obtain ⟨k2, b, rfl, h⟩ := C_c (v := y) h
 show ∃ v, shI .shl k a b = some v ∧ _
 rcases C_r h with ⟨m, n, rfl, rfl, h⟩ | h
 ·obtain ⟨rfl, h⟩ := H_7 h
  rcases B_m h with ⟨hb, h⟩ | ⟨_, h⟩
  ·refine ⟨_, ?_, C_m h⟩
   have hn := Nat.le_of_ble_eq_true hb
   show some (Value.int .u64 (C_8 .u64 (Int.mul (.ofNat m) (.ofNat (Nat.pow 2 (minN n 64)))))) = _
   rw [D_g, Nat.min_eq_left hn]
   show some (Value.int .u64 (C_8 .u64 (.ofNat (Nat.mul m (Nat.pow 2 n))))) = _
   rw [show Nat.mul m (Nat.pow 2 n) = Nat.mul (Nat.pow 2 n) m from Nat.mul_comm _ _]
   generalize Nat.mul (Nat.pow 2 n) m = r
   unfold C_8
   cases hr : inK .u64 (.ofNat r) with
   | true =>
    have hr2 : Nat.ble r 18446744073709551615 = true := hr
    have := Nat.le_of_ble_eq_true hr2
    simp only
    rw [show Nat.mod r 18446744073709551616 = r from Nat.mod_eq_of_lt (by omega)]
   | false => rfl
  ·exact A_t h
 ·exact A_t h
theorem V_9 {x y : Value} {K : Value → An} {o : Out} (h : kShr x y K = some o) : ∃ v, sh2 .shr x y = some v ∧ K v = some o := by
 obtain ⟨k, a, rfl, h⟩ := C_c (v := x) h
 obtain ⟨k2, b, rfl, h⟩ := C_c (v := y) h
 show ∃ v, shI .shr k a b = some v ∧ _
 rcases C_r h with ⟨m, n, rfl, rfl, h⟩ | h
 ·have key : n ≤ k.bits → shI .shr k (.ofNat m) (.ofNat n) = some (.int k (.ofNat (Nat.div m (Nat.pow 2 n)))) := fun hn => by
   show some (Value.int k (.ofNat (Nat.div m (Nat.pow 2 (minN n k.bits))))) = _
   rw [D_g, Nat.min_eq_left hn]
  rcases B_m h with ⟨hb, h⟩ | ⟨_, h⟩
  ·have hn := Nat.le_of_ble_eq_true hb
   exact ⟨_, key (Nat.le_trans hn (by cases k <;> decide)), C_m h⟩
  ·rcases B_m h with ⟨hb, h⟩ | ⟨_, h⟩
   ·exact ⟨_, key (Nat.le_of_ble_eq_true hb), C_m h⟩
   ·exact A_t h
 ·exact A_t h
theorem Z_d {x : Value} {K : Value → An} {o : Out} (h : kNot x K = some o) : ∃ v, un .not x = some v ∧ K v = some o := by
 obtain ⟨b, rfl, h⟩ := L_t (v := x) h
 cases b <;> exact ⟨_, rfl, h⟩
theorem M_2 {k : IntKind} {mx : Nat} (hk : MxOf k mx) {x : Value} {K : Value → An} {o : Out} (h : kTo k mx x K = some o) : ∃ v, G_k k x = some v ∧ K v = some o := by
 obtain ⟨k0, a, rfl, h⟩ := C_c (v := x) h
 cases a with
 | negSucc m => exact A_t h
 | ofNat m =>
  rcases B_m h with ⟨hb, h⟩ | ⟨_, h⟩
  ·exact ⟨_, congrArg (fun z => some (Value.int k z)) (F_1 hk hb), h⟩
  ·exact A_t h
theorem S_k {a : Addr} {F : Nat → Nat → An} {o : Out} (h : adK a F = some o) : ∃ b f, a = ⟨b, f, none⟩ ∧ F b f = some o := by
 cases a with
 | mk b f s => cases s with
  | none => exact ⟨b, f, rfl, h⟩
  | some x => cases h
theorem E_p {v : Value} {F : Nat → Nat → An} {o : Out} (h : S_7 v F = some o) : ∃ b f, v = .pointer (some ⟨b, f, none⟩) ∧ F b f = some o := by
 obtain ⟨p, rfl, h⟩ := Z_6 (v := v) h
 cases p with
 | none => cases h
 | some a =>
  obtain ⟨b, f, rfl, h⟩ := S_k h
  exact ⟨b, f, rfl, h⟩
theorem X_2 {v : Value} {K : Value → An} {o : Out} (h : kNil v K = some o) : ∃ u, nilc1 v = some u ∧ K u = some o := by
 cases v <;> try cases h
 case pointer a => cases a with
  | none => cases h
  | some a => exact ⟨_, rfl, h⟩
 case func fn f c => exact A_t h
theorem N_a {k : Nat} {v : Value} {K : Value → An} {o : Out} (h : A_a k v K = some o) : ∃ u, J_4 k (addrOf v) = some u ∧ K u = some o := by
 obtain ⟨b, f, rfl, h2⟩ := E_p (v := v) h
 exact ⟨_, rfl, O_8 (K := fun o' => K (.pointer (some ⟨b, o', none⟩))) h2⟩
theorem T_x {v : Value} {K : Value → An} {o : Out} (h : B_v v K = some o) : ∃ u, P_h v = some u ∧ K u = some o := by
 obtain ⟨a, n, c, rfl, h⟩ := J_s (v := v) h
 exact ⟨_, rfl, C_m h⟩
theorem T_9 {v : Value} {K : Value → An} {o : Out} (h : l_c v K = some o) : ∃ u, Z_k v = some u ∧ K u = some o := by
 obtain ⟨s, rfl, h⟩ := Y_3 (v := v) h
 exact ⟨_, rfl, C_m h⟩
theorem S_z {v : Value} {F : Nat → An} {o : Out} (h : l_u v F = some o) : ∃ n, B_2 v = some n ∧ F n = some o := by
 obtain ⟨k, a, rfl, h⟩ := C_c (v := v) h
 cases a with
 | negSucc m => cases h
 | ofNat m => exact ⟨m, rfl, h⟩
theorem S_m {u : Nat} {x i : Value} {K : Value → An} {o : Out} (h : B_e u x i K = some o) : ∃ v, e_b u (B_2 i) x = some v ∧ K v = some o := by
 obtain ⟨a, n, c, rfl, h⟩ := J_s (v := x) h
 obtain ⟨k, hk, h⟩ := S_z (v := i) h
 rw [hk]
 rcases B_m h with ⟨_, h⟩ | ⟨hb, h⟩
 ·cases h
 ·cases a with
  | none => cases h
  | some a =>
   obtain ⟨b, f, rfl, h2⟩ := S_k h
   have hlt : Nat.blt k n = true := by
    show Nat.ble (k + 1) n = true
    refine Nat.ble_eq_true_of_le ?_
    have : ¬ n ≤ k := fun hh => by rw [Nat.ble_eq_true_of_le hh] at hb; cases hb
    omega
   refine ⟨.pointer (some ⟨b, Nat.add f (Nat.mul k u), none⟩), ?_, O_8 (K := fun o' => K (.pointer (some ⟨b, o', none⟩))) h2⟩
   show (match Nat.blt k n with | false => _ | true => _) = _
   rw [hlt]
theorem T_e {v : Value} {i : Nat} {K : Value → An} {o : Out} (h : A_7 v i K = some o) : ∃ u, extr1 i v = some u ∧ K u = some o := by
 obtain ⟨vs, rfl, h⟩ := V_o (v := v) h
 exact A_t h
theorem Q_g {off : Nat} {v : Value} {K : Value → An} {o : Out} (h : e_8 off v K = some o) : ∃ u, field1 off v = some u ∧ K u = some o := by
 obtain ⟨cs, rfl, h⟩ := V_m (v := v) h
 exact A_t h
theorem E_z {h : Hs} {b : Nat} {F : Blk → An} {o : Out} (hh : getB h b F = some o) : ∃ B, h.hp.get b = some B ∧ F B = some o := by
 unfold getB at hh
 rw [B_o] at hh
 cases hb : h.hp.get b with
 | none => rw [hb] at hh; cases hh
 | some B => rw [hb] at hh; exact ⟨B, rfl, hh⟩
noncomputable def ldV (v : Value) (h : Hs) : Option Value := match addrOf v with
 | some p => blkCell p.2 (h.hp.get p.1)
 | none => none
noncomputable def ldsV (n : Nat) (v : Value) (h : Hs) : Option Value := match addrOf v with
 | some p => aggO (B_3 n p.2 (h.hp.get p.1))
 | none => none
theorem U_z {v : Value} {h : Hs} {K : Value → An} {o : Out} (hh : A_d v h K = some o) : ∃ u, ldV v h = some u ∧ K u = some o := by
 obtain ⟨b, f, rfl, hh⟩ := E_p (v := v) hh
 obtain ⟨B, hb, hh⟩ := E_z hh
 cases B with
 | mp es c => cases hh
 | it _ _ _ _ => cases hh
 | lp _ => cases hh
 | row c n e u rw' fl =>
  obtain ⟨x, hx, hK⟩ := A_t (x := Tr.getK c f) hh
  rw [B_o] at hx
  refine ⟨x, ?_, hK⟩
  show blkCell f (h.hp.get b) = some x
  rw [hb]
  exact hx
theorem P_7 {n : Nat} {v : Value} {h : Hs} {K : Value → An} {o : Out} (hh : A_g n v h K = some o) : ∃ u, ldsV n v h = some u ∧ K u = some o := by
 obtain ⟨b, f, rfl, hh⟩ := E_p (v := v) hh
 obtain ⟨B, hb, hh⟩ := E_z hh
 cases B with
 | mp es c => cases hh
 | it _ _ _ _ => cases hh
 | lp _ => cases hh
 | row c m e u rw' fl =>
  replace hh : Option.rec (motive := fun _ => An) none (fun cs => K (.agg cs.toArray)) (C_o c n f []) = some o := hh
  cases hl : C_o c n f [] with
  | none => rw [hl] at hh; cases hh
  | some cs =>
   rw [hl] at hh
   refine ⟨.agg cs.toArray, ?_, hh⟩
   show aggO (B_3 n f (h.hp.get b)) = _
   rw [hb]
   show aggO (C_o c n f []) = _
   rw [hl]
   rfl
theorem b_f (x : GX) (en : En) (h : Hs) : T_k x en h = ret1 h (ldV (ev en x) h) := by
 unfold T_k load1 ldV
 cases addrOf (ev en x) <;> rfl
theorem V_s (n : Nat) (x : GX) (en : En) (h : Hs) : L_m n x en h = ret1 h (ldsV n (ev en x) h) := by
 unfold L_m loads1 ldsV
 cases addrOf (ev en x) with
 | none => rfl
 | some p =>
  simp only
  cases B_3 n p.2 (h.hp.get p.1) <;> rfl
theorem e_e {fl : Bool} {x : Value} {F : Bool → An} {o : Out} (h : flF fl x F = some o) : F (andB fl (flat1 x)) = some o := by
 unfold flF at h
 cases fl with
 | false => exact h
 | true =>
  cases hx : flat1 x with
  | false => rw [hx] at h; exact h
  | true => rw [hx] at h; exact h
theorem d_5 {lo b : Nat} {F : Nat → An} {o : Out} (h : loF lo b F = some o) : F (minN lo b) = some o := by
 unfold loF at h
 unfold minN
 cases hb : Nat.ble lo b with
 | false => rw [hb] at h; exact h
 | true => rw [hb] at h; exact h
theorem N_5 {a x : Value} {h : Hs} {K : KV} {o : Out} (hh : B_f a x h K = some o) : ∃ h1, store1 1 h (A_b x) (addrOf a) = some (undef', h1) ∧ K undef' h1 = some o := by
 rcases B_m hh with ⟨hx, hh⟩ | ⟨hx, hh⟩
 ·obtain ⟨b, f, rfl, hh⟩ := E_p (v := a) hh
  obtain ⟨B, hb, hh⟩ := E_z hh
  cases B with
  | mp es c => cases hh
  | it _ _ _ _ => cases hh
  | lp _ => cases hh
  | row c m e u rw' fl =>
   rcases B_m (c := rw') hh with ⟨hr, hg⟩ | ⟨_, hg⟩
   ·subst hr
    cases hc : Tr.getK c f with
    | none => rw [hc] at hg; cases hg
    | some y =>
     rw [hc] at hg
     obtain ⟨hp, nx, lo⟩ := h
     have hh2 := d_5 (e_e (fl := fl) (x := x) hg)
     rw [D_a, D_a] at hh2
     refine ⟨_, ?_, hh2⟩
     have hcl : A_b x = [x] := by cases x <;> first | rfl | cases hx
     rw [hcl]
     show unit1 (E_v ⟨hp, nx, lo⟩ b f [x] (hp.get b)) = _
     have hb' : hp.get b = some (.row c m e u true fl) := hb
     rw [hb']
     show unit1 (setRow ⟨hp, nx, lo⟩ b m e u (andB fl (B_d [x])) (E_a [x] f c)) = _
     have hfl : B_d [x] = flat1 x := by
      show (match flat1 x with | true => true | false => false) = flat1 x
      cases flat1 x <;> rfl
     have hst : E_a [x] f c = some (c.set f (some x)) := by
      rw [B_o] at hc
      simp only [E_a, hx, hc]
     rw [hfl, hst]
     rfl
   ·cases hg
 ·have hh2 : after K (store1 1 h (A_b x) (addrOf a)) = some o := hh
  cases hs : store1 1 h (A_b x) (addrOf a) with
  | none => rw [hs] at hh2; cases hh2
  | some p =>
   rw [hs] at hh2
   have hp : p.1 = undef' := by
    unfold store1 at hs
    split at hs
    ·unfold store2 at hs
     split at hs
     ·unfold unit1 at hs
      split at hs
      ·injection hs with hs; rw [← hs]
      ·cases hs
     ·cases hs
    ·cases hs
   obtain ⟨p1, p2⟩ := p
   simp only at hp
   subst hp
   exact ⟨p2, rfl, hh2⟩
theorem F_0 {R : RnK} {f : FuncId} {args : List Value} {h : Hs} {K : KV} {o : Out} (hh : A_h R f args h K = some o) : ∃ v h1, R f args h = some (.val v h1) ∧ K v h1 = some o := by
 unfold A_h at hh
 cases hr : R f args h with
 | none => rw [hr] at hh; cases hh
 | some x => cases x with
  | fin e fr h1 => rw [hr] at hh; cases hh
  | val v h1 => rw [hr] at hh; exact ⟨v, h1, rfl, hh⟩
end Go.Gev
