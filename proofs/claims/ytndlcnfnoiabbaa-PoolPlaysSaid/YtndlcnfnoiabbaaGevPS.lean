/- The fast forms of the operations say what the operations say. -/
import Derived.Test.YtndlcnfnoiabbaaGevKC
import Derived.Test.YtndlcnfnoiabbaaGevTr
import Derived.Test.YtndlcnfnoiabbaaGevDraw1
namespace Go.Gev
open Go.RowKit
theorem pthF_irr : ∀ (f g k : Nat), k < f → k < g → pthF f k = pthF g k := by
 intro f
 induction f with
 | zero => intro g k h; omega
 | succ f ih =>
  intro g k h1 h2
  cases g with
  | zero => omega
  | succ g =>
   cases k with
   | zero => rfl
   | succ k =>
    have : k / 2 ≤ k := Nat.div_le_self k 2
    simp only [pthF]
    rw [ih g (Nat.div k 2) (by show k / 2 < f; omega) (by show k / 2 < g; omega)]
theorem getK_pthF {α : Type} (t : Tr α) : ∀ (f k : Nat), k < f → t.getp (pthF f k) = t.getK k := by
 induction t with
 | e => intro f k _; rw [Tr.getp_e]; rfl
 | n v l r il ir =>
  intro f k hk
  cases f with
  | zero => omega
  | succ f =>
   cases k with
   | zero => rfl
   | succ k =>
    have : k / 2 ≤ k := Nat.div_le_self k 2
    have e : (Tr.n v l r).getK (k + 1) = Bool.rec (motive := fun _ => Option α) (l.getK (Nat.div k 2)) (r.getK (Nat.div k 2)) (Nat.beq (Nat.mod k 2) 0) := rfl
    rw [e]
    simp only [pthF]
    rw [Tr.getp_cons]
    cases Nat.beq (Nat.mod k 2) 0 with
    | true => exact ir f _ (by show k / 2 < f; omega)
    | false => exact il f _ (by show k / 2 < f; omega)
theorem getK_eq {α : Type} (t : Tr α) (k : Nat) : t.getK k = t.get k := (getK_pthF t _ k (Nat.lt_succ_self k)).symm
theorem setK_pthF {α : Type} (x : α) (t : Tr α) : ∀ (f k : Nat), k < f → t.setp (some x) (pthF f k) = Tr.setK x t k := by
 induction t with
 | e => intro f k hk; show _ = Tr.setp (some x) (pth k) .e; rw [pth, pthF_irr f _ k hk (Nat.lt_succ_self k)]
 | n v l r il ir =>
  intro f k hk
  cases f with
  | zero => omega
  | succ f =>
   cases k with
   | zero => rfl
   | succ k =>
    have : k / 2 ≤ k := Nat.div_le_self k 2
    have e : Tr.setK x (Tr.n v l r) (k + 1) = Bool.rec (motive := fun _ => Tr α) (.n v (Tr.setK x l (Nat.div k 2)) r) (.n v l (Tr.setK x r (Nat.div k 2))) (Nat.beq (Nat.mod k 2) 0) := rfl
    rw [e]
    simp only [pthF]
    rw [Tr.setp_cons]
    cases Nat.beq (Nat.mod k 2) 0 with
    | true => simp only [if_true]; rw [ir f _ (by show k / 2 < f; omega)]
    | false => simp only [Bool.false_eq_true, if_false]; rw [il f _ (by show k / 2 < f; omega)]
theorem setK_eq {α : Type} (x : α) (t : Tr α) (k : Nat) : Tr.setK x t k = t.set k (some x) := (setK_pthF x t _ k (Nat.lt_succ_self k)).symm
theorem vBool_some {v : Value} {F : Bool → An} {o : Out} (h : vBool v F = some o) : ∃ b, v = .bool b ∧ F b = some o := by
 cases v <;> first | exact ⟨_, rfl, h⟩ | cases h
theorem vInt_some {v : Value} {F : IntKind → Int → An} {o : Out} (h : vInt v F = some o) : ∃ k n, v = .int k n ∧ F k n = some o := by
 cases v <;> first | exact ⟨_, _, rfl, h⟩ | cases h
theorem vStr_some {v : Value} {F : ByteArray → An} {o : Out} (h : vStr v F = some o) : ∃ b, v = .string b ∧ F b = some o := by
 cases v <;> first | exact ⟨_, rfl, h⟩ | cases h
theorem vPtr_some {v : Value} {F : Option Addr → An} {o : Out} (h : vPtr v F = some o) : ∃ b, v = .pointer b ∧ F b = some o := by
 cases v <;> first | exact ⟨_, rfl, h⟩ | cases h
theorem vSlice_some {v : Value} {F : Option Addr → Nat → Nat → An} {o : Out} (h : vSlice v F = some o) : ∃ a n c, v = .slice a n c ∧ F a n c = some o := by
 cases v <;> first | exact ⟨_, _, _, rfl, h⟩ | cases h
theorem vAgg_some {v : Value} {F : Array Value → An} {o : Out} (h : vAgg v F = some o) : ∃ b, v = .agg b ∧ F b = some o := by
 cases v <;> first | exact ⟨_, rfl, h⟩ | cases h
theorem vTup_some {v : Value} {F : Array Value → An} {o : Out} (h : vTup v F = some o) : ∃ b, v = .tuple b ∧ F b = some o := by
 cases v <;> first | exact ⟨_, rfl, h⟩ | cases h
theorem ifB_some {c : Bool} {a b : An} {o : Out} (h : ifB c a b = some o) : (c = true ∧ a = some o) ∨ (c = false ∧ b = some o) := by
 cases c
 ·exact .inr ⟨rfl, h⟩
 ·exact .inl ⟨rfl, h⟩
theorem obK_some {K : Value → An} {x : Option Value} {o : Out} (h : obK K x = some o) : ∃ v, x = some v ∧ K v = some o := by
 cases x with
 | none => cases h
 | some v => exact ⟨v, rfl, h⟩
theorem litN_some {n : Nat} {K : Nat → An} {o : Out} (h : litN n K = some o) : K n = some o := by cases n <;> exact h
theorem mkN_some {k : IntKind} {n : Nat} {K : Value → An} {o : Out} (h : mkN k n K = some o) : K (.int k (.ofNat n)) = some o := by cases n <;> exact h
theorem mkB_some {b : Bool} {K : Value → An} {o : Out} (h : mkB b K = some o) : K (.bool b) = some o := by cases b <;> exact h
theorem isI64_some {k : IntKind} {a : An} {o : Out} (h : isI64 k a = some o) : k = .i64 ∧ a = some o := by cases k <;> first | exact ⟨rfl, h⟩ | cases h
theorem isU64_some {k : IntKind} {a : An} {o : Out} (h : isU64 k a = some o) : k = .u64 ∧ a = some o := by cases k <;> first | exact ⟨rfl, h⟩ | cases h
theorem isU8_some {k : IntKind} {a : An} {o : Out} (h : isU8 k a = some o) : k = .u8 ∧ a = some o := by cases k <;> first | exact ⟨rfl, h⟩ | cases h
theorem two64_some {x y : Value} {F : Int → Int → An} {o : Out} (h : two64 x y F = some o) : ∃ a b, x = .int .i64 a ∧ y = .int .i64 b ∧ F a b = some o := by
 obtain ⟨k, a, rfl, h1⟩ := vInt_some (v := x) h
 obtain ⟨rfl, h2⟩ := isI64_some h1
 obtain ⟨k, b, rfl, h3⟩ := vInt_some (v := y) h2
 obtain ⟨rfl, h4⟩ := isI64_some h3
 exact ⟨a, b, rfl, rfl, h4⟩
theorem twoU_some {x y : Value} {F : Int → Int → An} {o : Out} (h : twoU x y F = some o) : ∃ a b, x = .int .u64 a ∧ y = .int .u64 b ∧ F a b = some o := by
 obtain ⟨k, a, rfl, h1⟩ := vInt_some (v := x) h
 obtain ⟨rfl, h2⟩ := isU64_some h1
 obtain ⟨k, b, rfl, h3⟩ := vInt_some (v := y) h2
 obtain ⟨rfl, h4⟩ := isU64_some h3
 exact ⟨a, b, rfl, rfl, h4⟩
theorem two8_some {x y : Value} {F : Int → Int → An} {o : Out} (h : two8 x y F = some o) : ∃ a b, x = .int .u8 a ∧ y = .int .u8 b ∧ F a b = some o := by
 obtain ⟨k, a, rfl, h1⟩ := vInt_some (v := x) h
 obtain ⟨rfl, h2⟩ := isU8_some h1
 obtain ⟨k, b, rfl, h3⟩ := vInt_some (v := y) h2
 obtain ⟨rfl, h4⟩ := isU8_some h3
 exact ⟨a, b, rfl, rfl, h4⟩
theorem nn_some {a b : Int} {s : An} {F : Nat → Nat → An} {o : Out} (h : nn a b s F = some o) : (∃ m n : Nat, a = .ofNat m ∧ b = .ofNat n ∧ F m n = some o) ∨ s = some o := by
 cases a with
 | negSucc m => exact .inr h
 | ofNat m => cases b with
  | negSucc n => exact .inr h
  | ofNat n => exact .inl ⟨m, n, rfl, rfl, h⟩
def MxOf (k : IntKind) (mx : Nat) : Prop := (∀ m : Nat, inK k (.ofNat m) = Nat.ble m mx) ∧ k.bits ≤ 64 ∧ mx < 2 ^ k.bits
theorem mx_i64 : MxOf .i64 9223372036854775807 := ⟨fun _ => rfl, by decide, by decide⟩
theorem mx_u64 : MxOf .u64 18446744073709551615 := ⟨fun _ => rfl, by decide, by decide⟩
theorem mx_u8 : MxOf .u8 255 := ⟨fun _ => rfl, by decide, by decide⟩
theorem wrapF_in {k : IntKind} {mx m : Nat} (h : MxOf k mx) (hm : Nat.ble m mx = true) : wrapF k (.ofNat m) = .ofNat m := by
 unfold wrapF
 rw [h.1 m, hm]
theorem int_sub_ofNat {m n : Nat} (h : n ≤ m) : Int.sub (.ofNat m) (.ofNat n) = .ofNat (Nat.sub m n) := by
 show (m : Int) - (n : Int) = ((m - n : Nat) : Int)
 omega
theorem eqI_ofNat (m n : Nat) : eqI (.ofNat m) (.ofNat n) = Nat.beq m n := rfl
theorem leI_ofNat (m n : Nat) : leI (.ofNat m) (.ofNat n) = Nat.ble m n := rfl
theorem ltI_ofNat (m n : Nat) : ltI (.ofNat m) (.ofNat n) = notB (Nat.ble n m) := by unfold ltI; rw [leI_ofNat]; cases Nat.ble n m <;> rfl
theorem mod_in {k : IntKind} {mx m : Nat} (h : MxOf k mx) (hm : Nat.ble m mx = true) : Nat.mod m (Nat.pow 2 k.bits) = m :=
 Nat.mod_eq_of_lt (Nat.lt_of_le_of_lt (Nat.le_of_ble_eq_true hm) h.2.2)
section
variable {k : IntKind} {mx : Nat} {K : Value → An} {a b : Int} {o : Out}
theorem cAdd_some (hk : MxOf k mx) (h : cAdd k mx K a b = some o) : ∃ v, fAdd k a b = some v ∧ K v = some o := by
 rcases nn_some h with ⟨m, n, rfl, rfl, h⟩ | h
 ·rcases ifB_some h with ⟨hb, h⟩ | ⟨_, h⟩
  ·exact ⟨_, by rw [fAdd]; exact congrArg (fun z => some (Value.int k z)) (wrapF_in hk hb), mkN_some h⟩
  ·exact obK_some h
 ·exact obK_some h
theorem cSub_some (hk : MxOf k mx) (h : cSub k mx K a b = some o) : ∃ v, fSub k a b = some v ∧ K v = some o := by
 rcases nn_some h with ⟨m, n, rfl, rfl, h⟩ | h
 ·rcases ifB_some h with ⟨hb, h⟩ | ⟨_, h⟩
  ·rcases ifB_some h with ⟨hc, h⟩ | ⟨_, h⟩
   ·refine ⟨.int k (.ofNat (Nat.sub m n)), ?_, mkN_some h⟩
    rw [fSub, int_sub_ofNat (Nat.le_of_ble_eq_true hb), wrapF_in hk]
    have := Nat.le_of_ble_eq_true hc
    exact Nat.ble_eq_true_of_le (by show m - n ≤ mx; omega)
   ·exact obK_some h
  ·exact obK_some h
 ·exact obK_some h
theorem cMul_some (hk : MxOf k mx) (h : cMul k mx K a b = some o) : ∃ v, fMul k a b = some v ∧ K v = some o := by
 rcases nn_some h with ⟨m, n, rfl, rfl, h⟩ | h
 ·rcases ifB_some h with ⟨hb, h⟩ | ⟨_, h⟩
  ·exact ⟨_, by rw [fMul]; exact congrArg (fun z => some (Value.int k z)) (wrapF_in hk hb), mkN_some h⟩
  ·exact obK_some h
 ·exact obK_some h
theorem cQuo_some (hk : MxOf k mx) (h : cQuo k mx K a b = some o) : ∃ v, fQuo k a b = some v ∧ K v = some o := by
 rcases nn_some h with ⟨m, n, rfl, rfl, h⟩ | h
 ·cases n with
  | zero => cases h
  | succ n =>
   rcases ifB_some h with ⟨hb, h⟩ | ⟨_, h⟩
   ·refine ⟨.int k (.ofNat (Nat.div m (n + 1))), ?_, mkN_some h⟩
    have e : eqI (.ofNat (n + 1)) 0 = false := rfl
    rw [fQuo, e]
    exact congrArg (fun z => some (Value.int k z)) (wrapF_in hk hb)
   ·exact obK_some h
 ·exact obK_some h
theorem cRem_some (h : cRem k mx K a b = some o) : ∃ v, fRem k a b = some v ∧ K v = some o := by
 rcases nn_some h with ⟨m, n, rfl, rfl, h⟩ | h
 ·cases n with
  | zero => cases h
  | succ n =>
   refine ⟨.int k (.ofNat (Nat.mod m (n + 1))), ?_, mkN_some h⟩
   have e : eqI (.ofNat (n + 1)) 0 = false := rfl
   rw [fRem, e]
   rfl
 ·exact obK_some h
theorem cEql_some (h : cEql k mx K a b = some o) : ∃ v, fEql k a b = some v ∧ K v = some o := by
 rcases nn_some h with ⟨m, n, rfl, rfl, h⟩ | h
 ·exact ⟨_, rfl, mkB_some h⟩
 ·exact ⟨_, rfl, mkB_some h⟩
theorem cNeq_some (h : cNeq k mx K a b = some o) : ∃ v, fNeq k a b = some v ∧ K v = some o := by
 rcases nn_some h with ⟨m, n, rfl, rfl, h⟩ | h
 ·refine ⟨_, rfl, ?_⟩
  rw [eqI_ofNat]
  rcases ifB_some h with ⟨hb, h⟩ | ⟨hb, h⟩ <;> (rw [hb]; exact h)
 ·exact ⟨_, rfl, mkB_some h⟩
theorem cLss_some (h : cLss k mx K a b = some o) : ∃ v, fLss k a b = some v ∧ K v = some o := by
 rcases nn_some h with ⟨m, n, rfl, rfl, h⟩ | h
 ·refine ⟨_, rfl, ?_⟩
  rw [ltI_ofNat]
  rcases ifB_some h with ⟨hb, h⟩ | ⟨hb, h⟩ <;> (rw [hb]; exact h)
 ·exact ⟨_, rfl, mkB_some h⟩
theorem cLeq_some (h : cLeq k mx K a b = some o) : ∃ v, fLeq k a b = some v ∧ K v = some o := by
 rcases nn_some h with ⟨m, n, rfl, rfl, h⟩ | h
 ·exact ⟨_, rfl, mkB_some h⟩
 ·exact ⟨_, rfl, mkB_some h⟩
theorem cGtr_some (h : cGtr k mx K a b = some o) : ∃ v, fGtr k a b = some v ∧ K v = some o := by
 rcases nn_some h with ⟨m, n, rfl, rfl, h⟩ | h
 ·refine ⟨_, rfl, ?_⟩
  rw [ltI_ofNat]
  rcases ifB_some h with ⟨hb, h⟩ | ⟨hb, h⟩ <;> (rw [hb]; exact h)
 ·exact ⟨_, rfl, mkB_some h⟩
theorem cGeq_some (h : cGeq k mx K a b = some o) : ∃ v, fGeq k a b = some v ∧ K v = some o := by
 rcases nn_some h with ⟨m, n, rfl, rfl, h⟩ | h
 ·exact ⟨_, rfl, mkB_some h⟩
 ·exact ⟨_, rfl, mkB_some h⟩
theorem bits_in {f : Nat → Nat → Nat} (hk : MxOf k mx) (hf : ∀ x y w, x < 2 ^ w → y < 2 ^ w → f x y < 2 ^ w) (hw : mx + 1 = 2 ^ (Nat.log2 (mx + 1))) {m n : Nat} (hm : Nat.ble m mx = true) (hn : Nat.ble n mx = true) : wrapF k (.ofNat (f m n)) = .ofNat (f m n) := by
 refine wrapF_in hk (Nat.ble_eq_true_of_le ?_)
 have h1 := Nat.le_of_ble_eq_true hm
 have h2 := Nat.le_of_ble_eq_true hn
 have := hf m n (Nat.log2 (mx + 1)) (by omega) (by omega)
 omega
theorem cAnd_some (hk : MxOf k mx) (hw : mx + 1 = 2 ^ (Nat.log2 (mx + 1))) (h : cAnd k mx K a b = some o) : ∃ v, fBits .and k a b = some v ∧ K v = some o := by
 rcases nn_some h with ⟨m, n, rfl, rfl, h⟩ | h
 ·rcases ifB_some h with ⟨hb, h⟩ | ⟨_, h⟩
  ·rcases ifB_some h with ⟨hc, h⟩ | ⟨_, h⟩
   ·refine ⟨.int k (.ofNat (Nat.land m n)), ?_, mkN_some h⟩
    show some (Value.int k (wrapF k (.ofNat (Nat.land (Nat.mod m (Nat.pow 2 k.bits)) (Nat.mod n (Nat.pow 2 k.bits)))))) = _
    rw [mod_in hk hb, mod_in hk hc, bits_in (f := Nat.land) hk (fun x y w hx hy => Nat.and_lt_two_pow x hy) hw hb hc]
   ·exact obK_some h
  ·exact obK_some h
 ·exact obK_some h
theorem cOr_some (hk : MxOf k mx) (hw : mx + 1 = 2 ^ (Nat.log2 (mx + 1))) (h : cOr k mx K a b = some o) : ∃ v, fBits .or k a b = some v ∧ K v = some o := by
 rcases nn_some h with ⟨m, n, rfl, rfl, h⟩ | h
 ·rcases ifB_some h with ⟨hb, h⟩ | ⟨_, h⟩
  ·rcases ifB_some h with ⟨hc, h⟩ | ⟨_, h⟩
   ·refine ⟨.int k (.ofNat (Nat.lor m n)), ?_, mkN_some h⟩
    show some (Value.int k (wrapF k (.ofNat (Nat.lor (Nat.mod m (Nat.pow 2 k.bits)) (Nat.mod n (Nat.pow 2 k.bits)))))) = _
    rw [mod_in hk hb, mod_in hk hc, bits_in (f := Nat.lor) hk (fun x y w hx hy => Nat.or_lt_two_pow hx hy) hw hb hc]
   ·exact obK_some h
  ·exact obK_some h
 ·exact obK_some h
theorem cXor_some (hk : MxOf k mx) (hw : mx + 1 = 2 ^ (Nat.log2 (mx + 1))) (h : cXor k mx K a b = some o) : ∃ v, fBits .xor k a b = some v ∧ K v = some o := by
 rcases nn_some h with ⟨m, n, rfl, rfl, h⟩ | h
 ·rcases ifB_some h with ⟨hb, h⟩ | ⟨_, h⟩
  ·rcases ifB_some h with ⟨hc, h⟩ | ⟨_, h⟩
   ·refine ⟨.int k (.ofNat (Nat.xor m n)), ?_, mkN_some h⟩
    show some (Value.int k (wrapF k (.ofNat (Nat.xor (Nat.mod m (Nat.pow 2 k.bits)) (Nat.mod n (Nat.pow 2 k.bits)))))) = _
    rw [mod_in hk hb, mod_in hk hc, bits_in (f := Nat.xor) hk (fun x y w hx hy => Nat.xor_lt_two_pow hx hy) hw hb hc]
   ·exact obK_some h
  ·exact obK_some h
 ·exact obK_some h
theorem cOf_some (hk : MxOf k mx) (hw : mx + 1 = 2 ^ (Nat.log2 (mx + 1))) (op : BinOp) (h : cOf op k mx K a b = some o) : ∃ v, fOf op k a b = some v ∧ K v = some o := by
 cases op with
 | add => exact cAdd_some hk h
 | sub => exact cSub_some hk h
 | mul => exact cMul_some hk h
 | quo => exact cQuo_some hk h
 | rem => exact cRem_some (mx := mx) h
 | and => exact cAnd_some hk hw h
 | or => exact cOr_some hk hw h
 | xor => exact cXor_some hk hw h
 | shl => exact obK_some h
 | shr => exact obK_some h
 | andNot => exact obK_some h
 | eql => exact cEql_some (k := k) (mx := mx) h
 | neq => exact cNeq_some (k := k) (mx := mx) h
 | lss => exact cLss_some (k := k) (mx := mx) h
 | leq => exact cLeq_some (k := k) (mx := mx) h
 | gtr => exact cGtr_some (k := k) (mx := mx) h
 | geq => exact cGeq_some (k := k) (mx := mx) h
end
theorem i2_int (f : F2) (k : IntKind) (a b : Int) : i2 f (.int k a) (.int k b) = f k a b := by
 show (match Nat.beq (kn k) (kn k) with | true => f k a b | false => none) = _
 rw [Nat.beq_refl]
theorem kI64_some {op : BinOp} {x y : Value} {K : Value → An} {o : Out} (h : kI64 op x y K = some o) : ∃ v, i2 (fOf op) x y = some v ∧ K v = some o := by
 obtain ⟨a, b, rfl, rfl, h⟩ := two64_some h
 rw [i2_int]
 exact cOf_some mx_i64 (by decide) op h
theorem kU64_some {op : BinOp} {x y : Value} {K : Value → An} {o : Out} (h : kU64 op x y K = some o) : ∃ v, i2 (fOf op) x y = some v ∧ K v = some o := by
 obtain ⟨a, b, rfl, rfl, h⟩ := twoU_some h
 rw [i2_int]
 exact cOf_some mx_u64 (by decide) op h
theorem kU8_some {op : BinOp} {x y : Value} {K : Value → An} {o : Out} (h : kU8 op x y K = some o) : ∃ v, i2 (fOf op) x y = some v ∧ K v = some o := by
 obtain ⟨a, b, rfl, rfl, h⟩ := two8_some h
 rw [i2_int]
 exact cOf_some mx_u8 (by decide) op h
theorem kShl_some {x y : Value} {K : Value → An} {o : Out} (h : kShl x y K = some o) : ∃ v, sh2 .shl x y = some v ∧ K v = some o := by
 obtain ⟨k, a, rfl, h⟩ := vInt_some (v := x) h
 obtain ⟨k2, b, rfl, h⟩ := vInt_some (v := y) h
 show ∃ v, shI .shl k a b = some v ∧ _
 rcases nn_some h with ⟨m, n, rfl, rfl, h⟩ | h
 ·obtain ⟨rfl, h⟩ := isU64_some h
  rcases ifB_some h with ⟨hb, h⟩ | ⟨_, h⟩
  ·refine ⟨_, ?_, mkN_some h⟩
   have hn := Nat.le_of_ble_eq_true hb
   show some (Value.int .u64 (wrapF .u64 (Int.mul (.ofNat m) (.ofNat (Nat.pow 2 (minN n 64)))))) = _
   rw [minN_eq, Nat.min_eq_left hn]
   show some (Value.int .u64 (wrapF .u64 (.ofNat (Nat.mul m (Nat.pow 2 n))))) = _
   rw [show Nat.mul m (Nat.pow 2 n) = Nat.mul (Nat.pow 2 n) m from Nat.mul_comm _ _]
   generalize Nat.mul (Nat.pow 2 n) m = r
   unfold wrapF
   cases hr : inK .u64 (.ofNat r) with
   | true =>
    have hr2 : Nat.ble r 18446744073709551615 = true := hr
    have := Nat.le_of_ble_eq_true hr2
    simp only
    rw [show Nat.mod r 18446744073709551616 = r from Nat.mod_eq_of_lt (by omega)]
   | false => rfl
  ·exact obK_some h
 ·exact obK_some h
theorem kShr_some {x y : Value} {K : Value → An} {o : Out} (h : kShr x y K = some o) : ∃ v, sh2 .shr x y = some v ∧ K v = some o := by
 obtain ⟨k, a, rfl, h⟩ := vInt_some (v := x) h
 obtain ⟨k2, b, rfl, h⟩ := vInt_some (v := y) h
 show ∃ v, shI .shr k a b = some v ∧ _
 rcases nn_some h with ⟨m, n, rfl, rfl, h⟩ | h
 ·have key : n ≤ k.bits → shI .shr k (.ofNat m) (.ofNat n) = some (.int k (.ofNat (Nat.div m (Nat.pow 2 n)))) := fun hn => by
   show some (Value.int k (.ofNat (Nat.div m (Nat.pow 2 (minN n k.bits))))) = _
   rw [minN_eq, Nat.min_eq_left hn]
  rcases ifB_some h with ⟨hb, h⟩ | ⟨_, h⟩
  ·have hn := Nat.le_of_ble_eq_true hb
   exact ⟨_, key (Nat.le_trans hn (by cases k <;> decide)), mkN_some h⟩
  ·rcases ifB_some h with ⟨hb, h⟩ | ⟨_, h⟩
   ·exact ⟨_, key (Nat.le_of_ble_eq_true hb), mkN_some h⟩
   ·exact obK_some h
 ·exact obK_some h
theorem kNot_some {x : Value} {K : Value → An} {o : Out} (h : kNot x K = some o) : ∃ v, un .not x = some v ∧ K v = some o := by
 obtain ⟨b, rfl, h⟩ := vBool_some (v := x) h
 cases b <;> exact ⟨_, rfl, h⟩
theorem kTo_some {k : IntKind} {mx : Nat} (hk : MxOf k mx) {x : Value} {K : Value → An} {o : Out} (h : kTo k mx x K = some o) : ∃ v, convI1 k x = some v ∧ K v = some o := by
 obtain ⟨k0, a, rfl, h⟩ := vInt_some (v := x) h
 cases a with
 | negSucc m => exact obK_some h
 | ofNat m =>
  rcases ifB_some h with ⟨hb, h⟩ | ⟨_, h⟩
  ·exact ⟨_, congrArg (fun z => some (Value.int k z)) (wrapF_in hk hb), h⟩
  ·exact obK_some h
theorem adK_some {a : Addr} {F : Nat → Nat → An} {o : Out} (h : adK a F = some o) : ∃ b f, a = ⟨b, f, none⟩ ∧ F b f = some o := by
 cases a with
 | mk b f s => cases s with
  | none => exact ⟨b, f, rfl, h⟩
  | some x => cases h
theorem kAddr_some {v : Value} {F : Nat → Nat → An} {o : Out} (h : kAddr v F = some o) : ∃ b f, v = .pointer (some ⟨b, f, none⟩) ∧ F b f = some o := by
 obtain ⟨p, rfl, h⟩ := vPtr_some (v := v) h
 cases p with
 | none => cases h
 | some a =>
  obtain ⟨b, f, rfl, h⟩ := adK_some h
  exact ⟨b, f, rfl, h⟩
theorem kNil_some {v : Value} {K : Value → An} {o : Out} (h : kNil v K = some o) : ∃ u, nilc1 v = some u ∧ K u = some o := by
 cases v <;> try cases h
 case pointer a => cases a with
  | none => cases h
  | some a => exact ⟨_, rfl, h⟩
 case func fn f c => exact obK_some h
theorem kFieldA_some {k : Nat} {v : Value} {K : Value → An} {o : Out} (h : kFieldA k v K = some o) : ∃ u, fieldA1 k (addrOf v) = some u ∧ K u = some o := by
 obtain ⟨b, f, rfl, h2⟩ := kAddr_some (v := v) h
 exact ⟨_, rfl, litN_some (K := fun o' => K (.pointer (some ⟨b, o', none⟩))) h2⟩
theorem kLenV_some {v : Value} {K : Value → An} {o : Out} (h : kLenV v K = some o) : ∃ u, lenV1 v = some u ∧ K u = some o := by
 obtain ⟨a, n, c, rfl, h⟩ := vSlice_some (v := v) h
 exact ⟨_, rfl, mkN_some h⟩
theorem kLenS_some {v : Value} {K : Value → An} {o : Out} (h : kLenS v K = some o) : ∃ u, lenS1 v = some u ∧ K u = some o := by
 obtain ⟨s, rfl, h⟩ := vStr_some (v := v) h
 exact ⟨_, rfl, mkN_some h⟩
theorem kNatI_some {v : Value} {F : Nat → An} {o : Out} (h : kNatI v F = some o) : ∃ n, natOf v = some n ∧ F n = some o := by
 obtain ⟨k, a, rfl, h⟩ := vInt_some (v := v) h
 cases a with
 | negSucc m => cases h
 | ofNat m => exact ⟨m, rfl, h⟩
theorem kIdxA_some {u : Nat} {x i : Value} {K : Value → An} {o : Out} (h : kIdxA u x i K = some o) : ∃ v, idxA1 u (natOf i) x = some v ∧ K v = some o := by
 obtain ⟨a, n, c, rfl, h⟩ := vSlice_some (v := x) h
 obtain ⟨k, hk, h⟩ := kNatI_some (v := i) h
 rw [hk]
 rcases ifB_some h with ⟨_, h⟩ | ⟨hb, h⟩
 ·cases h
 ·cases a with
  | none => cases h
  | some a =>
   obtain ⟨b, f, rfl, h2⟩ := adK_some h
   have hlt : Nat.blt k n = true := by
    show Nat.ble (k + 1) n = true
    refine Nat.ble_eq_true_of_le ?_
    have : ¬ n ≤ k := fun hh => by rw [Nat.ble_eq_true_of_le hh] at hb; cases hb
    omega
   refine ⟨.pointer (some ⟨b, Nat.add f (Nat.mul k u), none⟩), ?_, litN_some (K := fun o' => K (.pointer (some ⟨b, o', none⟩))) h2⟩
   show (match Nat.blt k n with | false => _ | true => _) = _
   rw [hlt]
theorem kExtr_some {v : Value} {i : Nat} {K : Value → An} {o : Out} (h : kExtr v i K = some o) : ∃ u, extr1 i v = some u ∧ K u = some o := by
 obtain ⟨vs, rfl, h⟩ := vTup_some (v := v) h
 exact obK_some h
theorem kField_some {off : Nat} {v : Value} {K : Value → An} {o : Out} (h : kField off v K = some o) : ∃ u, field1 off v = some u ∧ K u = some o := by
 obtain ⟨cs, rfl, h⟩ := vAgg_some (v := v) h
 exact obK_some h
theorem getB_some {h : Hs} {b : Nat} {F : Blk → An} {o : Out} (hh : getB h b F = some o) : ∃ B, h.hp.get b = some B ∧ F B = some o := by
 unfold getB at hh
 rw [getK_eq] at hh
 cases hb : h.hp.get b with
 | none => rw [hb] at hh; cases hh
 | some B => rw [hb] at hh; exact ⟨B, rfl, hh⟩
noncomputable def ldV (v : Value) (h : Hs) : Option Value := match addrOf v with
 | some p => blkCell p.2 (h.hp.get p.1)
 | none => none
noncomputable def ldsV (n : Nat) (v : Value) (h : Hs) : Option Value := match addrOf v with
 | some p => aggO (blkCells n p.2 (h.hp.get p.1))
 | none => none
theorem kLoad_some {v : Value} {h : Hs} {K : Value → An} {o : Out} (hh : kLoad v h K = some o) : ∃ u, ldV v h = some u ∧ K u = some o := by
 obtain ⟨b, f, rfl, hh⟩ := kAddr_some (v := v) hh
 obtain ⟨B, hb, hh⟩ := getB_some hh
 cases B with
 | mp es c => cases hh
 | it _ _ _ _ => cases hh
 | lp _ => cases hh
 | row c n e u rw' fl =>
  obtain ⟨x, hx, hK⟩ := obK_some (x := Tr.getK c f) hh
  rw [getK_eq] at hx
  refine ⟨x, ?_, hK⟩
  show blkCell f (h.hp.get b) = some x
  rw [hb]
  exact hx
theorem kLoads_some {n : Nat} {v : Value} {h : Hs} {K : Value → An} {o : Out} (hh : kLoads n v h K = some o) : ∃ u, ldsV n v h = some u ∧ K u = some o := by
 obtain ⟨b, f, rfl, hh⟩ := kAddr_some (v := v) hh
 obtain ⟨B, hb, hh⟩ := getB_some hh
 cases B with
 | mp es c => cases hh
 | it _ _ _ _ => cases hh
 | lp _ => cases hh
 | row c m e u rw' fl =>
  replace hh : Option.rec (motive := fun _ => An) none (fun cs => K (.agg cs.toArray)) (loadN c n f []) = some o := hh
  cases hl : loadN c n f [] with
  | none => rw [hl] at hh; cases hh
  | some cs =>
   rw [hl] at hh
   refine ⟨.agg cs.toArray, ?_, hh⟩
   show aggO (blkCells n f (h.hp.get b)) = _
   rw [hb]
   show aggO (loadN c n f []) = _
   rw [hl]
   rfl
theorem oLoad_ld (x : GX) (en : En) (h : Hs) : oLoad x en h = ret1 h (ldV (ev en x) h) := by
 unfold oLoad load1 ldV
 cases addrOf (ev en x) <;> rfl
theorem oLoads_ld (n : Nat) (x : GX) (en : En) (h : Hs) : oLoads n x en h = ret1 h (ldsV n (ev en x) h) := by
 unfold oLoads loads1 ldsV
 cases addrOf (ev en x) with
 | none => rfl
 | some p =>
  simp only
  cases blkCells n p.2 (h.hp.get p.1) <;> rfl
theorem flF_some {fl : Bool} {x : Value} {F : Bool → An} {o : Out} (h : flF fl x F = some o) : F (andB fl (flat1 x)) = some o := by
 unfold flF at h
 cases fl with
 | false => exact h
 | true =>
  cases hx : flat1 x with
  | false => rw [hx] at h; exact h
  | true => rw [hx] at h; exact h
theorem loF_some {lo b : Nat} {F : Nat → An} {o : Out} (h : loF lo b F = some o) : F (minN lo b) = some o := by
 unfold loF at h
 unfold minN
 cases hb : Nat.ble lo b with
 | false => rw [hb] at h; exact h
 | true => rw [hb] at h; exact h
theorem kStore1_some {a x : Value} {h : Hs} {K : KV} {o : Out} (hh : kStore1 a x h K = some o) : ∃ h1, store1 1 h (cellsL x) (addrOf a) = some (undef', h1) ∧ K undef' h1 = some o := by
 rcases ifB_some hh with ⟨hx, hh⟩ | ⟨hx, hh⟩
 ·obtain ⟨b, f, rfl, hh⟩ := kAddr_some (v := a) hh
  obtain ⟨B, hb, hh⟩ := getB_some hh
  cases B with
  | mp es c => cases hh
  | it _ _ _ _ => cases hh
  | lp _ => cases hh
  | row c m e u rw' fl =>
   rcases ifB_some (c := rw') hh with ⟨hr, hg⟩ | ⟨_, hg⟩
   ·subst hr
    cases hc : Tr.getK c f with
    | none => rw [hc] at hg; cases hg
    | some y =>
     rw [hc] at hg
     obtain ⟨hp, nx, lo⟩ := h
     have hh2 := loF_some (flF_some (fl := fl) (x := x) hg)
     rw [setK_eq, setK_eq] at hh2
     refine ⟨_, ?_, hh2⟩
     have hcl : cellsL x = [x] := by cases x <;> first | rfl | cases hx
     rw [hcl]
     show unit1 (storeB ⟨hp, nx, lo⟩ b f [x] (hp.get b)) = _
     have hb' : hp.get b = some (.row c m e u true fl) := hb
     rw [hb']
     show unit1 (setRow ⟨hp, nx, lo⟩ b m e u (andB fl (flatL [x])) (storeN [x] f c)) = _
     have hfl : flatL [x] = flat1 x := by
      show (match flat1 x with | true => true | false => false) = flat1 x
      cases flat1 x <;> rfl
     have hst : storeN [x] f c = some (c.set f (some x)) := by
      rw [getK_eq] at hc
      simp only [storeN, hx, hc]
     rw [hfl, hst]
     rfl
   ·cases hg
 ·have hh2 : after K (store1 1 h (cellsL x) (addrOf a)) = some o := hh
  cases hs : store1 1 h (cellsL x) (addrOf a) with
  | none => rw [hs] at hh2; cases hh2
  | some p =>
   rw [hs] at hh2
   have hp : p.1 = undef' := by
    unfold store1 at hs
    split at hs
    ·unfold store2 at hs
     split at hs
     ·unfold unit1 at hs
      split at hs
      ·injection hs with hs; rw [← hs]
      ·cases hs
     ·cases hs
    ·cases hs
   obtain ⟨p1, p2⟩ := p
   simp only at hp
   subst hp
   exact ⟨p2, rfl, hh2⟩
theorem kCall_some {R : RnK} {f : FuncId} {args : List Value} {h : Hs} {K : KV} {o : Out} (hh : kCall R f args h K = some o) : ∃ v h1, R f args h = some (.val v h1) ∧ K v h1 = some o := by
 unfold kCall at hh
 cases hr : R f args h with
 | none => rw [hr] at hh; cases hh
 | some x => cases x with
  | fin e fr h1 => rw [hr] at hh; cases hh
  | val v h1 => rw [hr] at hh; exact ⟨v, h1, rfl, hh⟩
end Go.Gev
