/- The operations in continuation form: what the kernel does not look up twice. -/
import Derived.Test.YtndlcnfnoiabbaaGevK
namespace Go.Gev
noncomputable section
def litN (n : Nat) (K : Nat → An) : An := Nat.rec (motive := fun _ => An) (K 0) (fun p _ => K (Nat.succ p)) n
def mkN (k : IntKind) (n : Nat) (K : Value → An) : An := Nat.rec (motive := fun _ => An) (K (.int k (.ofNat 0))) (fun p _ => K (.int k (.ofNat (Nat.succ p)))) n
def mkB (b : Bool) (K : Value → An) : An := Bool.rec (motive := fun _ => An) (K (.bool false)) (K (.bool true)) b
def obK (K : Value → An) (o : Option Value) : An := Option.rec (motive := fun _ => An) none K o
def isI64 (k : IntKind) (a : An) : An := IntKind.rec (motive := fun _ => An) none none none a none none none none k
def isU64 (k : IntKind) (a : An) : An := IntKind.rec (motive := fun _ => An) none none none none none none none a k
def isU8 (k : IntKind) (a : An) : An := IntKind.rec (motive := fun _ => An) none none none none a none none none k
def two64 (x y : Value) (F : Int → Int → An) : An := vInt x fun k a => isI64 k (vInt y fun k' b => isI64 k' (F a b))
def twoU (x y : Value) (F : Int → Int → An) : An := vInt x fun k a => isU64 k (vInt y fun k' b => isU64 k' (F a b))
def two8 (x y : Value) (F : Int → Int → An) : An := vInt x fun k a => isU8 k (vInt y fun k' b => isU8 k' (F a b))
def nn (a b : Int) (slow : An) (F : Nat → Nat → An) : An :=
 Int.rec (motive := fun _ => An) (fun m => Int.rec (motive := fun _ => An) (fun n => F m n) (fun _ => slow) b) (fun _ => slow) a
def cAdd (k : IntKind) (mx : Nat) (K : Value → An) (a b : Int) : An := nn a b (obK K (fAdd k a b)) fun m n => ifB (Nat.ble (Nat.add m n) mx) (mkN k (Nat.add m n) K) (obK K (fAdd k a b))
def cSub (k : IntKind) (mx : Nat) (K : Value → An) (a b : Int) : An := nn a b (obK K (fSub k a b)) fun m n => ifB (Nat.ble n m) (ifB (Nat.ble m mx) (mkN k (Nat.sub m n) K) (obK K (fSub k a b))) (obK K (fSub k a b))
def cMul (k : IntKind) (mx : Nat) (K : Value → An) (a b : Int) : An := nn a b (obK K (fMul k a b)) fun m n => ifB (Nat.ble (Nat.mul m n) mx) (mkN k (Nat.mul m n) K) (obK K (fMul k a b))
def cQuo (k : IntKind) (mx : Nat) (K : Value → An) (a b : Int) : An := nn a b (obK K (fQuo k a b)) fun m n => Nat.rec (motive := fun _ => An) none (fun _ _ => ifB (Nat.ble (Nat.div m n) mx) (mkN k (Nat.div m n) K) (obK K (fQuo k a b))) n
def cRem (k : IntKind) (_ : Nat) (K : Value → An) (a b : Int) : An := nn a b (obK K (fRem k a b)) fun m n => Nat.rec (motive := fun _ => An) none (fun _ _ => mkN k (Nat.mod m n) K) n
def cEql (_ : IntKind) (_ : Nat) (K : Value → An) (a b : Int) : An := nn a b (mkB (eqI a b) K) fun m n => mkB (Nat.beq m n) K
def cNeq (_ : IntKind) (_ : Nat) (K : Value → An) (a b : Int) : An := nn a b (mkB (notB (eqI a b)) K) fun m n => ifB (Nat.beq m n) (K (.bool false)) (K (.bool true))
def cLss (_ : IntKind) (_ : Nat) (K : Value → An) (a b : Int) : An := nn a b (mkB (ltI a b) K) fun m n => ifB (Nat.ble n m) (K (.bool false)) (K (.bool true))
def cLeq (_ : IntKind) (_ : Nat) (K : Value → An) (a b : Int) : An := nn a b (mkB (leI a b) K) fun m n => mkB (Nat.ble m n) K
def cGtr (_ : IntKind) (_ : Nat) (K : Value → An) (a b : Int) : An := nn a b (mkB (ltI b a) K) fun m n => ifB (Nat.ble m n) (K (.bool false)) (K (.bool true))
def cGeq (_ : IntKind) (_ : Nat) (K : Value → An) (a b : Int) : An := nn a b (mkB (leI b a) K) fun m n => mkB (Nat.ble n m) K
def cAnd (k : IntKind) (mx : Nat) (K : Value → An) (a b : Int) : An := nn a b (obK K (fBits .and k a b)) fun m n => ifB (Nat.ble m mx) (ifB (Nat.ble n mx) (mkN k (Nat.land m n) K) (obK K (fBits .and k a b))) (obK K (fBits .and k a b))
def cOr (k : IntKind) (mx : Nat) (K : Value → An) (a b : Int) : An := nn a b (obK K (fBits .or k a b)) fun m n => ifB (Nat.ble m mx) (ifB (Nat.ble n mx) (mkN k (Nat.lor m n) K) (obK K (fBits .or k a b))) (obK K (fBits .or k a b))
def cXor (k : IntKind) (mx : Nat) (K : Value → An) (a b : Int) : An := nn a b (obK K (fBits .xor k a b)) fun m n => ifB (Nat.ble m mx) (ifB (Nat.ble n mx) (mkN k (Nat.xor m n) K) (obK K (fBits .xor k a b))) (obK K (fBits .xor k a b))
def cGen (f : F2) (k : IntKind) (_ : Nat) (K : Value → An) (a b : Int) : An := obK K (f k a b)
def cOf (op : BinOp) : IntKind → Nat → (Value → An) → Int → Int → An :=
 BinOp.rec (motive := fun _ => IntKind → Nat → (Value → An) → Int → Int → An) cAdd cSub cMul cQuo cRem cAnd cOr cXor (cGen (fOf .shl)) (cGen (fOf .shr)) (cGen (fOf .andNot)) cEql cNeq cLss cLeq cGtr cGeq op
def kI64 (op : BinOp) (x y : Value) (K : Value → An) : An := two64 x y (cOf op .i64 9223372036854775807 K)
def kU64 (op : BinOp) (x y : Value) (K : Value → An) : An := twoU x y (cOf op .u64 18446744073709551615 K)
def kU8 (op : BinOp) (x y : Value) (K : Value → An) : An := two8 x y (cOf op .u8 255 K)
def kShl (x y : Value) (K : Value → An) : An := vInt x fun k a => vInt y fun _ b =>
 nn a b (obK K (shI .shl k a b)) fun m n => isU64 k (ifB (Nat.ble n 64) (mkN .u64 (Nat.mod (Nat.mul (Nat.pow 2 n) m) 18446744073709551616) K) (obK K (shI .shl k a b)))
def kShr (x y : Value) (K : Value → An) : An := vInt x fun k a => vInt y fun _ b =>
 nn a b (obK K (shI .shr k a b)) fun m n => ifB (Nat.ble n 8) (mkN k (Nat.div m (Nat.pow 2 n)) K) (ifB (Nat.ble n k.bits) (mkN k (Nat.div m (Nat.pow 2 n)) K) (obK K (shI .shr k a b)))
def kNot (x : Value) (K : Value → An) : An := vBool x fun b => Bool.rec (motive := fun _ => An) (K (.bool true)) (K (.bool false)) b
def kTo (k : IntKind) (mx : Nat) (x : Value) (K : Value → An) : An := vInt x fun k0 a =>
 Int.rec (motive := fun _ => An) (fun m => ifB (Nat.ble m mx) (K (.int k (.ofNat m))) (obK K (convI1 k (.int k0 a)))) (fun _ => obK K (convI1 k (.int k0 a))) a
def kTo64 (x : Value) (K : Value → An) : An := kTo .i64 9223372036854775807 x K
def kToU (x : Value) (K : Value → An) : An := kTo .u64 18446744073709551615 x K
def kTo8 (x : Value) (K : Value → An) : An := kTo .u8 255 x K
def kNil (v : Value) (K : Value → An) : An :=
 Value.rec (motive_1 := fun _ => An) (motive_2 := fun _ => PUnit) (motive_3 := fun _ => PUnit) (fun _ => none) (fun _ _ => none) (fun _ _ => none) (fun _ _ _ => none) (fun _ => none) (fun p => Option.rec (motive := fun _ => An) none (fun _ => K v) p) (fun _ _ _ => none) (fun _ => none) (fun _ => none)
  (fun _ _ _ _ _ => obK K (nilc1 v)) none (fun _ _ _ => none) none (fun _ _ => none) (fun _ _ => none) (fun _ _ => ⟨⟩) ⟨⟩ (fun _ _ _ _ => ⟨⟩) v
def kFieldA (k : Nat) (v : Value) (K : Value → An) : An := kAddr v fun b o => litN (Nat.add o k) fun o' => K (.pointer (some ⟨b, o', none⟩))
def kLenV (v : Value) (K : Value → An) : An := vSlice v fun _ n _ => mkN .i64 n K
def kLenS (v : Value) (K : Value → An) : An := vStr v fun s => mkN .i64 s.size K
def kNatI (v : Value) (F : Nat → An) : An := vInt v fun _ a => Int.rec (motive := fun _ => An) F (fun _ => none) a
def kIdxA (u : Nat) (x i : Value) (K : Value → An) : An := vSlice x fun a n _ => kNatI i fun k =>
 ifB (Nat.ble n k) none (Option.rec (motive := fun _ => An) none (fun a => adK a fun b o => litN (Nat.add o (Nat.mul k u)) fun o' => K (.pointer (some ⟨b, o', none⟩))) a)
def kExtr (v : Value) (i : Nat) (K : Value → An) : An := vTup v fun vs => obK K (nthV vs.toList i)
def kField (off : Nat) (v : Value) (K : Value → An) : An := vAgg v fun cs => obK K (nthV cs.toList off)
def kLoad (v : Value) (h : Hs) (K : Value → An) : An := kAddr v fun b o => getB h b fun B =>
 Blk.rec (motive := fun _ => An) (fun c _ _ _ _ _ => obK K (Tr.getK c o)) (fun _ _ => none) (fun _ _ _ _ => none) (fun _ => none) B
def kLoads (n : Nat) (v : Value) (h : Hs) (K : Value → An) : An := kAddr v fun b o => getB h b fun B =>
 Blk.rec (motive := fun _ => An) (fun c _ _ _ _ _ => Option.rec (motive := fun _ => An) none (fun cs => K (.agg cs.toArray)) (loadN c n o [])) (fun _ _ => none) (fun _ _ _ _ => none) (fun _ => none) B
def flF (fl : Bool) (x : Value) (F : Bool → An) : An := Bool.rec (motive := fun _ => An) (F false) (Bool.rec (motive := fun _ => An) (F false) (F true) (flat1 x)) fl
def st1 (h : Hs) (b o : Nat) (x : Value) (K : KV) (B : Blk) : An :=
 Blk.rec (motive := fun _ => An) (fun c m e u rw fl => ifB rw (Option.rec (motive := fun _ => An) none (fun _ =>
  Hs.rec (motive := fun _ => An) (fun hp nx lo => flF fl x fun fl' => loF lo b fun lo' => K undef' ⟨Tr.setK (.row (Tr.setK x c o) m e u true fl') hp b, nx, lo'⟩) h) (Tr.getK c o)) none) (fun _ _ => none) (fun _ _ _ _ => none) (fun _ => none) B
def kStore1 (a x : Value) (h : Hs) (K : KV) : An := ifB (oneC x) (kAddr a fun b o => getB h b fun B => st1 h b o x K B) (after K (store1 1 h (cellsL x) (addrOf a)))
def kPure (pf : En → Option Value) : KOp := .pure fun en K => obK K (pf en)
end
end Go.Gev
