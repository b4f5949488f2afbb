import Derived.Test.YtnbnmojckhcdeaaGreatDoorGevK
namespace Go.Gev
noncomputable section
def litN(n:Nat)(K:Nat→An):An:=Nat.rec (motive:=λ_=>An) (K 0) (λp _=>K (Nat.succ p)) n
def mkN(k:IntKind)(n:Nat)(K:Value→An):An:=Nat.rec (motive:=λ_=>An) (K (.int k (.ofNat 0))) (λp _=>K (.int k (.ofNat (Nat.succ p)))) n
def mkB(b:Bool)(K:Value→An):An:=Bool.rec (motive:=λ_=>An) (K (.bool false)) (K (.bool true)) b
def obK(K:Value→An)(o:Option Value):An:=Option.rec (motive:=λ_=>An) none K o
def AW4(k:IntKind)(a:An):An:=IntKind.rec (motive:=λ_=>An) none none none a none none none none k
def AF1(k:IntKind)(a:An):An:=IntKind.rec (motive:=λ_=>An) none none none none none none none a k
def isU8(k:IntKind)(a:An):An:=IntKind.rec (motive:=λ_=>An) none none none none a none none none k
def two64(x y:Value)(F:Int→Int→An):An:=vInt x λk a=>AW4 k (vInt y λk' b=>AW4 k' (F a b))
def twoU(x y:Value)(F:Int→Int→An):An:=vInt x λk a=>AF1 k (vInt y λk' b=>AF1 k' (F a b))
def two8(x y:Value)(F:Int→Int→An):An:=vInt x λk a=>isU8 k (vInt y λk' b=>isU8 k' (F a b))
def nn(a b:Int)(slow:An)(F:Nat→Nat→An):An:=
 Int.rec (motive:=λ_=>An) (λm=>Int.rec (motive:=λ_=>An) (λn=>F m n) (λ_=>slow) b) (λ_=>slow) a
def cAdd(k:IntKind)(mx:Nat)(K:Value→An)(a b:Int):An:=nn a b (obK K (fAdd k a b)) λm n=>ifB (Nat.ble (Nat.add m n) mx) (mkN k (Nat.add m n) K) (obK K (fAdd k a b))
def cSub(k:IntKind)(mx:Nat)(K:Value→An)(a b:Int):An:=nn a b (obK K (fSub k a b)) λm n=>ifB (Nat.ble n m) (ifB (Nat.ble m mx) (mkN k (Nat.sub m n) K) (obK K (fSub k a b))) (obK K (fSub k a b))
def cMul(k:IntKind)(mx:Nat)(K:Value→An)(a b:Int):An:=nn a b (obK K (fMul k a b)) λm n=>ifB (Nat.ble (Nat.mul m n) mx) (mkN k (Nat.mul m n) K) (obK K (fMul k a b))
def cQuo(k:IntKind)(mx:Nat)(K:Value→An)(a b:Int):An:=nn a b (obK K (fQuo k a b)) λm n=>Nat.rec (motive:=λ_=>An) none (λ_ _=>ifB (Nat.ble (Nat.div m n) mx) (mkN k (Nat.div m n) K) (obK K (fQuo k a b))) n
def cRem(k:IntKind)(_:Nat)(K:Value→An)(a b:Int):An:=nn a b (obK K (fRem k a b)) λm n=>Nat.rec (motive:=λ_=>An) none (λ_ _=>mkN k (Nat.mod m n) K) n
def cEql(_:IntKind)(_:Nat)(K:Value→An)(a b:Int):An:=nn a b (mkB (eqI a b) K) λm n=>mkB (Nat.beq m n) K
def cNeq(_:IntKind)(_:Nat)(K:Value→An)(a b:Int):An:=nn a b (mkB (notB (eqI a b)) K) λm n=>ifB (Nat.beq m n) (K (.bool false)) (K (.bool true))
def cLss(_:IntKind)(_:Nat)(K:Value→An)(a b:Int):An:=nn a b (mkB (ltI a b) K) λm n=>ifB (Nat.ble n m) (K (.bool false)) (K (.bool true))
def cLeq(_:IntKind)(_:Nat)(K:Value→An)(a b:Int):An:=nn a b (mkB (leI a b) K) λm n=>mkB (Nat.ble m n) K
def cGtr(_:IntKind)(_:Nat)(K:Value→An)(a b:Int):An:=nn a b (mkB (ltI b a) K) λm n=>ifB (Nat.ble m n) (K (.bool false)) (K (.bool true))
def cGeq(_:IntKind)(_:Nat)(K:Value→An)(a b:Int):An:=nn a b (mkB (leI b a) K) λm n=>mkB (Nat.ble n m) K
def cAnd(k:IntKind)(mx:Nat)(K:Value→An)(a b:Int):An:=nn a b (obK K (R_b .and k a b)) λm n=>ifB (Nat.ble m mx) (ifB (Nat.ble n mx) (mkN k (Nat.land m n) K) (obK K (R_b .and k a b))) (obK K (R_b .and k a b))
def cOr(k:IntKind)(mx:Nat)(K:Value→An)(a b:Int):An:=nn a b (obK K (R_b .or k a b)) λm n=>ifB (Nat.ble m mx) (ifB (Nat.ble n mx) (mkN k (Nat.lor m n) K) (obK K (R_b .or k a b))) (obK K (R_b .or k a b))
def cXor(k:IntKind)(mx:Nat)(K:Value→An)(a b:Int):An:=nn a b (obK K (R_b .xor k a b)) λm n=>ifB (Nat.ble m mx) (ifB (Nat.ble n mx) (mkN k (Nat.xor m n) K) (obK K (R_b .xor k a b))) (obK K (R_b .xor k a b))
def cGen(f:F2)(k:IntKind)(_:Nat)(K:Value→An)(a b:Int):An:=obK K (f k a b)
def cOf(op:BinOp):IntKind→Nat→(Value→An)→Int→Int→An:=
 BinOp.rec (motive:=λ_=>IntKind→Nat→(Value→An)→Int→Int→An) cAdd cSub cMul cQuo cRem cAnd cOr cXor (cGen (fOf .shl)) (cGen (fOf .shr)) (cGen (fOf .andNot)) cEql cNeq cLss cLeq cGtr cGeq op
def kI64(op:BinOp)(x y:Value)(K:Value→An):An:=two64 x y (cOf op .i64 9223372036854775807 K)
def kU64(op:BinOp)(x y:Value)(K:Value→An):An:=twoU x y (cOf op .u64 18446744073709551615 K)
def kU8(op:BinOp)(x y:Value)(K:Value→An):An:=two8 x y (cOf op .u8 255 K)
def kShl(x y:Value)(K:Value→An):An:=vInt x λk a=>vInt y λ_ b=>
 nn a b (obK K (shI .shl k a b)) λm n=>AF1 k (ifB (Nat.ble n 64) (mkN .u64 (Nat.mod (Nat.mul (Nat.pow 2 n) m) 18446744073709551616) K) (obK K (shI .shl k a b)))
def kShr(x y:Value)(K:Value→An):An:=vInt x λk a=>vInt y λ_ b=>
 nn a b (obK K (shI .shr k a b)) λm n=>ifB (Nat.ble n 8) (mkN k (Nat.div m (Nat.pow 2 n)) K) (ifB (Nat.ble n k.bits) (mkN k (Nat.div m (Nat.pow 2 n)) K) (obK K (shI .shr k a b)))
def kNot(x:Value)(K:Value→An):An:=Bd4 x λb=>Bool.rec (motive:=λ_=>An) (K (.bool true)) (K (.bool false)) b
def kTo(k:IntKind)(mx:Nat)(x:Value)(K:Value→An):An:=vInt x λk0 a=>
 Int.rec (motive:=λ_=>An) (λm=>ifB (Nat.ble m mx) (K (.int k (.ofNat m))) (obK K (V_0 k (.int k0 a)))) (λ_=>obK K (V_0 k (.int k0 a))) a
def Bk4(x:Value)(K:Value→An):An:=kTo .i64 9223372036854775807 x K
def kToU(x:Value)(K:Value→An):An:=kTo .u64 18446744073709551615 x K
def kTo8(x:Value)(K:Value→An):An:=kTo .u8 255 x K
def kNil(v:Value)(K:Value→An):An:=
 Value.rec (motive_1:=λ_=>An) (motive_2:=λ_=>PUnit) (motive_3:=λ_=>PUnit) (λ_=>none) (λ_ _=>none) (λ_ _=>none) (λ_ _ _=>none) (λ_=>none) (λp=>Option.rec (motive:=λ_=>An) none (λ_=>K v) p) (λ_ _ _=>none) (λ_=>none) (λ_=>none)
  (λ_ _ _ _ _=>obK K (nilc1 v)) none (λ_ _ _=>none) none (λ_ _=>none) (λ_ _=>none) (λ_ _=>⟨⟩) ⟨⟩ (λ_ _ _ _=>⟨⟩) v
def kFieldA(k:Nat)(v:Value)(K:Value→An):An:=w_e v λb o=>litN (Nat.add o k) λo'=>K (.pointer (some ⟨b,o',none⟩))
def L_o(v:Value)(K:Value→An):An:=Ay3 v λ_ n _=>mkN .i64 n K
def Q_v(v:Value)(K:Value→An):An:=vStr v λs=>mkN .i64 s.size K
def Bk3(v:Value)(F:Nat→An):An:=vInt v λ_ a=>Int.rec (motive:=λ_=>An) F (λ_=>none) a
def L_x(u:Nat)(x i:Value)(K:Value→An):An:=Ay3 x λa n _=>Bk3 i λk=>
 ifB (Nat.ble n k) none (Option.rec (motive:=λ_=>An) none (λa=>adK a λb o=>litN (Nat.add o (Nat.mul k u)) λo'=>K (.pointer (some ⟨b,o',none⟩))) a)
def kExtr(v:Value)(i:Nat)(K:Value→An):An:=vTup v λvs=>obK K (nthV vs.toList i)
def Ag3(off:Nat)(v:Value)(K:Value→An):An:=vAgg v λcs=>obK K (nthV cs.toList off)
def kLoad(v:Value)(h:Hs)(K:Value→An):An:=w_e v λb o=>getB h b λB=>
 Blk.rec (motive:=λ_=>An) (λc _ _ _ _ _=>obK K (Tr.getK c o)) (λ_ _=>none) (λ_ _ _ _=>none) (λ_=>none) B
def H_7(n:Nat)(v:Value)(h:Hs)(K:Value→An):An:=w_e v λb o=>getB h b λB=>
 Blk.rec (motive:=λ_=>An) (λc _ _ _ _ _=>Option.rec (motive:=λ_=>An) none (λcs=>K (.agg cs.toArray)) (I_y c n o [])) (λ_ _=>none) (λ_ _ _ _=>none) (λ_=>none) B
def flF(fl:Bool)(x:Value)(F:Bool→An):An:=Bool.rec (motive:=λ_=>An) (F false) (Bool.rec (motive:=λ_=>An) (F false) (F true) (flat1 x)) fl
def st1(h:Hs)(b o:Nat)(x:Value)(K:KV)(B:Blk):An:=
 Blk.rec (motive:=λ_=>An) (λc m e u rw fl=>ifB rw (Option.rec (motive:=λ_=>An) none (λ_=>
  Hs.rec (motive:=λ_=>An) (λhp nx lo=>flF fl x λfl'=>loF lo b λlo'=>K undef' ⟨Tr.setK (.row (Tr.setK x c o) m e u true fl') hp b,nx,lo'⟩) h) (Tr.getK c o)) none) (λ_ _=>none) (λ_ _ _ _=>none) (λ_=>none) B
def H_l(a x:Value)(h:Hs)(K:KV):An:=ifB (oneC x) (w_e a λb o=>getB h b λB=>st1 h b o x K B) (after K (store1 1 h (A_4 x) (addrOf a)))
def m_c(pf:En→Option Value):KOp:=.pure λen K=>obK K (pf en)
end
end Go.Gev
