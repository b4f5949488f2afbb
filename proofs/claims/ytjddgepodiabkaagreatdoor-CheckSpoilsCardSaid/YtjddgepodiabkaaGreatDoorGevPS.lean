/- The fast forms of the operations say what the operations say. -/
import Derived.Test.YtjddgepodiabkaaGreatDoorGevKC
import Derived.Test.YtjddgepodiabkaaGreatDoorGevTr
import Derived.Test.YtjddgepodiabkaaGreatDoorGevDraw1
namespace Go.Gev
open Go.RowKit
theorem U_9:∀(f g k:Nat),k<f→k<g→pthF f k=pthF g k:=by
 intro f
 induction f with
 |zero=>intro g k h;omega
 | succ f ih =>
  intro g k h1 h2
  cases g with
  |zero=>omega
  | succ g =>
   cases k with
   |zero=>rfl
   |succ k=>
    have:k/2≤k:=Nat.div_le_self k 2
    simp only[pthF]
    rw[ih g (Nat.div k 2) (by show k/2<f;omega) (by show k/2<g;omega)]
theorem P_8{α:Type}(t:Tr α):∀(f k:Nat),k<f→t.getp (pthF f k)=t.getK k:=by
 induction t with
 |e=>intro f k _;rw[Tr.getp_e];rfl
 | n v l r il ir =>
  intro f k hk
  cases f with
  |zero=>omega
  | succ f =>
   cases k with
   |zero=>rfl
   |succ k=>
    have:k/2≤k:=Nat.div_le_self k 2
    have e:(Tr.n v l r).getK (k+1)=Bool.rec (motive:=λ_=>Option α) (l.getK (Nat.div k 2)) (r.getK (Nat.div k 2)) (Nat.beq (Nat.mod k 2) 0):=rfl
    rw[e]
    simp only[pthF]
    rw[Tr.getp_cons]
    cases Nat.beq (Nat.mod k 2) 0 with
    |true=>exact ir f _ (by show k/2<f;omega)
    |false=>exact il f _ (by show k/2<f;omega)
theorem A_i{α:Type}(t:Tr α)(k:Nat):t.getK k=t.get k:=(P_8 t _ k (Nat.lt_succ_self k)).symm
theorem S_e{α:Type}(x:α)(t:Tr α):∀(f k:Nat),k<f→t.setp (some x) (pthF f k)=Tr.setK x t k:=by
 induction t with
 |e=>intro f k hk;show _=Tr.setp (some x) (pth k) .e;rw[pth,U_9 f _ k hk (Nat.lt_succ_self k)]
 | n v l r il ir =>
  intro f k hk
  cases f with
  |zero=>omega
  | succ f =>
   cases k with
   |zero=>rfl
   |succ k=>
    have:k/2≤k:=Nat.div_le_self k 2
    have e:Tr.setK x (Tr.n v l r) (k+1)=Bool.rec (motive:=λ_=>Tr α) (.n v (Tr.setK x l (Nat.div k 2)) r) (.n v l (Tr.setK x r (Nat.div k 2))) (Nat.beq (Nat.mod k 2) 0):=rfl
    rw[e]
    simp only[pthF]
    rw[Tr.setp_cons]
    cases Nat.beq (Nat.mod k 2) 0 with
    |true=>simp only[if_true];rw[ir f _ (by show k/2<f;omega)]
    |false=>simp only[Bool.false_eq_true,if_false];rw[il f _ (by show k/2<f;omega)]
theorem A_7{α:Type}(x:α)(t:Tr α)(k:Nat):Tr.setK x t k=t.set k (some x):=(S_e x t _ k (Nat.lt_succ_self k)).symm
theorem H_d{v:Value}{F:Bool→An}{o:Out}(h:Z_e v F=some o):∃b,v=.bool b∧F b=some o:=by
 cases v<;>first|exact⟨_,rfl,h⟩|cases h
theorem A_y{v:Value}{F:IntKind→Int→An}{o:Out}(h:vInt v F=some o):∃k n,v=.int k n∧F k n=some o:=by
 cases v<;>first|exact⟨_,_,rfl,h⟩|cases h
theorem T_c{v:Value}{F:ByteArray→An}{o:Out}(h:vStr v F=some o):∃b,v=.string b∧F b=some o:=by
 cases v<;>first|exact⟨_,rfl,h⟩|cases h
theorem T_a{v:Value}{F:Option Addr→An}{o:Out}(h:vPtr v F=some o):∃b,v=.pointer b∧F b=some o:=by
 cases v<;>first|exact⟨_,rfl,h⟩|cases h
theorem G_f{v:Value}{F:Option Addr→Nat→Nat→An}{o:Out}(h:T_b v F=some o):∃a n c,v=.slice a n c∧F a n c=some o:=by
 cases v<;>first|exact⟨_,_,_,rfl,h⟩|cases h
theorem S_9{v:Value}{F:Array Value→An}{o:Out}(h:vAgg v F=some o):∃b,v=.agg b∧F b=some o:=by
 cases v<;>first|exact⟨_,rfl,h⟩|cases h
theorem T_d{v:Value}{F:Array Value→An}{o:Out}(h:vTup v F=some o):∃b,v=.tuple b∧F b=some o:=by
 cases v<;>first|exact⟨_,rfl,h⟩|cases h
theorem A_l{c:Bool}{a b:An}{o:Out}(h:ifB c a b=some o):(c=true∧a=some o)∨(c=false∧b=some o):=by
 cases c
 ·exact .inr ⟨rfl,h⟩
 ·exact .inl ⟨rfl,h⟩
theorem A_g{K:Value→An}{x:Option Value}{o:Out}(h:obK K x=some o):∃v,x=some v∧K v=some o:=by
 cases x with
 |none=>cases h
 |some v=>exact⟨v,rfl,h⟩
theorem I_4{n:Nat}{K:Nat→An}{o:Out}(h:litN n K=some o):K n=some o:=by cases n<;>exact h
theorem A_3{k:IntKind}{n:Nat}{K:Value→An}{o:Out}(h:mkN k n K=some o):K (.int k (.ofNat n))=some o:=by cases n<;>exact h
theorem B_y{b:Bool}{K:Value→An}{o:Out}(h:mkB b K=some o):K (.bool b)=some o:=by cases b<;>exact h
theorem G_t{k:IntKind}{a:An}{o:Out}(h:X_w k a=some o):k=.i64∧a=some o:=by cases k<;>first|exact⟨rfl,h⟩|cases h
theorem E_o{k:IntKind}{a:An}{o:Out}(h:U_j k a=some o):k=.u64∧a=some o:=by cases k<;>first|exact⟨rfl,h⟩|cases h
theorem I_0{k:IntKind}{a:An}{o:Out}(h:isU8 k a=some o):k=.u8∧a=some o:=by cases k<;>first|exact⟨rfl,h⟩|cases h
theorem O_n{x y:Value}{F:Int→Int→An}{o:Out}(h:two64 x y F=some o):∃a b,x=.int .i64 a∧y=.int .i64 b∧F a b=some o:=by
 obtain⟨k,a,rfl,h1⟩:=A_y (v:=x) h
 obtain⟨rfl,h2⟩:=G_t h1
 obtain⟨k,b,rfl,h3⟩:=A_y (v:=y) h2
 obtain⟨rfl,h4⟩:=G_t h3
 exact⟨a,b,rfl,rfl,h4⟩
theorem S_8{x y:Value}{F:Int→Int→An}{o:Out}(h:twoU x y F=some o):∃a b,x=.int .u64 a∧y=.int .u64 b∧F a b=some o:=by
 obtain⟨k,a,rfl,h1⟩:=A_y (v:=x) h
 obtain⟨rfl,h2⟩:=E_o h1
 obtain⟨k,b,rfl,h3⟩:=A_y (v:=y) h2
 obtain⟨rfl,h4⟩:=E_o h3
 exact⟨a,b,rfl,rfl,h4⟩
theorem S_7{x y:Value}{F:Int→Int→An}{o:Out}(h:two8 x y F=some o):∃a b,x=.int .u8 a∧y=.int .u8 b∧F a b=some o:=by
 obtain⟨k,a,rfl,h1⟩:=A_y (v:=x) h
 obtain⟨rfl,h2⟩:=I_0 h1
 obtain⟨k,b,rfl,h3⟩:=A_y (v:=y) h2
 obtain⟨rfl,h4⟩:=I_0 h3
 exact⟨a,b,rfl,rfl,h4⟩
theorem A_5{a b:Int}{s:An}{F:Nat→Nat→An}{o:Out}(h:nn a b s F=some o):(∃m n:Nat,a=.ofNat m∧b=.ofNat n∧F m n=some o)∨s=some o:=by
 cases a with
 |negSucc m=>exact .inr h
 |ofNat m=>cases b with
  |negSucc n=>exact .inr h
  |ofNat n=>exact .inl ⟨m,n,rfl,rfl,h⟩
def MxOf(k:IntKind)(mx:Nat):Prop:=(∀m:Nat,inK k (.ofNat m)=Nat.ble m mx)∧k.bits≤64∧mx<2^k.bits
theorem W_i:MxOf .i64 9223372036854775807:=⟨λ_=>rfl,by decide,by decide⟩
theorem W_j:MxOf .u64 18446744073709551615:=⟨λ_=>rfl,by decide,by decide⟩
theorem a_q:MxOf .u8 255:=⟨λ_=>rfl,by decide,by decide⟩
theorem D_m{k:IntKind}{mx m:Nat}(h:MxOf k mx)(hm:Nat.ble m mx=true):wrapF k (.ofNat m)=.ofNat m:=by
 unfold wrapF
 rw[h.1 m,hm]
theorem E_c{m n:Nat}(h:n≤m):Int.sub (.ofNat m) (.ofNat n)=.ofNat (Nat.sub m n):=by
 show (m:Int)-(n:Int)=((m-n:Nat):Int)
 omega
theorem F_m(m n:Nat):eqI (.ofNat m) (.ofNat n)=Nat.beq m n:=rfl
theorem F_y(m n:Nat):leI (.ofNat m) (.ofNat n)=Nat.ble m n:=rfl
theorem I_6(m n:Nat):ltI (.ofNat m) (.ofNat n)=notB (Nat.ble n m):=by unfold ltI;rw[F_y];cases Nat.ble n m<;>rfl
theorem G_x{k:IntKind}{mx m:Nat}(h:MxOf k mx)(hm:Nat.ble m mx=true):Nat.mod m (Nat.pow 2 k.bits)=m:=
 Nat.mod_eq_of_lt (Nat.lt_of_le_of_lt (Nat.le_of_ble_eq_true hm) h.2.2)
section
variable {k:IntKind} {mx:Nat} {K:Value→An} {a b:Int} {o:Out}
theorem O_y(hk:MxOf k mx)(h:cAdd k mx K a b=some o):∃v,fAdd k a b=some v∧K v=some o:=by
 rcases A_5 h with⟨m,n,rfl,rfl,h⟩|h
 ·rcases A_l h with⟨hb,h⟩|⟨_,h⟩
  ·exact⟨_,by rw[fAdd];exact congrArg (λz=>some (Value.int k z)) (D_m hk hb),A_3 h⟩
  ·exact A_g h
 ·exact A_g h
theorem O_9(hk:MxOf k mx)(h:cSub k mx K a b=some o):∃v,fSub k a b=some v∧K v=some o:=by
 rcases A_5 h with⟨m,n,rfl,rfl,h⟩|h
 ·rcases A_l h with⟨hb,h⟩|⟨_,h⟩
  ·rcases A_l h with⟨hc,h⟩|⟨_,h⟩
   ·refine⟨.int k (.ofNat (Nat.sub m n)),?_,A_3 h⟩
    rw[fSub,E_c (Nat.le_of_ble_eq_true hb),D_m hk]
    have:=Nat.le_of_ble_eq_true hc
    exact Nat.ble_eq_true_of_le (by show m-n≤mx;omega)
   ·exact A_g h
  ·exact A_g h
 ·exact A_g h
theorem O_5(hk:MxOf k mx)(h:cMul k mx K a b=some o):∃v,fMul k a b=some v∧K v=some o:=by
 rcases A_5 h with⟨m,n,rfl,rfl,h⟩|h
 ·rcases A_l h with⟨hb,h⟩|⟨_,h⟩
  ·exact⟨_,by rw[fMul];exact congrArg (λz=>some (Value.int k z)) (D_m hk hb),A_3 h⟩
  ·exact A_g h
 ·exact A_g h
theorem O_7(hk:MxOf k mx)(h:cQuo k mx K a b=some o):∃v,fQuo k a b=some v∧K v=some o:=by
 rcases A_5 h with⟨m,n,rfl,rfl,h⟩|h
 ·cases n with
  |zero=>cases h
  | succ n =>
   rcases A_l h with⟨hb,h⟩|⟨_,h⟩
   ·refine⟨.int k (.ofNat (Nat.div m (n+1))),?_,A_3 h⟩
    have e:eqI (.ofNat (n+1)) 0=false:=rfl
    rw[fQuo,e]
    exact congrArg (λz=>some (Value.int k z)) (D_m hk hb)
   ·exact A_g h
 ·exact A_g h
theorem O_8(h:cRem k mx K a b=some o):∃v,fRem k a b=some v∧K v=some o:=by
 rcases A_5 h with⟨m,n,rfl,rfl,h⟩|h
 ·cases n with
  |zero=>cases h
  |succ n=>
   refine⟨.int k (.ofNat (Nat.mod m (n+1))),?_,A_3 h⟩
   have e:eqI (.ofNat (n+1)) 0=false:=rfl
   rw[fRem,e]
   rfl
 ·exact A_g h
theorem O_0(h:cEql k mx K a b=some o):∃v,fEql k a b=some v∧K v=some o:=by
 rcases A_5 h with⟨m,n,rfl,rfl,h⟩|h
 ·exact⟨_,rfl,B_y h⟩
 ·exact⟨_,rfl,B_y h⟩
theorem O_6(h:cNeq k mx K a b=some o):∃v,fNeq k a b=some v∧K v=some o:=by
 rcases A_5 h with⟨m,n,rfl,rfl,h⟩|h
 ·refine⟨_,rfl,?_⟩
  rw[F_m]
  rcases A_l h with⟨hb,h⟩|⟨hb,h⟩<;>(rw[hb];exact h)
 ·exact⟨_,rfl,B_y h⟩
theorem O_4(h:cLss k mx K a b=some o):∃v,fLss k a b=some v∧K v=some o:=by
 rcases A_5 h with⟨m,n,rfl,rfl,h⟩|h
 ·refine⟨_,rfl,?_⟩
  rw[I_6]
  rcases A_l h with⟨hb,h⟩|⟨hb,h⟩<;>(rw[hb];exact h)
 ·exact⟨_,rfl,B_y h⟩
theorem O_3(h:cLeq k mx K a b=some o):∃v,fLeq k a b=some v∧K v=some o:=by
 rcases A_5 h with⟨m,n,rfl,rfl,h⟩|h
 ·exact⟨_,rfl,B_y h⟩
 ·exact⟨_,rfl,B_y h⟩
theorem O_2(h:cGtr k mx K a b=some o):∃v,fGtr k a b=some v∧K v=some o:=by
 rcases A_5 h with⟨m,n,rfl,rfl,h⟩|h
 ·refine⟨_,rfl,?_⟩
  rw[I_6]
  rcases A_l h with⟨hb,h⟩|⟨hb,h⟩<;>(rw[hb];exact h)
 ·exact⟨_,rfl,B_y h⟩
theorem O_1(h:cGeq k mx K a b=some o):∃v,fGeq k a b=some v∧K v=some o:=by
 rcases A_5 h with⟨m,n,rfl,rfl,h⟩|h
 ·exact⟨_,rfl,B_y h⟩
 ·exact⟨_,rfl,B_y h⟩
theorem J_2{f:Nat→Nat→Nat}(hk:MxOf k mx)(hf:∀x y w,x<2^w→y<2^w→f x y<2^w)(hw:mx+1=2^(Nat.log2 (mx+1))){m n:Nat}(hm:Nat.ble m mx=true)(hn:Nat.ble n mx=true):wrapF k (.ofNat (f m n))=.ofNat (f m n):=by
 refine D_m hk (Nat.ble_eq_true_of_le ?_)
 have h1:=Nat.le_of_ble_eq_true hm
 have h2:=Nat.le_of_ble_eq_true hn
 have:=hf m n (Nat.log2 (mx+1)) (by omega) (by omega)
 omega
theorem O_z(hk:MxOf k mx)(hw:mx+1=2^(Nat.log2 (mx+1)))(h:cAnd k mx K a b=some o):∃v,C_f .and k a b=some v∧K v=some o:=by
 rcases A_5 h with⟨m,n,rfl,rfl,h⟩|h
 ·rcases A_l h with⟨hb,h⟩|⟨_,h⟩
  ·rcases A_l h with⟨hc,h⟩|⟨_,h⟩
   ·refine⟨.int k (.ofNat (Nat.land m n)),?_,A_3 h⟩
    show some (Value.int k (wrapF k (.ofNat (Nat.land (Nat.mod m (Nat.pow 2 k.bits)) (Nat.mod n (Nat.pow 2 k.bits))))))=_
    rw[G_x hk hb,G_x hk hc,J_2 (f:=Nat.land) hk (λx y w hx hy=>Nat.and_lt_two_pow x hy) hw hb hc]
   ·exact A_g h
  ·exact A_g h
 ·exact A_g h
theorem T_s(hk:MxOf k mx)(hw:mx+1=2^(Nat.log2 (mx+1)))(h:cOr k mx K a b=some o):∃v,C_f .or k a b=some v∧K v=some o:=by
 rcases A_5 h with⟨m,n,rfl,rfl,h⟩|h
 ·rcases A_l h with⟨hb,h⟩|⟨_,h⟩
  ·rcases A_l h with⟨hc,h⟩|⟨_,h⟩
   ·refine⟨.int k (.ofNat (Nat.lor m n)),?_,A_3 h⟩
    show some (Value.int k (wrapF k (.ofNat (Nat.lor (Nat.mod m (Nat.pow 2 k.bits)) (Nat.mod n (Nat.pow 2 k.bits))))))=_
    rw[G_x hk hb,G_x hk hc,J_2 (f:=Nat.lor) hk (λx y w hx hy=>Nat.or_lt_two_pow hx hy) hw hb hc]
   ·exact A_g h
  ·exact A_g h
 ·exact A_g h
theorem P_a(hk:MxOf k mx)(hw:mx+1=2^(Nat.log2 (mx+1)))(h:cXor k mx K a b=some o):∃v,C_f .xor k a b=some v∧K v=some o:=by
 rcases A_5 h with⟨m,n,rfl,rfl,h⟩|h
 ·rcases A_l h with⟨hb,h⟩|⟨_,h⟩
  ·rcases A_l h with⟨hc,h⟩|⟨_,h⟩
   ·refine⟨.int k (.ofNat (Nat.xor m n)),?_,A_3 h⟩
    show some (Value.int k (wrapF k (.ofNat (Nat.xor (Nat.mod m (Nat.pow 2 k.bits)) (Nat.mod n (Nat.pow 2 k.bits))))))=_
    rw[G_x hk hb,G_x hk hc,J_2 (f:=Nat.xor) hk (λx y w hx hy=>Nat.xor_lt_two_pow hx hy) hw hb hc]
   ·exact A_g h
  ·exact A_g h
 ·exact A_g h
theorem H_i(hk:MxOf k mx)(hw:mx+1=2^(Nat.log2 (mx+1)))(op:BinOp)(h:cOf op k mx K a b=some o):∃v,fOf op k a b=some v∧K v=some o:=by
 cases op with
 |add=>exact O_y hk h
 |sub=>exact O_9 hk h
 |mul=>exact O_5 hk h
 |quo=>exact O_7 hk h
 |rem=>exact O_8 (mx:=mx) h
 |and=>exact O_z hk hw h
 |or=>exact T_s hk hw h
 |xor=>exact P_a hk hw h
 |shl=>exact A_g h
 |shr=>exact A_g h
 |andNot=>exact A_g h
 |eql=>exact O_0 (k:=k) (mx:=mx) h
 |neq=>exact O_6 (k:=k) (mx:=mx) h
 |lss=>exact O_4 (k:=k) (mx:=mx) h
 |leq=>exact O_3 (k:=k) (mx:=mx) h
 |gtr=>exact O_2 (k:=k) (mx:=mx) h
 |geq=>exact O_1 (k:=k) (mx:=mx) h
end
theorem Q_e(f:F2)(k:IntKind)(a b:Int):i2 f (.int k a) (.int k b)=f k a b:=by
 show (match Nat.beq (kn k) (kn k) with|true=>f k a b|false=>none)=_
 rw[Nat.beq_refl]
theorem Q_n{op:BinOp}{x y:Value}{K:Value→An}{o:Out}(h:kI64 op x y K=some o):∃v,i2 (fOf op) x y=some v∧K v=some o:=by
 obtain⟨a,b,rfl,rfl,h⟩:=O_n h
 rw[Q_e]
 exact H_i W_i (by decide) op h
theorem Q_v{op:BinOp}{x y:Value}{K:Value→An}{o:Out}(h:kU64 op x y K=some o):∃v,i2 (fOf op) x y=some v∧K v=some o:=by
 obtain⟨a,b,rfl,rfl,h⟩:=S_8 h
 rw[Q_e]
 exact H_i W_j (by decide) op h
theorem U_m{op:BinOp}{x y:Value}{K:Value→An}{o:Out}(h:kU8 op x y K=some o):∃v,i2 (fOf op) x y=some v∧K v=some o:=by
 obtain⟨a,b,rfl,rfl,h⟩:=S_7 h
 rw[Q_e]
 exact H_i a_q (by decide) op h
theorem Q_s{x y:Value}{K:Value→An}{o:Out}(h:kShl x y K=some o):∃v,sh2 .shl x y=some v∧K v=some o:=by
 obtain⟨k,a,rfl,h⟩:=A_y (v:=x) h
 obtain⟨k2,b,rfl,h⟩:=A_y (v:=y) h
 show ∃v,shI .shl k a b=some v∧_
 rcases A_5 h with⟨m,n,rfl,rfl,h⟩|h
 ·obtain⟨rfl,h⟩:=E_o h
  rcases A_l h with⟨hb,h⟩|⟨_,h⟩
  ·refine⟨_,?_,A_3 h⟩
   have hn:=Nat.le_of_ble_eq_true hb
   show some (Value.int .u64 (wrapF .u64 (Int.mul (.ofNat m) (.ofNat (Nat.pow 2 (minN n 64))))))=_
   rw[minN_eq,Nat.min_eq_left hn]
   show some (Value.int .u64 (wrapF .u64 (.ofNat (Nat.mul m (Nat.pow 2 n)))))=_
   rw[show Nat.mul m (Nat.pow 2 n)=Nat.mul (Nat.pow 2 n) m from Nat.mul_comm _ _]
   generalize Nat.mul (Nat.pow 2 n) m=r
   unfold wrapF
   cases hr:inK .u64 (.ofNat r) with
   |true=>
    have hr2:Nat.ble r 18446744073709551615=true:=hr
    have:=Nat.le_of_ble_eq_true hr2
    simp only
    rw[show Nat.mod r 18446744073709551616=r from Nat.mod_eq_of_lt (by omega)]
   |false=>rfl
  ·exact A_g h
 ·exact A_g h
theorem Q_t{x y:Value}{K:Value→An}{o:Out}(h:kShr x y K=some o):∃v,sh2 .shr x y=some v∧K v=some o:=by
 obtain⟨k,a,rfl,h⟩:=A_y (v:=x) h
 obtain⟨k2,b,rfl,h⟩:=A_y (v:=y) h
 show ∃v,shI .shr k a b=some v∧_
 rcases A_5 h with⟨m,n,rfl,rfl,h⟩|h
 ·have key:n≤k.bits→shI .shr k (.ofNat m) (.ofNat n)=some (.int k (.ofNat (Nat.div m (Nat.pow 2 n)))):=λhn=>by
   show some (Value.int k (.ofNat (Nat.div m (Nat.pow 2 (minN n k.bits)))))=_
   rw[minN_eq,Nat.min_eq_left hn]
  rcases A_l h with⟨hb,h⟩|⟨_,h⟩
  ·have hn:=Nat.le_of_ble_eq_true hb
   exact⟨_,key (Nat.le_trans hn (by cases k<;>decide)),A_3 h⟩
  ·rcases A_l h with⟨hb,h⟩|⟨_,h⟩
   ·exact⟨_,key (Nat.le_of_ble_eq_true hb),A_3 h⟩
   ·exact A_g h
 ·exact A_g h
theorem Q_q{x:Value}{K:Value→An}{o:Out}(h:kNot x K=some o):∃v,un .not x=some v∧K v=some o:=by
 obtain⟨b,rfl,h⟩:=H_d (v:=x) h
 cases b<;>exact⟨_,rfl,h⟩
theorem H_s{k:IntKind}{mx:Nat}(hk:MxOf k mx){x:Value}{K:Value→An}{o:Out}(h:kTo k mx x K=some o):∃v,convI1 k x=some v∧K v=some o:=by
 obtain⟨k0,a,rfl,h⟩:=A_y (v:=x) h
 cases a with
 |negSucc m=>exact A_g h
 |ofNat m=>
  rcases A_l h with⟨hb,h⟩|⟨_,h⟩
  ·exact⟨_,congrArg (λz=>some (Value.int k z)) (D_m hk hb),h⟩
  ·exact A_g h
theorem L_h{a:Addr}{F:Nat→Nat→An}{o:Out}(h:adK a F=some o):∃b f,a=⟨b,f,none⟩∧F b f=some o:=by
 cases a with
 |mk b f s=>cases s with
  |none=>exact⟨b,f,rfl,h⟩
  |some x=>cases h
theorem C_l{v:Value}{F:Nat→Nat→An}{o:Out}(h:N_e v F=some o):∃b f,v=.pointer (some ⟨b,f,none⟩)∧F b f=some o:=by
 obtain⟨p,rfl,h⟩:=T_a (v:=v) h
 cases p with
 |none=>cases h
 |some a=>
  obtain⟨b,f,rfl,h⟩:=L_h h
  exact⟨b,f,rfl,h⟩
theorem Q_p{v:Value}{K:Value→An}{o:Out}(h:kNil v K=some o):∃u,nilc1 v=some u∧K u=some o:=by
 cases v<;>try cases h
 case pointer a=>cases a with
  |none=>cases h
  |some a=>exact⟨_,rfl,h⟩
 case func fn f c=>exact A_g h
theorem I_1{k:Nat}{v:Value}{K:Value→An}{o:Out}(h:kFieldA k v K=some o):∃u,F_p k (addrOf v)=some u∧K u=some o:=by
 obtain⟨b,f,rfl,h2⟩:=C_l (v:=v) h
 exact⟨_,rfl,I_4 (K:=λo'=>K (.pointer (some ⟨b,o',none⟩))) h2⟩
theorem N_i{v:Value}{K:Value→An}{o:Out}(h:kLenV v K=some o):∃u,K_p v=some u∧K u=some o:=by
 obtain⟨a,n,c,rfl,h⟩:=G_f (v:=v) h
 exact⟨_,rfl,A_3 h⟩
theorem N_h{v:Value}{K:Value→An}{o:Out}(h:kLenS v K=some o):∃u,Q_4 v=some u∧K u=some o:=by
 obtain⟨s,rfl,h⟩:=T_c (v:=v) h
 exact⟨_,rfl,A_3 h⟩
theorem N_k{v:Value}{F:Nat→An}{o:Out}(h:a_n v F=some o):∃n,natOf v=some n∧F n=some o:=by
 obtain⟨k,a,rfl,h⟩:=A_y (v:=v) h
 cases a with
 |negSucc m=>cases h
 |ofNat m=>exact⟨m,rfl,h⟩
theorem N_g{u:Nat}{x i:Value}{K:Value→An}{o:Out}(h:kIdxA u x i K=some o):∃v,U_f u (natOf i) x=some v∧K v=some o:=by
 obtain⟨a,n,c,rfl,h⟩:=G_f (v:=x) h
 obtain⟨k,hk,h⟩:=N_k (v:=i) h
 rw[hk]
 rcases A_l h with⟨_,h⟩|⟨hb,h⟩
 ·cases h
 ·cases a with
  |none=>cases h
  | some a =>
   obtain⟨b,f,rfl,h2⟩:=L_h h
   have hlt:Nat.blt k n=true:=by
    show Nat.ble (k+1) n=true
    refine Nat.ble_eq_true_of_le ?_
    have:¬n≤k:=λhh=>by rw[Nat.ble_eq_true_of_le hh] at hb;cases hb
    omega
   refine⟨.pointer (some ⟨b,Nat.add f (Nat.mul k u),none⟩),?_,I_4 (K:=λo'=>K (.pointer (some ⟨b,o',none⟩))) h2⟩
   show (match Nat.blt k n with|false=>_|true=>_)=_
   rw[hlt]
theorem N_f{v:Value}{i:Nat}{K:Value→An}{o:Out}(h:kExtr v i K=some o):∃u,extr1 i v=some u∧K u=some o:=by
 obtain⟨vs,rfl,h⟩:=T_d (v:=v) h
 exact A_g h
theorem K_j{off:Nat}{v:Value}{K:Value→An}{o:Out}(h:Q_i off v K=some o):∃u,field1 off v=some u∧K u=some o:=by
 obtain⟨cs,rfl,h⟩:=S_9 (v:=v) h
 exact A_g h
theorem C_k{h:Hs}{b:Nat}{F:Blk→An}{o:Out}(hh:getB h b F=some o):∃B,h.hp.get b=some B∧F B=some o:=by
 unfold getB at hh
 rw[A_i] at hh
 cases hb:h.hp.get b with
 |none=>rw[hb] at hh;cases hh
 |some B=>rw[hb] at hh;exact⟨B,rfl,hh⟩
noncomputable def ldV(v:Value)(h:Hs):Option Value:=match addrOf v with
 |some p=>D_t p.2 (h.hp.get p.1)
 |none=>none
noncomputable def ldsV(n:Nat)(v:Value)(h:Hs):Option Value:=match addrOf v with
 |some p=>aggO (A_m n p.2 (h.hp.get p.1))
 |none=>none
theorem N_j{v:Value}{h:Hs}{K:Value→An}{o:Out}(hh:kLoad v h K=some o):∃u,ldV v h=some u∧K u=some o:=by
 obtain⟨b,f,rfl,hh⟩:=C_l (v:=v) hh
 obtain⟨B,hb,hh⟩:=C_k hh
 cases B with
 |mp es c=>cases hh
 |it _ _ _ _=>cases hh
 |lp _=>cases hh
 |row c n e u rw' fl=>
  obtain⟨x,hx,hK⟩:=A_g (x:=Tr.getK c f) hh
  rw[A_i] at hx
  refine⟨x,?_,hK⟩
  show D_t f (h.hp.get b)=some x
  rw[hb]
  exact hx
theorem K_k{n:Nat}{v:Value}{h:Hs}{K:Value→An}{o:Out}(hh:kLoads n v h K=some o):∃u,ldsV n v h=some u∧K u=some o:=by
 obtain⟨b,f,rfl,hh⟩:=C_l (v:=v) hh
 obtain⟨B,hb,hh⟩:=C_k hh
 cases B with
 |mp es c=>cases hh
 |it _ _ _ _=>cases hh
 |lp _=>cases hh
 | row c m e u rw' fl =>
  replace hh:Option.rec (motive:=λ_=>An) none (λcs=>K (.agg cs.toArray)) (A_s c n f [])=some o:=hh
  cases hl:A_s c n f [] with
  |none=>rw[hl] at hh;cases hh
  |some cs=>
   rw[hl] at hh
   refine⟨.agg cs.toArray,?_,hh⟩
   show aggO (A_m n f (h.hp.get b))=_
   rw[hb]
   show aggO (A_s c n f [])=_
   rw[hl]
   rfl
theorem U_4(x:GX)(en:En)(h:Hs):N_w x en h=ret1 h (ldV (ev en x) h):=by
 unfold N_w load1 ldV
 cases addrOf (ev en x)<;>rfl
theorem R_p(n:Nat)(x:GX)(en:En)(h:Hs):G_4 n x en h=ret1 h (ldsV n (ev en x) h):=by
 unfold G_4 loads1 ldsV
 cases addrOf (ev en x) with
 |none=>rfl
 |some p=>
  simp only
  cases A_m n p.2 (h.hp.get p.1)<;>rfl
theorem T_7{fl:Bool}{x:Value}{F:Bool→An}{o:Out}(h:flF fl x F=some o):F (andB fl (flat1 x))=some o:=by
 unfold flF at h
 cases fl with
 |false=>exact h
 |true=>
  cases hx:flat1 x with
  |false=>rw[hx] at h;exact h
  |true=>rw[hx] at h;exact h
theorem U_q{lo b:Nat}{F:Nat→An}{o:Out}(h:loF lo b F=some o):F (minN lo b)=some o:=by
 unfold loF at h
 unfold minN
 cases hb:Nat.ble lo b with
 |false=>rw[hb] at h;exact h
 |true=>rw[hb] at h;exact h
theorem I_3{a x:Value}{h:Hs}{K:KV}{o:Out}(hh:kStore1 a x h K=some o):∃h1,store1 1 h (cellsL x) (addrOf a)=some (undef',h1)∧K undef' h1=some o:=by
 rcases A_l hh with⟨hx,hh⟩|⟨hx,hh⟩
 ·obtain⟨b,f,rfl,hh⟩:=C_l (v:=a) hh
  obtain⟨B,hb,hh⟩:=C_k hh
  cases B with
  |mp es c=>cases hh
  |it _ _ _ _=>cases hh
  |lp _=>cases hh
  | row c m e u rw' fl =>
   rcases A_l (c:=rw') hh with⟨hr,hg⟩|⟨_,hg⟩
   ·subst hr
    cases hc:Tr.getK c f with
    |none=>rw[hc] at hg;cases hg
    | some y =>
     rw[hc] at hg
     obtain⟨hp,nx,lo⟩:=h
     have hh2:=U_q (T_7 (fl:=fl) (x:=x) hg)
     rw[A_7,A_7] at hh2
     refine⟨_,?_,hh2⟩
     have hcl:cellsL x = [x]:=by cases x<;>first|rfl|cases hx
     rw[hcl]
     show unit1 (B_8 ⟨hp,nx,lo⟩ b f [x] (hp.get b))=_
     have hb':hp.get b=some (.row c m e u true fl):=hb
     rw[hb']
     show unit1 (setRow ⟨hp,nx,lo⟩ b m e u (andB fl (flatL [x])) (B_i [x] f c))=_
     have hfl:flatL [x]=flat1 x:=by
      show (match flat1 x with|true=>true|false=>false)=flat1 x
      cases flat1 x<;>rfl
     have hst:B_i [x] f c=some (c.set f (some x)):=by
      rw[A_i] at hc
      simp only[B_i,hx,hc]
     rw[hfl,hst]
     rfl
   ·cases hg
 ·have hh2:after K (store1 1 h (cellsL x) (addrOf a))=some o:=hh
  cases hs:store1 1 h (cellsL x) (addrOf a) with
  |none=>rw[hs] at hh2;cases hh2
  | some p =>
   rw[hs] at hh2
   have hp:p.1=undef':=by
    unfold store1 at hs
    split at hs
    ·unfold store2 at hs
     split at hs
     ·unfold unit1 at hs
      split at hs
      ·injection hs with hs;rw[←hs]
      ·cases hs
     ·cases hs
    ·cases hs
   obtain⟨p1,p2⟩:=p
   simp only at hp
   subst hp
   exact⟨p2,rfl,hh2⟩
theorem D_j{R:RnK}{f:FuncId}{args:List Value}{h:Hs}{K:KV}{o:Out}(hh:kCall R f args h K=some o):∃v h1,R f args h=some (.val v h1)∧K v h1=some o:=by
 unfold kCall at hh
 cases hr:R f args h with
 |none=>rw[hr] at hh;cases hh
 |some x=>cases x with
  |fin e fr h1=>rw[hr] at hh;cases hh
  |val v h1=>rw[hr] at hh;exact⟨v,h1,rfl,hh⟩
end Go.Gev
