import Derived.Test.YtnbnmojckhcdeaaGreatDoorGevKC
import Derived.Test.YtnbnmojckhcdeaaGreatDoorGevTr
import Derived.Test.YtnbnmojckhcdeaaGreatDoorGevDraw1
namespace Go.Gev
open Go.RowKit
theorem t_9:∀(f g k:Nat),k<f→k<g→pthF f k=pthF g k:=by
 intro f
 induction f with
 |zero=>intro g k h;omega
 | succ f ih =>
  intro g k h1 h2
  cases g with
  |zero=>omega
  | succ g =>
   cases k with
   |zero=>rfl
   |succ k=>
    have:k/2≤k:=Nat.div_le_self k 2
    simp only[pthF]
    rw[ih g (Nat.div k 2) (by show k/2<f;omega) (by show k/2<g;omega)]
theorem l_y{α:Type}(t:Tr α):∀(f k:Nat),k<f→t.getp (pthF f k)=t.getK k:=by
 induction t with
 |e=>intro f k _;rw[Tr.getp_e];rfl
 | n v l r il ir =>
  intro f k hk
  cases f with
  |zero=>omega
  | succ f =>
   cases k with
   |zero=>rfl
   |succ k=>
    have:k/2≤k:=Nat.div_le_self k 2
    have e:(Tr.n v l r).getK (k+1)=Bool.rec (motive:=λ_=>Option α) (l.getK (Nat.div k 2)) (r.getK (Nat.div k 2)) (Nat.beq (Nat.mod k 2) 0):=rfl
    rw[e]
    simp only[pthF]
    rw[Tr.getp_cons]
    cases Nat.beq (Nat.mod k 2) 0 with
    |true=>exact ir f _ (by show k/2<f;omega)
    |false=>exact il f _ (by show k/2<f;omega)
theorem getK_eq{α:Type}(t:Tr α)(k:Nat):t.getK k=t.get k:=(l_y t _ k (Nat.lt_succ_self k)).symm
theorem p_d{α:Type}(x:α)(t:Tr α):∀(f k:Nat),k<f→t.setp (some x) (pthF f k)=Tr.setK x t k:=by
 induction t with
 |e=>intro f k hk;show _=Tr.setp (some x) (pth k) .e;rw[pth,t_9 f _ k hk (Nat.lt_succ_self k)]
 | n v l r il ir =>
  intro f k hk
  cases f with
  |zero=>omega
  | succ f =>
   cases k with
   |zero=>rfl
   |succ k=>
    have:k/2≤k:=Nat.div_le_self k 2
    have e:Tr.setK x (Tr.n v l r) (k+1)=Bool.rec (motive:=λ_=>Tr α) (.n v (Tr.setK x l (Nat.div k 2)) r) (.n v l (Tr.setK x r (Nat.div k 2))) (Nat.beq (Nat.mod k 2) 0):=rfl
    rw[e]
    simp only[pthF]
    rw[Tr.setp_cons]
    cases Nat.beq (Nat.mod k 2) 0 with
    |true=>simp only[if_true];rw[ir f _ (by show k/2<f;omega)]
    |false=>simp only[Bool.false_eq_true,if_false];rw[il f _ (by show k/2<f;omega)]
theorem setK_eq{α:Type}(x:α)(t:Tr α)(k:Nat):Tr.setK x t k=t.set k (some x):=(p_d x t _ k (Nat.lt_succ_self k)).symm
theorem U_y{v:Value}{F:Bool→An}{o:Out}(h:z_3 v F=some o):∃b,v=.bool b∧F b=some o:=by
 cases v<;>first|exact⟨_,rfl,h⟩|cases h
theorem F_q{v:Value}{F:IntKind→Int→An}{o:Out}(h:vInt v F=some o):∃k n,v=.int k n∧F k n=some o:=by
 cases v<;>first|exact⟨_,_,rfl,h⟩|cases h
theorem q_9{v:Value}{F:ByteArray→An}{o:Out}(h:vStr v F=some o):∃b,v=.string b∧F b=some o:=by
 cases v<;>first|exact⟨_,rfl,h⟩|cases h
theorem q_7{v:Value}{F:Option Addr→An}{o:Out}(h:vPtr v F=some o):∃b,v=.pointer b∧F b=some o:=by
 cases v<;>first|exact⟨_,rfl,h⟩|cases h
theorem S_r{v:Value}{F:Option Addr→Nat→Nat→An}{o:Out}(h:q_8 v F=some o):∃a n c,v=.slice a n c∧F a n c=some o:=by
 cases v<;>first|exact⟨_,_,_,rfl,h⟩|cases h
theorem q_5{v:Value}{F:Array Value→An}{o:Out}(h:vAgg v F=some o):∃b,v=.agg b∧F b=some o:=by
 cases v<;>first|exact⟨_,rfl,h⟩|cases h
theorem r_c{v:Value}{F:Array Value→An}{o:Out}(h:vTup v F=some o):∃b,v=.tuple b∧F b=some o:=by
 cases v<;>first|exact⟨_,rfl,h⟩|cases h
theorem D_v{c:Bool}{a b:An}{o:Out}(h:ifB c a b=some o):(c=true∧a=some o)∨(c=false∧b=some o):=by
 cases c
 ·exact .inr ⟨rfl,h⟩
 ·exact .inl ⟨rfl,h⟩
theorem C_q{K:Value→An}{x:Option Value}{o:Out}(h:obK K x=some o):∃v,x=some v∧K v=some o:=by
 cases x with
 |none=>cases h
 |some v=>exact⟨v,rfl,h⟩
theorem X_8{n:Nat}{K:Nat→An}{o:Out}(h:litN n K=some o):K n=some o:=by cases n<;>exact h
theorem F_8{k:IntKind}{n:Nat}{K:Value→An}{o:Out}(h:mkN k n K=some o):K (.int k (.ofNat n))=some o:=by cases n<;>exact h
theorem I_s{b:Bool}{K:Value→An}{o:Out}(h:mkB b K=some o):K (.bool b)=some o:=by cases b<;>exact h
theorem U_b{k:IntKind}{a:An}{o:Out}(h:x_6 k a=some o):k=.i64∧a=some o:=by cases k<;>first|exact⟨rfl,h⟩|cases h
theorem P_d{k:IntKind}{a:An}{o:Out}(h:t_c k a=some o):k=.u64∧a=some o:=by cases k<;>first|exact⟨rfl,h⟩|cases h
theorem X_2{k:IntKind}{a:An}{o:Out}(h:isU8 k a=some o):k=.u8∧a=some o:=by cases k<;>first|exact⟨rfl,h⟩|cases h
theorem i_x{x y:Value}{F:Int→Int→An}{o:Out}(h:two64 x y F=some o):∃a b,x=.int .i64 a∧y=.int .i64 b∧F a b=some o:=by
 obtain⟨k,a,rfl,h1⟩:=F_q (v:=x) h
 obtain⟨rfl,h2⟩:=U_b h1
 obtain⟨k,b,rfl,h3⟩:=F_q (v:=y) h2
 obtain⟨rfl,h4⟩:=U_b h3
 exact⟨a,b,rfl,rfl,h4⟩
theorem q_z{x y:Value}{F:Int→Int→An}{o:Out}(h:twoU x y F=some o):∃a b,x=.int .u64 a∧y=.int .u64 b∧F a b=some o:=by
 obtain⟨k,a,rfl,h1⟩:=F_q (v:=x) h
 obtain⟨rfl,h2⟩:=P_d h1
 obtain⟨k,b,rfl,h3⟩:=F_q (v:=y) h2
 obtain⟨rfl,h4⟩:=P_d h3
 exact⟨a,b,rfl,rfl,h4⟩
theorem q_y{x y:Value}{F:Int→Int→An}{o:Out}(h:two8 x y F=some o):∃a b,x=.int .u8 a∧y=.int .u8 b∧F a b=some o:=by
 obtain⟨k,a,rfl,h1⟩:=F_q (v:=x) h
 obtain⟨rfl,h2⟩:=X_2 h1
 obtain⟨k,b,rfl,h3⟩:=F_q (v:=y) h2
 obtain⟨rfl,h4⟩:=X_2 h3
 exact⟨a,b,rfl,rfl,h4⟩
theorem G_j{a b:Int}{s:An}{F:Nat→Nat→An}{o:Out}(h:nn a b s F=some o):(∃m n:Nat,a=.ofNat m∧b=.ofNat n∧F m n=some o)∨s=some o:=by
 cases a with
 |negSucc m=>exact .inr h
 |ofNat m=>cases b with
  |negSucc n=>exact .inr h
  |ofNat n=>exact .inl ⟨m,n,rfl,rfl,h⟩
def MxOf(k:IntKind)(mx:Nat):Prop:=(∀m:Nat,inK k (.ofNat m)=Nat.ble m mx)∧k.bits≤64∧mx<2^k.bits
theorem v_y:MxOf .i64 9223372036854775807:=⟨λ_=>rfl,by decide,by decide⟩
theorem v_z:MxOf .u64 18446744073709551615:=⟨λ_=>rfl,by decide,by decide⟩
theorem Ah0:MxOf .u8 255:=⟨λ_=>rfl,by decide,by decide⟩
theorem M_3{k:IntKind}{mx m:Nat}(h:MxOf k mx)(hm:Nat.ble m mx=true):G_b k (.ofNat m)=.ofNat m:=by
 unfold G_b
 rw[h.1 m,hm]
theorem O_m{m n:Nat}(h:n≤m):Int.sub (.ofNat m) (.ofNat n)=.ofNat (Nat.sub m n):=by
 show (m:Int)-(n:Int)=((m-n:Nat):Int)
 omega
theorem Q_4(m n:Nat):eqI (.ofNat m) (.ofNat n)=Nat.beq m n:=rfl
theorem R_q(m n:Nat):leI (.ofNat m) (.ofNat n)=Nat.ble m n:=rfl
theorem X_9(m n:Nat):ltI (.ofNat m) (.ofNat n)=notB (Nat.ble n m):=by unfold ltI;rw[R_q];cases Nat.ble n m<;>rfl
theorem U_h{k:IntKind}{mx m:Nat}(h:MxOf k mx)(hm:Nat.ble m mx=true):Nat.mod m (Nat.pow 2 k.bits)=m:=
 Nat.mod_eq_of_lt (Nat.lt_of_le_of_lt (Nat.le_of_ble_eq_true hm) h.2.2)
section
variable {k:IntKind} {mx:Nat} {K:Value→An} {a b:Int} {o:Out}
theorem j_e(hk:MxOf k mx)(h:cAdd k mx K a b=some o):∃v,fAdd k a b=some v∧K v=some o:=by
 rcases G_j h with⟨m,n,rfl,rfl,h⟩|h
 ·rcases D_v h with⟨hb,h⟩|⟨_,h⟩
  ·exact⟨_,by rw[fAdd];exact congrArg (λz=>some (Value.int k z)) (M_3 hk hb),F_8 h⟩
  ·exact C_q h
 ·exact C_q h
theorem j_r(hk:MxOf k mx)(h:cSub k mx K a b=some o):∃v,fSub k a b=some v∧K v=some o:=by
 rcases G_j h with⟨m,n,rfl,rfl,h⟩|h
 ·rcases D_v h with⟨hb,h⟩|⟨_,h⟩
  ·rcases D_v h with⟨hc,h⟩|⟨_,h⟩
   ·refine⟨.int k (.ofNat (Nat.sub m n)),?_,F_8 h⟩
    rw[fSub,O_m (Nat.le_of_ble_eq_true hb),M_3 hk]
    have:=Nat.le_of_ble_eq_true hc
    exact Nat.ble_eq_true_of_le (by show m-n≤mx;omega)
   ·exact C_q h
  ·exact C_q h
 ·exact C_q h
theorem j_l(hk:MxOf k mx)(h:cMul k mx K a b=some o):∃v,fMul k a b=some v∧K v=some o:=by
 rcases G_j h with⟨m,n,rfl,rfl,h⟩|h
 ·rcases D_v h with⟨hb,h⟩|⟨_,h⟩
  ·exact⟨_,by rw[fMul];exact congrArg (λz=>some (Value.int k z)) (M_3 hk hb),F_8 h⟩
  ·exact C_q h
 ·exact C_q h
theorem j_p(hk:MxOf k mx)(h:cQuo k mx K a b=some o):∃v,fQuo k a b=some v∧K v=some o:=by
 rcases G_j h with⟨m,n,rfl,rfl,h⟩|h
 ·cases n with
  |zero=>cases h
  | succ n =>
   rcases D_v h with⟨hb,h⟩|⟨_,h⟩
   ·refine⟨.int k (.ofNat (Nat.div m (n+1))),?_,F_8 h⟩
    have e:eqI (.ofNat (n+1)) 0=false:=rfl
    rw[fQuo,e]
    exact congrArg (λz=>some (Value.int k z)) (M_3 hk hb)
   ·exact C_q h
 ·exact C_q h
theorem j_q(h:cRem k mx K a b=some o):∃v,fRem k a b=some v∧K v=some o:=by
 rcases G_j h with⟨m,n,rfl,rfl,h⟩|h
 ·cases n with
  |zero=>cases h
  |succ n=>
   refine⟨.int k (.ofNat (Nat.mod m (n+1))),?_,F_8 h⟩
   have e:eqI (.ofNat (n+1)) 0=false:=rfl
   rw[fRem,e]
   rfl
 ·exact C_q h
theorem j_g(h:cEql k mx K a b=some o):∃v,fEql k a b=some v∧K v=some o:=by
 rcases G_j h with⟨m,n,rfl,rfl,h⟩|h
 ·exact⟨_,rfl,I_s h⟩
 ·exact⟨_,rfl,I_s h⟩
theorem j_m(h:cNeq k mx K a b=some o):∃v,fNeq k a b=some v∧K v=some o:=by
 rcases G_j h with⟨m,n,rfl,rfl,h⟩|h
 ·refine⟨_,rfl,?_⟩
  rw[Q_4]
  rcases D_v h with⟨hb,h⟩|⟨hb,h⟩<;>(rw[hb];exact h)
 ·exact⟨_,rfl,I_s h⟩
theorem j_k(h:cLss k mx K a b=some o):∃v,fLss k a b=some v∧K v=some o:=by
 rcases G_j h with⟨m,n,rfl,rfl,h⟩|h
 ·refine⟨_,rfl,?_⟩
  rw[X_9]
  rcases D_v h with⟨hb,h⟩|⟨hb,h⟩<;>(rw[hb];exact h)
 ·exact⟨_,rfl,I_s h⟩
theorem j_j(h:cLeq k mx K a b=some o):∃v,fLeq k a b=some v∧K v=some o:=by
 rcases G_j h with⟨m,n,rfl,rfl,h⟩|h
 ·exact⟨_,rfl,I_s h⟩
 ·exact⟨_,rfl,I_s h⟩
theorem j_i(h:cGtr k mx K a b=some o):∃v,fGtr k a b=some v∧K v=some o:=by
 rcases G_j h with⟨m,n,rfl,rfl,h⟩|h
 ·refine⟨_,rfl,?_⟩
  rw[X_9]
  rcases D_v h with⟨hb,h⟩|⟨hb,h⟩<;>(rw[hb];exact h)
 ·exact⟨_,rfl,I_s h⟩
theorem j_h(h:cGeq k mx K a b=some o):∃v,fGeq k a b=some v∧K v=some o:=by
 rcases G_j h with⟨m,n,rfl,rfl,h⟩|h
 ·exact⟨_,rfl,I_s h⟩
 ·exact⟨_,rfl,I_s h⟩
theorem Z_f{f:Nat→Nat→Nat}(hk:MxOf k mx)(hf:∀x y w,x<2^w→y<2^w→f x y<2^w)(hw:mx+1=2^(Nat.log2 (mx+1))){m n:Nat}(hm:Nat.ble m mx=true)(hn:Nat.ble n mx=true):G_b k (.ofNat (f m n))=.ofNat (f m n):=by
 refine M_3 hk (Nat.ble_eq_true_of_le ?_)
 have h1:=Nat.le_of_ble_eq_true hm
 have h2:=Nat.le_of_ble_eq_true hn
 have:=hf m n (Nat.log2 (mx+1)) (by omega) (by omega)
 omega
theorem j_f(hk:MxOf k mx)(hw:mx+1=2^(Nat.log2 (mx+1)))(h:cAnd k mx K a b=some o):∃v,J_x .and k a b=some v∧K v=some o:=by
 rcases G_j h with⟨m,n,rfl,rfl,h⟩|h
 ·rcases D_v h with⟨hb,h⟩|⟨_,h⟩
  ·rcases D_v h with⟨hc,h⟩|⟨_,h⟩
   ·refine⟨.int k (.ofNat (Nat.land m n)),?_,F_8 h⟩
    show some (Value.int k (G_b k (.ofNat (Nat.land (Nat.mod m (Nat.pow 2 k.bits)) (Nat.mod n (Nat.pow 2 k.bits))))))=_
    rw[U_h hk hb,U_h hk hc,Z_f (f:=Nat.land) hk (λx y w hx hy=>Nat.and_lt_two_pow x hy) hw hb hc]
   ·exact C_q h
  ·exact C_q h
 ·exact C_q h
theorem r_3(hk:MxOf k mx)(hw:mx+1=2^(Nat.log2 (mx+1)))(h:cOr k mx K a b=some o):∃v,J_x .or k a b=some v∧K v=some o:=by
 rcases G_j h with⟨m,n,rfl,rfl,h⟩|h
 ·rcases D_v h with⟨hb,h⟩|⟨_,h⟩
  ·rcases D_v h with⟨hc,h⟩|⟨_,h⟩
   ·refine⟨.int k (.ofNat (Nat.lor m n)),?_,F_8 h⟩
    show some (Value.int k (G_b k (.ofNat (Nat.lor (Nat.mod m (Nat.pow 2 k.bits)) (Nat.mod n (Nat.pow 2 k.bits))))))=_
    rw[U_h hk hb,U_h hk hc,Z_f (f:=Nat.lor) hk (λx y w hx hy=>Nat.or_lt_two_pow hx hy) hw hb hc]
   ·exact C_q h
  ·exact C_q h
 ·exact C_q h
theorem j_t(hk:MxOf k mx)(hw:mx+1=2^(Nat.log2 (mx+1)))(h:cXor k mx K a b=some o):∃v,J_x .xor k a b=some v∧K v=some o:=by
 rcases G_j h with⟨m,n,rfl,rfl,h⟩|h
 ·rcases D_v h with⟨hb,h⟩|⟨_,h⟩
  ·rcases D_v h with⟨hc,h⟩|⟨_,h⟩
   ·refine⟨.int k (.ofNat (Nat.xor m n)),?_,F_8 h⟩
    show some (Value.int k (G_b k (.ofNat (Nat.xor (Nat.mod m (Nat.pow 2 k.bits)) (Nat.mod n (Nat.pow 2 k.bits))))))=_
    rw[U_h hk hb,U_h hk hc,Z_f (f:=Nat.xor) hk (λx y w hx hy=>Nat.xor_lt_two_pow hx hy) hw hb hc]
   ·exact C_q h
  ·exact C_q h
 ·exact C_q h
theorem U_9(hk:MxOf k mx)(hw:mx+1=2^(Nat.log2 (mx+1)))(op:BinOp)(h:cOf op k mx K a b=some o):∃v,fOf op k a b=some v∧K v=some o:=by
 cases op with
 |add=>exact j_e hk h
 |sub=>exact j_r hk h
 |mul=>exact j_l hk h
 |quo=>exact j_p hk h
 |rem=>exact j_q (mx:=mx) h
 |and=>exact j_f hk hw h
 |or=>exact r_3 hk hw h
 |xor=>exact j_t hk hw h
 |shl=>exact C_q h
 |shr=>exact C_q h
 |andNot=>exact C_q h
 |eql=>exact j_g (k:=k) (mx:=mx) h
 |neq=>exact j_m (k:=k) (mx:=mx) h
 |lss=>exact j_k (k:=k) (mx:=mx) h
 |leq=>exact j_j (k:=k) (mx:=mx) h
 |gtr=>exact j_i (k:=k) (mx:=mx) h
 |geq=>exact j_h (k:=k) (mx:=mx) h
end
theorem m_a(f:F2)(k:IntKind)(a b:Int):i2 f (.int k a) (.int k b)=f k a b:=by
 show (match Nat.beq (kn k) (kn k) with|true=>f k a b|false=>none)=_
 rw[Nat.beq_refl]
theorem m_j{op:BinOp}{x y:Value}{K:Value→An}{o:Out}(h:kI64 op x y K=some o):∃v,i2 (fOf op) x y=some v∧K v=some o:=by
 obtain⟨a,b,rfl,rfl,h⟩:=i_x h
 rw[m_a]
 exact U_9 v_y (by decide) op h
theorem m_w{op:BinOp}{x y:Value}{K:Value→An}{o:Out}(h:kU64 op x y K=some o):∃v,i2 (fOf op) x y=some v∧K v=some o:=by
 obtain⟨a,b,rfl,rfl,h⟩:=q_z h
 rw[m_a]
 exact U_9 v_z (by decide) op h
theorem t_f{op:BinOp}{x y:Value}{K:Value→An}{o:Out}(h:kU8 op x y K=some o):∃v,i2 (fOf op) x y=some v∧K v=some o:=by
 obtain⟨a,b,rfl,rfl,h⟩:=q_y h
 rw[m_a]
 exact U_9 Ah0 (by decide) op h
theorem m_o{x y:Value}{K:Value→An}{o:Out}(h:kShl x y K=some o):∃v,sh2 .shl x y=some v∧K v=some o:=by
 obtain⟨k,a,rfl,h⟩:=F_q (v:=x) h
 obtain⟨k2,b,rfl,h⟩:=F_q (v:=y) h
 show ∃v,shI .shl k a b=some v∧_
 rcases G_j h with⟨m,n,rfl,rfl,h⟩|h
 ·obtain⟨rfl,h⟩:=P_d h
  rcases D_v h with⟨hb,h⟩|⟨_,h⟩
  ·refine⟨_,?_,F_8 h⟩
   have hn:=Nat.le_of_ble_eq_true hb
   show some (Value.int .u64 (G_b .u64 (Int.mul (.ofNat m) (.ofNat (Nat.pow 2 (minN n 64))))))=_
   rw[minN_eq,Nat.min_eq_left hn]
   show some (Value.int .u64 (G_b .u64 (.ofNat (Nat.mul m (Nat.pow 2 n)))))=_
   rw[show Nat.mul m (Nat.pow 2 n)=Nat.mul (Nat.pow 2 n) m from Nat.mul_comm _ _]
   generalize Nat.mul (Nat.pow 2 n) m=r
   unfold G_b
   cases hr:inK .u64 (.ofNat r) with
   |true=>
    have hr2:Nat.ble r 18446744073709551615=true:=hr
    have:=Nat.le_of_ble_eq_true hr2
    simp only
    rw[show Nat.mod r 18446744073709551616=r from Nat.mod_eq_of_lt (by omega)]
   |false=>rfl
  ·exact C_q h
 ·exact C_q h
theorem m_p{x y:Value}{K:Value→An}{o:Out}(h:kShr x y K=some o):∃v,sh2 .shr x y=some v∧K v=some o:=by
 obtain⟨k,a,rfl,h⟩:=F_q (v:=x) h
 obtain⟨k2,b,rfl,h⟩:=F_q (v:=y) h
 show ∃v,shI .shr k a b=some v∧_
 rcases G_j h with⟨m,n,rfl,rfl,h⟩|h
 ·have key:n≤k.bits→shI .shr k (.ofNat m) (.ofNat n)=some (.int k (.ofNat (Nat.div m (Nat.pow 2 n)))):=λhn=>by
   show some (Value.int k (.ofNat (Nat.div m (Nat.pow 2 (minN n k.bits)))))=_
   rw[minN_eq,Nat.min_eq_left hn]
  rcases D_v h with⟨hb,h⟩|⟨_,h⟩
  ·have hn:=Nat.le_of_ble_eq_true hb
   exact⟨_,key (Nat.le_trans hn (by cases k<;>decide)),F_8 h⟩
  ·rcases D_v h with⟨hb,h⟩|⟨_,h⟩
   ·exact⟨_,key (Nat.le_of_ble_eq_true hb),F_8 h⟩
   ·exact C_q h
 ·exact C_q h
theorem m_m{x:Value}{K:Value→An}{o:Out}(h:kNot x K=some o):∃v,un .not x=some v∧K v=some o:=by
 obtain⟨b,rfl,h⟩:=U_y (v:=x) h
 cases b<;>exact⟨_,rfl,h⟩
theorem V_s{k:IntKind}{mx:Nat}(hk:MxOf k mx){x:Value}{K:Value→An}{o:Out}(h:kTo k mx x K=some o):∃v,N_c k x=some v∧K v=some o:=by
 obtain⟨k0,a,rfl,h⟩:=F_q (v:=x) h
 cases a with
 |negSucc m=>exact C_q h
 |ofNat m=>
  rcases D_v h with⟨hb,h⟩|⟨_,h⟩
  ·exact⟨_,congrArg (λz=>some (Value.int k z)) (M_3 hk hb),h⟩
  ·exact C_q h
theorem b_0{a:Addr}{F:Nat→Nat→An}{o:Out}(h:adK a F=some o):∃b f,a=⟨b,f,none⟩∧F b f=some o:=by
 cases a with
 |mk b f s=>cases s with
  |none=>exact⟨b,f,rfl,h⟩
  |some x=>cases h
theorem K_f{v:Value}{F:Nat→Nat→An}{o:Out}(h:g_f v F=some o):∃b f,v=.pointer (some ⟨b,f,none⟩)∧F b f=some o:=by
 obtain⟨p,rfl,h⟩:=q_7 (v:=v) h
 cases p with
 |none=>cases h
 |some a=>
  obtain⟨b,f,rfl,h⟩:=b_0 h
  exact⟨b,f,rfl,h⟩
theorem m_l{v:Value}{K:Value→An}{o:Out}(h:kNil v K=some o):∃u,nilc1 v=some u∧K u=some o:=by
 cases v<;>try cases h
 case pointer a=>cases a with
  |none=>cases h
  |some a=>exact⟨_,rfl,h⟩
 case func fn f c=>exact C_q h
theorem X_3{k:Nat}{v:Value}{K:Value→An}{o:Out}(h:kFieldA k v K=some o):∃u,Q_9 k (addrOf v)=some u∧K u=some o:=by
 obtain⟨b,f,rfl,h2⟩:=K_f (v:=v) h
 exact⟨_,rfl,X_8 (K:=λo'=>K (.pointer (some ⟨b,o',none⟩))) h2⟩
theorem g_j{v:Value}{K:Value→An}{o:Out}(h:F_c v K=some o):∃u,a_d v=some u∧K u=some o:=by
 obtain⟨a,n,c,rfl,h⟩:=S_r (v:=v) h
 exact⟨_,rfl,F_8 h⟩
theorem g_i{v:Value}{K:Value→An}{o:Out}(h:K_i v K=some o):∃u,m_8 v=some u∧K u=some o:=by
 obtain⟨s,rfl,h⟩:=q_9 (v:=v) h
 exact⟨_,rfl,F_8 h⟩
theorem g_l{v:Value}{F:Nat→An}{o:Out}(h:Af9 v F=some o):∃n,E_x v=some n∧F n=some o:=by
 obtain⟨k,a,rfl,h⟩:=F_q (v:=v) h
 cases a with
 |negSucc m=>cases h
 |ofNat m=>exact⟨m,rfl,h⟩
theorem g_h{u:Nat}{x i:Value}{K:Value→An}{o:Out}(h:F_t u x i K=some o):∃v,s_7 u (E_x i) x=some v∧K v=some o:=by
 obtain⟨a,n,c,rfl,h⟩:=S_r (v:=x) h
 obtain⟨k,hk,h⟩:=g_l (v:=i) h
 rw[hk]
 rcases D_v h with⟨_,h⟩|⟨hb,h⟩
 ·cases h
 ·cases a with
  |none=>cases h
  | some a =>
   obtain⟨b,f,rfl,h2⟩:=b_0 h
   have hlt:Nat.blt k n=true:=by
    show Nat.ble (k+1) n=true
    refine Nat.ble_eq_true_of_le ?_
    have:¬n≤k:=λhh=>by rw[Nat.ble_eq_true_of_le hh] at hb;cases hb
    omega
   refine⟨.pointer (some ⟨b,Nat.add f (Nat.mul k u),none⟩),?_,X_8 (K:=λo'=>K (.pointer (some ⟨b,o',none⟩))) h2⟩
   show (match Nat.blt k n with|false=>_|true=>_)=_
   rw[hlt]
theorem g_g{v:Value}{i:Nat}{K:Value→An}{o:Out}(h:kExtr v i K=some o):∃u,extr1 i v=some u∧K u=some o:=by
 obtain⟨vs,rfl,h⟩:=r_c (v:=v) h
 exact C_q h
theorem Z_5{off:Nat}{v:Value}{K:Value→An}{o:Out}(h:m_e off v K=some o):∃u,field1 off v=some u∧K u=some o:=by
 obtain⟨cs,rfl,h⟩:=q_5 (v:=v) h
 exact C_q h
theorem K_d{h:Hs}{b:Nat}{F:Blk→An}{o:Out}(hh:getB h b F=some o):∃B,h.hp.get b=some B∧F B=some o:=by
 unfold getB at hh
 rw[getK_eq] at hh
 cases hb:h.hp.get b with
 |none=>rw[hb] at hh;cases hh
 |some B=>rw[hb] at hh;exact⟨B,rfl,hh⟩
noncomputable def ldV(v:Value)(h:Hs):Option Value:=match addrOf v with
 |some p=>blkCell p.2 (h.hp.get p.1)
 |none=>none
noncomputable def ldsV(n:Nat)(v:Value)(h:Hs):Option Value:=match addrOf v with
 |some p=>aggO (C_c n p.2 (h.hp.get p.1))
 |none=>none
theorem g_k{v:Value}{h:Hs}{K:Value→An}{o:Out}(hh:kLoad v h K=some o):∃u,ldV v h=some u∧K u=some o:=by
 obtain⟨b,f,rfl,hh⟩:=K_f (v:=v) hh
 obtain⟨B,hb,hh⟩:=K_d hh
 cases B with
 |mp es c=>cases hh
 |it _ _ _ _=>cases hh
 |lp _=>cases hh
 |row c n e u rw' fl=>
  obtain⟨x,hx,hK⟩:=C_q (x:=Tr.getK c f) hh
  rw[getK_eq] at hx
  refine⟨x,?_,hK⟩
  show blkCell f (h.hp.get b)=some x
  rw[hb]
  exact hx
theorem Z_7{n:Nat}{v:Value}{h:Hs}{K:Value→An}{o:Out}(hh:D_d n v h K=some o):∃u,ldsV n v h=some u∧K u=some o:=by
 obtain⟨b,f,rfl,hh⟩:=K_f (v:=v) hh
 obtain⟨B,hb,hh⟩:=K_d hh
 cases B with
 |mp es c=>cases hh
 |it _ _ _ _=>cases hh
 |lp _=>cases hh
 | row c m e u rw' fl =>
  replace hh:Option.rec (motive:=λ_=>An) none (λcs=>K (.agg cs.toArray)) (D_2 c n f [])=some o:=hh
  cases hl:D_2 c n f [] with
  |none=>rw[hl] at hh;cases hh
  |some cs=>
   rw[hl] at hh
   refine⟨.agg cs.toArray,?_,hh⟩
   show aggO (C_c n f (h.hp.get b))=_
   rw[hb]
   show aggO (D_2 c n f [])=_
   rw[hl]
   rfl
theorem t_3(x:GX)(en:En)(h:Hs):h_s x en h=ret1 h (ldV (ev en x) h):=by
 unfold h_s load1 ldV
 cases addrOf (ev en x)<;>rfl
theorem n_9(n:Nat)(x:GX)(en:En)(h:Hs):U_l n x en h=ret1 h (ldsV n (ev en x) h):=by
 unfold U_l loads1 ldsV
 cases addrOf (ev en x) with
 |none=>rfl
 |some p=>
  simp only
  cases C_c n p.2 (h.hp.get p.1)<;>rfl
theorem s_t{fl:Bool}{x:Value}{F:Bool→An}{o:Out}(h:flF fl x F=some o):F (andB fl (flat1 x))=some o:=by
 unfold flF at h
 cases fl with
 |false=>exact h
 |true=>
  cases hx:flat1 x with
  |false=>rw[hx] at h;exact h
  |true=>rw[hx] at h;exact h
theorem t_p{lo b:Nat}{F:Nat→An}{o:Out}(h:loF lo b F=some o):F (minN lo b)=some o:=by
 unfold loF at h
 unfold minN
 cases hb:Nat.ble lo b with
 |false=>rw[hb] at h;exact h
 |true=>rw[hb] at h;exact h
theorem X_5{a x:Value}{h:Hs}{K:KV}{o:Out}(hh:D_i a x h K=some o):∃h1,store1 1 h (A_p x) (addrOf a)=some (undef',h1)∧K undef' h1=some o:=by
 rcases D_v hh with⟨hx,hh⟩|⟨hx,hh⟩
 ·obtain⟨b,f,rfl,hh⟩:=K_f (v:=a) hh
  obtain⟨B,hb,hh⟩:=K_d hh
  cases B with
  |mp es c=>cases hh
  |it _ _ _ _=>cases hh
  |lp _=>cases hh
  | row c m e u rw' fl =>
   rcases D_v (c:=rw') hh with⟨hr,hg⟩|⟨_,hg⟩
   ·subst hr
    cases hc:Tr.getK c f with
    |none=>rw[hc] at hg;cases hg
    | some y =>
     rw[hc] at hg
     obtain⟨hp,nx,lo⟩:=h
     have hh2:=t_p (s_t (fl:=fl) (x:=x) hg)
     rw[setK_eq,setK_eq] at hh2
     refine⟨_,?_,hh2⟩
     have hcl:A_p x = [x]:=by cases x<;>first|rfl|cases hx
     rw[hcl]
     show unit1 (H_o ⟨hp,nx,lo⟩ b f [x] (hp.get b))=_
     have hb':hp.get b=some (.row c m e u true fl):=hb
     rw[hb']
     show unit1 (setRow ⟨hp,nx,lo⟩ b m e u (andB fl (B_5 [x])) (G_4 [x] f c))=_
     have hfl:B_5 [x]=flat1 x:=by
      show (match flat1 x with|true=>true|false=>false)=flat1 x
      cases flat1 x<;>rfl
     have hst:G_4 [x] f c=some (c.set f (some x)):=by
      rw[getK_eq] at hc
      simp only[G_4,hx,hc]
     rw[hfl,hst]
     rfl
   ·cases hg
 ·have hh2:after K (store1 1 h (A_p x) (addrOf a))=some o:=hh
  cases hs:store1 1 h (A_p x) (addrOf a) with
  |none=>rw[hs] at hh2;cases hh2
  | some p =>
   rw[hs] at hh2
   have hp:p.1=undef':=by
    unfold store1 at hs
    split at hs
    ·unfold store2 at hs
     split at hs
     ·unfold unit1 at hs
      split at hs
      ·injection hs with hs;rw[←hs]
      ·cases hs
     ·cases hs
    ·cases hs
   obtain⟨p1,p2⟩:=p
   simp only at hp
   subst hp
   exact⟨p2,rfl,hh2⟩
theorem M_r{R:RnK}{f:FuncId}{args:List Value}{h:Hs}{K:KV}{o:Out}(hh:B_s R f args h K=some o):∃v h1,R f args h=some (.val v h1)∧K v h1=some o:=by
 unfold B_s at hh
 cases hr:R f args h with
 |none=>rw[hr] at hh;cases hh
 |some x=>cases x with
  |fin e fr h1=>rw[hr] at hh;cases hh
  |val v h1=>rw[hr] at hh;exact⟨v,h1,rfl,hh⟩
end Go.Gev
