import Derived.Test.YtnbnmojckhcdeaaGreatDoorGevKC
import Derived.Test.YtnbnmojckhcdeaaGreatDoorGevTr
import Derived.Test.YtnbnmojckhcdeaaGreatDoorGevDraw1
namespace Go.Gev
open Go.RowKit
theorem AI5:∀(f g k:Nat),k<f→k<g→pthF f k=pthF g k:=by
 intro f
 induction f with
 |zero=>intro g k h;omega
 | succ f ih =>
  intro g k h1 h2
  cases g with
  |zero=>omega
  | succ g =>
   cases k with
   |zero=>rfl
   |succ k=>
    have:k/2≤k:=Nat.div_le_self k 2
    simp only[pthF]
    rw[ih g (Nat.div k 2) (by show k/2<f;omega) (by show k/2<g;omega)]
theorem Af3{α:Type}(t:Tr α):∀(f k:Nat),k<f→t.getp (pthF f k)=t.getK k:=by
 induction t with
 |e=>intro f k _;rw[Tr.getp_e];rfl
 | n v l r il ir =>
  intro f k hk
  cases f with
  |zero=>omega
  | succ f =>
   cases k with
   |zero=>rfl
   |succ k=>
    have:k/2≤k:=Nat.div_le_self k 2
    have e:(Tr.n v l r).getK (k+1)=Bool.rec (motive:=λ_=>Option α) (l.getK (Nat.div k 2)) (r.getK (Nat.div k 2)) (Nat.beq (Nat.mod k 2) 0):=rfl
    rw[e]
    simp only[pthF]
    rw[Tr.getp_cons]
    cases Nat.beq (Nat.mod k 2) 0 with
    |true=>exact ir f _ (by show k/2<f;omega)
    |false=>exact il f _ (by show k/2<f;omega)
theorem getK_eq{α:Type}(t:Tr α)(k:Nat):t.getK k=t.get k:=(Af3 t _ k (Nat.lt_succ_self k)).symm
theorem Aq9{α:Type}(x:α)(t:Tr α):∀(f k:Nat),k<f→t.setp (some x) (pthF f k)=Tr.setK x t k:=by
 induction t with
 |e=>intro f k hk;show _=Tr.setp (some x) (pth k) .e;rw[pth,AI5 f _ k hk (Nat.lt_succ_self k)]
 | n v l r il ir =>
  intro f k hk
  cases f with
  |zero=>omega
  | succ f =>
   cases k with
   |zero=>rfl
   |succ k=>
    have:k/2≤k:=Nat.div_le_self k 2
    have e:Tr.setK x (Tr.n v l r) (k+1)=Bool.rec (motive:=λ_=>Tr α) (.n v (Tr.setK x l (Nat.div k 2)) r) (.n v l (Tr.setK x r (Nat.div k 2))) (Nat.beq (Nat.mod k 2) 0):=rfl
    rw[e]
    simp only[pthF]
    rw[Tr.setp_cons]
    cases Nat.beq (Nat.mod k 2) 0 with
    |true=>simp only[if_true];rw[ir f _ (by show k/2<f;omega)]
    |false=>simp only[Bool.false_eq_true,if_false];rw[il f _ (by show k/2<f;omega)]
theorem setK_eq{α:Type}(x:α)(t:Tr α)(k:Nat):Tr.setK x t k=t.set k (some x):=(Aq9 x t _ k (Nat.lt_succ_self k)).symm
theorem g_j{v:Value}{F:Bool→An}{o:Out}(h:Bd4 v F=some o):∃b,v=.bool b∧F b=some o:=by
 cases v<;>first|exact⟨_,rfl,h⟩|cases h
theorem K_5{v:Value}{F:IntKind→Int→An}{o:Out}(h:vInt v F=some o):∃k n,v=.int k n∧F k n=some o:=by
 cases v<;>first|exact⟨_,_,rfl,h⟩|cases h
theorem Ay4{v:Value}{F:ByteArray→An}{o:Out}(h:vStr v F=some o):∃b,v=.string b∧F b=some o:=by
 cases v<;>first|exact⟨_,rfl,h⟩|cases h
theorem Ay2{v:Value}{F:Option Addr→An}{o:Out}(h:vPtr v F=some o):∃b,v=.pointer b∧F b=some o:=by
 cases v<;>first|exact⟨_,rfl,h⟩|cases h
theorem d_i{v:Value}{F:Option Addr→Nat→Nat→An}{o:Out}(h:Ay3 v F=some o):∃a n c,v=.slice a n c∧F a n c=some o:=by
 cases v<;>first|exact⟨_,_,_,rfl,h⟩|cases h
theorem Ay0{v:Value}{F:Array Value→An}{o:Out}(h:vAgg v F=some o):∃b,v=.agg b∧F b=some o:=by
 cases v<;>first|exact⟨_,rfl,h⟩|cases h
theorem Ay5{v:Value}{F:Array Value→An}{o:Out}(h:vTup v F=some o):∃b,v=.tuple b∧F b=some o:=by
 cases v<;>first|exact⟨_,rfl,h⟩|cases h
theorem I_k{c:Bool}{a b:An}{o:Out}(h:ifB c a b=some o):(c=true∧a=some o)∨(c=false∧b=some o):=by
 cases c
 ·exact .inr ⟨rfl,h⟩
 ·exact .inl ⟨rfl,h⟩
theorem G_c{K:Value→An}{x:Option Value}{o:Out}(h:obK K x=some o):∃v,x=some v∧K v=some o:=by
 cases x with
 |none=>cases h
 |some v=>exact⟨v,rfl,h⟩
theorem m_g{n:Nat}{K:Nat→An}{o:Out}(h:litN n K=some o):K n=some o:=by cases n<;>exact h
theorem L_5{k:IntKind}{n:Nat}{K:Value→An}{o:Out}(h:mkN k n K=some o):K (.int k (.ofNat n))=some o:=by cases n<;>exact h
theorem P_u{b:Bool}{K:Value→An}{o:Out}(h:mkB b K=some o):K (.bool b)=some o:=by cases b<;>exact h
theorem f_c{k:IntKind}{a:An}{o:Out}(h:AW4 k a=some o):k=.i64∧a=some o:=by cases k<;>first|exact⟨rfl,h⟩|cases h
theorem Y_l{k:IntKind}{a:An}{o:Out}(h:AF1 k a=some o):k=.u64∧a=some o:=by cases k<;>first|exact⟨rfl,h⟩|cases h
theorem m_a{k:IntKind}{a:An}{o:Out}(h:isU8 k a=some o):k=.u8∧a=some o:=by cases k<;>first|exact⟨rfl,h⟩|cases h
theorem y_q{x y:Value}{F:Int→Int→An}{o:Out}(h:two64 x y F=some o):∃a b,x=.int .i64 a∧y=.int .i64 b∧F a b=some o:=by
 obtain⟨k,a,rfl,h1⟩:=K_5 (v:=x) h
 obtain⟨rfl,h2⟩:=f_c h1
 obtain⟨k,b,rfl,h3⟩:=K_5 (v:=y) h2
 obtain⟨rfl,h4⟩:=f_c h3
 exact⟨a,b,rfl,rfl,h4⟩
theorem Ax4{x y:Value}{F:Int→Int→An}{o:Out}(h:twoU x y F=some o):∃a b,x=.int .u64 a∧y=.int .u64 b∧F a b=some o:=by
 obtain⟨k,a,rfl,h1⟩:=K_5 (v:=x) h
 obtain⟨rfl,h2⟩:=Y_l h1
 obtain⟨k,b,rfl,h3⟩:=K_5 (v:=y) h2
 obtain⟨rfl,h4⟩:=Y_l h3
 exact⟨a,b,rfl,rfl,h4⟩
theorem Ax3{x y:Value}{F:Int→Int→An}{o:Out}(h:two8 x y F=some o):∃a b,x=.int .u8 a∧y=.int .u8 b∧F a b=some o:=by
 obtain⟨k,a,rfl,h1⟩:=K_5 (v:=x) h
 obtain⟨rfl,h2⟩:=m_a h1
 obtain⟨k,b,rfl,h3⟩:=K_5 (v:=y) h2
 obtain⟨rfl,h4⟩:=m_a h3
 exact⟨a,b,rfl,rfl,h4⟩
theorem M_o{a b:Int}{s:An}{F:Nat→Nat→An}{o:Out}(h:nn a b s F=some o):(∃m n:Nat,a=.ofNat m∧b=.ofNat n∧F m n=some o)∨s=some o:=by
 cases a with
 |negSucc m=>exact .inr h
 |ofNat m=>cases b with
  |negSucc n=>exact .inr h
  |ofNat n=>exact .inl ⟨m,n,rfl,rfl,h⟩
def MxOf(k:IntKind)(mx:Nat):Prop:=(∀m:Nat,inK k (.ofNat m)=Nat.ble m mx)∧k.bits≤64∧mx<2^k.bits
theorem AO6:MxOf .i64 9223372036854775807:=⟨λ_=>rfl,by decide,by decide⟩
theorem AO7:MxOf .u64 18446744073709551615:=⟨λ_=>rfl,by decide,by decide⟩
theorem Bl6:MxOf .u8 255:=⟨λ_=>rfl,by decide,by decide⟩
theorem V_t{k:IntKind}{mx m:Nat}(h:MxOf k mx)(hm:Nat.ble m mx=true):L_8 k (.ofNat m)=.ofNat m:=by
 unfold L_8
 rw[h.1 m,hm]
theorem X_v{m n:Nat}(h:n≤m):Int.sub (.ofNat m) (.ofNat n)=.ofNat (Nat.sub m n):=by
 show (m:Int)-(n:Int)=((m-n:Nat):Int)
 omega
theorem a_s(m n:Nat):eqI (.ofNat m) (.ofNat n)=Nat.beq m n:=rfl
theorem b_p(m n:Nat):leI (.ofNat m) (.ofNat n)=Nat.ble m n:=rfl
theorem m_h(m n:Nat):ltI (.ofNat m) (.ofNat n)=notB (Nat.ble n m):=by unfold ltI;rw[b_p];cases Nat.ble n m<;>rfl
theorem f_n{k:IntKind}{mx m:Nat}(h:MxOf k mx)(hm:Nat.ble m mx=true):Nat.mod m (Nat.pow 2 k.bits)=m:=
 Nat.mod_eq_of_lt (Nat.lt_of_le_of_lt (lbT hm) h.2.2)
section
variable {k:IntKind} {mx:Nat} {K:Value→An} {a b:Int} {o:Out}
theorem y_3(hk:MxOf k mx)(h:cAdd k mx K a b=some o):∃v,fAdd k a b=some v∧K v=some o:=by
 rcases M_o h with⟨m,n,rfl,rfl,h⟩|h
 ·rcases I_k h with⟨hb,h⟩|⟨_,h⟩
  ·exact⟨_,by rw[fAdd];exact congrArg (λz=>some (Value.int k z)) (V_t hk hb),L_5 h⟩
  ·exact G_c h
 ·exact G_c h
theorem z_i(hk:MxOf k mx)(h:cSub k mx K a b=some o):∃v,fSub k a b=some v∧K v=some o:=by
 rcases M_o h with⟨m,n,rfl,rfl,h⟩|h
 ·rcases I_k h with⟨hb,h⟩|⟨_,h⟩
  ·rcases I_k h with⟨hc,h⟩|⟨_,h⟩
   ·refine⟨.int k (.ofNat (Nat.sub m n)),?_,L_5 h⟩
    rw[fSub,X_v (lbT hb),V_t hk]
    have:=lbT hc
    exact btL (by show m-n≤mx;omega)
   ·exact G_c h
  ·exact G_c h
 ·exact G_c h
theorem z_a(hk:MxOf k mx)(h:cMul k mx K a b=some o):∃v,fMul k a b=some v∧K v=some o:=by
 rcases M_o h with⟨m,n,rfl,rfl,h⟩|h
 ·rcases I_k h with⟨hb,h⟩|⟨_,h⟩
  ·exact⟨_,by rw[fMul];exact congrArg (λz=>some (Value.int k z)) (V_t hk hb),L_5 h⟩
  ·exact G_c h
 ·exact G_c h
theorem z_f(hk:MxOf k mx)(h:cQuo k mx K a b=some o):∃v,fQuo k a b=some v∧K v=some o:=by
 rcases M_o h with⟨m,n,rfl,rfl,h⟩|h
 ·cases n with
  |zero=>cases h
  | succ n =>
   rcases I_k h with⟨hb,h⟩|⟨_,h⟩
   ·refine⟨.int k (.ofNat (Nat.div m (n+1))),?_,L_5 h⟩
    have e:eqI (.ofNat (n+1)) 0=false:=rfl
    rw[fQuo,e]
    exact congrArg (λz=>some (Value.int k z)) (V_t hk hb)
   ·exact G_c h
 ·exact G_c h
theorem z_g(h:cRem k mx K a b=some o):∃v,fRem k a b=some v∧K v=some o:=by
 rcases M_o h with⟨m,n,rfl,rfl,h⟩|h
 ·cases n with
  |zero=>cases h
  |succ n=>
   refine⟨.int k (.ofNat (Nat.mod m (n+1))),?_,L_5 h⟩
   have e:eqI (.ofNat (n+1)) 0=false:=rfl
   rw[fRem,e]
   rfl
 ·exact G_c h
theorem y_5(h:cEql k mx K a b=some o):∃v,fEql k a b=some v∧K v=some o:=by
 rcases M_o h with⟨m,n,rfl,rfl,h⟩|h
 ·exact⟨_,rfl,P_u h⟩
 ·exact⟨_,rfl,P_u h⟩
theorem z_b(h:cNeq k mx K a b=some o):∃v,fNeq k a b=some v∧K v=some o:=by
 rcases M_o h with⟨m,n,rfl,rfl,h⟩|h
 ·refine⟨_,rfl,?_⟩
  rw[a_s]
  rcases I_k h with⟨hb,h⟩|⟨hb,h⟩<;>(rw[hb];exact h)
 ·exact⟨_,rfl,P_u h⟩
theorem y_9(h:cLss k mx K a b=some o):∃v,fLss k a b=some v∧K v=some o:=by
 rcases M_o h with⟨m,n,rfl,rfl,h⟩|h
 ·refine⟨_,rfl,?_⟩
  rw[m_h]
  rcases I_k h with⟨hb,h⟩|⟨hb,h⟩<;>(rw[hb];exact h)
 ·exact⟨_,rfl,P_u h⟩
theorem y_8(h:cLeq k mx K a b=some o):∃v,fLeq k a b=some v∧K v=some o:=by
 rcases M_o h with⟨m,n,rfl,rfl,h⟩|h
 ·exact⟨_,rfl,P_u h⟩
 ·exact⟨_,rfl,P_u h⟩
theorem y_7(h:cGtr k mx K a b=some o):∃v,fGtr k a b=some v∧K v=some o:=by
 rcases M_o h with⟨m,n,rfl,rfl,h⟩|h
 ·refine⟨_,rfl,?_⟩
  rw[m_h]
  rcases I_k h with⟨hb,h⟩|⟨hb,h⟩<;>(rw[hb];exact h)
 ·exact⟨_,rfl,P_u h⟩
theorem y_6(h:cGeq k mx K a b=some o):∃v,fGeq k a b=some v∧K v=some o:=by
 rcases M_o h with⟨m,n,rfl,rfl,h⟩|h
 ·exact⟨_,rfl,P_u h⟩
 ·exact⟨_,rfl,P_u h⟩
theorem n_7{f:Nat→Nat→Nat}(hk:MxOf k mx)(hf:∀x y w,x<2^w→y<2^w→f x y<2^w)(hw:mx+1=2^(Nat.log2 (mx+1))){m n:Nat}(hm:Nat.ble m mx=true)(hn:Nat.ble n mx=true):L_8 k (.ofNat (f m n))=.ofNat (f m n):=by
 refine V_t hk (btL ?_)
 have h1:=lbT hm
 have h2:=lbT hn
 have:=hf m n (Nat.log2 (mx+1)) (by omega) (by omega)
 omega
theorem y_4(hk:MxOf k mx)(hw:mx+1=2^(Nat.log2 (mx+1)))(h:cAnd k mx K a b=some o):∃v,R_b .and k a b=some v∧K v=some o:=by
 rcases M_o h with⟨m,n,rfl,rfl,h⟩|h
 ·rcases I_k h with⟨hb,h⟩|⟨_,h⟩
  ·rcases I_k h with⟨hc,h⟩|⟨_,h⟩
   ·refine⟨.int k (.ofNat (Nat.land m n)),?_,L_5 h⟩
    show some (Value.int k (L_8 k (.ofNat (Nat.land (Nat.mod m (Nat.pow 2 k.bits)) (Nat.mod n (Nat.pow 2 k.bits))))))=_
    rw[f_n hk hb,f_n hk hc,n_7 (f:=Nat.land) hk (λx y w hx hy=>Nat.and_lt_two_pow x hy) hw hb hc]
   ·exact G_c h
  ·exact G_c h
 ·exact G_c h
theorem AB0(hk:MxOf k mx)(hw:mx+1=2^(Nat.log2 (mx+1)))(h:cOr k mx K a b=some o):∃v,R_b .or k a b=some v∧K v=some o:=by
 rcases M_o h with⟨m,n,rfl,rfl,h⟩|h
 ·rcases I_k h with⟨hb,h⟩|⟨_,h⟩
  ·rcases I_k h with⟨hc,h⟩|⟨_,h⟩
   ·refine⟨.int k (.ofNat (Nat.lor m n)),?_,L_5 h⟩
    show some (Value.int k (L_8 k (.ofNat (Nat.lor (Nat.mod m (Nat.pow 2 k.bits)) (Nat.mod n (Nat.pow 2 k.bits))))))=_
    rw[f_n hk hb,f_n hk hc,n_7 (f:=Nat.lor) hk (λx y w hx hy=>Nat.or_lt_two_pow hx hy) hw hb hc]
   ·exact G_c h
  ·exact G_c h
 ·exact G_c h
theorem z_k(hk:MxOf k mx)(hw:mx+1=2^(Nat.log2 (mx+1)))(h:cXor k mx K a b=some o):∃v,R_b .xor k a b=some v∧K v=some o:=by
 rcases M_o h with⟨m,n,rfl,rfl,h⟩|h
 ·rcases I_k h with⟨hb,h⟩|⟨_,h⟩
  ·rcases I_k h with⟨hc,h⟩|⟨_,h⟩
   ·refine⟨.int k (.ofNat (Nat.xor m n)),?_,L_5 h⟩
    show some (Value.int k (L_8 k (.ofNat (Nat.xor (Nat.mod m (Nat.pow 2 k.bits)) (Nat.mod n (Nat.pow 2 k.bits))))))=_
    rw[f_n hk hb,f_n hk hc,n_7 (f:=Nat.xor) hk (λx y w hx hy=>Nat.xor_lt_two_pow hx hy) hw hb hc]
   ·exact G_c h
  ·exact G_c h
 ·exact G_c h
theorem h_a(hk:MxOf k mx)(hw:mx+1=2^(Nat.log2 (mx+1)))(op:BinOp)(h:cOf op k mx K a b=some o):∃v,fOf op k a b=some v∧K v=some o:=by
 cases op with
 |add=>exact y_3 hk h
 |sub=>exact z_i hk h
 |mul=>exact z_a hk h
 |quo=>exact z_f hk h
 |rem=>exact z_g (mx:=mx) h
 |and=>exact y_4 hk hw h
 |or=>exact AB0 hk hw h
 |xor=>exact z_k hk hw h
 |shl=>exact G_c h
 |shr=>exact G_c h
 |andNot=>exact G_c h
 |eql=>exact y_5 (k:=k) (mx:=mx) h
 |neq=>exact z_b (k:=k) (mx:=mx) h
 |lss=>exact y_9 (k:=k) (mx:=mx) h
 |leq=>exact y_8 (k:=k) (mx:=mx) h
 |gtr=>exact y_7 (k:=k) (mx:=mx) h
 |geq=>exact y_6 (k:=k) (mx:=mx) h
end
theorem Af9(f:F2)(k:IntKind)(a b:Int):i2 f (.int k a) (.int k b)=f k a b:=by
 show (match Nat.beq (kn k) (kn k) with|true=>f k a b|false=>none)=_
 rw[Nat.beq_refl]
theorem Ah6{op:BinOp}{x y:Value}{K:Value→An}{o:Out}(h:kI64 op x y K=some o):∃v,i2 (fOf op) x y=some v∧K v=some o:=by
 obtain⟨a,b,rfl,rfl,h⟩:=y_q h
 rw[Af9]
 exact h_a AO6 (by decide) op h
theorem Ai5{op:BinOp}{x y:Value}{K:Value→An}{o:Out}(h:kU64 op x y K=some o):∃v,i2 (fOf op) x y=some v∧K v=some o:=by
 obtain⟨a,b,rfl,rfl,h⟩:=Ax4 h
 rw[Af9]
 exact h_a AO7 (by decide) op h
theorem AF4{op:BinOp}{x y:Value}{K:Value→An}{o:Out}(h:kU8 op x y K=some o):∃v,i2 (fOf op) x y=some v∧K v=some o:=by
 obtain⟨a,b,rfl,rfl,h⟩:=Ax3 h
 rw[Af9]
 exact h_a Bl6 (by decide) op h
theorem Ai2{x y:Value}{K:Value→An}{o:Out}(h:kShl x y K=some o):∃v,sh2 .shl x y=some v∧K v=some o:=by
 obtain⟨k,a,rfl,h⟩:=K_5 (v:=x) h
 obtain⟨k2,b,rfl,h⟩:=K_5 (v:=y) h
 show ∃v,shI .shl k a b=some v∧_
 rcases M_o h with⟨m,n,rfl,rfl,h⟩|h
 ·obtain⟨rfl,h⟩:=Y_l h
  rcases I_k h with⟨hb,h⟩|⟨_,h⟩
  ·refine⟨_,?_,L_5 h⟩
   have hn:=lbT hb
   show some (Value.int .u64 (L_8 .u64 (Int.mul (.ofNat m) (.ofNat (Nat.pow 2 (minN n 64))))))=_
   rw[minN_eq,Nat.min_eq_left hn]
   show some (Value.int .u64 (L_8 .u64 (.ofNat (Nat.mul m (Nat.pow 2 n)))))=_
   rw[show Nat.mul m (Nat.pow 2 n)=Nat.mul (Nat.pow 2 n) m from Nat.mul_comm _ _]
   generalize Nat.mul (Nat.pow 2 n) m=r
   unfold L_8
   cases hr:inK .u64 (.ofNat r) with
   |true=>
    have hr2:Nat.ble r 18446744073709551615=true:=hr
    have:=lbT hr2
    simp only
    rw[show Nat.mod r 18446744073709551616=r from Nat.mod_eq_of_lt (by omega)]
   |false=>rfl
  ·exact G_c h
 ·exact G_c h
theorem Ai3{x y:Value}{K:Value→An}{o:Out}(h:kShr x y K=some o):∃v,sh2 .shr x y=some v∧K v=some o:=by
 obtain⟨k,a,rfl,h⟩:=K_5 (v:=x) h
 obtain⟨k2,b,rfl,h⟩:=K_5 (v:=y) h
 show ∃v,shI .shr k a b=some v∧_
 rcases M_o h with⟨m,n,rfl,rfl,h⟩|h
 ·have key:n≤k.bits→shI .shr k (.ofNat m) (.ofNat n)=some (.int k (.ofNat (Nat.div m (Nat.pow 2 n)))):=λhn=>by
   show some (Value.int k (.ofNat (Nat.div m (Nat.pow 2 (minN n k.bits)))))=_
   rw[minN_eq,Nat.min_eq_left hn]
  rcases I_k h with⟨hb,h⟩|⟨_,h⟩
  ·have hn:=lbT hb
   exact⟨_,key (lTr hn (by cases k<;>decide)),L_5 h⟩
  ·rcases I_k h with⟨hb,h⟩|⟨_,h⟩
   ·exact⟨_,key (lbT hb),L_5 h⟩
   ·exact G_c h
 ·exact G_c h
theorem Ah9{x:Value}{K:Value→An}{o:Out}(h:kNot x K=some o):∃v,un .not x=some v∧K v=some o:=by
 obtain⟨b,rfl,h⟩:=g_j (v:=x) h
 cases b<;>exact⟨_,rfl,h⟩
theorem i_f{k:IntKind}{mx:Nat}(hk:MxOf k mx){x:Value}{K:Value→An}{o:Out}(h:kTo k mx x K=some o):∃v,V_0 k x=some v∧K v=some o:=by
 obtain⟨k0,a,rfl,h⟩:=K_5 (v:=x) h
 cases a with
 |negSucc m=>exact G_c h
 |ofNat m=>
  rcases I_k h with⟨hb,h⟩|⟨_,h⟩
  ·exact⟨_,congrArg (λz=>some (Value.int k z)) (V_t hk hb),h⟩
  ·exact G_c h
theorem r_0{a:Addr}{F:Nat→Nat→An}{o:Out}(h:adK a F=some o):∃b f,a=⟨b,f,none⟩∧F b f=some o:=by
 cases a with
 |mk b f s=>cases s with
  |none=>exact⟨b,f,rfl,h⟩
  |some x=>cases h
theorem R_x{v:Value}{F:Nat→Nat→An}{o:Out}(h:w_e v F=some o):∃b f,v=.pointer (some ⟨b,f,none⟩)∧F b f=some o:=by
 obtain⟨p,rfl,h⟩:=Ay2 (v:=v) h
 cases p with
 |none=>cases h
 |some a=>
  obtain⟨b,f,rfl,h⟩:=r_0 h
  exact⟨b,f,rfl,h⟩
theorem Ah8{v:Value}{K:Value→An}{o:Out}(h:kNil v K=some o):∃u,nilc1 v=some u∧K u=some o:=by
 cases v<;>try cases h
 case pointer a=>cases a with
  |none=>cases h
  |some a=>exact⟨_,rfl,h⟩
 case func fn f c=>exact G_c h
theorem m_b{k:Nat}{v:Value}{K:Value→An}{o:Out}(h:kFieldA k v K=some o):∃u,a_z k (addrOf v)=some u∧K u=some o:=by
 obtain⟨b,f,rfl,h2⟩:=R_x (v:=v) h
 exact⟨_,rfl,m_g (K:=λo'=>K (.pointer (some ⟨b,o',none⟩))) h2⟩
theorem w_r{v:Value}{K:Value→An}{o:Out}(h:L_o v K=some o):∃u,p_m v=some u∧K u=some o:=by
 obtain⟨a,n,c,rfl,h⟩:=d_i (v:=v) h
 exact⟨_,rfl,L_5 h⟩
theorem w_h{v:Value}{K:Value→An}{o:Out}(h:Q_v v K=some o):∃u,Aj7 v=some u∧K u=some o:=by
 obtain⟨s,rfl,h⟩:=Ay4 (v:=v) h
 exact⟨_,rfl,L_5 h⟩
theorem w_u{v:Value}{F:Nat→An}{o:Out}(h:Bk3 v F=some o):∃n,J_4 v=some n∧F n=some o:=by
 obtain⟨k,a,rfl,h⟩:=K_5 (v:=v) h
 cases a with
 |negSucc m=>cases h
 |ofNat m=>exact⟨m,rfl,h⟩
theorem w_g{u:Nat}{x i:Value}{K:Value→An}{o:Out}(h:L_x u x i K=some o):∃v,AE6 u (J_4 i) x=some v∧K v=some o:=by
 obtain⟨a,n,c,rfl,h⟩:=d_i (v:=x) h
 obtain⟨k,hk,h⟩:=w_u (v:=i) h
 rw[hk]
 rcases I_k h with⟨_,h⟩|⟨hb,h⟩
 ·cases h
 ·cases a with
  |none=>cases h
  | some a =>
   obtain⟨b,f,rfl,h2⟩:=r_0 h
   have hlt:Nat.blt k n=true:=by
    show Nat.ble (k+1) n=true
    refine btL ?_
    have:¬n≤k:=λhh=>by rw[btL hh] at hb;cases hb
    omega
   refine⟨.pointer (some ⟨b,Nat.add f (Nat.mul k u),none⟩),?_,m_g (K:=λo'=>K (.pointer (some ⟨b,o',none⟩))) h2⟩
   show (match Nat.blt k n with|false=>_|true=>_)=_
   rw[hlt]
theorem w_f{v:Value}{i:Nat}{K:Value→An}{o:Out}(h:kExtr v i K=some o):∃u,extr1 i v=some u∧K u=some o:=by
 obtain⟨vs,rfl,h⟩:=Ay5 (v:=v) h
 exact G_c h
theorem p_g{off:Nat}{v:Value}{K:Value→An}{o:Out}(h:Ag3 off v K=some o):∃u,field1 off v=some u∧K u=some o:=by
 obtain⟨cs,rfl,h⟩:=Ay0 (v:=v) h
 exact G_c h
theorem R_s{h:Hs}{b:Nat}{F:Blk→An}{o:Out}(hh:getB h b F=some o):∃B,h.hp.get b=some B∧F B=some o:=by
 unfold getB at hh
 rw[getK_eq] at hh
 cases hb:h.hp.get b with
 |none=>rw[hb] at hh;cases hh
 |some B=>rw[hb] at hh;exact⟨B,rfl,hh⟩
noncomputable def ldV(v:Value)(h:Hs):Option Value:=match addrOf v with
 |some p=>blkCell p.2 (h.hp.get p.1)
 |none=>none
noncomputable def ldsV(n:Nat)(v:Value)(h:Hs):Option Value:=match addrOf v with
 |some p=>aggO (F_q n p.2 (h.hp.get p.1))
 |none=>none
theorem w_s{v:Value}{h:Hs}{K:Value→An}{o:Out}(hh:kLoad v h K=some o):∃u,ldV v h=some u∧K u=some o:=by
 obtain⟨b,f,rfl,hh⟩:=R_x (v:=v) hh
 obtain⟨B,hb,hh⟩:=R_s hh
 cases B with
 |mp es c=>cases hh
 |it _ _ _ _=>cases hh
 |lp _=>cases hh
 |row c n e u rw' fl=>
  obtain⟨x,hx,hK⟩:=G_c (x:=Tr.getK c f) hh
  rw[getK_eq] at hx
  refine⟨x,?_,hK⟩
  show blkCell f (h.hp.get b)=some x
  rw[hb]
  exact hx
theorem p_h{n:Nat}{v:Value}{h:Hs}{K:Value→An}{o:Out}(hh:H_7 n v h K=some o):∃u,ldsV n v h=some u∧K u=some o:=by
 obtain⟨b,f,rfl,hh⟩:=R_x (v:=v) hh
 obtain⟨B,hb,hh⟩:=R_s hh
 cases B with
 |mp es c=>cases hh
 |it _ _ _ _=>cases hh
 |lp _=>cases hh
 | row c m e u rw' fl =>
  replace hh:Option.rec (motive:=λ_=>An) none (λcs=>K (.agg cs.toArray)) (I_y c n f [])=some o:=hh
  cases hl:I_y c n f [] with
  |none=>rw[hl] at hh;cases hh
  |some cs=>
   rw[hl] at hh
   refine⟨.agg cs.toArray,?_,hh⟩
   show aggO (F_q n f (h.hp.get b))=_
   rw[hb]
   show aggO (I_y c n f [])=_
   rw[hl]
   rfl
theorem AH8(x:GX)(en:En)(h:Hs):x_q x en h=ret1 h (ldV (ev en x) h):=by
 unfold x_q load1 ldV
 cases addrOf (ev en x)<;>rfl
theorem An9(n:Nat)(x:GX)(en:En)(h:Hs):f_1 n x en h=ret1 h (ldsV n (ev en x) h):=by
 unfold f_1 loads1 ldsV
 cases addrOf (ev en x) with
 |none=>rfl
 |some p=>
  simp only
  cases F_q n p.2 (h.hp.get p.1)<;>rfl
theorem AD5{fl:Bool}{x:Value}{F:Bool→An}{o:Out}(h:flF fl x F=some o):F (andB fl (flat1 x))=some o:=by
 unfold flF at h
 cases fl with
 |false=>exact h
 |true=>
  cases hx:flat1 x with
  |false=>rw[hx] at h;exact h
  |true=>rw[hx] at h;exact h
theorem AG3{lo b:Nat}{F:Nat→An}{o:Out}(h:loF lo b F=some o):F (minN lo b)=some o:=by
 unfold loF at h
 unfold minN
 cases hb:Nat.ble lo b with
 |false=>rw[hb] at h;exact h
 |true=>rw[hb] at h;exact h
theorem m_d{a x:Value}{h:Hs}{K:KV}{o:Out}(hh:H_l a x h K=some o):∃h1,store1 1 h (A_4 x) (addrOf a)=some (undef',h1)∧K undef' h1=some o:=by
 rcases I_k hh with⟨hx,hh⟩|⟨hx,hh⟩
 ·obtain⟨b,f,rfl,hh⟩:=R_x (v:=a) hh
  obtain⟨B,hb,hh⟩:=R_s hh
  cases B with
  |mp es c=>cases hh
  |it _ _ _ _=>cases hh
  |lp _=>cases hh
  | row c m e u rw' fl =>
   rcases I_k (c:=rw') hh with⟨hr,hg⟩|⟨_,hg⟩
   ·subst hr
    cases hc:Tr.getK c f with
    |none=>rw[hc] at hg;cases hg
    | some y =>
     rw[hc] at hg
     obtain⟨hp,nx,lo⟩:=h
     have hh2:=AG3 (AD5 (fl:=fl) (x:=x) hg)
     rw[setK_eq,setK_eq] at hh2
     refine⟨_,?_,hh2⟩
     have hcl:A_4 x = [x]:=by cases x<;>first|rfl|cases hx
     rw[hcl]
     show unit1 (O_d ⟨hp,nx,lo⟩ b f [x] (hp.get b))=_
     have hb':hp.get b=some (.row c m e u true fl):=hb
     rw[hb']
     show unit1 (setRow ⟨hp,nx,lo⟩ b m e u (andB fl (F_e [x])) (N_d [x] f c))=_
     have hfl:F_e [x]=flat1 x:=by
      show (match flat1 x with|true=>true|false=>false)=flat1 x
      cases flat1 x<;>rfl
     have hst:N_d [x] f c=some (c.set f (some x)):=by
      rw[getK_eq] at hc
      simp only[N_d,hx,hc]
     rw[hfl,hst]
     rfl
   ·cases hg
 ·have hh2:after K (store1 1 h (A_4 x) (addrOf a))=some o:=hh
  cases hs:store1 1 h (A_4 x) (addrOf a) with
  |none=>rw[hs] at hh2;cases hh2
  | some p =>
   rw[hs] at hh2
   have hp:p.1=undef':=by
    unfold store1 at hs
    split at hs
    ·unfold store2 at hs
     split at hs
     ·unfold unit1 at hs
      split at hs
      ·injection hs with hs;rw[←hs]
      ·cases hs
     ·cases hs
    ·cases hs
   obtain⟨p1,p2⟩:=p
   simp only at hp
   subst hp
   exact⟨p2,rfl,hh2⟩
theorem V_n{R:RnK}{f:FuncId}{args:List Value}{h:Hs}{K:KV}{o:Out}(hh:E_d R f args h K=some o):∃v h1,R f args h=some (.val v h1)∧K v h1=some o:=by
 unfold E_d at hh
 cases hr:R f args h with
 |none=>rw[hr] at hh;cases hh
 |some x=>cases x with
  |fin e fr h1=>rw[hr] at hh;cases hh
  |val v h1=>rw[hr] at hh;exact⟨v,h1,rfl,hh⟩
end Go.Gev
