/- Contracts of functions, by the logic of residual programs. -/
import Derived.Test.YtjddgepodiabkaaGreatDoorCheckSpoilsTab
import Derived.Test.YtjddgepodiabkaaGreatDoorGevHos
import Derived.Test.YtjddgepodiabkaaGreatDoorGevFms
import Derived.KernelRfl
namespace Go.Proofs.YtjddgepodiabkaaGreatDoor.checkSpoils
open Go Go.Gev
set_option linter.unusedVariables false
def rot(x s:Nat):Nat:=(x*2^s%18446744073709551616)|||(x/2^(64-s))
theorem rot_lt{x s:Nat}(hx:x<18446744073709551616):rot x s<18446744073709551616:=by
 unfold rot
 have:(18446744073709551616:Nat)=2^64:=by decide
 rw[this] at *
 exact Nat.or_lt_two_pow (Nat.mod_lt _ (by decide)) (Nat.lt_of_le_of_lt (Nat.div_le_self _ _) hx)
theorem rotate_ok{R:RnK}{N:Nat}{x:Nat}{h:Hs}(hx:x<18446744073709551616):r82 R N [.int .u64 (.ofNat x),.int .i64 (.ofNat 9)] h=some (.val (.int .u64 (.ofNat (rot x 9))) h):=by
 refine WP.eqn ?_
 unfold r82
 have H:=Sto.enter h
 have e1:9&&&63=9:=rfl
 repeat' (first|(with_reducible first|refine w_unC ?_|refine w_enK ?_)|((with_reducible first|refine w_toU ?_ ?_|refine w_shr ?_ ?_|refine w_shl ?_ ?_) ;omega)|((with_reducible refine w_uand ?_ ?_ ?_) ;omega;omega)|((with_reducible refine w_usub ?_ ?_ ?_) ;omega;omega))
 rw[e1]
 repeat' (first|((with_reducible refine w_uor ?_ ?_ ?_) ;omega;omega))
 exact w_clr H rfl ⟨rfl,rfl⟩
def sealOn(s:Nat)(l:List Nat):Nat:=l.foldl (λs v=>rot s 9 ^^^ v) s
def sealOf(l:List Nat):Nat:=sealOn 7811896474847682849 l
def Wl(l:List Nat):List (List Value):=l.map λn=>[Value.int .u64 (.ofNat n)]
def Small(l:List Nat):Prop:=∀n∈l,n<18446744073709551616
theorem xor_lt{a b:Nat}(ha:a<18446744073709551616)(hb:b<18446744073709551616):a ^^^ b<18446744073709551616:=by
 have:(18446744073709551616:Nat)=2^64:=by decide
 rw[this] at *
 exact Nat.xor_lt_two_pow ha hb
def CRot(R:RnK):Prop:=∀(x:Nat)(h:Hs),x<18446744073709551616→R 82 [.int .u64 (.ofNat x),.int .i64 (.ofNat 9)] h=some (.val (.int .u64 (.ofNat (rot x 9))) h)
theorem sealOn_ok{R:RnK}{N:Nat}(c:CRot R){s:Nat}{l:List Nat}{v:Value}{h:Hs}(hs:s<18446744073709551616)(hl:Small l)(hr:Rd h v 1 (Wl l))(hN:l.length<N)(hb:l.length<1000000) :
 r57 R N [.int .u64 (.ofNat s),v] h=some (.val (.int .u64 (.ofNat (sealOn s l))) h):=by
 refine WP.eqn ?_
 unfold r57
 have H:=Sto.enter1 hr
 repeat' (first|(with_reducible first|refine w_jn ?_|refine w_unC ?_|refine w_enK ?_)|((with_reducible apply w_lenR 0 H) ;rfl))
 rw[show (Wl l).length=l.length from List.length_map _]
 refine lp_ind (Good:=λn (self:L4)=>∀(i s:Nat)(x y:Value),i+n=l.length→s<18446744073709551616→WP (self (.int .i64 (.ofNat i)) x (.int .u64 (.ofNat s)) y ⟨h.hp,h.nx,h.nx⟩) (λv' h'=>v'=.int .u64 (.ofNat (sealOn s (l.drop i)))∧h'=h)) (λn self ih i s x y hi hs=>?_) N l.length hN 0 s _ _ (by omega) hs
 repeat' (first|(with_reducible first|refine w_jn ?_|refine w_cndT ?_|refine w_cndF ?_)|((with_reducible refine w_lss_NN (λ_=>?_) (λ_=>?_))<;>first|(exfalso;omega)|skip))
 ·have hi:i<l.length:=by omega
  refine w_at1 0 H rfl (show (Wl l)[i]?=some [Value.int .u64 (.ofNat l[i])] from by unfold Wl;rw[List.getElem?_map,List.getElem?_eq_getElem hi];rfl) rfl rfl ?_
  refine w_callE (c _ _ hs) ?_
  have h1:=rot_lt (s:=9) hs
  have h2:=hl l[i] (List.getElem_mem hi)
  repeat' (first|((with_reducible refine w_add_NN ?_ ?_) ;omega)|((with_reducible refine w_uxor ?_ ?_ ?_) ;omega;omega))
  have e:sealOn s (l.drop i)=sealOn (rot s 9 ^^^ l[i]) (l.drop (i+1)):=by rw[List.drop_eq_getElem_cons hi];rfl
  rw[e]
  exact ih (n-1) (by omega) (i+1) _ _ _ (by omega) (xor_lt h1 h2)
 ·rw[List.drop_of_length_le (by omega)]
  exact w_clr H rfl ⟨rfl,rfl⟩
def CSealOn(R:RnK):Prop:=∀(s:Nat)(l:List Nat)(v:Value)(h:Hs),s<18446744073709551616→Small l→l.length<100000→Rd h v 1 (Wl l)→R 57 [.int .u64 (.ofNat s),v] h=some (.val (.int .u64 (.ofNat (sealOn s l))) h)
theorem sealOf_ok{R:RnK}{N:Nat}(c:CSealOn R){l:List Nat}{v:Value}{h:Hs}(hl:Small l)(hb:l.length<100000)(hr:Rd h v 1 (Wl l)) :
 r37 R N [v] h=some (.val (.int .u64 (.ofNat (sealOf l))) h):=by
 refine WP.eqn ?_
 unfold r37
 have H:=Sto.enter1 hr
 refine w_callE (c 7811896474847682849 l _ _ (by omega) hl hb (H.rd 0 rfl)) ?_
 exact w_clr H rfl ⟨rfl,rfl⟩
structure Geo where
 b:Nat
 n:Nat
 c:Nat
 k:Nat
def Geo.v(g:Geo):Value:=.agg #[.int .i64 (.ofNat g.b),.int .i64 (.ofNat g.n),.int .i64 (.ofNat g.c),.int .i64 (.ofNat g.k)]
def Geo.bitsAt(g:Geo):Nat:=1+g.c*g.k
def Geo.bitsN(g:Geo):Nat:=(g.b+511)/512
def Geo.dataAt(g:Geo):Nat:=g.bitsAt+g.bitsN+2*g.n
structure Geo.Box (g:Geo):Prop where
 b1:64≤g.b
 b2:g.b≤1024
 n1:4≤g.n
 n2:g.n≤64
 c1:1≤g.c
 c2:g.c≤8
 k1:16≤g.k
 k2:g.k≤110
def Geo.Ok(g:Geo):Prop:=g.Box∧g.dataAt+2≤g.b
instance (g:Geo):Decidable g.Box:=decidable_of_iff (64≤g.b∧g.b≤1024∧4≤g.n∧g.n≤64∧1≤g.c∧g.c≤8∧16≤g.k∧g.k≤110) ⟨λ⟨a,b,c,d,e,f,g,h⟩=>⟨a,b,c,d,e,f,g,h⟩,λ⟨a,b,c,d,e,f,g,h⟩=>⟨a,b,c,d,e,f,g,h⟩⟩
instance (g:Geo):Decidable g.Ok:=inferInstanceAs (Decidable (g.Box∧g.dataAt+2≤g.b))
theorem Geo.Box.ck{g:Geo}(x:g.Box):16≤g.c*g.k∧g.c*g.k≤880:=
 ⟨Nat.mul_le_mul x.c1 x.k1,Nat.mul_le_mul x.c2 x.k2⟩
theorem Geo.Box.num{g:Geo}(x:g.Box):17≤g.bitsAt∧g.bitsAt≤881∧1≤g.bitsN∧g.bitsN≤2∧g.dataAt=g.bitsAt+g.bitsN+2*g.n:=by
 have:=x.ck
 have:=x.b1
 have:=x.b2
 unfold Geo.bitsAt Geo.bitsN Geo.dataAt Geo.bitsAt Geo.bitsN
 omega
def CIn(R:RnK):Prop:=∀(a b c:Int)(h:Hs),R 35 [.int .i64 a,.int .i64 b,.int .i64 c] h=some (.val (.bool (decide (b≤a∧a≤c))) h)
theorem in_ok{R:RnK}{N:Nat}{a b c:Int}{h:Hs}:r35 R N [.int .i64 a,.int .i64 b,.int .i64 c] h=some (.val (.bool (decide (b≤a∧a≤c))) h):=by
 refine WP.eqn ?_
 unfold r35
 have H:=Sto.enter h
 repeat' (first|(with_reducible first|refine w_gTt ?_|refine w_gTf ?_|refine w_pickT ?_|refine w_pickF ?_|refine w_unC ?_|refine w_enK ?_)|((with_reducible first|refine w_leq_II (λ_=>?_) (λ_=>?_)|refine w_geq_II (λ_=>?_) (λ_=>?_))<;>first|(exfalso;omega)|skip))
 all_goals exact w_clrB H (by simp;omega)
theorem CIn.nat{R:RnK}(c:CIn R)(x y z:Nat)(h:Hs):R 35 [.int .i64 (.ofNat x),.int .i64 (.ofNat y),.int .i64 (.ofNat z)] h=some (.val (.bool (decide (y≤x∧x≤z))) h):=by
 rw[c]
 congr 3
 simp
theorem CIn.int{R:RnK}(c:CIn R)(x:Int)(y z:Nat)(h:Hs):R 35 [.int .i64 x,.int .i64 (.ofNat y),.int .i64 (.ofNat z)] h=some (.val (.bool (decide ((y:Int)≤x∧x≤(z:Int)))) h):=c x y z h
def CBits(R:RnK):Prop:=∀(g:Geo)(h:Hs),g.Box→R 38 [g.v] h=some (.val (.tuple #[.int .i64 (.ofNat g.bitsAt),.int .i64 (.ofNat g.bitsN)]) h)
theorem bits_ok{R:RnK}{N:Nat}{g:Geo}{h:Hs}(x:g.Box):r38 R N [g.v] h=some (.val (.tuple #[.int .i64 (.ofNat g.bitsAt),.int .i64 (.ofNat g.bitsN)]) h):=by
 refine WP.eqn ?_
 unfold r38 Geo.v
 have H:=Sto.enter h
 have h1:=x.ck
 have h2:=x.b2
 repeat' (first|(with_reducible first|refine w_unC ?_|refine w_enK ?_|refine w_fieldA ?_)|((with_reducible refine w_boxA H ?_) ;(clear H;intro u H hu))|((with_reducible first|refine w_add_NN ?_ ?_|refine w_mul_NN ?_ ?_) ;omega)|((with_reducible refine w_sub_NN ?_ ?_ ?_) ;omega;omega)|((with_reducible refine w_quo_NN ?_ ?_ ?_) ;omega;omega)|((with_reducible apply w_load 0 H) ;rfl;rfl;rfl))
 refine w_clr H rfl ⟨?_,rfl⟩
 unfold Geo.bitsAt Geo.bitsN
 rw[show g.b+512-1=g.b+511 from by omega]
def CData(R:RnK):Prop:=∀(g:Geo)(h:Hs),g.Box→R 36 [g.v] h=some (.val (.tuple #[.int .i64 (.ofNat g.dataAt),.int .i64 ((g.b:Int)-1-(g.dataAt:Int))]) h)
theorem data_ok{R:RnK}{N:Nat}(cb:CBits R){g:Geo}{h:Hs}(x:g.Box):r36 R N [g.v] h=some (.val (.tuple #[.int .i64 (.ofNat g.dataAt),.int .i64 ((g.b:Int)-1-(g.dataAt:Int))]) h):=by
 refine WP.eqn ?_
 unfold r36 Geo.v
 have H:=Sto.enter h
 have h1:=x.num
 have h2:=x.b2
 have h3:=x.n2
 have h4:=x.b1
 repeat' (first|(refine w_callE (cb g _ x) ?_)|(with_reducible first|refine w_unC ?_|refine w_enK ?_|refine w_fieldA ?_)|((with_reducible apply w_extr) ;rfl)|((with_reducible refine w_boxA H ?_) ;(clear H;intro u H hu))|((with_reducible first|refine w_add_NN ?_ ?_|refine w_mul_NN ?_ ?_) ;omega)|((with_reducible refine w_sub_NN ?_ ?_ ?_) ;omega;omega)|((with_reducible refine w_sub_NNI ?_ ?_ ?_) ;omega;omega)|((with_reducible apply w_load 0 H) ;rfl;rfl;rfl)|((with_reducible apply w_loadsF 0 H) ;rfl;rfl;rfl))
 all_goals (refine w_clr H rfl ⟨?_,rfl⟩;rw[h1.2.2.2.2])
 rw[show ((g.b-1:Nat):Int)=(g.b:Int)-1 from by omega]
def CGood(R:RnK):Prop:=∀(g:Geo)(h:Hs),R 12 [g.v] h=some (.val (.bool (decide g.Ok)) h)
theorem good_ok{R:RnK}{N:Nat}(ci:CIn R)(cd:CData R){g:Geo}{h:Hs}:r12 R N [g.v] h=some (.val (.bool (decide g.Ok)) h):=by
 refine WP.eqn ?_
 unfold r12 Geo.v
 have H:=Sto.enter h
 repeat' (first|((refine w_callB (ci.nat _ _ _ _) (λ_=>?_) (λ_=>?_))<;>first|(exfalso;omega)|skip)|(with_reducible first|refine w_jn ?_|refine w_cndT ?_|refine w_cndF ?_|refine w_gFt ?_|refine w_gFf ?_|refine w_pickT ?_|refine w_pickF ?_|refine w_notT ?_|refine w_notF ?_|refine w_unC ?_|refine w_enK ?_|refine w_fieldA ?_)|((with_reducible refine w_boxA H ?_) ;(clear H;intro u H hu))|((with_reducible apply w_load 0 H) ;rfl;rfl;rfl)|((with_reducible apply w_loadsF 0 H) ;rfl;rfl;rfl))
 ·have x:g.Box:=⟨by omega,by omega,by omega,by omega,by omega,by omega,by omega,by omega⟩
  have h1:=x.num
  refine w_callE (cd g _ x) ?_
  repeat' (first|((with_reducible apply w_extr) ;rfl)|((with_reducible refine w_geq_IN (λ_=>?_) (λ_=>?_))<;>first|(exfalso;omega)|skip))
  all_goals exact w_clrB H (by unfold Geo.Ok;simp[x];omega)
 all_goals exact w_clrB H (by unfold Geo.Ok;simp;intro x;have:=x.1;have:=x.2;have:=x.3;have:=x.4;have:=x.5;have:=x.6;have:=x.7;have:=x.8;omega)
def Geo.dataN(g:Geo):Nat:=g.b-1-g.dataAt
def Geo.nodeAt(g:Geo)(i:Nat):Nat:=if 1≤i∧i≤g.n then g.bitsAt+g.bitsN+i-1 else 0
def Geo.lostAt(g:Geo):Nat:=g.bitsAt+g.bitsN+g.n
def CDataF(R:RnK):Prop:=∀(g:Geo)(h:Hs),g.Ok→R 19 [g.v] h=some (.val (.tuple #[.int .i64 (.ofNat g.dataAt),.int .i64 (.ofNat g.dataN)]) h)
theorem dataF_ok{R:RnK}{N:Nat}(cg:CGood R)(cd:CData R){g:Geo}{h:Hs}(x:g.Ok):r19 R N [g.v] h=some (.val (.tuple #[.int .i64 (.ofNat g.dataAt),.int .i64 (.ofNat g.dataN)]) h):=by
 refine WP.eqn ?_
 unfold r19 Geo.v
 have H:=Sto.enter h
 have h2:=x.2
 repeat' (first|((refine w_callB (cg g _) (λ_=>?_) (λ_=>?_))<;>first|(exfalso;omega)|skip)|(refine w_callE (cd g _ x.1) ?_)|(with_reducible first|refine w_jn ?_|refine w_cndT ?_|refine w_cndF ?_|refine w_notT ?_|refine w_notF ?_|refine w_unC ?_|refine w_enK ?_)|((with_reducible apply w_extr) ;rfl)|((with_reducible refine w_boxA H ?_) ;(clear H;intro u H hu))|((with_reducible apply w_loadsF 0 H) ;rfl;rfl;rfl))
 ·refine w_clr H rfl ⟨?_,rfl⟩
  rw[show (g.b:Int)-1-(g.dataAt:Int)=.ofNat g.dataN from by unfold Geo.dataN;simp only[Int.ofNat_eq_natCast];omega]
 ·exact absurd x ‹_›
def CNode(R:RnK):Prop:=∀(g:Geo)(i:Nat)(h:Hs),g.Ok→i≤100000→R 17 [g.v,.int .i64 (.ofNat i)] h=some (.val (.int .i64 (.ofNat (g.nodeAt i))) h)
theorem node_ok{R:RnK}{N:Nat}(cg:CGood R)(ci:CIn R)(cb:CBits R){g:Geo}{i:Nat}{h:Hs}(x:g.Ok)(hi:i≤100000):r17 R N [g.v,.int .i64 (.ofNat i)] h=some (.val (.int .i64 (.ofNat (g.nodeAt i))) h):=by
 refine WP.eqn ?_
 unfold r17 Geo.v
 have H:=Sto.enter h
 have h1:=x.1.num
 repeat' (first|((refine w_callB (cg g _) (λ_=>?_) (λ_=>?_))<;>first|(exfalso;omega)|skip)|((refine w_callB (ci.nat _ _ _ _) (λ_=>?_) (λ_=>?_))<;>first|(exfalso;omega)|skip)|(refine w_callE (cb g _ x.1) ?_)|(with_reducible first|refine w_jn ?_|refine w_cndT ?_|refine w_cndF ?_|refine w_gFt ?_|refine w_gFf ?_|refine w_pickT ?_|refine w_pickF ?_|refine w_notT ?_|refine w_notF ?_|refine w_unC ?_|refine w_enK ?_|refine w_fieldA ?_)|((with_reducible apply w_extr) ;rfl)|((with_reducible refine w_boxA H ?_) ;(clear H;intro u H hu))|((with_reducible refine w_add_NN ?_ ?_) ;omega)|((with_reducible refine w_sub_NN ?_ ?_ ?_) ;omega;omega)|((with_reducible apply w_load 0 H) ;rfl;rfl;rfl)|((with_reducible apply w_loadsF 0 H) ;rfl;rfl;rfl))
 ·refine w_clr H rfl ⟨?_,rfl⟩
  rw[show g.nodeAt i=g.bitsAt+g.bitsN+i-1 from if_pos (by assumption)]
 ·refine w_clr H rfl ⟨?_,rfl⟩
  rw[show g.nodeAt i=0 from if_neg (by assumption)]
 ·exact absurd x ‹_›
def CLost(R:RnK):Prop:=∀(g:Geo)(h:Hs),g.Ok→R 14 [g.v] h=some (.val (.tuple #[.int .i64 (.ofNat g.lostAt),.int .i64 (.ofNat g.n)]) h)
theorem lost_ok{R:RnK}{N:Nat}(cg:CGood R)(cn:CNode R){g:Geo}{h:Hs}(x:g.Ok):r14 R N [g.v] h=some (.val (.tuple #[.int .i64 (.ofNat g.lostAt),.int .i64 (.ofNat g.n)]) h):=by
 refine WP.eqn ?_
 unfold r14 Geo.v
 have H:=Sto.enter h
 have h1:=x.1.num
 have h2:=x.1.n1
 have h3:=x.1.n2
 have e:g.nodeAt g.n=g.bitsAt+g.bitsN+g.n-1:=if_pos (by omega)
 repeat' (first|((refine w_callB (cg g _) (λ_=>?_) (λ_=>?_))<;>first|(exfalso;omega)|skip)|(refine w_callE (cn g _ _ x (by omega)) ?_)|(with_reducible first|refine w_jn ?_|refine w_cndT ?_|refine w_cndF ?_|refine w_notT ?_|refine w_notF ?_|refine w_unC ?_|refine w_enK ?_|refine w_fieldA ?_|refine w_light0 ?_)|((with_reducible refine w_boxA H ?_) ;(clear H;intro u H hu))|((with_reducible refine w_add_NN ?_ ?_) ;omega)|((with_reducible apply w_load 0 H) ;rfl;rfl;rfl)|((with_reducible apply w_loadsF 0 H) ;rfl;rfl;rfl)|((with_reducible apply w_loadD 0 H) ;rfl;rfl;(intro _;simp only[HidOk,and_true];omega)))
 ·refine w_clr H rfl ⟨?_,rfl⟩
  rw[e,show g.bitsAt+g.bitsN+g.n-1+1=g.lostAt from by unfold Geo.lostAt;omega]
 ·exact absurd x ‹_›
def CBitsF(R:RnK):Prop:=∀(g:Geo)(h:Hs),g.Ok→R 22 [g.v] h=some (.val (.tuple #[.int .i64 (.ofNat g.bitsAt),.int .i64 (.ofNat g.bitsN)]) h)
theorem bitsF_ok{R:RnK}{N:Nat}(cg:CGood R)(cb:CBits R){g:Geo}{h:Hs}(x:g.Ok):r22 R N [g.v] h=some (.val (.tuple #[.int .i64 (.ofNat g.bitsAt),.int .i64 (.ofNat g.bitsN)]) h):=by
 refine WP.eqn ?_
 unfold r22 Geo.v
 have H:=Sto.enter h
 repeat' (first|((refine w_callB (cg g _) (λ_=>?_) (λ_=>?_))<;>first|(exfalso;omega)|skip)|(refine w_callE (cb g _ x.1) ?_)|(with_reducible first|refine w_jn ?_|refine w_cndT ?_|refine w_cndF ?_|refine w_notT ?_|refine w_notF ?_|refine w_unC ?_|refine w_enK ?_)|((with_reducible apply w_extr) ;rfl)|((with_reducible refine w_boxA H ?_) ;(clear H;intro u H hu))|((with_reducible apply w_loadsF 0 H) ;rfl;rfl;rfl))
 ·exact w_clr H rfl ⟨rfl,rfl⟩
 ·exact absurd x ‹_›
def CBack(R:RnK):Prop:=∀(g:Geo)(h:Hs),g.Ok→R 16 [g.v] h=some (.val (.int .i64 (.ofNat (g.b-1))) h)
theorem W_x{R:RnK}{N:Nat}(cg:CGood R){g:Geo}{h:Hs}(x:g.Ok):r16 R N [g.v] h=some (.val (.int .i64 (.ofNat (g.b-1))) h):=by
 refine WP.eqn ?_
 unfold r16 Geo.v
 have H:=Sto.enter h
 have h1:=x.1.b1
 have h2:=x.1.b2
 repeat' (first|((refine w_callB (cg g _) (λ_=>?_) (λ_=>?_))<;>first|(exfalso;omega)|skip)|(with_reducible first|refine w_jn ?_|refine w_cndT ?_|refine w_cndF ?_|refine w_notT ?_|refine w_notF ?_|refine w_unC ?_|refine w_enK ?_|refine w_fieldA ?_)|((with_reducible refine w_boxA H ?_) ;(clear H;intro u H hu))|((with_reducible refine w_sub_NN ?_ ?_ ?_) ;omega;omega)|((with_reducible apply w_load 0 H) ;rfl;rfl;rfl)|((with_reducible apply w_loadsF 0 H) ;rfl;rfl;rfl))
 ·exact w_clr H rfl ⟨rfl,rfl⟩
 ·exact absurd x ‹_›
def CBooks(R:RnK):Prop:=∀(g:Geo)(i:Nat)(h:Hs),g.Ok→i<g.c→R 46 [g.v,.int .i64 (.ofNat i)] h=some (.val (.tuple #[.int .i64 (.ofNat (1+i*g.k)),.int .i64 (.ofNat g.k)]) h)
theorem books_ok{R:RnK}{N:Nat}(cg:CGood R)(ci:CIn R){g:Geo}{i:Nat}{h:Hs}(x:g.Ok)(hi:i<g.c):r46 R N [g.v,.int .i64 (.ofNat i)] h=some (.val (.tuple #[.int .i64 (.ofNat (1+i*g.k)),.int .i64 (.ofNat g.k)]) h):=by
 refine WP.eqn ?_
 unfold r46 Geo.v
 have H:=Sto.enter h
 have h1:=x.1.c1
 have h2:=x.1.c2
 have h3:i*g.k≤8*110:=Nat.mul_le_mul (by omega) x.1.k2
 repeat' (first|((refine w_callB (cg g _) (λ_=>?_) (λ_=>?_))<;>first|(exfalso;omega)|skip)|((refine w_callB (ci.nat _ _ _ _) (λ_=>?_) (λ_=>?_))<;>first|(exfalso;omega)|skip)|(with_reducible first|refine w_jn ?_|refine w_cndT ?_|refine w_cndF ?_|refine w_gFt ?_|refine w_gFf ?_|refine w_pickT ?_|refine w_pickF ?_|refine w_notT ?_|refine w_notF ?_|refine w_unC ?_|refine w_enK ?_|refine w_fieldA ?_)|((with_reducible refine w_boxA H ?_) ;(clear H;intro u H hu))|((with_reducible first|refine w_add_NN ?_ ?_|refine w_mul_NN ?_ ?_) ;omega)|((with_reducible refine w_sub_NN ?_ ?_ ?_) ;omega;omega)|((with_reducible apply w_load 0 H) ;rfl;rfl;rfl)|((with_reducible apply w_loadsF 0 H) ;rfl;rfl;rfl))
 ·exact w_clr H rfl ⟨rfl,rfl⟩
 ·exact absurd x ‹_›
def Wc(l:List Nat):List Value:=l.map λn=>Value.int .u64 (.ofNat n)
theorem Wl_ones(l:List Nat):Wl l=ones (Wc l):=by unfold Wl ones Wc;rw[List.map_map];rfl
theorem Wl_len(l:List Nat):(Wl l).length=l.length:=List.length_map _
theorem Wl_get{l:List Nat}{i:Nat}(hi:i<l.length):(Wl l)[i]?=some [Value.int .u64 (.ofNat l[i])]:=by
 unfold Wl;rw[List.getElem?_map,List.getElem?_eq_getElem hi];rfl
def CEqW(R:RnK):Prop:=∀(a b:List Nat)(v w:Value)(h:Hs),a.length<100000→Rd h v 1 (Wl a)→Rd h w 1 (Wl b)→R 62 [v,w] h=some (.val (.bool (decide (a=b))) h)
theorem eqW_ok{R:RnK}{N:Nat}{a b:List Nat}{v w:Value}{h:Hs}(hN:100000<N)(ha:a.length<100000)(r1:Rd h v 1 (Wl a))(r2:Rd h w 1 (Wl b)):r62 R N [v,w] h=some (.val (.bool (decide (a=b))) h):=by
 refine WP.eqn ?_
 unfold r62
 have H:=Sto.enter2 r1 r2
 have l1:=Wl_len a
 have l2:=Wl_len b
 repeat' (first|(with_reducible first|refine w_jn ?_|refine w_cndT ?_|refine w_cndF ?_|refine w_unC ?_|refine w_enK ?_)|((with_reducible refine w_neq_NN (λ_=>?_) (λ_=>?_))<;>first|(exfalso;omega)|skip)|((with_reducible apply w_lenR 0 H) ;rfl)|((with_reducible apply w_lenR 1 H) ;rfl))
 ·refine lp_ind (Good:=λn (self:L5)=>∀(i:Nat)(x1 x2 x3 x4:Value),i+n=a.length→(∀j,j<i→a[j]?=b[j]?)→WP (self (.int .i64 (.ofNat i)) x1 x2 x3 x4 ⟨h.hp,h.nx,h.nx⟩) (λv' h'=>v'=.bool (decide (a=b))∧h'=h)) (λn self ih i x1 x2 x3 x4 hi hq=>?_) N a.length (by omega) 0 _ _ _ _ (by omega) (λj hj=>by omega)
  repeat' (first|(with_reducible first|refine w_jn ?_|refine w_cndT ?_|refine w_cndF ?_)|((with_reducible refine w_lss_NN (λ_=>?_) (λ_=>?_))<;>first|(exfalso;omega)|skip))
  ·have ia:i<a.length:=by omega
   have ib:i<b.length:=by omega
   refine w_at1 0 H rfl (Wl_get ia) rfl rfl ?_
   refine w_at1 1 H rfl (Wl_get ib) rfl rfl ?_
   repeat' (first|(with_reducible first|refine w_jn ?_|refine w_cndT ?_|refine w_cndF ?_)|((with_reducible refine w_uneq (λ_=>?_) (λ_=>?_))<;>first|(exfalso;omega)|skip)|((with_reducible refine w_add_NN ?_ ?_) ;omega))
   ·refine ih (n-1) (by omega) (i+1) _ _ _ _ (by omega) λj hj=>?_
    by_cases e:j=i
    ·subst e;rw[List.getElem?_eq_getElem ia,List.getElem?_eq_getElem ib];congr 1
    ·exact hq j (by omega)
   ·exact w_clrB H (by simp;intro e;subst e;exact absurd rfl ‹_›)
  ·exact w_clrB H (by simp;exact List.ext_getElem? λj=>if hj:j<i then hq j hj else by rw[List.getElem?_eq_none (by omega),List.getElem?_eq_none (by omega)])
 ·exact w_clrB H (by simp;intro e;subst e;omega)
def headW(g:Geo)(ph:Nat):List Nat:=[5497010944029229057,g.b,g.n,g.c,g.k,0,ph,sealOf [5497010944029229057,g.b,g.n,g.c,g.k,0]]
theorem headW_small{g:Geo}{ph:Nat}(x:g.Box)(hp:ph<18446744073709551616):Small [5497010944029229057,g.b,g.n,g.c,g.k,0]:=by
 have:=x.b2;have:=x.n2;have:=x.c2;have:=x.k2
 intro n hn
 simp only[List.mem_cons,List.not_mem_nil,or_false] at hn
 omega
def CSealOf(R:RnK):Prop:=∀(l:List Nat)(v:Value)(h:Hs),Small l→l.length<100000→Rd h v 1 (Wl l)→R 37 [v] h=some (.val (.int .u64 (.ofNat (sealOf l))) h)
def headV(g:Geo)(ph:Nat):Value:=.agg #[.int .i64 (.ofNat g.b),.int .i64 (.ofNat g.n),.int .i64 (.ofNat g.c),.int .i64 (.ofNat g.k),.int .u64 (.ofNat ph)]
def CHeadPut(R:RnK):Prop:=∀(g:Geo)(ph:Nat)(h:Hs),ph<18446744073709551616→(g.Ok→WP (R 15 [headV g ph] h) λv h'=>New h h' (.osl v 22 1 true 8 (Wc (headW g ph))))∧(¬g.Ok→R 15 [headV g ph] h=some (.val (.slice none 0 0) h))
theorem headPut_ok{R:RnK}{N:Nat}(cg:CGood R)(cs:CSealOf R){g:Geo}{ph:Nat}{h:Hs}(hp:ph<18446744073709551616)(x:g.Ok):WP (r15 R N [headV g ph] h) λv h'=>New h h' (.osl v 22 1 true 8 (Wc (headW g ph))):=by
 unfold r15 headV
 have H:=Sto.enter h
 have h1:=x.1.b2;have h2:=x.1.n2;have h3:=x.1.c2;have h4:=x.1.k2
 repeat' (first|((refine w_callB (cg g _) (λ_=>?_) (λ_=>?_))<;>first|(exfalso;omega)|skip)|(with_reducible first|refine w_jn ?_|refine w_cndT ?_|refine w_cndF ?_|refine w_notT ?_|refine w_notF ?_|refine w_unC ?_|refine w_enK ?_|refine w_fieldA ?_)|((with_reducible refine w_boxA H ?_) ;(clear H;intro u H hu))|((with_reducible apply w_mkrow H) ;rfl;(clear H;intro u H hu;(try dsimp only[List.set_cons_zero,List.set_cons_succ,cellsL,List.toList_toArray,splice,ev,rep,List.cons_append,List.nil_append] at H)))|((with_reducible refine w_toU ?_ ?_) ;omega)|((with_reducible apply w_load 0 H) ;rfl;rfl;rfl)|((with_reducible apply w_loads 0 H) ;rfl;rfl;rfl;rfl;(try dsimp only[List.drop_zero,List.drop_succ_cons,List.take_succ_cons,List.take_zero]))|((with_reducible apply w_load 1 H) ;rfl;rfl;rfl))
 ·have r:=H.rdB (n:=6) (c:=6) 0 rfl rfl (by omega)
  refine w_callE (cs [5497010944029229057,g.b,g.n,g.c,g.k,0] _ _ (headW_small (ph:=ph) x.1 hp) (by simp) (Rd.lo r _)) ?_
  repeat' (first|(with_reducible refine w_light0 ?_)|((with_reducible refine w_bar ?_ ?_) ;omega)|((with_reducible apply w_mkrow H) ;rfl;(clear H;intro u H hu;(try dsimp only[List.set_cons_zero,List.set_cons_succ,cellsL,List.toList_toArray,splice,ev,rep,List.cons_append,List.nil_append] at H))))
  have H2:=H.osl 1 rfl (n:=6) (c:=6) rfl (Nat.le_refl _)
  refine w_appendB 1 0 H2 rfl rfl rfl rfl (by omega) (by omega) λv' u' H' hn=>?_
  refine w_bar hn ?_
  exact w_clrO 1 H' rfl λv' h' n=>n
 ·exact absurd x ‹_›
theorem headPut_no{R:RnK}{N:Nat}(cg:CGood R){g:Geo}{ph:Nat}{h:Hs}(x:¬g.Ok):r15 R N [headV g ph] h=some (.val (.slice none 0 0) h):=by
 refine WP.eqn ?_
 unfold r15 headV
 have H:=Sto.enter h
 repeat' (first|((refine w_callB (cg g _) (λ_=>?_) (λ_=>?_))<;>first|(exfalso;omega)|skip)|(with_reducible first|refine w_jn ?_|refine w_cndT ?_|refine w_cndF ?_|refine w_notT ?_|refine w_notF ?_|refine w_unC ?_|refine w_enK ?_|refine w_fieldA ?_)|((with_reducible refine w_boxA H ?_) ;(clear H;intro u H hu))|((with_reducible apply w_load 0 H) ;rfl;rfl;rfl)|((with_reducible apply w_loads 0 H) ;rfl;rfl;rfl;rfl;(try dsimp only[List.drop_zero,List.drop_succ_cons,List.take_succ_cons,List.take_zero])))
 ·exact absurd ‹_› x
 ·exact w_clr H rfl ⟨rfl,rfl⟩
theorem Rd.none(h:Hs)(u:Nat):Rd h (.slice none 0 0) u []:=⟨⟨(λl hl=>by cases hl),.inl ⟨_,_,rfl,rfl⟩⟩,λb hb=>by cases hb⟩
def getHead(l:List Nat):Option (Geo × Nat):=match l with
 |[_,b,n,c,k,_,ph,_]=>if (⟨b,n,c,k⟩:Geo).Ok∧l=headW ⟨b,n,c,k⟩ ph then some (⟨b,n,c,k⟩,ph) else none
 |_=>none
def hdV:Option (Geo × Nat)→Value
 |some p=>headV p.1 p.2
 |none=>headV ⟨0,0,0,0⟩ 0
theorem getHead_some{l:List Nat}{p:Geo × Nat}(e:getHead l=some p):p.1.Ok∧l=headW p.1 p.2:=by
 unfold getHead at e
 split at e
 ·split at e
  ·injection e with e;subst e;assumption
  ·cases e
 ·cases e
theorem getHead_of{l:List Nat}{g:Geo}{ph:Nat}(x:g.Ok)(e:l=headW g ph):getHead l=some (g,ph):=by
 subst e
 exact if_pos ⟨x,rfl⟩
theorem getHead_none{l:List Nat}(q:∀g ph,g.Ok→l≠headW g ph):getHead l=none:=by
 cases e:getHead l with
 |none=>rfl
 |some p=>
  obtain⟨a,b⟩:=getHead_some e
  exact absurd b (q _ _ a)
theorem headGet_ok{R:RnK}{N:Nat}(cp:CHeadPut R)(ce:CEqW R){l:List Nat}{v:Value}{h:Hs}(hN:100<N)(hl:Small l)(r:Rd h v 1 (Wl l)):r43 R N [v] h=some (.val (.tuple #[hdV (getHead l),.bool (getHead l).isSome]) h):=by
 refine WP.eqn ?_
 unfold r43
 have H:=Sto.enter1 r
 have e:=Wl_len l
 repeat' (first|(with_reducible first|refine w_jn ?_|refine w_cndT ?_|refine w_cndF ?_|refine w_unC ?_|refine w_enK ?_)|((with_reducible apply w_build) ;rfl;(try dsimp only[splice,ev,cellsL,rep,List.cons_append,List.nil_append]))|((with_reducible refine w_alloc H ?_) ;(clear H;intro u H hu))|((with_reducible refine w_neq_NN (λ_=>?_) (λ_=>?_))<;>first|(exfalso;omega)|skip)|((with_reducible apply w_storeV 0 H) ;rfl;rfl;rfl;omega;rfl;(clear H;intro u H hu;(try dsimp only[List.set_cons_zero,List.set_cons_succ,cellsL,List.toList_toArray,splice,ev,rep,List.cons_append,List.nil_append] at H)))|((with_reducible apply w_retC 0 H) ;rfl;rfl;rfl)|((with_reducible apply w_lenR 1 H) ;rfl))
 ·obtain⟨x0,x1,x2,x3,x4,x5,x6,x7,rfl⟩:∃x0 x1 x2 x3 x4 x5 x6 x7,l = [x0,x1,x2,x3,x4,x5,x6,x7]:=by
   have hlen:l.length=8:=by omega
   match l,hlen with
   |[x0,x1,x2,x3,x4,x5,x6,x7],_=>exact⟨_,_,_,_,_,_,_,_,rfl⟩
  refine w_slLH 1 H rfl (by omega) (by simp[Wl]) λs H1=>?_
  clear H
  have H:Sto h [] u [.rsl s 1 (Wl [x1,x2,x3,x4,x5]),.blk h.nx (.row 47 0 true true [.int .i64 (.ofNat 0),.int .i64 (.ofNat 0),.int .i64 (.ofNat 0),.int .i64 (.ofNat 0),.int .u64 (.ofNat 0)]),.rsl v 1 (Wl [x0,x1,x2,x3,x4,x5,x6,x7])]:=H1
  clear H1
  repeat' (first|(with_reducible refine w_jn ?_)|((with_reducible apply w_lenR 0 H) ;rfl))
  refine lp_ind (Good:=λn (self:L5)=>∀(i:Nat)(y1 y2 y3 y4:Value),i+n=5→(∀j,j<i→∀y,[x1,x2,x3,x4,x5][j]?=some y→y≤1024)→WP (self (.int .i64 (.ofNat i)) y1 y2 y3 y4 u) (λv' h'=>v'=.tuple #[hdV (getHead [x0,x1,x2,x3,x4,x5,x6,x7]),.bool (getHead [x0,x1,x2,x3,x4,x5,x6,x7]).isSome]∧h'=h)) (λn self ih i y1 y2 y3 y4 hi hq=>?_) N 5 (by omega) 0 _ _ _ _ (by omega) (λj hj=>by omega)
  have l5:(Wl [x1,x2,x3,x4,x5]).length=5:=rfl
  repeat' (first|(with_reducible first|refine w_jn ?_|refine w_cndT ?_|refine w_cndF ?_)|((with_reducible refine w_lss_NN (λ_=>?_) (λ_=>?_))<;>first|(exfalso;omega)|skip)|((with_reducible apply w_at1 2 H) ;rfl;rfl;rfl;rfl))
  ·have ia:i < [x1,x2,x3,x4,x5].length:=by simp;omega
   have ii:i<5:=ia
   refine w_at1 0 H rfl (Wl_get ia) rfl rfl ?_
   repeat' (first|(with_reducible first|refine w_jn ?_|refine w_cndT ?_|refine w_cndF ?_)|((with_reducible apply w_build) ;rfl;(try dsimp only[splice,ev,cellsL,rep,List.cons_append,List.nil_append]))|((with_reducible refine w_ugtr (λ_=>?_) (λ_=>?_))<;>first|(exfalso;omega)|skip)|((with_reducible refine w_add_NN ?_ ?_) ;omega)|((with_reducible apply w_storeV 1 H) ;rfl;rfl;rfl;omega;rfl;(clear H;intro u H hu;(try dsimp only[List.set_cons_zero,List.set_cons_succ,cellsL,List.toList_toArray,splice,ev,rep,List.cons_append,List.nil_append] at H)))|((with_reducible apply w_retC 1 H) ;rfl;rfl;rfl))
   ·have e:getHead [x0,x1,x2,x3,x4,x5,x6,x7]=none:=getHead_none λg ph x e=>by
     have h1:=x.1.b2;have h2:=x.1.n2;have h3:=x.1.c2;have h4:=x.1.k2
     unfold headW at e
     simp only[List.cons.injEq,and_true] at e
     have:∀y,[x1,x2,x3,x4,x5][i]?=some y→y≤1024:=λy hy=>by
      have:=List.mem_of_getElem? hy
      simp only[List.mem_cons,List.not_mem_nil,or_false] at this
      omega
     have:=this _ (List.getElem?_eq_getElem ia)
     omega
    rw[e]
    exact w_clr H rfl ⟨rfl,rfl⟩
   ·refine ih (n-1) (by omega) (i+1) _ _ _ _ (by omega) λj hj y hy=>?_
    by_cases e:j=i
    ·subst e;rw[List.getElem?_eq_getElem ia] at hy;injection hy with hy;omega
    ·exact hq j (by omega) y hy
  ·have b1:=hq 0 (by omega) x1 rfl
   have b2:=hq 1 (by omega) x2 rfl
   have b3:=hq 2 (by omega) x3 rfl
   have b4:=hq 3 (by omega) x4 rfl
   have b5:=hq 4 (by omega) x5 rfl
   clear hq
   have h6:x6<18446744073709551616:=hl x6 (by simp)
   repeat' (first|(with_reducible refine w_blind ?_)|((with_reducible apply w_build) ;rfl;(try dsimp only[splice,ev,cellsL,rep,List.cons_append,List.nil_append]))|((with_reducible first|refine w_bar ?_ ?_|refine w_to64 ?_ ?_) ;omega)|((with_reducible refine w_allocM H ?_) ;(clear H;intro u H hu))|((with_reducible apply w_storeV 0 H) ;rfl;rfl;rfl;omega;rfl;(clear H;intro u H hu;(try dsimp only[List.set_cons_zero,List.set_cons_succ,cellsL,List.toList_toArray,splice,ev,rep,List.cons_append,List.nil_append] at H)))|((with_reducible apply w_loadsF 0 H) ;rfl;rfl;rfl)|((with_reducible apply w_at1 2 H) ;rfl;rfl;rfl;rfl)|((with_reducible apply w_at1 3 H) ;rfl;rfl;rfl;rfl))
   by_cases x:(⟨x1,x2,x3,x4⟩:Geo).Ok
   ·refine w_call ((cp ⟨x1,x2,x3,x4⟩ x6 _ h6).1 x) λv' u' n'=>?_
    replace n':=n'.ones
    rw[←Wl_ones] at n'
    replace H:=H.call n'
    refine w_callB (ce _ [x0,x1,x2,x3,x4,x5,x6,x7] _ _ _ (by simp[headW]) (H.rd 0 rfl) (H.rd 5 rfl)) (λq=>?_) (λq=>?_)
    ·repeat' (first|(with_reducible first|refine w_jn ?_|refine w_cndF ?_|refine w_notT ?_)|((with_reducible apply w_loadsF 1 H) ;rfl;rfl;rfl)|((with_reducible apply w_storeV 4 H) ;rfl;rfl;rfl;omega;rfl;(clear H;intro u H hu;(try dsimp only[List.set_cons_zero,List.set_cons_succ,cellsL,List.toList_toArray,splice,ev,rep,List.cons_append,List.nil_append] at H)))|((with_reducible apply w_retC 4 H) ;rfl;rfl;rfl))
     rw[getHead_of x q.symm]
     exact w_clr H rfl ⟨rfl,rfl⟩
    ·repeat' (first|(with_reducible first|refine w_jn ?_|refine w_cndT ?_|refine w_notF ?_)|((with_reducible apply w_build) ;rfl;(try dsimp only[splice,ev,cellsL,rep,List.cons_append,List.nil_append]))|((with_reducible apply w_storeV 4 H) ;rfl;rfl;rfl;omega;rfl;(clear H;intro u H hu;(try dsimp only[List.set_cons_zero,List.set_cons_succ,cellsL,List.toList_toArray,splice,ev,rep,List.cons_append,List.nil_append] at H)))|((with_reducible apply w_retC 4 H) ;rfl;rfl;rfl))
     rw[getHead_none λg ph x' e=>q (by
      have e':=e
      unfold headW at e'
      simp only[List.cons.injEq,and_true] at e'
      obtain⟨_,e1,e2,e3,e4,_,e6,_⟩:=e'
      subst e1 e2 e3 e4 e6
      exact e.symm)]
     exact w_clr H rfl ⟨rfl,rfl⟩
   ·refine w_callE ((cp ⟨x1,x2,x3,x4⟩ x6 _ h6).2 x) ?_
    refine w_callB (ce [] [x0,x1,x2,x3,x4,x5,x6,x7] _ _ _ (by simp) (Rd.none _ _) (H.rd 4 rfl)) (λq=>by cases q) (λq=>?_)
    repeat' (first|(with_reducible first|refine w_jn ?_|refine w_cndT ?_|refine w_notF ?_)|((with_reducible apply w_build) ;rfl;(try dsimp only[splice,ev,cellsL,rep,List.cons_append,List.nil_append]))|((with_reducible apply w_storeV 3 H) ;rfl;rfl;rfl;omega;rfl;(clear H;intro u H hu;(try dsimp only[List.set_cons_zero,List.set_cons_succ,cellsL,List.toList_toArray,splice,ev,rep,List.cons_append,List.nil_append] at H)))|((with_reducible apply w_retC 3 H) ;rfl;rfl;rfl))
    rw[getHead_none λg ph x' e=>x (by
     unfold headW at e
     simp only[List.cons.injEq,and_true] at e
     obtain⟨_,e1,e2,e3,e4,_,e6,_⟩:=e
     subst e1 e2 e3 e4 e6
     exact x')]
    exact w_clr H rfl ⟨rfl,rfl⟩
 ·skip
  rw[getHead_none λg ph x' e'=>by have q:l.length=8:=(by rw[e'];rfl);omega]
  exact w_clr H rfl ⟨rfl,rfl⟩
def CHeadGet(R:RnK):Prop:=∀(l:List Nat)(v:Value)(h:Hs),Small l→Rd h v 1 (Wl l)→R 43 [v] h=some (.val (.tuple #[hdV (getHead l),.bool (getHead l).isSome]) h)
theorem Wl_take(l:List Nat)(k:Nat):(Wl l).take k=Wl (l.take k):=(List.map_take ..).symm
theorem Wl_drop(l:List Nat)(k:Nat):(Wl l).drop k=Wl (l.drop k):=(List.map_drop ..).symm
theorem Small.take{l:List Nat}(h:Small l)(k:Nat):Small (l.take k):=λn hn=>h n (List.mem_of_mem_take hn)
theorem Small.drop{l:List Nat}(h:Small l)(k:Nat):Small (l.drop k):=λn hn=>h n (List.mem_of_mem_drop hn)
def headOf(n:Nat)(l:List Nat):Option (Geo × Nat):=(getHead l).filter λp=>p.1.b=n
def sized(l:List Nat):Prop:=l.length%8=0∧64≤l.length/8∧l.length/8≤1024
instance (l:List Nat):Decidable (sized l):=inferInstanceAs (Decidable (_∧_))
def head1(l:List Nat):Option (Geo × Nat):=if sized l then headOf (l.length/8) (l.take 8) else none
def head2(l:List Nat):Option (Geo × Nat):=if sized l then headOf (l.length/8) (l.drop (l.length-8)) else none
def CFind(R:RnK):Prop:=∀(l:List Nat)(v:Value)(h:Hs),Small l→l.length<100000→Rd h v 1 (Wl l)→R 42 [v] h=some (.val (.tuple #[hdV ((head1 l).or (head2 l)),.bool (head1 l).isSome,.bool (head2 l).isSome]) h)
theorem find_ok{R:RnK}{N:Nat}(cg:CHeadGet R){l:List Nat}{v:Value}{h:Hs}(hl:Small l)(hb:l.length<100000)(r:Rd h v 1 (Wl l)):r42 R N [v] h=some (.val (.tuple #[hdV ((head1 l).or (head2 l)),.bool (head1 l).isSome,.bool (head2 l).isSome]) h):=by
 refine WP.eqn ?_
 unfold r42
 have H:=Sto.enter1 r
 have e:=Wl_len l
 repeat' (first|(with_reducible first|refine w_jn ?_|refine w_cndT ?_|refine w_cndF ?_|refine w_gFt ?_|refine w_gFf ?_|refine w_pickT ?_|refine w_pickF ?_|refine w_unC ?_|refine w_enK ?_)|((with_reducible apply w_build) ;rfl;(try dsimp only[splice,ev,cellsL,rep,List.cons_append,List.nil_append]))|((with_reducible refine w_alloc H ?_) ;(clear H;intro u H hu))|((with_reducible first|refine w_lss_NN (λ_=>?_) (λ_=>?_)|refine w_gtr_NN (λ_=>?_) (λ_=>?_)|refine w_neq_NN (λ_=>?_) (λ_=>?_))<;>first|(exfalso;omega)|skip)|((with_reducible refine w_rem_NN ?_ ?_) ;omega)|((with_reducible refine w_quo_NN ?_ ?_ ?_) ;omega;omega)|((with_reducible apply w_storeV 0 H) ;rfl;rfl;rfl;omega;rfl;(clear H;intro u H hu;(try dsimp only[List.set_cons_zero,List.set_cons_succ,cellsL,List.toList_toArray,splice,ev,rep,List.cons_append,List.nil_append] at H)))|((with_reducible apply w_retC 0 H) ;rfl;rfl;rfl)|((with_reducible apply w_lenR 1 H) ;rfl))
 ·rw[show head1 l=none from if_neg (by unfold sized;omega),show head2 l=none from if_neg (by unfold sized;omega)]
  exact w_clr H rfl ⟨rfl,rfl⟩
 ·rw[show head1 l=none from if_neg (by unfold sized;omega),show head2 l=none from if_neg (by unfold sized;omega)]
  exact w_clr H rfl ⟨rfl,rfl⟩
 ·have hs:sized l:=⟨by omega,by omega,by omega⟩
  refine w_slH 1 H rfl (by omega) λs H1=>?_
  clear H;have H:=H1;clear H1
  rw[Wl_take] at H
  refine w_callE (cg _ _ _ (hl.take 8) (H.rd 0 rfl)) ?_
  have q1:head1 l=headOf (l.length/8) (l.take 8):=if_pos hs
  have q2:head2 l=headOf (l.length/8) (l.drop (l.length-8)):=if_pos hs
  rw[q1,q2]
  unfold headOf
  clear q1 q2
  rw[e]
  have q3:∀n:Nat,(Wl l).length-n=l.length-n:=λn=>by rw[e]
  cases ea:getHead (l.take 8) with
  | none =>
   dsimp only[hdV,headV,Option.isSome]
   repeat' (first|((with_reducible apply w_extr) ;rfl)|((with_reducible refine w_alloc H ?_) ;(clear H;intro u H hu))|((with_reducible refine w_sub_NN ?_ ?_ ?_) ;omega;omega)|((with_reducible apply w_storeV 0 H) ;rfl;rfl;rfl;omega;rfl;(clear H;intro u H hu;(try dsimp only[List.set_cons_zero,List.set_cons_succ,cellsL,List.toList_toArray,splice,ev,rep,List.cons_append,List.nil_append] at H)))|((with_reducible apply w_lenR 3 H) ;rfl))
   refine w_slL 3 H rfl (by omega) λs2 H2=>?_
   clear H;have H:=H2;clear H2
   rw[Wl_drop,q3] at H
   refine w_callE (cg _ _ _ (hl.drop _) (H.rd 0 rfl)) ?_
   cases eb:getHead (l.drop (l.length-8)) with
   |none=>
    dsimp only[hdV,headV,Option.isSome]
    repeat' (first|(with_reducible first|refine w_jn ?_|refine w_cndF ?_|refine w_gTf ?_|refine w_pickF ?_|refine w_blind ?_)|((with_reducible apply w_extr) ;rfl)|((with_reducible apply w_build) ;rfl;(try dsimp only[splice,ev,cellsL,rep,List.cons_append,List.nil_append]))|((with_reducible refine w_alloc H ?_) ;(clear H;intro u H hu))|((with_reducible apply w_storeV 0 H) ;rfl;rfl;rfl;omega;rfl;(clear H;intro u H hu;(try dsimp only[List.set_cons_zero,List.set_cons_succ,cellsL,List.toList_toArray,splice,ev,rep,List.cons_append,List.nil_append] at H)))|((with_reducible apply w_storeV 4 H) ;rfl;rfl;rfl;omega;rfl;(clear H;intro u H hu;(try dsimp only[List.set_cons_zero,List.set_cons_succ,cellsL,List.toList_toArray,splice,ev,rep,List.cons_append,List.nil_append] at H)))|((with_reducible apply w_retC 4 H) ;rfl;rfl;rfl))
    exact w_clr H rfl ⟨rfl,rfl⟩
   |some p=>
    obtain⟨g,ph⟩:=p
    dsimp only[hdV,headV,Option.isSome]
    repeat' (first|(with_reducible first|refine w_jn ?_|refine w_cndT ?_|refine w_cndF ?_|refine w_gTt ?_|refine w_gTf ?_|refine w_pickT ?_|refine w_pickF ?_|refine w_fieldA ?_|refine w_blind ?_)|((with_reducible apply w_extr) ;rfl)|((with_reducible apply w_build) ;rfl;(try dsimp only[splice,ev,cellsL,rep,List.cons_append,List.nil_append]))|((with_reducible refine w_alloc H ?_) ;(clear H;intro u H hu))|((with_reducible refine w_eql_NN (λ_=>?_) (λ_=>?_))<;>first|(exfalso;omega)|skip)|((with_reducible apply w_storeV 0 H) ;rfl;rfl;rfl;omega;rfl;(clear H;intro u H hu;(try dsimp only[List.set_cons_zero,List.set_cons_succ,cellsL,List.toList_toArray,splice,ev,rep,List.cons_append,List.nil_append] at H)))|((with_reducible apply w_loadsF 0 H) ;rfl;rfl;rfl)|((with_reducible apply w_loadD 0 H) ;rfl;rfl;(intro _;simp only[HidOk,and_true];omega))|((with_reducible apply w_storeV 4 H) ;rfl;rfl;rfl;omega;rfl;(clear H;intro u H hu;(try dsimp only[List.set_cons_zero,List.set_cons_succ,cellsL,List.toList_toArray,splice,ev,rep,List.cons_append,List.nil_append] at H)))|((with_reducible apply w_retC 4 H) ;rfl;rfl;rfl))
    ·exact w_clr H rfl ⟨by simp[Option.filter, *,packV,ev],rfl⟩
    ·exact w_clr H rfl ⟨by simp[Option.filter, *,packV,ev],rfl⟩
  | some p =>
   obtain⟨g,ph⟩:=p
   dsimp only[hdV,headV,Option.isSome]
   repeat' (first|((with_reducible apply w_extr) ;rfl)|((with_reducible refine w_alloc H ?_) ;(clear H;intro u H hu))|((with_reducible refine w_sub_NN ?_ ?_ ?_) ;omega;omega)|((with_reducible apply w_storeV 0 H) ;rfl;rfl;rfl;omega;rfl;(clear H;intro u H hu;(try dsimp only[List.set_cons_zero,List.set_cons_succ,cellsL,List.toList_toArray,splice,ev,rep,List.cons_append,List.nil_append] at H)))|((with_reducible apply w_lenR 3 H) ;rfl))
   refine w_slL 3 H rfl (by omega) λs2 H2=>?_
   clear H;have H:=H2;clear H2
   rw[Wl_drop,q3] at H
   refine w_callE (cg _ _ _ (hl.drop _) (H.rd 0 rfl)) ?_
   cases eb:getHead (l.drop (l.length-8)) with
   |none=>
    dsimp only[hdV,headV,Option.isSome]
    repeat' (first|(with_reducible first|refine w_jn ?_|refine w_cndT ?_|refine w_cndF ?_|refine w_gTt ?_|refine w_gTf ?_|refine w_pickT ?_|refine w_pickF ?_|refine w_fieldA ?_|refine w_blind ?_)|((with_reducible apply w_extr) ;rfl)|((with_reducible apply w_build) ;rfl;(try dsimp only[splice,ev,cellsL,rep,List.cons_append,List.nil_append]))|((with_reducible refine w_alloc H ?_) ;(clear H;intro u H hu))|((with_reducible refine w_eql_NN (λ_=>?_) (λ_=>?_))<;>first|(exfalso;omega)|skip)|((with_reducible apply w_storeV 0 H) ;rfl;rfl;rfl;omega;rfl;(clear H;intro u H hu;(try dsimp only[List.set_cons_zero,List.set_cons_succ,cellsL,List.toList_toArray,splice,ev,rep,List.cons_append,List.nil_append] at H)))|((with_reducible apply w_load 2 H) ;rfl;rfl;rfl)|((with_reducible apply w_loadsF 2 H) ;rfl;rfl;rfl)|((with_reducible apply w_storeV 4 H) ;rfl;rfl;rfl;omega;rfl;(clear H;intro u H hu;(try dsimp only[List.set_cons_zero,List.set_cons_succ,cellsL,List.toList_toArray,splice,ev,rep,List.cons_append,List.nil_append] at H)))|((with_reducible apply w_retC 4 H) ;rfl;rfl;rfl))
    ·exact w_clr H rfl ⟨by simp[Option.filter, *,packV,ev],rfl⟩
    ·exact w_clr H rfl ⟨by simp[Option.filter, *,packV,ev],rfl⟩
   |some p=>
    obtain⟨g2,ph2⟩:=p
    dsimp only[hdV,headV,Option.isSome]
    repeat' (first|(with_reducible first|refine w_jn ?_|refine w_cndT ?_|refine w_cndF ?_|refine w_gTt ?_|refine w_pickT ?_|refine w_fieldA ?_|refine w_blind ?_)|((with_reducible apply w_extr) ;rfl)|((with_reducible apply w_build) ;rfl;(try dsimp only[splice,ev,cellsL,rep,List.cons_append,List.nil_append]))|((with_reducible refine w_alloc H ?_) ;(clear H;intro u H hu))|((with_reducible refine w_eql_NN (λ_=>?_) (λ_=>?_))<;>first|(exfalso;omega)|skip)|((with_reducible apply w_storeV 0 H) ;rfl;rfl;rfl;omega;rfl;(clear H;intro u H hu;(try dsimp only[List.set_cons_zero,List.set_cons_succ,cellsL,List.toList_toArray,splice,ev,rep,List.cons_append,List.nil_append] at H)))|((with_reducible apply w_loadsF 0 H) ;rfl;rfl;rfl)|((with_reducible apply w_loadD 0 H) ;rfl;rfl;(intro _;simp only[HidOk,and_true];omega))|((with_reducible apply w_load 2 H) ;rfl;rfl;rfl)|((with_reducible apply w_loadsF 2 H) ;rfl;rfl;rfl)|((with_reducible apply w_storeV 4 H) ;rfl;rfl;rfl;omega;rfl;(clear H;intro u H hu;(try dsimp only[List.set_cons_zero,List.set_cons_succ,cellsL,List.toList_toArray,splice,ev,rep,List.cons_append,List.nil_append] at H)))|((with_reducible apply w_retC 4 H) ;rfl;rfl;rfl))
    all_goals exact w_clr H rfl ⟨by simp[Option.filter, *,packV,ev],rfl⟩
 ·rw[show head1 l=none from if_neg (by unfold sized;omega),show head2 l=none from if_neg (by unfold sized;omega)]
  exact w_clr H rfl ⟨rfl,rfl⟩
theorem ones_flatten(L:List Value):(ones L).flatten=L:=by
 induction L with
 |nil=>rfl
 |cons x L ih=>show x::(ones L).flatten=_;rw[ih]
theorem Wl_flat(l:List Nat):(Wl l).flatten=Wc l:=by rw[Wl_ones,ones_flatten]
theorem Wc_one(l:List Nat):allOne (Wc l)=true:=allOne_of _ λv hv=>by
 unfold Wc at hv
 rw[List.mem_map] at hv
 obtain⟨n,_,rfl⟩:=hv
 exact⟨_,_,rfl⟩
theorem Wc_flatL(l:List Nat):flatL (Wc l)=true:=flatL_of _ λv hv=>by
 unfold Wc at hv
 rw[List.mem_map] at hv
 obtain⟨n,_,rfl⟩:=hv
 exact⟨_,_,rfl⟩
theorem Wc_len(l:List Nat):(Wc l).length=l.length:=List.length_map _
theorem Wc_set(l:List Nat)(i n:Nat):(Wc l).set i (.int .u64 (.ofNat n))=Wc (l.set i n):=by unfold Wc;rw[List.map_set]
theorem Wc_get{l:List Nat}{i:Nat}(hi:i<l.length):(Wc l)[i]?=some (.int .u64 (.ofNat l[i])):=by
 unfold Wc;rw[List.getElem?_map,List.getElem?_eq_getElem hi];rfl
abbrev OW(v:Value)(l:List Nat):Th:=.osl v 22 1 true l.length (Wc l)
theorem rd_nil_of{h:Hs}{n c u:Nat}{L:List (List Value)}(r:Rd h (.slice none n c) u L):L = []∧n=0:=by
 rcases r.1.2 with⟨a,c,e,q⟩|⟨id,o,c,cs,sz,e,u',rw_,f,q,_⟩
 ·injection e with _ e2
  exact⟨q,e2⟩
 ·injection q with q;cases q
def CCloneW(R:RnK):Prop:=∀(l:List Nat)(v:Value)(h:Hs),l.length<100000→Rd h v 1 (Wl l)→WP (R 40 [v] h) λv' h'=>New h h' (OW v' l)
theorem cloneW_ok{R:RnK}{N:Nat}{l:List Nat}{v:Value}{h:Hs}(hb:l.length<100000)(r:Rd h v 1 (Wl l)):WP (r40 R N [v] h) λv' h'=>New h h' (OW v' l):=by
 unfold r40
 have H:=Sto.enter1 r
 obtain⟨a,c,rfl⟩:=r.1.form
 have e:=Wl_len l
 cases a with
 |none=>
  have hl:l = []:=by have:=(rd_nil_of r).1;unfold Wl at this;exact List.map_eq_nil_iff.1 this
  subst hl
  refine w_unC ?_
  refine w_enK ?_
  refine w_ob rfl ?_
  repeat' (first|(with_reducible first|refine w_jn ?_|refine w_cndT ?_))
  exact w_clr H rfl ⟨Same.refl h,⟨rfl,.inl ⟨rfl,rfl⟩⟩,λb hb=>by cases hb⟩
 |some a=>
  refine w_unC ?_
  refine w_enK ?_
  refine w_ob rfl ?_
  repeat' (first|(with_reducible first|refine w_jn ?_|refine w_cndF ?_)|((with_reducible apply w_mkrow H) ;rfl;(clear H;intro u H hu;(try dsimp only[List.set_cons_zero,List.set_cons_succ,cellsL,List.toList_toArray,splice,ev,rep,List.cons_append,List.nil_append] at H))))
  have H2:=H.osl 0 rfl (n:=0) (c:=0) rfl (Nat.le_refl _)
  refine w_append 0 1 H2 rfl rfl (by omega) (by rw[Wl_flat];exact Wc_one l) (by omega) λv' h' H3 hn=>?_
  rw[Wl_flat,e,Wc_flatL] at H3
  skip
  have e0:0+l.length=l.length:=Nat.zero_add _
  rw[e0] at H3
  exact w_clrO 0 H3 rfl λv' h' n=>n
theorem a_6(n:Nat):rep [Value.int .u64 (.ofNat 0)] n=Wc (List.replicate n 0):=by
 induction n with
 |zero=>rfl
 |succ n ih=>rw[rep,ih];rfl
def CBitsNew(R:RnK):Prop:=∀(n:Nat)(h:Hs),n≤65536→WP (R 20 [.int .i64 (.ofNat n)] h) λv h'=>∃s,v=.agg #[s]∧New h h' (OW s (List.replicate ((n+63)/64) 0))
theorem M_p{R:RnK}{N:Nat}{n:Nat}{h:Hs}(hn:n≤65536):WP (r20 R N [.int .i64 (.ofNat n)] h) λv h'=>∃s,v=.agg #[s]∧New h h' (OW s (List.replicate ((n+63)/64) 0)):=by
 unfold r20
 have H:=Sto.enter h
 repeat' (first|(with_reducible first|refine w_unC ?_|refine w_enK ?_|refine V_4 ?_|refine w_min_NN ?_|refine w_st1A ?_)|((with_reducible apply w_build) ;rfl;(try dsimp only[splice,ev,cellsL,rep,List.cons_append,List.nil_append]))|((with_reducible refine w_alloc H ?_) ;(clear H;intro u H hu))|((with_reducible refine w_mkslice H ?_ ?_ ?_) ;omega;rfl;(clear H;intro u H hu))|((with_reducible refine w_add_NN ?_ ?_) ;omega)|((with_reducible refine w_sub_NN ?_ ?_ ?_) ;omega;omega)|((with_reducible refine w_quo_NN ?_ ?_ ?_) ;omega;omega)|((with_reducible apply w_storeV 1 H) ;rfl;rfl;rfl;omega;rfl;(clear H;intro u H hu;(try dsimp only[List.set_cons_zero,List.set_cons_succ,cellsL,List.toList_toArray,splice,ev,rep,List.cons_append,List.nil_append] at H)))|((with_reducible apply w_retC 1 H) ;rfl;rfl;rfl))
 have e:(min (max n 0) 65536+64-1)/64=(n+63)/64:=by omega
 rw[e,a_6] at H
 rw[e]
 have H2:=H.osl 0 rfl (n:=(n+63)/64) (c:=(n+63)/64) (by rw[Wc_len,List.length_replicate,Nat.mul_one]) (Nat.le_refl _)
 refine w_clrC (λv=>.agg #[v]) 0 H2 rfl (λ_ _ _=>by simp[blkV,blkP]) (λ_ _ _ _=>rfl) λv' h' n=>⟨_,rfl,?_⟩
 show New h h' (.osl v' 22 1 true (List.replicate _ 0).length _)
 rw[List.length_replicate];exact n
def CThere(R:RnK):Prop:=∀(v:Value)(l:List Nat)(i:Int)(h:Hs),l.length<100000→i≤9223372036854775807→Rd h v 1 (Wl l)→R 41 [.agg #[v],.int .i64 i] h=some (.val (.bool (decide (0≤i∧i.toNat/64<l.length))) h)
theorem there_ok{R:RnK}{N:Nat}{v:Value}{l:List Nat}{i:Int}{h:Hs}(hb:l.length<100000)(hi:i≤9223372036854775807)(r:Rd h v 1 (Wl l)):r41 R N [.agg #[v],.int .i64 i] h=some (.val (.bool (decide (0≤i∧i.toNat/64<l.length))) h):=by
 refine WP.eqn ?_
 unfold r41
 obtain⟨a,c,rfl⟩:=r.1.form
 have H:=Sto.enter1 r
 have e:=Wl_len l
 by_cases h0:0≤i
 ·obtain⟨n,rfl⟩:=Int.eq_ofNat_of_zero_le h0
  rw[show (Value.int .i64 (n:Int))=.int .i64 (.ofNat n) from rfl]
  repeat' (first|(with_reducible first|refine w_gTt ?_|refine w_pickT ?_|refine w_unC ?_|refine w_enK ?_|refine w_fieldA ?_|refine w_lenV ?_)|((with_reducible refine w_boxA H ?_) ;(clear H;intro u H hu))|((with_reducible first|refine w_lss_NN (λ_=>?_) (λ_=>?_)|refine w_geq_NN (λ_=>?_) (λ_=>?_))<;>first|(exfalso;omega)|skip)|((with_reducible refine w_quo_NN ?_ ?_ ?_) ;omega;omega)|((with_reducible apply w_load 0 H) ;rfl;rfl;rfl))
  all_goals exact w_clrB H (by simp;omega)
 ·repeat' (first|(with_reducible first|refine w_gTf ?_|refine w_pickF ?_|refine w_unC ?_|refine w_enK ?_)|((with_reducible refine w_boxA H ?_) ;(clear H;intro u H hu))|((with_reducible refine w_geq_IN (λ_=>?_) (λ_=>?_))<;>first|(exfalso;omega)|skip))
  all_goals exact w_clrB H (by simp;omega)
def Il(l:List Int):List (List Value):=l.map λi=>[Value.int .i64 i]
theorem V_7(l:List Int):(Il l).length=l.length:=List.length_map _
theorem Il_get{l:List Int}{i:Nat}(hi:i<l.length):(Il l)[i]?=some [Value.int .i64 l[i]]:=by
 unfold Il;rw[List.getElem?_map,List.getElem?_eq_getElem hi];rfl
def L_k(w k:Nat):Nat:=w&&&(18446744073709551615-2^k)
def M_g(w k:Nat)(yes:Bool):Nat:=if yes then L_k w k|||2^k else L_k w k
def C_0(l:List Nat)(yes:Bool)(i:Int):List Nat:=if 0≤i∧i.toNat/64<l.length then l.set (i.toNat/64) (M_g (l.getD (i.toNat/64) 0) (i.toNat%64) yes) else l
def setBits(l:List Nat)(yes:Bool)(is:List Int):List Nat:=is.foldl (λl i=>C_0 l yes i) l
theorem G_8(l:List Nat)(yes:Bool)(i:Int):(C_0 l yes i).length=l.length:=by
 unfold C_0;split
 ·rw[List.length_set]
 ·rfl
theorem F_9(yes:Bool)(is:List Int):∀(l:List Nat),(setBits l yes is).length=l.length:=by
 induction is with
 |nil=>intro l;rfl
 |cons i is ih=>intro l;show (setBits (C_0 l yes i) yes is).length=_;rw[ih,G_8]
theorem M_f{k:Nat}(hk:k<64):2^k≤9223372036854775808:=by
 have:=Nat.pow_le_pow_right (show 0<2 by omega) (show k≤63 by omega)
 simpa using this
theorem F_i{w k:Nat}(hw:w<18446744073709551616):L_k w k<18446744073709551616:=Nat.lt_of_le_of_lt Nat.and_le_left hw
theorem or_lt{a b:Nat}(ha:a<18446744073709551616)(hb:b<18446744073709551616):a|||b<18446744073709551616:=by
 have:(18446744073709551616:Nat)=2^64:=by decide
 rw[this] at *
 exact Nat.or_lt_two_pow ha hb
theorem R_2{w k:Nat}{yes:Bool}(hw:w<18446744073709551616)(hk:k<64):M_g w k yes<18446744073709551616:=by
 have:=M_f hk
 unfold M_g;split
 ·exact or_lt (F_i hw) (by omega)
 ·exact F_i hw
theorem Small.set{l:List Nat}(h:Small l)(i n:Nat)(hn:n<18446744073709551616):Small (l.set i n):=λx hx=>by
 rcases List.mem_or_eq_of_mem_set hx with h1|h1
 ·exact h x h1
 ·omega
theorem Small.getD{l:List Nat}(h:Small l)(i:Nat):l.getD i 0<18446744073709551616:=by
 rw[List.getD_eq_getElem?_getD]
 cases e:l[i]? with
 |none=>simp
 |some x=>exact h x (List.mem_of_getElem? e)
theorem E_4{l:List Nat}(h:Small l)(yes:Bool)(i:Int):Small (C_0 l yes i):=by
 unfold C_0;split
 ·exact h.set _ _ (R_2 (h.getD _) (Nat.mod_lt _ (by omega)))
 ·exact h
theorem H_5{yes:Bool}{is:List Int}:∀{l:List Nat},Small l→Small (setBits l yes is):=by
 induction is with
 |nil=>intro l h;exact h
 |cons i is ih=>intro l h;exact ih (E_4 h yes i)
theorem J_q(l:List Nat)(yes:Bool)(is:List Int)(i:Int):setBits l yes (is ++ [i])=C_0 (setBits l yes is) yes i:=by unfold setBits;rw[List.foldl_append];rfl
def CBitsSet(R:RnK):Prop:=∀(l:List Nat)(yes:Bool)(is:List Int)(v w:Value)(h:Hs),Small l→l.length<100000→is.length<100000→(∀i∈is,i≤9223372036854775807)→Rd h v 1 (Wl l)→Rd h w 1 (Il is)→WP (R 21 [.agg #[v],.bool yes,w] h) λv h'=>∃s,v=.agg #[s]∧New h h' (OW s (setBits l yes is))
theorem M_q{R:RnK}{N:Nat}(cc:CCloneW R)(ct:CThere R){l:List Nat}{yes:Bool}{is:List Int}{v w:Value}{h:Hs}(hN:100000<N)(hl:Small l)(hb:l.length<100000)(hi:is.length<100000)(hm:∀i∈is,i≤9223372036854775807)(r1:Rd h v 1 (Wl l))(r2:Rd h w 1 (Il is)) :
 WP (r21 R N [.agg #[v],.bool yes,w] h) λv h'=>∃s,v=.agg #[s]∧New h h' (OW s (setBits l yes is)):=by
 unfold r21
 obtain⟨a,c,rfl⟩:=r1.1.formN (Wl_len l)
 obtain⟨a2,c2,rfl⟩:=r2.1.formN (V_7 is)
 have H:=Sto.enter2 r1 r2
 have e:=Wl_len l
 have e2:=V_7 is
 repeat' (first|(with_reducible first|refine w_unC ?_|refine w_enK ?_|refine w_fieldA ?_)|((with_reducible refine w_boxA H ?_) ;(clear H;intro u H hu))|((with_reducible refine w_alloc H ?_) ;(clear H;intro u H hu))|((with_reducible apply w_load 1 H) ;rfl;rfl;rfl))
 refine w_call (cc l _ _ hb (H.rd 2 rfl)) λv' h' n=>?_
 obtain⟨a3,c3,rfl⟩:=n.2.1.form
 replace H:=H.call n
 repeat' (first|(with_reducible first|refine w_jn ?_|refine w_lenV ?_|refine w_st1A ?_)|((with_reducible apply w_build) ;rfl;(try dsimp only[splice,ev,cellsL,rep,List.cons_append,List.nil_append]))|((with_reducible refine w_alloc H ?_) ;(clear H;intro u H hu))|((with_reducible apply w_storeV 0 H) ;rfl;rfl;rfl;omega;rfl;(clear H;intro u H hu;(try dsimp only[List.set_cons_zero,List.set_cons_succ,cellsL,List.toList_toArray,splice,ev,rep,List.cons_append,List.nil_append] at H))))
 clear n
 obtain⟨m0,hm0,H0⟩:∃m0,m0=_∧Sto h [] _ m0:=⟨_,rfl,H⟩
 have step:∀(o:List Nat)(u:Hs),Sto h [] u (m0.set 1 (OW (.slice a3 l.length c3) o))=Sto h [] u (m0.set 1 (.osl (.slice a3 l.length c3) 22 1 true o.length (Wc o))):=λ_ _=>rfl
 refine lp_ind (Good:=λn (self:L5)=>∀(i:Nat)(y1 y2 y3 y4:Value)(u:Hs),i+n=is.length→Sto h [] u (m0.set 1 (.osl (.slice a3 l.length c3) 22 1 true l.length (Wc (setBits l yes (is.take i)))))→WP (self (.int .i64 (.ofNat i)) y1 y2 y3 y4 u) (λv h'=>∃s,v=.agg #[s]∧New h h' (OW s (setBits l yes is)))) (λn self ih i y1 y2 y3 y4 u hi H1=>?_) N is.length (by omega) 0 _ _ _ _ _ (by omega) (by rw[hm0];exact H)
 clear H0 H
 have hm1:=hm0
 rw[hm0] at H1
 have H:=H1
 dsimp only[List.set_cons_zero,List.set_cons_succ] at H
 have sl:=F_9 yes (is.take i) l
 have ss:Small (setBits l yes (is.take i)):=H_5 hl
 repeat' (first|(with_reducible first|refine w_jn ?_|refine w_cndT ?_|refine w_cndF ?_|refine w_st1A ?_)|((with_reducible refine w_lss_NN (λ_=>?_) (λ_=>?_))<;>first|(exfalso;omega)|skip)|((with_reducible apply w_loadsF 0 H) ;rfl;rfl;rfl)|((with_reducible apply w_storeV 2 H) ;rfl;rfl;rfl;omega;rfl;(clear H;intro u H hu;(try dsimp only[List.set_cons_zero,List.set_cons_succ,cellsL,List.toList_toArray,splice,ev,rep,List.cons_append,List.nil_append] at H)))|((with_reducible apply w_retC 2 H) ;rfl;rfl;rfl))
 ·have ii:i<is.length:=by omega
  refine w_at1 5 H rfl (Il_get ii) rfl rfl ?_
  have hx:=hm is[i] (List.getElem_mem ii)
  have tk:is.take (i+1)=is.take i ++ [is[i]]:=by rw[List.take_add_one,List.getElem?_eq_getElem ii];rfl
  have sn:setBits l yes (is.take (i+1))=C_0 (setBits l yes (is.take i)) yes is[i]:=by rw[tk,J_q]
  repeat' (first|((with_reducible apply w_loadsF 3 H) ;rfl;rfl;rfl))
  refine w_callB (ct _ l _ _ hb hx (H.rd 4 rfl)) (λq=>?_) (λq=>?_)
  ·obtain⟨k,hk⟩:=Int.eq_ofNat_of_zero_le q.1
   have q2:k/64<l.length:=by have:=q.2;rw[hk] at this;exact this
   have sb:C_0 (setBits l yes (is.take i)) yes is[i]=(setBits l yes (is.take i)).set (k/64) (M_g ((setBits l yes (is.take i)).getD (k/64) 0) (k%64) yes):=by
    unfold C_0
    rw[hk,if_pos ⟨by omega,by show k/64<_;omega⟩];rfl
   rw[hk,show (Value.int .i64 (k:Int))=.int .i64 (.ofNat k) from rfl]
   generalize ho:setBits l yes (is.take i)=o at *
   have lo:k/64<o.length:=by omega
   have hw:=ss.getD (k/64)
   have hp:=M_f (Nat.mod_lt k (show 0<64 by omega))
   repeat' (first|(with_reducible first|refine w_jn ?_|refine w_cndF ?_|refine w_notT ?_|refine w_fieldA ?_)|((with_reducible refine w_quo_NN ?_ ?_ ?_) ;omega;omega)|((with_reducible apply w_load 0 H) ;rfl;rfl;rfl))
   refine w_atO 1 H rfl (Wc_get lo) rfl ?_
   have ow:o[k/64]<18446744073709551616:=ss _ (List.getElem_mem lo)
   have gd:o.getD (k/64) 0=o[k/64]:=by rw[List.getD_eq_getElem?_getD,List.getElem?_eq_getElem lo];rfl
   repeat' (first|((with_reducible first|refine w_rem_NN ?_ ?_|refine w_shl ?_ ?_) ;omega)|((with_reducible refine T_g ?_ ?_ ?_) ;omega;omega))
   have p1:1*2^(k%64)%18446744073709551616=2^(k%64):=by rw[Nat.one_mul,Nat.mod_eq_of_lt (by omega)]
   rw[p1]
   refine w_storeO 1 H rfl (by rw[Wc_len];exact lo) rfl λu' H2 hu'=>?_
   rw[Wc_set] at H2
   clear H;have H:=H2;clear H2
   dsimp only[List.set_cons_zero,List.set_cons_succ] at H
   cases yes with
   |false=>
    repeat' (first|(with_reducible first|refine w_jn ?_|refine w_cndF ?_)|((with_reducible first|refine w_bar ?_ ?_|refine w_add_NN ?_ ?_) ;omega))
    refine ih (n-1) (by omega) (i+1) _ _ _ _ _ (by omega) ?_
    rw[sn,hm1,sb,gd]
    exact H
   |true=>
    have lo2:k/64<(o.set (k/64) (o[k/64]&&&(18446744073709551615-2^(k%64)))).length:=by rw[List.length_set];exact lo
    repeat' (first|(with_reducible first|refine w_jn ?_|refine w_cndT ?_|refine w_fieldA ?_)|((with_reducible refine w_bar ?_ ?_) ;omega)|((with_reducible refine w_quo_NN ?_ ?_ ?_) ;omega;omega)|((with_reducible apply w_load 0 H) ;rfl;rfl;rfl))
    refine w_atO 1 H rfl (Wc_get lo2) rfl ?_
    have g2:(o.set (k/64) (o[k/64]&&&(18446744073709551615-2^(k%64))))[k/64]=L_k o[k/64] (k%64):=by rw[List.getElem_set_self];rfl
    have c2:=F_i (k:=k%64) ow
    rw[g2]
    repeat' (first|((with_reducible first|refine w_rem_NN ?_ ?_|refine w_shl ?_ ?_) ;omega)|((with_reducible refine w_uor ?_ ?_ ?_) ;omega;omega))
    rw[p1]
    skip
    refine w_storeO 1 H rfl (by rw[Wc_len];exact lo2) rfl λu' H2 hu'=>?_
    rw[Wc_set,List.set_set] at H2
    clear H;have H:=H2;clear H2
    dsimp only[List.set_cons_zero,List.set_cons_succ] at H
    repeat' (first|((with_reducible first|refine w_bar ?_ ?_|refine w_add_NN ?_ ?_) ;omega))
    refine ih (n-1) (by omega) (i+1) _ _ _ _ _ (by omega) ?_
    rw[sn,hm1,sb,gd]
    exact H
  ·repeat' (first|(with_reducible first|refine w_jn ?_|refine w_cndT ?_|refine w_notF ?_)|((with_reducible refine w_add_NN ?_ ?_) ;omega))
   refine ih (n-1) (by omega) (i+1) _ _ _ _ _ (by omega) ?_
   rw[sn,show C_0 (setBits l yes (is.take i)) yes is[i]=setBits l yes (is.take i) from if_neg (by rw[sl];exact q),hm1]
   exact H
 ·rw[List.take_of_length_le (by omega)] at H
  have sl2:=F_9 yes is l
  refine w_clrC (λv=>.agg #[v]) 1 H rfl (λ_ _ _=>by simp[blkV,blkP]) (λ_ _ _ _=>rfl) λv' h' n=>⟨_,rfl,?_⟩
  show New h h' (.osl v' 22 1 true (setBits l yes is).length _)
  rw[sl2];exact n
structure Nd where
 ty:Nat
 ln:Nat
 sz:Nat
 rs:List (Nat × Nat)
def rv(r:Nat × Nat):List Value:=[.int .i64 (.ofNat r.1),.int .i64 (.ofNat r.2)]
def Rl(l:List (Nat × Nat)):List (List Value):=l.map rv
theorem Rl_len(l:List (Nat × Nat)):(Rl l).length=l.length:=List.length_map _
theorem Rl_get{l:List (Nat × Nat)}{i:Nat}(hi:i<l.length):(Rl l)[i]?=some [.int .i64 (.ofNat l[i].1),.int .i64 (.ofNat l[i].2)]:=by
 unfold Rl;rw[List.getElem?_map,List.getElem?_eq_getElem hi];rfl
def Nd.v(d:Nd)(a:Option Addr)(c:Nat):Value:=.agg #[.int .i64 (.ofNat d.ty),.int .i64 (.ofNat d.ln),.int .i64 (.ofNat d.sz),.slice a d.rs.length c]
def CNin(R:RnK):Prop:=∀(a b c:Int)(h:Hs),R 59 [.int .i64 a,.int .i64 b,.int .i64 c] h=some (.val (.bool (decide (b≤a∧a≤c))) h)
theorem nin_ok{R:RnK}{N:Nat}{a b c:Int}{h:Hs}:r59 R N [.int .i64 a,.int .i64 b,.int .i64 c] h=some (.val (.bool (decide (b≤a∧a≤c))) h):=by
 refine WP.eqn ?_
 unfold r59
 have H:=Sto.enter h
 repeat' (first|(with_reducible first|refine w_gTt ?_|refine w_gTf ?_|refine w_pickT ?_|refine w_pickF ?_|refine w_unC ?_|refine w_enK ?_)|((with_reducible first|refine w_leq_II (λ_=>?_) (λ_=>?_)|refine w_geq_II (λ_=>?_) (λ_=>?_))<;>first|(exfalso;omega)|skip))
 all_goals exact w_clrB H (by simp;omega)
theorem CNin.nat{R:RnK}(c:CNin R)(x y z:Nat)(h:Hs):R 59 [.int .i64 (.ofNat x),.int .i64 (.ofNat y),.int .i64 (.ofNat z)] h=some (.val (.bool (decide (y≤x∧x≤z))) h):=by
 rw[c]
 congr 3
 simp
def Nd.free(d:Nd):Prop:=d.ty=0∧d.ln=0∧d.sz=0∧d.rs = []
instance (d:Nd):Decidable d.free:=inferInstanceAs (Decidable (_∧_∧_∧_))
def CFree(R:RnK):Prop:=∀(d:Nd)(a:Option Addr)(c:Nat)(h:Hs),d.rs.length<100000→R 58 [d.v a c] h=some (.val (.bool (decide d.free)) h)
theorem free_ok{R:RnK}{N:Nat}{d:Nd}{a:Option Addr}{c:Nat}{h:Hs}:r58 R N [d.v a c] h=some (.val (.bool (decide d.free)) h):=by
 refine WP.eqn ?_
 unfold r58 Nd.v
 have H:=Sto.enter h
 repeat' (first|(with_reducible first|refine w_gTt ?_|refine w_gTf ?_|refine w_pickT ?_|refine w_pickF ?_|refine w_unC ?_|refine w_enK ?_|refine w_fieldA ?_|refine w_lenV ?_)|((with_reducible refine w_boxA H ?_) ;(clear H;intro u H hu))|((with_reducible refine w_eql_NN (λ_=>?_) (λ_=>?_))<;>first|(exfalso;omega)|skip)|((with_reducible apply w_load 0 H) ;rfl;rfl;rfl))
 all_goals exact w_clrB H (by unfold Nd.free;rw[←List.length_eq_zero_iff];exact⟨λq=>by first|exact absurd q (by decide)|omega,λq=>by first|rfl|(exfalso;omega)⟩)
def runFits(r:Nat × Nat):Bool:=decide (r.1≤2147483648∧1≤r.2∧r.2≤2147483648)
def CFits1(R:RnK):Prop:=∀(r:Nat × Nat)(h:Hs),R 61 [.agg (rv r).toArray] h=some (.val (.bool (!runFits r)) h)
theorem fits1_ok{R:RnK}{N:Nat}(ci:CNin R){r:Nat × Nat}{h:Hs}:r61 R N [.agg (rv r).toArray] h=some (.val (.bool (!runFits r)) h):=by
 refine WP.eqn ?_
 unfold r61 rv runFits
 have H:=Sto.enter h
 repeat' (first|((refine w_callB (ci.nat _ _ _ _) (λ_=>?_) (λ_=>?_))<;>first|(exfalso;omega)|skip)|(with_reducible first|refine w_gFt ?_|refine w_gFf ?_|refine w_pickT ?_|refine w_pickF ?_|refine w_notT ?_|refine w_notF ?_|refine w_unC ?_|refine w_enK ?_|refine w_fieldA ?_)|((with_reducible refine w_boxA H ?_) ;(clear H;intro u H hu))|((with_reducible apply w_load 0 H) ;rfl;rfl;rfl))
 all_goals (refine w_clr H rfl ⟨?_,rfl⟩;congr 1;symm;simp;omega)
def CIdxR(R R0:RnK):Prop:=∀(g:FuncId)(p:Nat × Nat→Bool)(l:List (Nat × Nat))(v:Value)(h:Hs),l.length<100000→(∀r∈l,∀u:Hs,R0 g [.agg (rv r).toArray] u=some (.val (.bool (p r)) u))→Rd h v 2 (Rl l) →
 R 83 [v,.func (.func g) #[] #[]] h=some (.val (.int .i64 (match l.findIdx? p with|some i=>(i:Int)|none=>-1)) h)
theorem idxR_ok{R:RnK}{N:Nat}{g:FuncId}{p:Nat × Nat→Bool}{l:List (Nat × Nat)}{v:Value}{h:Hs}(hN:100000<N)(hl:l.length<100000)(hp:∀r∈l,∀u:Hs,R g [.agg (rv r).toArray] u=some (.val (.bool (p r)) u))(r:Rd h v 2 (Rl l)) :
 r83 R N [v,.func (.func g) #[] #[]] h=some (.val (.int .i64 (match l.findIdx? p with|some i=>(i:Int)|none=>-1)) h):=by
 refine WP.eqn ?_
 unfold r83
 have H:=Sto.enter1 r
 have e:=Rl_len l
 repeat' (first|(with_reducible first|refine w_jn ?_|refine w_unC ?_|refine w_enK ?_)|((with_reducible apply w_lenR 0 H) ;rfl))
 refine lp_ind (Good:=λn (self:L5)=>∀(i:Nat)(x1 x2 x3 x4:Value),i+n=l.length→(∀j (hj:j<l.length),j<i→p l[j]=false)→WP (self (.int .i64 (.ofNat i)) x1 x2 x3 x4 ⟨h.hp,h.nx,h.nx⟩) (λv' h'=>v'=.int .i64 (match l.findIdx? p with|some i=>(i:Int)|none=>-1)∧h'=h)) (λn self ih i x1 x2 x3 x4 hi hq=>?_) N l.length (by omega) 0 _ _ _ _ (by omega) (λj hj hj2=>by omega)
 repeat' (first|(with_reducible first|refine w_jn ?_|refine w_cndT ?_|refine w_cndF ?_)|((with_reducible refine w_lss_NN (λ_=>?_) (λ_=>?_))<;>first|(exfalso;omega)|skip))
 ·have ii:i<l.length:=by omega
  refine w_at 0 H rfl (Rl_get ii) rfl rfl ?_
  refine w_callV (cap:=[]) ?_
  refine w_callE (hp l[i] (List.getElem_mem ii) _) ?_
  cases q:p l[i] with
  | true =>
   repeat' (first|(with_reducible first|refine w_jn ?_|refine w_cndT ?_))
   refine w_clr H rfl ⟨?_,rfl⟩
   have:l.findIdx? p=some i:=by
    rw[List.findIdx?_eq_some_iff_getElem]
    exact⟨ii,q,λj hj=>by simpa using hq j (by omega) hj⟩
   rw[this];rfl
  |false=>
   repeat' (first|(with_reducible first|refine w_jn ?_|refine w_cndF ?_)|((with_reducible refine w_add_NN ?_ ?_) ;omega))
   refine ih (n-1) (by omega) (i+1) _ _ _ _ (by omega) λj hj hj2=>?_
   by_cases e:j=i
   ·subst e;exact q
   ·exact hq j hj (by omega)
 ·refine w_clr H rfl ⟨?_,rfl⟩
  have:l.findIdx? p=none:=by
   rw[List.findIdx?_eq_none_iff]
   intro x hx
   obtain⟨j,hj,rfl⟩:=List.getElem_of_mem hx
   exact hq j hj (by omega)
  rw[this];rfl
theorem containsR_ok{R R0:RnK}{N:Nat}{g:FuncId}{p:Nat × Nat→Bool}{l:List (Nat × Nat)}{v:Value}{h:Hs}(ci:CIdxR R R0)(hl:l.length<100000)(hp:∀r∈l,∀u:Hs,R0 g [.agg (rv r).toArray] u=some (.val (.bool (p r)) u))(r:Rd h v 2 (Rl l)) :
 r60 R N [v,.func (.func g) #[] #[]] h=some (.val (.bool (l.any p)) h):=by
 refine WP.eqn ?_
 unfold r60
 have H:=Sto.enter1 r
 refine w_unC ?_
 refine w_unC ?_
 refine w_enK ?_
 refine w_callE (ci g p l v _ hl hp r) ?_
 cases q:l.findIdx? p with
 |some i=>
  dsimp only
  rw[show (Value.int .i64 (i:Int))=.int .i64 (.ofNat i) from rfl]
  repeat' (first|((with_reducible refine w_geq_NN (λ_=>?_) (λ_=>?_))<;>first|(exfalso;omega)|skip))
  refine w_clr H rfl ⟨?_,rfl⟩
  congr 1;symm
  rw[List.findIdx?_eq_some_iff_getElem] at q
  obtain⟨ii,q1,_⟩:=q
  exact List.any_eq_true.2 ⟨_,List.getElem_mem ii,q1⟩
 |none=>
  dsimp only
  repeat' (first|((with_reducible refine w_geq_IN (λ_=>?_) (λ_=>?_))<;>first|(exfalso;omega)|skip))
  refine w_clr H rfl ⟨?_,rfl⟩
  congr 1;symm
  rw[List.findIdx?_eq_none_iff] at q
  rw[Bool.eq_false_iff]
  intro hx
  obtain⟨x,hx1,hx2⟩:=List.any_eq_true.1 hx
  rw[q x hx1] at hx2;cases hx2
def CContR(R R0:RnK):Prop:=∀(g:FuncId)(p:Nat × Nat→Bool)(l:List (Nat × Nat))(v:Value)(h:Hs),l.length<100000→(∀r∈l,∀u:Hs,R0 g [.agg (rv r).toArray] u=some (.val (.bool (p r)) u))→Rd h v 2 (Rl l) →
 R 60 [v,.func (.func g) #[] #[]] h=some (.val (.bool (l.any p)) h)
def Nd.fits(d:Nd):Prop:=if d.ty=0 then d.free else d.ty≤3∧d.ln≤16777215∧d.sz≤1099511627776∧d.rs.length≤4∧d.rs.all runFits=true
instance (d:Nd):Decidable d.fits:=inferInstanceAs (Decidable (if d.ty=0 then d.free else _))
def CFitsN(R:RnK):Prop:=∀(d:Nd)(a:Option Addr)(c:Nat)(h:Hs),d.rs.length<100000→Rd h (.slice a d.rs.length c) 2 (Rl d.rs)→R 39 [d.v a c] h=some (.val (.bool (decide d.fits)) h)
theorem fitsN_ok{R R0:RnK}{N:Nat}(ci:CNin R)(cf:CFree R)(cc:CContR R R0)(c1:CFits1 R0){d:Nd}{a:Option Addr}{c:Nat}{h:Hs}(hl:d.rs.length<100000)(r:Rd h (.slice a d.rs.length c) 2 (Rl d.rs)):r39 R N [d.v a c] h=some (.val (.bool (decide d.fits)) h):=by
 refine WP.eqn ?_
 have anyAll:d.rs.any (λr=>!runFits r) = !d.rs.all runFits:=by rw[List.all_eq_not_any_not,Bool.not_not]
 have cfh:=cf d a c
 unfold r39 Nd.v
 unfold Nd.v at cfh
 have H:=Sto.enter1 r
 have zf:¬d.ty=0→(d.fits↔d.ty≤3∧d.ln≤16777215∧d.sz≤1099511627776∧d.rs.length≤4∧d.rs.all runFits=true):=λq=>by unfold Nd.fits;rw[if_neg q]
 repeat' (first|((refine w_callB (ci.nat _ _ _ _) (λ_=>?_) (λ_=>?_))<;>first|(exfalso;omega)|skip)|(with_reducible first|refine w_jn ?_|refine w_cndT ?_|refine w_cndF ?_|refine w_gFt ?_|refine w_gFf ?_|refine w_pickT ?_|refine w_pickF ?_|refine w_notT ?_|refine w_notF ?_|refine w_unC ?_|refine w_enK ?_|refine w_fieldA ?_|refine w_lenV ?_)|((with_reducible refine w_boxA H ?_) ;(clear H;intro u H hu))|((with_reducible first|refine w_gtr_NN (λ_=>?_) (λ_=>?_)|refine w_eql_NN (λ_=>?_) (λ_=>?_))<;>first|(exfalso;omega)|skip)|((with_reducible apply w_load 0 H) ;rfl;rfl;rfl)|((with_reducible apply w_loadsF 0 H) ;rfl;rfl;rfl))
 ·rw[show decide d.fits=decide d.free from by congr 1;unfold Nd.fits;rw[if_pos (by assumption)]]
  refine w_callE (cfh _ hl) ?_
  exact w_clr H rfl ⟨rfl,rfl⟩
 all_goals first
  |exact w_clrB H (by rw[zf (by omega)];exact⟨λq=>absurd q (by decide),λq=>by exfalso;omega⟩)
  | (refine w_callE (cc _ (fun r => !runFits r) d.rs _ _ hl (fun r _ u => c1 r u) (H.rd 1 rfl)) ?_
     rw[anyAll]
     refine w_not ?_
     rw[Bool.not_not]
     refine w_clrB H ?_
     rw[zf (by omega)]
     exact⟨λq=>⟨by omega,by omega,by omega,by omega,q⟩,λq=>q.2.2.2.2⟩)
def runW(r:Nat × Nat):Nat:=r.1|||(r.2*4294967296%18446744073709551616)
def Nd.head(d:Nd):List Nat:=[d.ty|||(d.ln*256%18446744073709551616),d.sz]
def Nd.body(d:Nd):List Nat:=d.head++d.rs.map runW++List.replicate (5-d.rs.length) 0
def nodeW(d:Nd):List Nat:=if d.ty=0 then List.replicate 8 0 else d.body ++ [sealOf d.body]
theorem runFits_of{r:Nat × Nat}(h:runFits r=true):r.1≤2147483648∧1≤r.2∧r.2≤2147483648:=by simpa [runFits] using h
theorem runW_lt{r:Nat × Nat}(h:runFits r=true):runW r<18446744073709551616:=by
 have:=runFits_of h
 exact or_lt (by omega) (Nat.mod_lt _ (by omega))
theorem body_len{d:Nd}(h:d.rs.length≤4):d.body.length=7:=by
 unfold Nd.body Nd.head
 simp only[List.length_append,List.length_cons,List.length_nil,List.length_map,List.length_replicate]
 omega
theorem body_small{d:Nd}(h0:d.ty≤3)(h1:d.sz≤1099511627776)(h2:d.rs.all runFits=true):Small d.body:=by
 intro n hn
 unfold Nd.body Nd.head at hn
 simp only[List.mem_append,List.mem_cons,List.not_mem_nil,or_false,List.mem_map,List.mem_replicate] at hn
 rcases hn with((rfl|rfl)|⟨r,hr,rfl⟩)|⟨_,rfl⟩
 ·exact or_lt (by omega) (Nat.mod_lt _ (by omega))
 ·omega
 ·exact runW_lt (List.all_eq_true.1 h2 r hr)
 ·omega
def CNodePut(R:RnK):Prop:=∀(d:Nd)(a:Option Addr)(c:Nat)(h:Hs),d.rs.length<100000→Rd h (.slice a d.rs.length c) 2 (Rl d.rs)→(d.fits→WP (R 18 [d.v a c] h) λv h'=>New h h' (.osl v 22 1 true 8 (Wc (nodeW d))))∧(¬d.fits→R 18 [d.v a c] h=some (.val (.slice none 0 0) h))
theorem nodePut_no{R:RnK}{N:Nat}(cf:CFitsN R){d:Nd}{a:Option Addr}{c:Nat}{h:Hs}(hl:d.rs.length<100000)(r:Rd h (.slice a d.rs.length c) 2 (Rl d.rs))(hx:¬d.fits):r18 R N [d.v a c] h=some (.val (.slice none 0 0) h):=by
 refine WP.eqn ?_
 have cfh:=λu=>cf d a c u hl
 unfold r18 Nd.v
 unfold Nd.v at cfh
 have H:=Sto.enter1 r
 repeat' (first|(with_reducible first|refine w_unC ?_|refine w_enK ?_)|((with_reducible refine w_boxA H ?_) ;(clear H;intro u H hu))|((with_reducible apply w_loadsF 0 H) ;rfl;rfl;rfl))
 refine w_callB (cfh _ (H.rd 1 rfl)) (λq=>absurd q hx) λ_=>?_
 repeat' (first|(with_reducible first|refine w_jn ?_|refine w_cndT ?_|refine w_notF ?_))
 exact w_clr H rfl ⟨rfl,rfl⟩
def Nd.part(d:Nd)(i:Nat):List Nat:=d.head++(d.rs.take i).map runW++List.replicate (6-i) 0
theorem part_len{d:Nd}{i:Nat}(h:d.rs.length≤4)(hi:i≤d.rs.length):(d.part i).length=8:=by
 unfold Nd.part Nd.head
 simp only[List.length_append,List.length_cons,List.length_nil,List.length_map,List.length_replicate,List.length_take]
 omega
theorem part_set{d:Nd}{i:Nat}(h:d.rs.length≤4)(hi:i<d.rs.length):(d.part i).set (2+i) (runW d.rs[i])=d.part (i+1):=by
 unfold Nd.part
 have l1:(d.head++(d.rs.take i).map runW).length=2+i:=by
  unfold Nd.head
  simp only[List.length_append,List.length_cons,List.length_nil,List.length_map,List.length_take];omega
 rw[List.set_append_right _ _ (by omega),l1,Nat.sub_self,show 6-i=(6-(i+1))+1 from by omega,List.replicate_succ,List.set_cons_zero,List.take_add_one,List.getElem?_eq_getElem hi,List.map_append]
 simp only[Option.toList_some,List.map_cons,List.map_nil,List.append_assoc,List.singleton_append]
theorem part_end{d:Nd}(h:d.rs.length≤4):(d.part d.rs.length).take 7=d.body∧(d.part d.rs.length).set 7 (sealOf d.body)=d.body ++ [sealOf d.body]:=by
 have e:d.part d.rs.length=d.body ++ [0]:=by
  unfold Nd.part Nd.body
  rw[List.take_length,show 6-d.rs.length=5-d.rs.length+1 from by omega,List.replicate_succ',←List.append_assoc]
 have l:=body_len h
 rw[e]
 refine⟨by rw[List.take_append_of_le_length (by omega),List.take_of_length_le (by omega)],?_⟩
 rw[List.set_append_right _ _ (by omega),l];rfl
theorem Wl_ones2(l:List Nat)(n:Nat):ones ((Wc l).take n)=Wl (l.take n):=by
 rw[Wl_ones];unfold Wc;rw[List.map_take]
theorem nodePut_ok{R:RnK}{N:Nat}(cf:CFitsN R)(cs:CSealOf R){d:Nd}{a:Option Addr}{c:Nat}{h:Hs}(hN:100<N)(hl:d.rs.length<100000)(r:Rd h (.slice a d.rs.length c) 2 (Rl d.rs))(hx:d.fits):WP (r18 R N [d.v a c] h) λv h'=>New h h' (.osl v 22 1 true 8 (Wc (nodeW d))):=by
 have cfh:=λu=>cf d a c u hl
 unfold r18 Nd.v
 unfold Nd.v at cfh
 have H:=Sto.enter1 r
 repeat' (first|(with_reducible first|refine w_unC ?_|refine w_enK ?_)|((with_reducible refine w_boxA H ?_) ;(clear H;intro u H hu))|((with_reducible apply w_loadsF 0 H) ;rfl;rfl;rfl))
 refine w_callB (cfh _ (H.rd 1 rfl)) (λ_=>?_) λq=>absurd hx q
 unfold Nd.fits at hx
 by_cases z:d.ty=0
 ·repeat' (first|(with_reducible first|refine w_jn ?_|refine w_cndT ?_|refine w_cndF ?_|refine w_notT ?_|refine w_fieldA ?_)|((with_reducible refine w_mkslice H ?_ ?_ ?_) ;omega;rfl;(clear H;intro u H hu))|((with_reducible refine w_eql_NN (λ_=>?_) (λ_=>?_))<;>first|(exfalso;omega)|skip)|((with_reducible apply w_load 1 H) ;rfl;rfl;rfl))
  have e:nodeW d=List.replicate 8 0:=if_pos z
  rw[e]
  rw[show rep [Value.int .u64 (.ofNat 0)] 8=Wc (List.replicate 8 0) from rfl] at H
  have H2:=H.osl 0 rfl (n:=8) (c:=8) rfl (Nat.le_refl _)
  exact w_clrO 0 H2 rfl λv' h' n=>n
 ·rw[if_neg z] at hx
  obtain⟨x1,x2,x3,x4,x5⟩:=hx
  repeat' (first|(with_reducible first|refine w_jn ?_|refine w_cndF ?_|refine w_notT ?_|refine w_fieldA ?_)|((with_reducible refine w_mkslice H ?_ ?_ ?_) ;omega;rfl;(clear H;intro u H hu))|((with_reducible refine w_eql_NN (λ_=>?_) (λ_=>?_))<;>first|(exfalso;omega)|skip)|((with_reducible first|refine w_toU ?_ ?_|refine w_shl ?_ ?_) ;omega)|((with_reducible refine w_uor ?_ ?_ ?_) ;omega;omega)|((with_reducible apply w_load 1 H) ;rfl;rfl;rfl))
  rw[show rep [Value.int .u64 (.ofNat 0)] 8=Wc (List.replicate 8 0) from rfl] at H
  replace H:=H.osl 0 rfl (n:=8) (c:=8) rfl (Nat.le_refl _)
  dsimp only[List.set_cons_zero] at H
  refine w_storeO 0 H rfl (by rw[Wc_len,List.length_replicate];omega) rfl λu1 H1 hu1=>?_
  rw[Wc_set] at H1
  clear H;have H:=H1;clear H1
  dsimp only[List.set_cons_zero] at H
  repeat' (first|(with_reducible refine w_fieldA ?_)|((with_reducible refine w_toU ?_ ?_) ;omega)|((with_reducible apply w_load 1 H) ;rfl;rfl;rfl))
  refine w_storeO 0 H rfl (by rw[Wc_len,List.length_set,List.length_replicate];omega) rfl λu1 H1 hu1=>?_
  rw[Wc_set] at H1
  clear H;have H:=H1;clear H1
  dsimp only[List.set_cons_zero] at H
  have p0:((List.replicate 8 0).set 0 (d.ty|||d.ln*2^8%18446744073709551616)).set 1 d.sz=d.part 0:=rfl
  rw[p0] at H
  repeat' (first|(with_reducible first|refine w_jn ?_|refine w_fieldA ?_|refine w_lenV ?_)|((with_reducible apply w_load 1 H) ;rfl;rfl;rfl))
  obtain⟨m0,hm0,H0⟩:∃m0,m0=_∧Sto h [] _ m0:=⟨_,rfl,H⟩
  clear p0
  refine lp_ind (Good:=λn (self:L4)=>∀(i:Nat)(y1 y2 y3:Value)(u:Hs),i+n=d.rs.length→Sto h [] u (m0.set 0 (.osl (.slice (some ⟨_,0,none⟩) 8 8) 22 1 true 8 (Wc (d.part i))))→WP (self (.int .i64 (.ofNat i)) y1 y2 y3 u) (λv h'=>New h h' (.osl v 22 1 true 8 (Wc (nodeW d))))) (λn self ih i y1 y2 y3 u hi H1=>?_) N d.rs.length (by omega) 0 _ _ _ _ (by omega) (by rw[hm0];exact H)
  clear H0 H
  have hm1:=hm0
  rw[hm0] at H1
  have H:=H1
  dsimp only[List.set_cons_zero] at H
  repeat' (first|(with_reducible first|refine w_jn ?_|refine w_cndT ?_|refine w_cndF ?_)|((with_reducible refine w_lss_NN (λ_=>?_) (λ_=>?_))<;>first|(exfalso;omega)|skip))
  ·have ii:i<d.rs.length:=by omega
   refine w_at 2 H rfl (Rl_get ii) rfl rfl ?_
   have f:=runFits_of (List.all_eq_true.1 x5 _ (List.getElem_mem ii))
   repeat' (first|(with_reducible refine w_fieldA ?_)|((with_reducible refine w_alloc H ?_) ;(clear H;intro u H hu))|((with_reducible first|refine w_add_NN ?_ ?_|refine w_toU ?_ ?_|refine w_shl ?_ ?_) ;omega)|((with_reducible refine w_uor ?_ ?_ ?_) ;omega;omega)|((with_reducible apply w_load 0 H) ;rfl;rfl;rfl)|((with_reducible apply w_storeV 0 H) ;rfl;rfl;rfl;omega;rfl;(clear H;intro u H hu;(try dsimp only[List.set_cons_zero,List.set_cons_succ,cellsL,List.toList_toArray,splice,ev,rep,List.cons_append,List.nil_append] at H))))
   refine w_storeO 1 H rfl (by rw[Wc_len,part_len x4 (by omega)];omega) rfl λu1 H1 hu1=>?_
   rw[Wc_set] at H1
   clear H;have H:=H1.tail;clear H1
   dsimp only[List.set_cons_zero,List.set_cons_succ] at H
   repeat' (first|((with_reducible refine w_add_NN ?_ ?_) ;omega))
   refine ih (n-1) (by omega) (i+1) _ _ _ _ (by omega) ?_
   rw[hm1,←part_set x4 ii]
   exact H
  ·have ie:i=d.rs.length:=by omega
   subst ie
   obtain⟨e1,e2⟩:=part_end x4
   refine w_slHB (by omega) ?_
   have rd:=H.rdPO (n':=7) 0 rfl (by omega)
   rw[Wl_ones2,e1] at rd
   refine w_callE (cs d.body _ _ (body_small x1 x3 x5) (by rw[body_len x4];omega) rd) ?_
   refine w_storeO 0 H rfl (by rw[Wc_len,part_len x4 (by omega)];omega) rfl λu1 H1 hu1=>?_
   rw[Wc_set,e2] at H1
   have e3:nodeW d=d.body ++ [sealOf d.body]:=if_neg z
   rw[e3]
   exact w_clrO 0 H1 rfl λv' h' n=>n
def putW(W:List Nat)(o:Nat)(ws:List Nat):List Nat:=W.take o++ws++W.drop (o+ws.length)
theorem B_n{W ws:List Nat}{o:Nat}(h:o+ws.length≤W.length):(putW W o ws).length=W.length:=by
 unfold putW
 simp only[List.length_append,List.length_take,List.length_drop];omega
theorem S_f(W ws:List Nat)(o:Nat):setL (Wc W) o (Wc ws)=Wc (putW W o ws):=by
 unfold setL putW
 rw[Wc_len]
 unfold Wc
 simp only[List.map_append,List.map_take,List.map_drop]
def CPut(R:RnK):Prop:=∀(h:Hs)(t:Nat)(fl:Bool)(at_:Nat)(ws W:List Nat)(v:Value)(p b n:Nat),W.length=n→n≤10000→8*at_<n→8*at_+ws.length≤n→Rd h v 1 (Wl ws)→Th.id (.rsl v 1 (Wl ws))≠some b→p<h.nx→b<h.nx→p≠b →
 Holds (h.hp.get p) (.row t 0 true fl [.slice (some ⟨b,0,none⟩) n n])→Holds (h.hp.get b) (.row 22 1 true true (Wc W)) →
 WP (R 13 [.int .i64 (.ofNat at_),v,.pointer (some ⟨p,0,none⟩)] h) λr h'=>r=.tuple #[]∧Mut h h' b∧Holds (h'.hp.get b) (.row 22 1 true true (Wc (putW W (8*at_) ws)))
theorem a_4{R:RnK}{N:Nat}{h:Hs}{t:Nat}{fl:Bool}{at_:Nat}{ws W:List Nat}{v:Value}{p b n:Nat}(hW:W.length=n)(hn:n≤10000)(h1:8*at_<n)(h2:8*at_+ws.length≤n)(r:Rd h v 1 (Wl ws))(hv:Th.id (.rsl v 1 (Wl ws))≠some b)(hp:p<h.nx)(hb:b<h.nx)(hpb:p≠b)
 (ho:Holds (h.hp.get p) (.row t 0 true fl [.slice (some ⟨b,0,none⟩) n n])) (hob:Holds (h.hp.get b) (.row 22 1 true true (Wc W))) :
 WP (r13 R N [.int .i64 (.ofNat at_),v,.pointer (some ⟨p,0,none⟩)] h) λr h'=>r=.tuple #[]∧Mut h h' b∧Holds (h'.hp.get b) (.row 22 1 true true (Wc (putW W (8*at_) ws))):=by
 unfold r13
 have H:=Sto.enterM (h:=h) [.rob p (.row t 0 true fl [.slice (some ⟨b,0,none⟩) n n]),.rsl v 1 (Wl ws)] hob hb (λq hq=>by
  rcases List.mem_cons.1 hq with rfl|hq
  ·exact⟨rfl,ho,λb' hb'=>by injection hb' with e;subst e;exact⟨hp,hpb⟩⟩
  ·have:q=.rsl v 1 (Wl ws):=by simpa using hq
   subst this
   exact⟨rfl,r.1,λb' hb'=>⟨r.2 b' hb',λe=>hv (by rw[←e];exact hb')⟩⟩)
 repeat' (first|(with_reducible first|refine w_unC ?_|refine w_enK ?_)|((with_reducible refine w_mul_NN ?_ ?_) ;omega)|((with_reducible apply w_loadR 1 H) ;rfl;rfl;rfl))
 refine b_t 0 H rfl (.inr rfl) h1 ?_
 have e1:=Wl_len ws
 have e2:min (Wl ws).length (n-8*at_)=ws.length:=by omega
 refine b_o 0 2 H rfl rfl (by omega) (by rw[Wl_flat];exact Wc_one ws) (by rw[e2,Wc_len];omega) λh' H' _=>?_
 rw[e2,List.take_of_length_le (by omega),Wl_flat,Wc_flatL,show 0+8*at_*1=8*at_ from by omega,S_f] at H'
 exact b_n 0 H' rfl hb rfl λh'' a b=>⟨rfl,a,b⟩
def rootN:Nd:=⟨2,1,0,[]⟩
def C_9(g:Geo):Nd:=⟨2,1,g.n,[(g.lostAt,g.n)]⟩
def B_1(g:Geo)(l:List Nat)(j:Nat):List Nat:=if j<g.dataAt∨g.dataAt+g.dataN≤j then C_0 l true j else l
def A_k(g:Geo)(i:Nat):List Nat:=(List.range i).foldl (B_1 g) (List.replicate ((g.b+63)/64) 0)
theorem Rl_two(rs:List (Nat × Nat)):∀l∈Rl rs,l.length=2:=λl hl=>by
 unfold Rl at hl
 rw[List.mem_map] at hl
 obtain⟨r,_,rfl⟩:=hl
 rfl
theorem G_i{g:Geo}{i:Nat}:Small (A_k g i):=by
 have:∀(l:List Nat)(w:List Nat),Small w→Small (l.foldl (B_1 g) w):=by
  intro l
  induction l with
  |nil=>intro w hw;exact hw
  |cons j l ih=>
   intro w hw
   refine ih _ ?_
   unfold B_1;split
   ·exact E_4 hw _ _
   ·exact hw
 exact this _ _ λn hn=>by rw[List.mem_replicate] at hn;omega
theorem nodeW_len{d:Nd}(h:d.rs.length≤4):(nodeW d).length=8:=by
 unfold nodeW;split
 ·rw[List.length_replicate]
 ·rw[List.length_append,body_len h];rfl
theorem G_0:(nodeW rootN).length=8:=nodeW_len (by decide)
theorem G_1{g:Geo}:(nodeW (C_9 g)).length=8:=nodeW_len (Nat.le_of_ble_eq_true rfl)
theorem I_y{g:Geo}{ph:Nat}:(headW g ph).length=8:=rfl
theorem C_2{g:Geo}{i:Nat}:(A_k g i).length=(g.b+63)/64:=by
 have:∀(l:List Nat)(w:List Nat),(l.foldl (B_1 g) w).length=w.length:=by
  intro l
  induction l with
  |nil=>intro w;rfl
  |cons j l ih=>
   intro w
   rw[List.foldl_cons,ih]
   unfold B_1;split
   ·exact G_8 _ _ _
   ·rfl
 unfold A_k
 rw[this,List.length_replicate]
def N_o(g:Geo):List Nat:=
 putW (putW (putW (putW (putW (List.replicate (8*g.b) 0) 0 (headW g 0)) (8*(g.b-1)) (headW g 0)) (8*g.nodeAt 1) (nodeW rootN)) (8*g.nodeAt 2) (nodeW (C_9 g))) (8*g.bitsAt) (A_k g g.b)
def CMake(R:RnK):Prop:=∀(g:Geo)(h:Hs),g.Ok→WP (R 6 [g.v] h) λv h'=>∃s,v=.tuple #[s,.int .i64 (.ofNat 0)]∧New h h' (.osl s 22 1 true (8*g.b) (Wc (N_o g)))
theorem X_8{R:RnK}{N:Nat}(cg:CGood R)(cl:CLost R)(ch:CHeadPut R)(cb:CBack R)(cn:CNode R)(cp:CNodePut R)(cd:CDataF R)(cw:CBitsNew R)(cs:CBitsSet R)(cbf:CBitsF R)(cput:CPut R){g:Geo}{h:Hs}(hN:100000<N)(x:g.Ok) :
 WP (r6 R N [g.v] h) λv h'=>∃s,v=.tuple #[s,.int .i64 (.ofNat 0)]∧New h h' (.osl s 22 1 true (8*g.b) (Wc (N_o g))):=by
 unfold r6 Geo.v
 have H:=Sto.enter h
 have h1:=x.1.b1;have h2:=x.1.b2;have h3:=x.1.n1;have h4:=x.1.n2
 have h5:=x.1.num
 have h6:=x.2
 have z1:(nodeW rootN).length=8:=G_0
 have z2:(nodeW (C_9 g)).length=8:=G_1
 have z3:(headW g 0).length=8:=rfl
 have h7:g.dataN=g.b-1-g.dataAt:=rfl
 have n1:g.nodeAt 1=g.bitsAt+g.bitsN:=by unfold Geo.nodeAt;rw[if_pos (by omega)];omega
 have n2:g.nodeAt 2=g.bitsAt+g.bitsN+1:=by unfold Geo.nodeAt;rw[if_pos (by omega)];omega
 repeat' (first|((refine w_callB (cg g _) (λ_=>?_) (λ_=>?_))<;>first|(exfalso;omega)|skip)|(refine w_callE (cl g _ x) ?_)|(refine b_s ?_)|(with_reducible first|refine w_jn ?_|refine w_cndT ?_|refine w_cndF ?_|refine w_notT ?_|refine w_notF ?_|refine w_unC ?_|refine w_enK ?_|refine w_fieldA ?_)|((with_reducible apply w_extr) ;rfl)|((with_reducible apply w_build) ;rfl;(try dsimp only[splice,ev,cellsL,rep,List.cons_append,List.nil_append]))|((with_reducible refine w_boxA H ?_) ;(clear H;intro u H hu))|((with_reducible refine w_alloc H ?_) ;(clear H;intro u H hu))|((with_reducible refine w_mkslice H ?_ ?_ ?_) ;omega;rfl;(clear H;intro u H hu))|((with_reducible refine w_mul_NN ?_ ?_) ;omega)|((with_reducible apply w_load 0 H) ;rfl;rfl;rfl)|((with_reducible apply w_store1 0 H) ;rfl;(simp only[List.length_cons,List.length_nil];omega);rfl;(clear H;intro u H hu;(try dsimp only[List.set_cons_zero,List.set_cons_succ,cellsL,List.toList_toArray,splice,ev,rep,List.cons_append,List.nil_append] at H)))|((with_reducible apply w_loadsF 0 H) ;rfl;rfl;rfl)|((with_reducible apply w_loadsF 2 H) ;rfl;rfl;rfl))
 ·refine w_call ((ch g 0 _ (by omega)).1 x) λv' u' n=>?_
  replace n:=n.ones
  rw[←Wl_ones] at n
  replace H:=H.call n
  dsimp only[evL,ev]
  rw[a_6] at H
  have l0:(List.replicate (8*g.b) 0).length=8*g.b:=List.length_replicate
  refine w_callV (cap:=[_]) ?_
  refine w_call (cput _ _ _ (0) (headW g 0) (List.replicate (8*g.b) 0) _ _ _ _ (l0) (by omega) (by omega) (by omega) (H.rd 0 rfl) (H.neR (i:=2) (j:=0) rfl rfl (by decide)) (H.lt 1 rfl) (H.lt 2 rfl) (H.ne (i:=1) (j:=2) rfl rfl (by decide)) (H.holds 1 rfl) (H.holds 2 rfl)) λr u1 hm=>?_
  obtain⟨rfl,mu,ho⟩:=hm
  replace H:=H.mut 2 rfl mu ho
  dsimp only[List.set_cons_zero,List.set_cons_succ] at H
  have l1:(putW (List.replicate (8*g.b) 0) (8*0) (headW g 0)).length=8*g.b:=by rw[B_n (by rw[l0,I_y];omega),l0]
  generalize hw1:putW (List.replicate (8*g.b) 0) (8*0) (headW g 0)=W1 at H l1
  repeat' (first|(refine w_callE (cb g _ x) ?_)|(with_reducible first|refine w_light0 ?_|refine w_blind ?_)|((with_reducible apply w_build) ;rfl;(try dsimp only[splice,ev,cellsL,rep,List.cons_append,List.nil_append]))|((with_reducible apply w_loadsF 3 H) ;rfl;rfl;rfl)|((with_reducible apply w_loadsD 3 H) ;rfl;rfl;(intro _;simp only[HidOk,and_true];omega)))
  refine w_call ((ch g 0 _ (by omega)).1 x) λv2 u2 n=>?_
  refine w_bar n.1.1.1 ?_
  replace n:=n.ones
  rw[←Wl_ones] at n
  replace H:=H.call n
  clear mu ho
  refine w_isVal (cap:=[_]) ?_
  refine w_call (cput _ _ _ (g.b-1) (headW g 0) (W1) _ _ _ _ (l1) (by omega) (by omega) (by omega) (H.rd 0 rfl) (H.neR (i:=3) (j:=0) rfl rfl (by decide)) (H.lt 2 rfl) (H.lt 3 rfl) (H.ne (i:=2) (j:=3) rfl rfl (by decide)) (H.holds 2 rfl) (H.holds 3 rfl)) λr u1 hm=>?_
  obtain⟨rfl,mu,ho⟩:=hm
  replace H:=H.mut 3 rfl mu ho
  dsimp only[List.set_cons_zero,List.set_cons_succ] at H
  refine w_bar mu.1 ?_
  have l2:(putW W1 (8*(g.b-1)) (headW g 0)).length=8*g.b:=by rw[B_n (by rw[l1,I_y];omega),l1]
  generalize hw2:putW W1 (8*(g.b-1)) (headW g 0)=W2 at H l2
  repeat' (first|(refine w_callE (cn g 1 _ x (by omega)) ?_)|((with_reducible apply w_build) ;rfl;(try dsimp only[splice,ev,cellsL,rep,List.cons_append,List.nil_append]))|((with_reducible apply w_loadsF 4 H) ;rfl;rfl;rfl))
  refine w_call ((cp rootN none 0 _ (by decide) (Rd.none _ _)).1 (by decide)) λv3 u3 n=>?_
  replace n:=n.ones
  rw[←Wl_ones] at n
  replace H:=H.call n
  clear mu ho
  have b1:8*g.nodeAt 1+8≤8*g.b:=by omega
  have b2:8*g.nodeAt 2+8≤8*g.b:=by omega
  refine w_callV (cap:=[_]) ?_
  refine w_call (cput _ _ _ (g.nodeAt 1) (nodeW rootN) (W2) _ _ _ _ (l2) (by omega) (by omega) (by omega) (H.rd 0 rfl) (H.neR (i:=4) (j:=0) rfl rfl (by decide)) (H.lt 3 rfl) (H.lt 4 rfl) (H.ne (i:=3) (j:=4) rfl rfl (by decide)) (H.holds 3 rfl) (H.holds 4 rfl)) λr u1 hm=>?_
  obtain⟨rfl,mu,ho⟩:=hm
  replace H:=H.mut 4 rfl mu ho
  dsimp only[List.set_cons_zero,List.set_cons_succ] at H
  have l3:(putW W2 (8*g.nodeAt 1) (nodeW rootN)).length=8*g.b:=by rw[B_n (by rw[l2,G_0];omega),l2]
  generalize hw3:putW W2 (8*g.nodeAt 1) (nodeW rootN)=W3 at H l3
  repeat' (first|(refine w_callE (cn g 2 _ x (by omega)) ?_)|((with_reducible apply w_build) ;rfl;(try dsimp only[splice,ev,cellsL,rep,List.cons_append,List.nil_append]))|((with_reducible apply w_mkrow H) ;rfl;(clear H;intro u H hu;(try dsimp only[List.set_cons_zero,List.set_cons_succ,cellsL,List.toList_toArray,splice,ev,rep,List.cons_append,List.nil_append] at H)))|((with_reducible apply w_loadsF 5 H) ;rfl;rfl;rfl))
  have rd:=H.rdU (Ls:=Rl [(g.lostAt,g.n)]) (n:=1) (c:=1) 0 rfl rfl (Rl_two _) rfl (by omega)
  have fl:(C_9 g).fits:=by
   unfold Nd.fits C_9
   rw[if_neg (show ¬(2:Nat)=0 by decide)]
   refine⟨show (2:Nat)≤3 by decide,show (1:Nat)≤16777215 by decide,by show g.n≤_;omega,show 1≤4 by decide,?_⟩
   show (runFits (g.lostAt,g.n)&&true)=true
   rw[Bool.and_true]
   unfold runFits Geo.lostAt
   simp;omega
  refine w_call ((cp (C_9 g) _ 1 _ (show 1<100000 by decide) rd).1 fl) λv4 u4 n=>?_
  replace n:=n.ones
  rw[←Wl_ones] at n
  replace H:=H.call n
  clear mu ho rd
  refine w_callV (cap:=[_]) ?_
  refine w_call (cput _ _ _ (g.nodeAt 2) (nodeW (C_9 g)) (W3) _ _ _ _ (l3) (by omega) (by omega) (by omega) (H.rd 0 rfl) (H.neR (i:=6) (j:=0) rfl rfl (by decide)) (H.lt 5 rfl) (H.lt 6 rfl) (H.ne (i:=5) (j:=6) rfl rfl (by decide)) (H.holds 5 rfl) (H.holds 6 rfl)) λr u1 hm=>?_
  obtain⟨rfl,mu,ho⟩:=hm
  replace H:=H.mut 6 rfl mu ho
  dsimp only[List.set_cons_zero,List.set_cons_succ] at H
  have l4:(putW W3 (8*g.nodeAt 2) (nodeW (C_9 g))).length=8*g.b:=by rw[B_n (by rw[l3,G_1];omega),l3]
  generalize hw4:putW W3 (8*g.nodeAt 2) (nodeW (C_9 g))=W4 at H l4
  clear mu ho
  repeat' (first|(refine w_callE (cd g _ x) ?_)|(with_reducible refine w_fieldA ?_)|((with_reducible apply w_extr) ;rfl)|((with_reducible apply w_load 7 H) ;rfl;rfl;rfl)|((with_reducible apply w_loadsF 7 H) ;rfl;rfl;rfl))
  refine w_call (cw g.b _ (by omega)) λv5 u5 n=>?_
  obtain⟨s,rfl,n⟩:=n
  have n:New u1 u5 (.osl s 22 1 true ((g.b+63)/64) (Wc (List.replicate ((g.b+63)/64) 0))):=by
   have n':=n
   unfold OW at n'
   rw[List.length_replicate] at n'
   exact n'
  obtain⟨a,c,rfl⟩:=n.2.1.form
  replace n:=n.ones
  rw[←Wl_ones] at n
  replace H:=H.call n
  repeat' (first|(with_reducible first|refine w_fieldA ?_|refine w_st1A ?_)|((with_reducible refine w_alloc H ?_) ;(clear H;intro u H hu))|((with_reducible apply w_storeV 0 H) ;rfl;rfl;rfl;omega;rfl;(clear H;intro u H hu;(try dsimp only[List.set_cons_zero,List.set_cons_succ,cellsL,List.toList_toArray,splice,ev,rep,List.cons_append,List.nil_append] at H))))
  replace H:=H.sel [0,1,7,8,9] 10 rfl (by decide) (by decide);dsimp only[List.filterMap_cons,List.filterMap_nil,List.getElem?_cons_zero,List.getElem?_cons_succ] at H
  repeat' (first|(with_reducible refine w_jn ?_)|((with_reducible apply w_load 4 H) ;rfl;rfl;rfl))
  replace H:=H.unfl 0 rfl
  dsimp only[List.set_cons_zero] at H
  obtain⟨m0,hm0,H0⟩:∃m0,m0=_∧Sto h [] _ m0:=⟨_,rfl,H⟩
  have bs0:A_k g 0=List.replicate ((g.b+63)/64) 0:=rfl
  refine lp_ind (Good:=λn (self:L4)=>∀(i:Nat)(y1 y2 y3:Value)(u:Hs)(a:Option Addr)(c:Nat),i+n=g.b→Sto h [] u ((m0.set 0 (.blk u5.nx (.row 57 0 true false [.slice a ((g.b+63)/64) c]))).set 1 (.rsl (.slice a ((g.b+63)/64) c) 1 (Wl (A_k g i))))→WP (self (.int .i64 (.ofNat i)) y1 y2 y3 u) (λv h'=>∃s,v=.tuple #[s,.int .i64 (.ofNat 0)]∧New h h' (.osl s 22 1 true (8*g.b) (Wc (N_o g))))) (λn self ih i y1 y2 y3 u a c hi H1=>?_) N g.b (by omega) 0 _ _ _ _ a c (by omega) (by rw[hm0];exact H)
  clear H0 H
  have hm1:=hm0
  rw[hm0] at H1
  have H:=H1
  dsimp only[List.set_cons_zero,List.set_cons_succ] at H
  have bl:=C_2 (g:=g) (i:=i)
  have bsm:Small (A_k g i):=G_i
  have bstep:A_k g (i+1)=B_1 g (A_k g i) i:=by unfold A_k;rw[List.range_succ,List.foldl_append];rfl
  repeat' (first|(with_reducible first|refine w_jn ?_|refine w_cndT ?_|refine w_cndF ?_|refine w_gFt ?_|refine w_gFf ?_|refine w_pickT ?_|refine w_pickF ?_)|((with_reducible apply w_mkrow H) ;rfl;(clear H;intro u H hu;(try dsimp only[List.set_cons_zero,List.set_cons_succ,cellsL,List.toList_toArray,splice,ev,rep,List.cons_append,List.nil_append] at H)))|((with_reducible first|refine w_lss_NN (λ_=>?_) (λ_=>?_)|refine w_geq_NN (λ_=>?_) (λ_=>?_))<;>first|(exfalso;omega)|skip)|((with_reducible refine w_add_NN ?_ ?_) ;omega)|((with_reducible apply w_loadsF 0 H) ;rfl;rfl;rfl)|((with_reducible apply w_loadsF 4 H) ;rfl;rfl;rfl))
  ·have le1:∀q ∈ [(i:Int)],q≤9223372036854775807:=by
    intro q hq
    simp only[List.mem_singleton] at hq
    omega
   have bst:B_1 g (A_k g i) i=setBits (A_k g i) true [(i:Int)]:=by
    unfold B_1
    rw[if_pos (by omega)];rfl
   refine w_call (cs (A_k g i) true [(i:Int)] _ _ _ bsm (by rw[bl];omega) (by simp) le1 (H.rd 2 rfl) (H.rdB (L:=[.int .i64 (.ofNat i)]) (n:=1) (c:=1) 0 rfl rfl (Nat.le_refl _))) λv6 u6 n6=>?_
   obtain⟨s6,rfl,n6⟩:=n6
   rw[←bst,←bstep] at n6
   unfold OW at n6
   rw[C_2] at n6
   obtain⟨a6,c6,rfl⟩:=n6.2.1.form
   replace n6:=n6.ones
   rw[←Wl_ones] at n6
   replace H:=H.call n6
   repeat' (first|(with_reducible refine w_st1A ?_)|((with_reducible refine w_add_NN ?_ ?_) ;omega)|((with_reducible apply w_storeV 2 H) ;rfl;rfl;rfl;omega;rfl;(clear H;intro u H hu;(try dsimp only[List.set_cons_zero,List.set_cons_succ,cellsL,List.toList_toArray,splice,ev,rep,List.cons_append,List.nil_append] at H))))
   replace H:=H.sel [2,0,4,5,6] 7 rfl (by decide) (by decide);dsimp only[List.filterMap_cons,List.filterMap_nil,List.getElem?_cons_zero,List.getElem?_cons_succ] at H
   replace H:=H.unfl 0 rfl
   dsimp only[List.set_cons_zero] at H
   refine ih (n-1) (by omega) (i+1) _ _ _ _ a6 c6 (by omega) ?_
   rw[hm1]
   exact H
  ·have le1:∀q ∈ [(i:Int)],q≤9223372036854775807:=by
    intro q hq
    simp only[List.mem_singleton] at hq
    omega
   have bst:B_1 g (A_k g i) i=setBits (A_k g i) true [(i:Int)]:=by
    unfold B_1
    rw[if_pos (by omega)];rfl
   refine w_call (cs (A_k g i) true [(i:Int)] _ _ _ bsm (by rw[bl];omega) (by simp) le1 (H.rd 2 rfl) (H.rdB (L:=[.int .i64 (.ofNat i)]) (n:=1) (c:=1) 0 rfl rfl (Nat.le_refl _))) λv6 u6 n6=>?_
   obtain⟨s6,rfl,n6⟩:=n6
   rw[←bst,←bstep] at n6
   unfold OW at n6
   rw[C_2] at n6
   obtain⟨a6,c6,rfl⟩:=n6.2.1.form
   replace n6:=n6.ones
   rw[←Wl_ones] at n6
   replace H:=H.call n6
   repeat' (first|(with_reducible refine w_st1A ?_)|((with_reducible refine w_add_NN ?_ ?_) ;omega)|((with_reducible apply w_storeV 2 H) ;rfl;rfl;rfl;omega;rfl;(clear H;intro u H hu;(try dsimp only[List.set_cons_zero,List.set_cons_succ,cellsL,List.toList_toArray,splice,ev,rep,List.cons_append,List.nil_append] at H))))
   replace H:=H.sel [2,0,4,5,6] 7 rfl (by decide) (by decide);dsimp only[List.filterMap_cons,List.filterMap_nil,List.getElem?_cons_zero,List.getElem?_cons_succ] at H
   replace H:=H.unfl 0 rfl
   dsimp only[List.set_cons_zero] at H
   refine ih (n-1) (by omega) (i+1) _ _ _ _ a6 c6 (by omega) ?_
   rw[hm1]
   exact H
  ·refine ih (n-1) (by omega) (i+1) _ _ _ _ a c (by omega) ?_
   rw[hm1,bstep,show B_1 g (A_k g i) i=A_k g i from if_neg (by omega)]
   exact H
  ·have ie:i=g.b:=by omega
   clear ih hm0
   rw[ie] at H bl
   repeat' (first|(refine w_callE (cbf g _ x) ?_)|(with_reducible refine w_fieldA ?_)|((with_reducible apply w_extr) ;rfl)|((with_reducible apply w_load 0 H) ;rfl;rfl;rfl))
   refine w_callV (cap:=[_]) ?_
   refine w_call (cput _ _ _ (g.bitsAt) (A_k g g.b) (W4) _ _ _ _ (l4) (by omega) (by omega) (by omega) (H.rd 1 rfl) (H.neR (i:=3) (j:=1) rfl rfl (by decide)) (H.lt 2 rfl) (H.lt 3 rfl) (H.ne (i:=2) (j:=3) rfl rfl (by decide)) (H.holds 2 rfl) (H.holds 3 rfl)) λr u1 hm=>?_
   obtain⟨rfl,mu,ho⟩:=hm
   replace H:=H.mut 3 rfl mu ho
   dsimp only[List.set_cons_zero,List.set_cons_succ] at H
   repeat' (first|((with_reducible apply w_load 2 H) ;rfl;rfl;rfl))
   have l5:(putW W4 (8*g.bitsAt) (A_k g g.b)).length=8*g.b:=by rw[B_n (by rw[l4];omega),l4]
   replace H:=H.osl 3 rfl (n:=8*g.b) (c:=8*g.b) (by rw[Wc_len,l5,Nat.mul_one]) (Nat.le_refl _)
   dsimp only[List.set_cons_zero,List.set_cons_succ] at H
   refine w_clrC (λv=>.tuple #[v,.int .i64 (.ofNat 0)]) 3 H rfl (λ_ _ _=>by simp[blkV,blkP,blkC]) (λ_ _ _ _=>rfl) λv' h' nn=>⟨_,rfl,?_⟩
   ·have e:N_o g=putW W4 (8*g.bitsAt) (A_k g g.b):=by unfold N_o;rw[←hw4,←hw3,←hw2,←hw1]
    rw[e];exact nn
 ·exact absurd x ‹_›
def imgV(g:Geo)(s:Value):Value:=.agg #[.int .i64 (.ofNat g.b),.int .i64 (.ofNat g.n),.int .i64 (.ofNat g.c),.int .i64 (.ofNat g.k),s]
def opened(l:List Nat):Option Geo:=((head1 l).or (head2 l)).map (·.1)
def COpen(R:RnK):Prop:=∀(l:List Nat)(v:Value)(h:Hs),Small l→l.length<100000→Rd h v 1 (Wl l) →
 (∀g,opened l=some g→WP (R 23 [v] h) λr h'=>∃s,r=.tuple #[imgV g s,.int .i64 (.ofNat 0)]∧New h h' (OW s l)) ∧
 (opened l=none→R 23 [v] h=some (.val (.tuple #[imgV ⟨0,0,0,0⟩ (.slice none 0 0),.int .i64 (.ofNat 13)]) h))
theorem or_none{α:Type}{a b:Option α}{β:Type}{f:α→β}(h:(a.or b).map f=none):a=none∧b=none:=by
 cases a with
 |none=>cases b with
  |none=>exact⟨rfl,rfl⟩
  |some b=>cases h
 |some a=>cases h
theorem open_no{R:RnK}{N:Nat}(cf:CFind R){l:List Nat}{v:Value}{h:Hs}(hl:Small l)(hb:l.length<100000)(r:Rd h v 1 (Wl l))(ho:opened l=none):r23 R N [v] h=some (.val (.tuple #[imgV ⟨0,0,0,0⟩ (.slice none 0 0),.int .i64 (.ofNat 13)]) h):=by
 refine WP.eqn ?_
 unfold r23
 have H:=Sto.enter1 r
 obtain⟨e1,e2⟩:=or_none ho
 have cfh:∀u,Rd u v 1 (Wl l)→R 42 [v] u=some (.val (.tuple #[headV ⟨0,0,0,0⟩ 0,.bool false,.bool false]) u):=λu q=>by
  rw[cf l v u hl hb q,e1,e2];rfl
 unfold headV at cfh
 repeat' (first|(refine w_callE (cfh _ (H.rd 1 rfl)) ?_)|(with_reducible first|refine w_jn ?_|refine w_cndT ?_|refine w_gTt ?_|refine w_pickT ?_|refine w_notF ?_|refine w_unC ?_|refine w_enK ?_)|((with_reducible apply w_extr) ;rfl)|((with_reducible apply w_build) ;rfl;(try dsimp only[splice,ev,cellsL,rep,List.cons_append,List.nil_append]))|((with_reducible refine w_alloc H ?_) ;(clear H;intro u H hu))|((with_reducible apply w_storeV 0 H) ;rfl;rfl;rfl;omega;rfl;(clear H;intro u H hu;(try dsimp only[List.set_cons_zero,List.set_cons_succ,cellsL,List.toList_toArray,splice,ev,rep,List.cons_append,List.nil_append] at H)))|((with_reducible apply w_storeV 1 H) ;rfl;rfl;rfl;omega;rfl;(clear H;intro u H hu;(try dsimp only[List.set_cons_zero,List.set_cons_succ,cellsL,List.toList_toArray,splice,ev,rep,List.cons_append,List.nil_append] at H)))|((with_reducible apply w_retC 1 H) ;rfl;rfl;rfl))
 exact w_clr H rfl ⟨rfl,rfl⟩
theorem open_ok{R:RnK}{N:Nat}(cf:CFind R)(cc:CCloneW R){l:List Nat}{v:Value}{h:Hs}{g:Geo}(hl:Small l)(hb:l.length<100000)(r:Rd h v 1 (Wl l))(ho:opened l=some g):WP (r23 R N [v] h) λr h'=>∃s,r=.tuple #[imgV g s,.int .i64 (.ofNat 0)]∧New h h' (OW s l):=by
 unfold r23
 have H:=Sto.enter1 r
 have cfh:∃(ph:Nat) (a b:Bool),(a||b)=true∧∀u,Rd u v 1 (Wl l)→R 42 [v] u=some (.val (.tuple #[headV g ph,.bool a,.bool b]) u):=by
  unfold opened at ho
  cases e1:head1 l with
  |some p=>
   rw[e1] at ho
   have:p.1=g:=by injection ho
   refine⟨p.2,true,(head2 l).isSome,rfl,λu q=>?_⟩
   rw[cf l v u hl hb q,e1,←this];rfl
  | none =>
   cases e2:head2 l with
   |none=>rw[e1,e2] at ho;cases ho
   |some p=>
    rw[e1,e2] at ho
    have:p.1=g:=by injection ho
    refine⟨p.2,false,true,rfl,λu q=>?_⟩
    rw[cf l v u hl hb q,e1,e2,←this];rfl
 obtain⟨ph,a,b,hab,cfh⟩:=cfh
 unfold headV at cfh
 cases a
 ·have hb':b=true:=hab
  subst hb'
  repeat' (first|(refine w_callE (cfh _ (H.rd 1 rfl)) ?_)|(with_reducible first|refine w_jn ?_|refine w_cndF ?_|refine w_gTt ?_|refine w_pickT ?_|refine w_notT ?_|refine w_notF ?_|refine w_unC ?_|refine w_enK ?_|refine w_fieldA ?_)|((with_reducible apply w_extr) ;rfl)|((with_reducible refine w_alloc H ?_) ;(clear H;intro u H hu))|((with_reducible apply w_storeV 0 H) ;rfl;rfl;rfl;omega;rfl;(clear H;intro u H hu;(try dsimp only[List.set_cons_zero,List.set_cons_succ,cellsL,List.toList_toArray,splice,ev,rep,List.cons_append,List.nil_append] at H)))|((with_reducible apply w_loads 0 H) ;rfl;rfl;rfl;rfl;(try dsimp only[List.drop_zero,List.drop_succ_cons,List.take_succ_cons,List.take_zero])))
  refine w_call (cc l _ _ hb (Rd.lo (H.rd 2 rfl) _)) λs u2 n=>?_
  refine w_light n λu3 n=>?_
  obtain⟨sa,sc,rfl⟩:=n.2.1.form
  replace H:=H.call n
  repeat' (first|(with_reducible refine w_blind ?_)|((with_reducible apply w_build) ;rfl;(try dsimp only[splice,ev,cellsL,rep,List.cons_append,List.nil_append]))|((with_reducible refine w_bar ?_ ?_) ;omega)|((with_reducible apply w_storeV 2 H) ;rfl;rfl;rfl;omega;rfl;(clear H;intro u H hu;(try dsimp only[List.set_cons_zero,List.set_cons_succ,cellsL,List.toList_toArray,splice,ev,rep,List.cons_append,List.nil_append] at H)))|((with_reducible apply w_retC 2 H) ;rfl;rfl;rfl))
  exact w_clrC (λv=>.tuple #[imgV g v,.int .i64 (.ofNat 0)]) 0 H rfl (λ_ _ _=>by simp[blkV,blkP,blkC,imgV]) (λ_ _ _ _=>rfl) λv' h' nn=>⟨_,rfl,nn⟩
 ·repeat' (first|(refine w_callE (cfh _ (H.rd 1 rfl)) ?_)|(with_reducible first|refine w_jn ?_|refine w_cndF ?_|refine w_gTf ?_|refine w_pickF ?_|refine w_notT ?_|refine w_unC ?_|refine w_enK ?_|refine w_fieldA ?_)|((with_reducible apply w_extr) ;rfl)|((with_reducible refine w_alloc H ?_) ;(clear H;intro u H hu))|((with_reducible apply w_storeV 0 H) ;rfl;rfl;rfl;omega;rfl;(clear H;intro u H hu;(try dsimp only[List.set_cons_zero,List.set_cons_succ,cellsL,List.toList_toArray,splice,ev,rep,List.cons_append,List.nil_append] at H)))|((with_reducible apply w_loads 0 H) ;rfl;rfl;rfl;rfl;(try dsimp only[List.drop_zero,List.drop_succ_cons,List.take_succ_cons,List.take_zero])))
  refine w_call (cc l _ _ hb (Rd.lo (H.rd 2 rfl) _)) λs u2 n=>?_
  refine w_light n λu3 n=>?_
  obtain⟨sa,sc,rfl⟩:=n.2.1.form
  replace H:=H.call n
  repeat' (first|(with_reducible refine w_blind ?_)|((with_reducible apply w_build) ;rfl;(try dsimp only[splice,ev,cellsL,rep,List.cons_append,List.nil_append]))|((with_reducible refine w_bar ?_ ?_) ;omega)|((with_reducible apply w_storeV 2 H) ;rfl;rfl;rfl;omega;rfl;(clear H;intro u H hu;(try dsimp only[List.set_cons_zero,List.set_cons_succ,cellsL,List.toList_toArray,splice,ev,rep,List.cons_append,List.nil_append] at H)))|((with_reducible apply w_retC 2 H) ;rfl;rfl;rfl))
  exact w_clrC (λv=>.tuple #[imgV g v,.int .i64 (.ofNat 0)]) 0 H rfl (λ_ _ _=>by simp[blkV,blkP,blkC,imgV]) (λ_ _ _ _=>rfl) λv' h' nn=>⟨_,rfl,nn⟩
end Go.Proofs.YtjddgepodiabkaaGreatDoor.checkSpoils
