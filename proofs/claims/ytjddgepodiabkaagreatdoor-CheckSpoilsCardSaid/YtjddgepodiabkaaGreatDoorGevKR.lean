/- The fast evaluator's operations are the evaluator's. -/
import Derived.Test.YtjddgepodiabkaaGreatDoorGevPS
import Derived.Test.YtjddgepodiabkaaGreatDoorGevMain
namespace Go.Gev
open Go.RowKit
def KRel(k:KOp)(g:GOp):Prop:=match k with
 |.pure pk=>∃(gf:En→Hs→Rs) (pf:En→Option Value),g=.fn gf∧(∀en h,gf en h=ret1 h (pf en))∧∀en K o,pk en K=some o→∃v,pf en=some v∧K v=some o
 |.read rk=>∃(gf:En→Hs→Rs) (rf:En→Hs→Option Value),g=.fn gf∧(∀en h,gf en h=ret1 h (rf en h))∧∀en h K o,rk en h K=some o→∃v,rf en h=some v∧K v=some o
 |.gen f=>∀(R:RnK) en h K o,f R en h K=some o→∀K':KV,(∀v h1,K v h1=some o→K' v h1=some o)→doOp (toRn R) en h K' g=some o
theorem I_p{R:Rn}{en:En}{h:Hs}{K K':KV}{g:GOp}{o:Out}(hd:doOp R en h K g=some o)(hk:∀v h1,K v h1=some o→K' v h1=some o):doOp R en h K' g=some o:=by
 have val:∀x:Option Out,isVal K x=some o→isVal K' x=some o:=λx hx=>by
  cases x with
  |none=>cases hx
  |some y=>cases y with
   |fin e fr h1=>cases hx
   |val v h1=>exact hk v h1 hx
 cases g with
 |fn g=>
  simp only[doOp] at hd ⊢
  cases hg:g en h with
  |none=>rw[hg] at hd;cases hd
  |some p=>rw[hg] at hd;exact hk _ _ hd
 |call f args=>exact val _ hd
 |callv f args=>exact val _ hd
theorem U_n(P:Program)(cx:Cx)(o:Oper):KRel (kopG P cx o) (gop P cx o):=λ_ _ _ _ _ hd _ hk=>I_p hd hk
theorem A_o{pk:En→(Value→An)→An}{gf:En→Hs→Rs}(pf:En→Option Value)(h1:∀en h,gf en h=ret1 h (pf en))(h2:∀en K o,pk en K=some o→∃v,pf en=some v∧K v=some o):KRel (.pure pk) (.fn gf):=
 ⟨gf,pf,rfl,h1,h2⟩
theorem C_o(pf:En→Option Value){gf:En→Hs→Rs}(h1:∀en h,gf en h=ret1 h (pf en)):KRel (I_2 pf) (.fn gf):=
 ⟨gf,pf,rfl,h1,λ_ _ _ h=>A_g h⟩
theorem J_l{gf:En→Hs→Rs}{f:En→Hs→Rs}(h1:gf=f):KRel (.gen λ_ en h K=>after K (f en h)) (.fn gf):=λ_ _ _ _ _ hd _ hk=>by
 subst h1
 exact I_p (g:=.fn gf) hd hk
noncomputable def gopN(P:Program)(cx:Cx)(o:Oper):GOp:=match gopS P cx o with
 |some g=>g
 |none=>.fn oBad
theorem U_c{P:Program}{cx:Cx}{o:Oper}(h:gopX P cx o=none):gop P cx o=gopN P cx o:=by unfold gop gopN;rw[h];rfl
theorem B_f{P:Program}{cx:Cx}{o:Oper}{g:GOp}(h:gopS P cx o=some g):gopN P cx o=g:=by unfold gopN;rw[h]
theorem U_k{P:Program}{cx:Cx}{o:Oper}{op:BinOp}{t yt:TypeId}{x y:Operand}{x' y':GX}{k:KOp}(ho:o.op=.binOp op t x y yt)(hx:gx cx x=some x')(hy:gx cx y=some y')(hk:kBin P op (orB (cstB x) (cstB y)) t x' y'=some k):KRel k (gopN P cx o):=by
 have hb:∀f,binF P op (orB (cstB x) (cstB y)) t=some f→gopN P cx o=.fn (oV2 f x' y'):=λf hf=>B_f (by simp[gopS,ho,hf,hx,hy])
 have hsh:op=.shl∨op=.shr∨(op≠.shl∧op≠.shr):=by cases op<;>simp
 rcases hsh with rfl|rfl|⟨h1,h2⟩
 ·simp only[kBin,Option.some.injEq] at hk
  subst hk
  rw[hb (sh2 .shl) rfl]
  exact A_o _ (λ_ _=>rfl) λ_ _ _ h=>Q_s h
 ·simp only[kBin,Option.some.injEq] at hk
  subst hk
  rw[hb (sh2 .shr) rfl]
  exact A_o _ (λ_ _=>rfl) λ_ _ _ h=>Q_t h
 ·have hbin:∀kd,P.underlying t=some (.int kd)→binF P op (orB (cstB x) (cstB y)) t=some (i2 (fOf op)):=λkd hu=>by
   cases op<;>first|(exact absurd rfl h1)|(exact absurd rfl h2)|(simp only[binF,hu])
  have hkb:kBin P op (orB (cstB x) (cstB y)) t x' y'=(match P.underlying t with
   |some (.int .i64)=>some (.pure λen K=>kI64 op (ev en x') (ev en y') K)
   |some (.int .u64)=>some (.pure λen K=>kU64 op (ev en x') (ev en y') K)
   |some (.int .u8)=>some (.pure λen K=>kU8 op (ev en x') (ev en y') K)
   |_=>match binF P op (orB (cstB x) (cstB y)) t with
    |some f=>some (I_2 λen=>f (ev en x') (ev en y'))
    |none=>none):=by
   cases op<;>first|(exact absurd rfl h1)|(exact absurd rfl h2)|rfl
  rw[hkb] at hk
  split at hk
  ·rename_i hu
   simp only[Option.some.injEq] at hk
   subst hk
   rw[hb _ (hbin _ hu)]
   exact A_o _ (λ_ _=>rfl) λ_ _ _ h=>Q_n h
  ·rename_i hu
   simp only[Option.some.injEq] at hk
   subst hk
   rw[hb _ (hbin _ hu)]
   exact A_o _ (λ_ _=>rfl) λ_ _ _ h=>Q_v h
  ·rename_i hu
   simp only[Option.some.injEq] at hk
   subst hk
   rw[hb _ (hbin _ hu)]
   exact A_o _ (λ_ _=>rfl) λ_ _ _ h=>U_m h
  ·split at hk
   ·rename_i f hf
    simp only[Option.some.injEq] at hk
    subst hk
    rw[hb f hf]
    exact C_o _ λ_ _=>rfl
   ·cases hk
theorem Q_h{P:Program}{cx:Cx}{o:Oper}{s d:TypeId}{x:Operand}{x':GX}{k:KOp}(ho:o.op=.convert s d x)(hx:gx cx x=some x')(hk:X_z P s d x'=some k):KRel k (gopN P cx o):=by
 have hI:∀k0 kd,P.underlying s=some (.int k0)→P.underlying d=some (.int kd)→gopN P cx o=.fn (R_m kd x'):=λk0 kd h1 h2=>B_f (by simp[gopS,ho,hx,h1,h2])
 unfold X_z at hk
 split at hk
 ·rename_i h1 h2
  simp only[Option.some.injEq] at hk
  subst hk
  rw[hI _ _ h1 h2]
  exact A_o (λen=>convI1 .i64 (ev en x')) (λ_ _=>rfl) λ_ _ _ h=>H_s W_i h
 ·rename_i h1 h2
  simp only[Option.some.injEq] at hk
  subst hk
  rw[hI _ _ h1 h2]
  exact A_o (λen=>convI1 .u64 (ev en x')) (λ_ _=>rfl) λ_ _ _ h=>H_s W_j h
 ·rename_i h1 h2
  simp only[Option.some.injEq] at hk
  subst hk
  rw[hI _ _ h1 h2]
  exact A_o (λen=>convI1 .u8 (ev en x')) (λ_ _=>rfl) λ_ _ _ h=>H_s a_q h
 ·rename_i h1 h2
  simp only[Option.some.injEq] at hk
  subst hk
  rw[hI _ _ h1 h2]
  exact C_o _ λ_ _=>rfl
 ·rename_i h1 h2
  simp only[Option.some.injEq] at hk
  subst hk
  have:gopN P cx o=.fn (R_n x'):=B_f (by simp[gopS,ho,hx,h1,h2])
  rw[this]
  exact C_o _ λ_ _=>rfl
 ·cases hk
set_option maxHeartbeats 1000000 in
theorem U_o{P:Program}{cx:Cx}{o:Oper}{k:KOp}(hk:kopS P cx o=some k):KRel k (gopN P cx o):=by
 unfold kopS at hk
 split at hk
 ·rename_i x ho
  simp only[Option.bind_eq_bind,Option.bind_eq_some_iff,Option.some.injEq] at hk
  obtain⟨y,hy,rfl⟩:=hk
  rw[B_f (show gopS P cx o=some (.fn (oMv y)) by simp[gopS,ho,hy])]
  exact A_o (λen=>some (ev en y)) (λ_ _=>rfl) λ_ _ _ h=>⟨_,rfl,h⟩
 ·rename_i x ho
  simp only[Option.bind_eq_bind,Option.bind_eq_some_iff,Option.some.injEq] at hk
  obtain⟨y,hy,rfl⟩:=hk
  rw[B_f (show gopS P cx o=some (.fn (oMv y)) by simp[gopS,ho,hy])]
  exact A_o (λen=>some (ev en y)) (λ_ _=>rfl) λ_ _ _ h=>⟨_,rfl,h⟩
 ·rename_i op t x y yt ho
  simp only[Option.bind_eq_bind,Option.bind_eq_some_iff] at hk
  obtain⟨x',hx,y',hy,hb⟩:=hk
  exact U_k ho hx hy hb
 ·rename_i op t x ho
  simp only[Option.bind_eq_bind,Option.bind_eq_some_iff] at hk
  obtain⟨y,hy,hb⟩:=hk
  have hg:gopN P cx o=.fn (oUn op y):=B_f (by simp[gopS,ho,hy])
  rw[hg]
  split at hb
  ·simp only[Option.some.injEq] at hb
   subst hb
   exact A_o (λen=>un .not (ev en y)) (λ_ _=>rfl) λ_ _ _ h=>Q_q h
  ·simp only[Option.some.injEq] at hb
   subst hb
   exact C_o _ λ_ _=>rfl
 ·rename_i s d x ho
  simp only[Option.bind_eq_bind,Option.bind_eq_some_iff] at hk
  obtain⟨y,hy,hb⟩:=hk
  exact Q_h ho hy hb
 ·rename_i t a ho
  simp only[Option.bind_eq_bind,Option.bind_eq_some_iff] at hk
  obtain⟨y,hy,n,hn,b,hb,hk⟩:=hk
  cases b with
  |true=>
   simp only[Option.some.injEq] at hk
   subst hk
   rw[B_f (show gopS P cx o=some (.fn (G_4 n y)) by simp[gopS,ho,hy,hn,hb])]
   exact⟨_,λen h=>ldsV n (ev en y) h,rfl,λen h=>R_p n y en h,λ_ _ _ _ h=>K_k h⟩
  |false=>
   simp only[Option.some.injEq] at hk
   subst hk
   rw[B_f (show gopS P cx o=some (.fn (N_w y)) by simp[gopS,ho,hy,hn,hb])]
   exact⟨_,λen h=>ldV (ev en y) h,rfl,λen h=>U_4 y en h,λ_ _ _ _ h=>N_j h⟩
 ·rename_i t a x ho
  simp only[Option.bind_eq_bind,Option.bind_eq_some_iff] at hk
  obtain⟨y,hy,z,hz,n,hn,hk⟩:=hk
  have hg:gopN P cx o=.fn (G_5 n y z):=B_f (by simp[gopS,ho,hy,hz,hn])
  rw[hg]
  split at hk
  ·simp only[Option.some.injEq] at hk
   subst hk
   intro R en h K out hd K' hK
   obtain⟨h1,hs,hk1⟩:=I_3 hd
   show after K' (G_5 1 y z en h)=some out
   unfold G_5
   rw[hs]
   exact hK _ _ hk1
  ·simp only[Option.some.injEq] at hk
   subst hk
   exact J_l rfl
 ·rename_i x ho
  simp only[Option.bind_eq_bind,Option.bind_eq_some_iff,Option.some.injEq] at hk
  obtain⟨y,hy,rfl⟩:=hk
  rw[B_f (show gopS P cx o=some (.fn (Y_p y)) by simp[gopS,ho,hy])]
  exact A_o (λen=>nilc1 (ev en y)) (λ_ _=>rfl) λ_ _ _ h=>Q_p h
 ·rename_i t x fk ho
  split at hk
  ·rename_i fs hu
   split at hk
   ·rename_i f hf
    simp only[Option.bind_eq_bind,Option.bind_eq_some_iff] at hk
    obtain⟨y,hy,n,hn,hk⟩:=hk
    split at hk
    ·cases hk
    ·rename_i hne
     simp only[Option.some.injEq] at hk
     subst hk
     rw[B_f (show gopS P cx o=some (.fn (K_y f.offset y)) by
      simp only[gopS,ho,hu,hf,hn,hy,Option.bind_eq_bind,Option.bind_some]
      rw[if_neg (λe=>hne e)])]
     exact A_o (λen=>F_p f.offset (addrOf (ev en y))) (λ_ _=>rfl) λ_ _ _ h=>I_1 h
   ·cases hk
  ·cases hk
 ·rename_i t x fk ho
  split at hk
  ·rename_i fs hu
   split at hk
   ·rename_i f hf
    simp only[Option.bind_eq_bind,Option.bind_eq_some_iff] at hk
    obtain⟨y,hy,b,hb,hk⟩:=hk
    cases b with
    |true=>
     simp only[Option.bind_eq_some_iff,Option.some.injEq] at hk
     obtain⟨n,hn,rfl⟩:=hk
     rw[B_f (show gopS P cx o=some (.fn (K_z f.offset n y)) by simp[gopS,ho,hu,hf,hn,hy,hb])]
     exact C_o _ λ_ _=>rfl
    |false=>
     simp only[Option.some.injEq] at hk
     subst hk
     rw[B_f (show gopS P cx o=some (.fn (R_o f.offset y)) by simp[gopS,ho,hu,hf,hy,hb])]
     exact A_o (λen=>field1 f.offset (ev en y)) (λ_ _=>rfl) λ_ _ _ h=>K_j h
   ·cases hk
  ·cases hk
 ·rename_i t x i ho
  split at hk
  ·rename_i e hu
   simp only[Option.bind_eq_bind,Option.bind_eq_some_iff,Option.some.injEq] at hk
   obtain⟨u,hsz,y,hy,z,hz,rfl⟩:=hk
   rw[B_f (show gopS P cx o=some (.fn (Y_j u y z)) by simp[gopS,ho,hu,hsz,hy,hz])]
   exact A_o (λen=>U_f u (natOf (ev en z)) (ev en y)) (λ_ _=>rfl) λ_ _ _ h=>N_g h
  ·rename_i n e hu
   simp only[Option.bind_eq_bind,Option.bind_eq_some_iff,Option.some.injEq] at hk
   obtain⟨u,hsz,y,hy,z,hz,rfl⟩:=hk
   rw[B_f (show gopS P cx o=some (.fn (K_0 u n y z)) by simp[gopS,ho,hu,hsz,hy,hz])]
   exact C_o _ λ_ _=>rfl
  ·cases hk
 ·rename_i x i ho
  simp only[Option.bind_eq_bind,Option.bind_eq_some_iff,Option.some.injEq] at hk
  obtain⟨y,hy,rfl⟩:=hk
  rw[B_f (show gopS P cx o=some (.fn (Y_i y i)) by simp[gopS,ho,hy])]
  exact A_o (λen=>extr1 i (ev en y)) (λ_ _=>rfl) λ_ _ _ h=>N_f h
 ·rename_i c ho
  split at hk
  ·rename_i f hc
   simp only[Option.bind_eq_bind,Option.bind_eq_some_iff,Option.some.injEq] at hk
   obtain⟨xs,hxs,rfl⟩:=hk
   rw[B_f (show gopS P cx o=some (.call f xs) by simp[gopS,ho,hc,hxs])]
   intro R en h K out hd K' hK
   obtain⟨v,h1,hr,hk1⟩:=D_j hd
   show isVal K' (R f (evL en xs) h)=some out
   rw[hr]
   exact hK _ _ hk1
  ·rename_i hc
   split at hk
   ·rename_i x ha ht
    simp only[Option.bind_eq_bind,Option.bind_eq_some_iff,Option.some.injEq] at hk
    obtain⟨y,hy,rfl⟩:=hk
    rw[B_f (show gopS P cx o=some (.fn (Y_l y)) by simp[gopS,ho,hc,ha,ht,hy])]
    exact A_o (λen=>Q_4 (ev en y)) (λ_ _=>rfl) λ_ _ _ h=>N_h h
   ·rename_i x e ha ht
    simp only[Option.bind_eq_bind,Option.bind_eq_some_iff,Option.some.injEq] at hk
    obtain⟨y,hy,rfl⟩:=hk
    rw[B_f (show gopS P cx o=some (.fn (Y_m y)) by simp[gopS,ho,hc,ha,ht,hy])]
    exact A_o (λen=>K_p (ev en y)) (λ_ _=>rfl) λ_ _ _ h=>N_i h
   ·cases hk
  ·cases hk
 ·cases hk
theorem Q_2(P:Program)(cx:Cx)(o:Oper):KRel (kop P cx o) (gop P cx o):=by
 unfold kop
 cases hX:gopX P cx o with
 |some g=>
  have:gop P cx o=.fn g:=by unfold gop;rw[hX]
  rw[this]
  exact J_l rfl
 |none=>
  simp only
  cases h:kopS P cx o with
  |none=>exact U_n P cx o
  |some k=>rw[U_c hX];exact U_o h
end Go.Gev
