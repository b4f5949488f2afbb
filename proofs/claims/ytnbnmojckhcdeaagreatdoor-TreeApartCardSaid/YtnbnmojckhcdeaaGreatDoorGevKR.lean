import Derived.Test.YtnbnmojckhcdeaaGreatDoorGevPS
import Derived.Test.YtnbnmojckhcdeaaGreatDoorGevMain
namespace Go.Gev
open Go.RowKit
def KRel(k:KOp)(g:GOp):Prop:=match k with
 |.pure pk=>∃(gf:En→Hs→Rs) (pf:En→Option Value),g=.fn gf∧(∀en h,gf en h=ret1 h (pf en))∧∀en K o,pk en K=some o→∃v,pf en=some v∧K v=some o
 |.read rk=>∃(gf:En→Hs→Rs) (rf:En→Hs→Option Value),g=.fn gf∧(∀en h,gf en h=ret1 h (rf en h))∧∀en h K o,rk en h K=some o→∃v,rf en h=some v∧K v=some o
 |.gen f=>∀(R:RnK) en h K o,f R en h K=some o→∀K':KV,(∀v h1,K v h1=some o→K' v h1=some o)→doOp (toRn R) en h K' g=some o
theorem X_g{R:Rn}{en:En}{h:Hs}{K K':KV}{g:GOp}{o:Out}(hd:doOp R en h K g=some o)(hk:∀v h1,K v h1=some o→K' v h1=some o):doOp R en h K' g=some o:=by
 have val:∀x:Option Out,L_2 K x=some o→L_2 K' x=some o:=λx hx=>by
  cases x with
  |none=>cases hx
  |some y=>cases y with
   |fin e fr h1=>cases hx
   |val v h1=>exact hk v h1 hx
 cases g with
 |fn g=>
  simp only[doOp] at hd ⊢
  cases hg:g en h with
  |none=>rw[hg] at hd;cases hd
  |some p=>rw[hg] at hd;exact hk _ _ hd
 |call f args=>exact val _ hd
 |callv f args=>exact val _ hd
theorem t_l(P:Program)(cx:Cx)(o:Oper):KRel (kopG P cx o) (gop P cx o):=λ_ _ _ _ _ hd _ hk=>X_g hd hk
theorem E_d{pk:En→(Value→An)→An}{gf:En→Hs→Rs}(pf:En→Option Value)(h1:∀en h,gf en h=ret1 h (pf en))(h2:∀en K o,pk en K=some o→∃v,pf en=some v∧K v=some o):KRel (.pure pk) (.fn gf):=
 ⟨gf,pf,rfl,h1,h2⟩
theorem K_o(pf:En→Option Value){gf:En→Hs→Rs}(h1:∀en h,gf en h=ret1 h (pf en)):KRel (X_4 pf) (.fn gf):=
 ⟨gf,pf,rfl,h1,λ_ _ _ h=>C_q h⟩
theorem Y_p{gf:En→Hs→Rs}{f:En→Hs→Rs}(h1:gf=f):KRel (.gen λ_ en h K=>after K (f en h)) (.fn gf):=λ_ _ _ _ _ hd _ hk=>by
 subst h1
 exact X_g (g:=.fn gf) hd hk
noncomputable def gopN(P:Program)(cx:Cx)(o:Oper):GOp:=match gopS P cx o with
 |some g=>g
 |none=>.fn oBad
theorem s_3{P:Program}{cx:Cx}{o:Oper}(h:gopX P cx o=none):gop P cx o=gopN P cx o:=by unfold gop gopN;rw[h];rfl
theorem H_e{P:Program}{cx:Cx}{o:Oper}{g:GOp}(h:gopS P cx o=some g):gopN P cx o=g:=by unfold gopN;rw[h]
theorem t_e{P:Program}{cx:Cx}{o:Oper}{op:BinOp}{t yt:TypeId}{x y:Operand}{x' y':GX}{k:KOp}(ho:o.op=.binOp op t x y yt)(hx:gx cx x=some x')(hy:gx cx y=some y')(hk:kBin P op (orB (cstB x) (cstB y)) t x' y'=some k):KRel k (gopN P cx o):=by
 have hb:∀f,binF P op (orB (cstB x) (cstB y)) t=some f→gopN P cx o=.fn (oV2 f x' y'):=λf hf=>H_e (by simp[gopS,ho,hf,hx,hy])
 have hsh:op=.shl∨op=.shr∨(op≠.shl∧op≠.shr):=by cases op<;>simp
 rcases hsh with rfl|rfl|⟨h1,h2⟩
 ·simp only[kBin,sjE] at hk
  subst hk
  rw[hb (sh2 .shl) rfl]
  exact E_d _ (λ_ _=>rfl) λ_ _ _ h=>m_o h
 ·simp only[kBin,sjE] at hk
  subst hk
  rw[hb (sh2 .shr) rfl]
  exact E_d _ (λ_ _=>rfl) λ_ _ _ h=>m_p h
 ·have hbin:∀kd,P.underlying t=some (.int kd)→binF P op (orB (cstB x) (cstB y)) t=some (i2 (fOf op)):=λkd hu=>by
   cases op<;>first|(exact absurd rfl h1)|(exact absurd rfl h2)|(simp only[binF,hu])
  have hkb:kBin P op (orB (cstB x) (cstB y)) t x' y'=(match P.underlying t with
   |some (.int .i64)=>some (.pure λen K=>kI64 op (ev en x') (ev en y') K)
   |some (.int .u64)=>some (.pure λen K=>kU64 op (ev en x') (ev en y') K)
   |some (.int .u8)=>some (.pure λen K=>kU8 op (ev en x') (ev en y') K)
   |_=>match binF P op (orB (cstB x) (cstB y)) t with
    |some f=>some (X_4 λen=>f (ev en x') (ev en y'))
    |none=>none):=by
   cases op<;>first|(exact absurd rfl h1)|(exact absurd rfl h2)|rfl
  rw[hkb] at hk
  split at hk
  ·rename_i hu
   simp only[sjE] at hk
   subst hk
   rw[hb _ (hbin _ hu)]
   exact E_d _ (λ_ _=>rfl) λ_ _ _ h=>m_j h
  ·rename_i hu
   simp only[sjE] at hk
   subst hk
   rw[hb _ (hbin _ hu)]
   exact E_d _ (λ_ _=>rfl) λ_ _ _ h=>m_w h
  ·rename_i hu
   simp only[sjE] at hk
   subst hk
   rw[hb _ (hbin _ hu)]
   exact E_d _ (λ_ _=>rfl) λ_ _ _ h=>t_f h
  ·split at hk
   ·rename_i f hf
    simp only[sjE] at hk
    subst hk
    rw[hb f hf]
    exact K_o _ λ_ _=>rfl
   ·cases hk
theorem m_d{P:Program}{cx:Cx}{o:Oper}{s d:TypeId}{x:Operand}{x':GX}{k:KOp}(ho:o.op=.convert s d x)(hx:gx cx x=some x')(hk:x_9 P s d x'=some k):KRel k (gopN P cx o):=by
 have hI:∀k0 kd,P.underlying s=some (.int k0)→P.underlying d=some (.int kd)→gopN P cx o=.fn (n_5 kd x'):=λk0 kd h1 h2=>H_e (by simp[gopS,ho,hx,h1,h2])
 unfold x_9 at hk
 split at hk
 ·rename_i h1 h2
  simp only[sjE] at hk
  subst hk
  rw[hI _ _ h1 h2]
  exact E_d (λen=>N_c .i64 (ev en x')) (λ_ _=>rfl) λ_ _ _ h=>V_s v_y h
 ·rename_i h1 h2
  simp only[sjE] at hk
  subst hk
  rw[hI _ _ h1 h2]
  exact E_d (λen=>N_c .u64 (ev en x')) (λ_ _=>rfl) λ_ _ _ h=>V_s v_z h
 ·rename_i h1 h2
  simp only[sjE] at hk
  subst hk
  rw[hI _ _ h1 h2]
  exact E_d (λen=>N_c .u8 (ev en x')) (λ_ _=>rfl) λ_ _ _ h=>V_s Ah0 h
 ·rename_i h1 h2
  simp only[sjE] at hk
  subst hk
  rw[hI _ _ h1 h2]
  exact K_o _ λ_ _=>rfl
 ·rename_i h1 h2
  simp only[sjE] at hk
  subst hk
  have:gopN P cx o=.fn (n_6 x'):=H_e (by simp[gopS,ho,hx,h1,h2])
  rw[this]
  exact K_o _ λ_ _=>rfl
 ·cases hk
set_option maxHeartbeats 1000000 in
theorem t_m{P:Program}{cx:Cx}{o:Oper}{k:KOp}(hk:kopS P cx o=some k):KRel k (gopN P cx o):=by
 unfold kopS at hk
 split at hk
 ·rename_i x ho
  simp only[bqB,bqS,sjE] at hk
  obtain⟨y,hy,rfl⟩:=hk
  rw[H_e (show gopS P cx o=some (.fn (oMv y)) by simp[gopS,ho,hy])]
  exact E_d (λen=>some (ev en y)) (λ_ _=>rfl) λ_ _ _ h=>⟨_,rfl,h⟩
 ·rename_i x ho
  simp only[bqB,bqS,sjE] at hk
  obtain⟨y,hy,rfl⟩:=hk
  rw[H_e (show gopS P cx o=some (.fn (oMv y)) by simp[gopS,ho,hy])]
  exact E_d (λen=>some (ev en y)) (λ_ _=>rfl) λ_ _ _ h=>⟨_,rfl,h⟩
 ·rename_i op t x y yt ho
  simp only[bqB,bqS] at hk
  obtain⟨x',hx,y',hy,hb⟩:=hk
  exact t_e ho hx hy hb
 ·rename_i op t x ho
  simp only[bqB,bqS] at hk
  obtain⟨y,hy,hb⟩:=hk
  have hg:gopN P cx o=.fn (oUn op y):=H_e (by simp[gopS,ho,hy])
  rw[hg]
  split at hb
  ·simp only[sjE] at hb
   subst hb
   exact E_d (λen=>un .not (ev en y)) (λ_ _=>rfl) λ_ _ _ h=>m_m h
  ·simp only[sjE] at hb
   subst hb
   exact K_o _ λ_ _=>rfl
 ·rename_i s d x ho
  simp only[bqB,bqS] at hk
  obtain⟨y,hy,hb⟩:=hk
  exact m_d ho hy hb
 ·rename_i t a ho
  simp only[bqB,bqS] at hk
  obtain⟨y,hy,n,hn,b,hb,hk⟩:=hk
  cases b with
  |true=>
   simp only[sjE] at hk
   subst hk
   rw[H_e (show gopS P cx o=some (.fn (U_l n y)) by simp[gopS,ho,hy,hn,hb])]
   exact⟨_,λen h=>ldsV n (ev en y) h,rfl,λen h=>n_9 n y en h,λ_ _ _ _ h=>Z_7 h⟩
  |false=>
   simp only[sjE] at hk
   subst hk
   rw[H_e (show gopS P cx o=some (.fn (h_s y)) by simp[gopS,ho,hy,hn,hb])]
   exact⟨_,λen h=>ldV (ev en y) h,rfl,λen h=>t_3 y en h,λ_ _ _ _ h=>g_k h⟩
 ·rename_i t a x ho
  simp only[bqB,bqS] at hk
  obtain⟨y,hy,z,hz,n,hn,hk⟩:=hk
  have hg:gopN P cx o=.fn (U_m n y z):=H_e (by simp[gopS,ho,hy,hz,hn])
  rw[hg]
  split at hk
  ·simp only[sjE] at hk
   subst hk
   intro R en h K out hd K' hK
   obtain⟨h1,hs,hk1⟩:=X_5 hd
   show after K' (U_m 1 y z en h)=some out
   unfold U_m
   rw[hs]
   exact hK _ _ hk1
  ·simp only[sjE] at hk
   subst hk
   exact Y_p rfl
 ·rename_i x ho
  simp only[bqB,bqS,sjE] at hk
  obtain⟨y,hy,rfl⟩:=hk
  rw[H_e (show gopS P cx o=some (.fn (y_4 y)) by simp[gopS,ho,hy])]
  exact E_d (λen=>nilc1 (ev en y)) (λ_ _=>rfl) λ_ _ _ h=>m_l h
 ·rename_i t x fk ho
  split at hk
  ·rename_i fs hu
   split at hk
   ·rename_i f hf
    simp only[bqB,bqS] at hk
    obtain⟨y,hy,n,hn,hk⟩:=hk
    split at hk
    ·cases hk
    ·rename_i hne
     simp only[sjE] at hk
     subst hk
     rw[H_e (show gopS P cx o=some (.fn (a_s f.offset y)) by
      simp only[gopS,ho,hu,hf,hn,hy,bqB,Option.bind_some]
      rw[if_neg (λe=>hne e)])]
     exact E_d (λen=>Q_9 f.offset (addrOf (ev en y))) (λ_ _=>rfl) λ_ _ _ h=>X_3 h
   ·cases hk
  ·cases hk
 ·rename_i t x fk ho
  split at hk
  ·rename_i fs hu
   split at hk
   ·rename_i f hf
    simp only[bqB,bqS] at hk
    obtain⟨y,hy,b,hb,hk⟩:=hk
    cases b with
    |true=>
     simp only[bqS,sjE] at hk
     obtain⟨n,hn,rfl⟩:=hk
     rw[H_e (show gopS P cx o=some (.fn (a_t f.offset n y)) by simp[gopS,ho,hu,hf,hn,hy,hb])]
     exact K_o _ λ_ _=>rfl
    |false=>
     simp only[sjE] at hk
     subst hk
     rw[H_e (show gopS P cx o=some (.fn (n_7 f.offset y)) by simp[gopS,ho,hu,hf,hy,hb])]
     exact E_d (λen=>field1 f.offset (ev en y)) (λ_ _=>rfl) λ_ _ _ h=>Z_5 h
   ·cases hk
  ·cases hk
 ·rename_i t x i ho
  split at hk
  ·rename_i e hu
   simp only[bqB,bqS,sjE] at hk
   obtain⟨u,hsz,y,hy,z,hz,rfl⟩:=hk
   rw[H_e (show gopS P cx o=some (.fn (y_y u y z)) by simp[gopS,ho,hu,hsz,hy,hz])]
   exact E_d (λen=>s_7 u (E_x (ev en z)) (ev en y)) (λ_ _=>rfl) λ_ _ _ h=>g_h h
  ·rename_i n e hu
   simp only[bqB,bqS,sjE] at hk
   obtain⟨u,hsz,y,hy,z,hz,rfl⟩:=hk
   rw[H_e (show gopS P cx o=some (.fn (a_u u n y z)) by simp[gopS,ho,hu,hsz,hy,hz])]
   exact K_o _ λ_ _=>rfl
  ·cases hk
 ·rename_i x i ho
  simp only[bqB,bqS,sjE] at hk
  obtain⟨y,hy,rfl⟩:=hk
  rw[H_e (show gopS P cx o=some (.fn (y_x y i)) by simp[gopS,ho,hy])]
  exact E_d (λen=>extr1 i (ev en y)) (λ_ _=>rfl) λ_ _ _ h=>g_g h
 ·rename_i c ho
  split at hk
  ·rename_i f hc
   simp only[bqB,bqS,sjE] at hk
   obtain⟨xs,hxs,rfl⟩:=hk
   rw[H_e (show gopS P cx o=some (.call f xs) by simp[gopS,ho,hc,hxs])]
   intro R en h K out hd K' hK
   obtain⟨v,h1,hr,hk1⟩:=M_r hd
   show L_2 K' (R f (evL en xs) h)=some out
   rw[hr]
   exact hK _ _ hk1
  ·rename_i hc
   split at hk
   ·rename_i x ha ht
    simp only[bqB,bqS,sjE] at hk
    obtain⟨y,hy,rfl⟩:=hk
    rw[H_e (show gopS P cx o=some (.fn (y_0 y)) by simp[gopS,ho,hc,ha,ht,hy])]
    exact E_d (λen=>m_8 (ev en y)) (λ_ _=>rfl) λ_ _ _ h=>g_i h
   ·rename_i x e ha ht
    simp only[bqB,bqS,sjE] at hk
    obtain⟨y,hy,rfl⟩:=hk
    rw[H_e (show gopS P cx o=some (.fn (y_1 y)) by simp[gopS,ho,hc,ha,ht,hy])]
    exact E_d (λen=>a_d (ev en y)) (λ_ _=>rfl) λ_ _ _ h=>g_j h
   ·cases hk
  ·cases hk
 ·cases hk
theorem m_6(P:Program)(cx:Cx)(o:Oper):KRel (kop P cx o) (gop P cx o):=by
 unfold kop
 cases hX:gopX P cx o with
 |some g=>
  have:gop P cx o=.fn g:=by unfold gop;rw[hX]
  rw[this]
  exact Y_p rfl
 |none=>
  simp only
  cases h:kopS P cx o with
  |none=>exact t_l P cx o
  |some k=>rw[s_3 hX];exact t_m h
end Go.Gev
