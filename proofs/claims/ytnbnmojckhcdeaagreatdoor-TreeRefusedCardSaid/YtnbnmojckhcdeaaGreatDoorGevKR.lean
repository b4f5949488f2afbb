import Derived.Test.YtnbnmojckhcdeaaGreatDoorGevPS
import Derived.Test.YtnbnmojckhcdeaaGreatDoorGevMain
namespace Go.Gev
open Go.RowKit
def KRel(k:KOp)(g:GOp):Prop:=match k with
 |.pure pk=>∃(gf:En→Hs→Rs) (pf:En→Option Value),g=.fn gf∧(∀en h,gf en h=ret1 h (pf en))∧∀en K o,pk en K=some o→∃v,pf en=some v∧K v=some o
 |.read rk=>∃(gf:En→Hs→Rs) (rf:En→Hs→Option Value),g=.fn gf∧(∀en h,gf en h=ret1 h (rf en h))∧∀en h K o,rk en h K=some o→∃v,rf en h=some v∧K v=some o
 |.gen f=>∀(R:RnK) en h K o,f R en h K=some o→∀K':KV,(∀v h1,K v h1=some o→K' v h1=some o)→doOp (toRn R) en h K' g=some o
theorem O_j{R:Rn}{en:En}{h:Hs}{K K':KV}{g:GOp}{o:Out}(hd:doOp R en h K g=some o)(hk:∀v h1,K v h1=some o→K' v h1=some o):doOp R en h K' g=some o:=by
 have val:∀x:Option Out,G_a K x=some o→G_a K' x=some o:=λx hx=>by
  cases x with
  |none=>cases hx
  |some y=>cases y with
   |fin e fr h1=>cases hx
   |val v h1=>exact hk v h1 hx
 cases g with
 |fn g=>
  simp only[doOp] at hd ⊢
  cases hg:g en h with
  |none=>rw[hg] at hd;cases hd
  |some p=>rw[hg] at hd;exact hk _ _ hd
 |call f args=>exact val _ hd
 |callv f args=>exact val _ hd
theorem d_2(P:Program)(cx:Cx)(o:Oper):KRel (kopG P cx o) (gop P cx o):=λ_ _ _ _ _ hd _ hk=>O_j hd hk
theorem B_p{pk:En→(Value→An)→An}{gf:En→Hs→Rs}(pf:En→Option Value)(h1:∀en h,gf en h=ret1 h (pf en))(h2:∀en K o,pk en K=some o→∃v,pf en=some v∧K v=some o):KRel (.pure pk) (.fn gf):=
 ⟨gf,pf,rfl,h1,h2⟩
theorem F_e(pf:En→Option Value){gf:En→Hs→Rs}(h1:∀en h,gf en h=ret1 h (pf en)):KRel (O_2 pf) (.fn gf):=
 ⟨gf,pf,rfl,h1,λ_ _ _ h=>A_0 h⟩
theorem P_n{gf:En→Hs→Rs}{f:En→Hs→Rs}(h1:gf=f):KRel (.gen λ_ en h K=>after K (f en h)) (.fn gf):=λ_ _ _ _ _ hd _ hk=>by
 subst h1
 exact O_j (g:=.fn gf) hd hk
noncomputable def gopN(P:Program)(cx:Cx)(o:Oper):GOp:=match gopS P cx o with
 |some g=>g
 |none=>.fn oBad
theorem d_l{P:Program}{cx:Cx}{o:Oper}(h:gopX P cx o=none):gop P cx o=gopN P cx o:=by unfold gop gopN;rw[h];rfl
theorem D_d{P:Program}{cx:Cx}{o:Oper}{g:GOp}(h:gopS P cx o=some g):gopN P cx o=g:=by unfold gopN;rw[h]
theorem d_w{P:Program}{cx:Cx}{o:Oper}{op:BinOp}{t yt:TypeId}{x y:Operand}{x' y':GX}{k:KOp}(ho:o.op=.binOp op t x y yt)(hx:gx cx x=some x')(hy:gx cx y=some y')(hk:kBin P op (orB (cstB x) (cstB y)) t x' y'=some k):KRel k (gopN P cx o):=by
 have hb:∀f,binF P op (orB (cstB x) (cstB y)) t=some f→gopN P cx o=.fn (oV2 f x' y'):=λf hf=>D_d (by simp[gopS,ho,hf,hx,hy])
 have hsh:op=.shl∨op=.shr∨(op≠.shl∧op≠.shr):=by cases op<;>simp
 rcases hsh with rfl|rfl|⟨h1,h2⟩
 ·simp only[kBin,sjE] at hk
  subst hk
  rw[hb (sh2 .shl) rfl]
  exact B_p _ (λ_ _=>rfl) λ_ _ _ h=>Y_n h
 ·simp only[kBin,sjE] at hk
  subst hk
  rw[hb (sh2 .shr) rfl]
  exact B_p _ (λ_ _=>rfl) λ_ _ _ h=>Y_o h
 ·have hbin:∀kd,P.underlying t=some (.int kd)→binF P op (orB (cstB x) (cstB y)) t=some (i2 (fOf op)):=λkd hu=>by
   cases op<;>first|(exact absurd rfl h1)|(exact absurd rfl h2)|(simp only[binF,hu])
  have hkb:kBin P op (orB (cstB x) (cstB y)) t x' y'=(match P.underlying t with
   |some (.int .i64)=>some (.pure λen K=>kI64 op (ev en x') (ev en y') K)
   |some (.int .u64)=>some (.pure λen K=>kU64 op (ev en x') (ev en y') K)
   |some (.int .u8)=>some (.pure λen K=>kU8 op (ev en x') (ev en y') K)
   |_=>match binF P op (orB (cstB x) (cstB y)) t with
    |some f=>some (O_2 λen=>f (ev en x') (ev en y'))
    |none=>none):=by
   cases op<;>first|(exact absurd rfl h1)|(exact absurd rfl h2)|rfl
  rw[hkb] at hk
  split at hk
  ·rename_i hu
   simp only[sjE] at hk
   subst hk
   rw[hb _ (hbin _ hu)]
   exact B_p _ (λ_ _=>rfl) λ_ _ _ h=>Y_i h
  ·rename_i hu
   simp only[sjE] at hk
   subst hk
   rw[hb _ (hbin _ hu)]
   exact B_p _ (λ_ _=>rfl) λ_ _ _ h=>Y_q h
  ·rename_i hu
   simp only[sjE] at hk
   subst hk
   rw[hb _ (hbin _ hu)]
   exact B_p _ (λ_ _=>rfl) λ_ _ _ h=>d_x h
  ·split at hk
   ·rename_i f hf
    simp only[sjE] at hk
    subst hk
    rw[hb f hf]
    exact F_e _ λ_ _=>rfl
   ·cases hk
theorem Y_c{P:Program}{cx:Cx}{o:Oper}{s d:TypeId}{x:Operand}{x':GX}{k:KOp}(ho:o.op=.convert s d x)(hx:gx cx x=some x')(hk:i_v P s d x'=some k):KRel k (gopN P cx o):=by
 have hI:∀k0 kd,P.underlying s=some (.int k0)→P.underlying d=some (.int kd)→gopN P cx o=.fn (Z_l kd x'):=λk0 kd h1 h2=>D_d (by simp[gopS,ho,hx,h1,h2])
 unfold i_v at hk
 split at hk
 ·rename_i h1 h2
  simp only[sjE] at hk
  subst hk
  rw[hI _ _ h1 h2]
  exact B_p (λen=>G_5 .i64 (ev en x')) (λ_ _=>rfl) λ_ _ _ h=>M_7 g_d h
 ·rename_i h1 h2
  simp only[sjE] at hk
  subst hk
  rw[hI _ _ h1 h2]
  exact B_p (λen=>G_5 .u64 (ev en x')) (λ_ _=>rfl) λ_ _ _ h=>M_7 g_e h
 ·rename_i h1 h2
  simp only[sjE] at hk
  subst hk
  rw[hI _ _ h1 h2]
  exact B_p (λen=>G_5 .u8 (ev en x')) (λ_ _=>rfl) λ_ _ _ h=>M_7 m_w h
 ·rename_i h1 h2
  simp only[sjE] at hk
  subst hk
  rw[hI _ _ h1 h2]
  exact F_e _ λ_ _=>rfl
 ·rename_i h1 h2
  simp only[sjE] at hk
  subst hk
  have:gopN P cx o=.fn (Z_m x'):=D_d (by simp[gopS,ho,hx,h1,h2])
  rw[this]
  exact F_e _ λ_ _=>rfl
 ·cases hk
set_option maxHeartbeats 1000000 in
theorem d_3{P:Program}{cx:Cx}{o:Oper}{k:KOp}(hk:kopS P cx o=some k):KRel k (gopN P cx o):=by
 unfold kopS at hk
 split at hk
 ·rename_i x ho
  simp only[bqB,bqS,sjE] at hk
  obtain⟨y,hy,rfl⟩:=hk
  rw[D_d (show gopS P cx o=some (.fn (oMv y)) by simp[gopS,ho,hy])]
  exact B_p (λen=>some (ev en y)) (λ_ _=>rfl) λ_ _ _ h=>⟨_,rfl,h⟩
 ·rename_i x ho
  simp only[bqB,bqS,sjE] at hk
  obtain⟨y,hy,rfl⟩:=hk
  rw[D_d (show gopS P cx o=some (.fn (oMv y)) by simp[gopS,ho,hy])]
  exact B_p (λen=>some (ev en y)) (λ_ _=>rfl) λ_ _ _ h=>⟨_,rfl,h⟩
 ·rename_i op t x y yt ho
  simp only[bqB,bqS] at hk
  obtain⟨x',hx,y',hy,hb⟩:=hk
  exact d_w ho hx hy hb
 ·rename_i op t x ho
  simp only[bqB,bqS] at hk
  obtain⟨y,hy,hb⟩:=hk
  have hg:gopN P cx o=.fn (oUn op y):=D_d (by simp[gopS,ho,hy])
  rw[hg]
  split at hb
  ·simp only[sjE] at hb
   subst hb
   exact B_p (λen=>un .not (ev en y)) (λ_ _=>rfl) λ_ _ _ h=>Y_l h
  ·simp only[sjE] at hb
   subst hb
   exact F_e _ λ_ _=>rfl
 ·rename_i s d x ho
  simp only[bqB,bqS] at hk
  obtain⟨y,hy,hb⟩:=hk
  exact Y_c ho hy hb
 ·rename_i t a ho
  simp only[bqB,bqS] at hk
  obtain⟨y,hy,n,hn,b,hb,hk⟩:=hk
  cases b with
  |true=>
   simp only[sjE] at hk
   subst hk
   rw[D_d (show gopS P cx o=some (.fn (L_7 n y)) by simp[gopS,ho,hy,hn,hb])]
   exact⟨_,λen h=>ldsV n (ev en y) h,rfl,λen h=>Z_o n y en h,λ_ _ _ _ h=>Q_s h⟩
  |false=>
   simp only[sjE] at hk
   subst hk
   rw[D_d (show gopS P cx o=some (.fn (V_k y)) by simp[gopS,ho,hy,hn,hb])]
   exact⟨_,λen h=>ldV (ev en y) h,rfl,λen h=>e_k y en h,λ_ _ _ _ h=>U_3 h⟩
 ·rename_i t a x ho
  simp only[bqB,bqS] at hk
  obtain⟨y,hy,z,hz,n,hn,hk⟩:=hk
  have hg:gopN P cx o=.fn (L_8 n y z):=D_d (by simp[gopS,ho,hy,hz,hn])
  rw[hg]
  split at hk
  ·simp only[sjE] at hk
   subst hk
   intro R en h K out hd K' hK
   obtain⟨h1,hs,hk1⟩:=O_3 hd
   show after K' (L_8 1 y z en h)=some out
   unfold L_8
   rw[hs]
   exact hK _ _ hk1
  ·simp only[sjE] at hk
   subst hk
   exact P_n rfl
 ·rename_i x ho
  simp only[bqB,bqS,sjE] at hk
  obtain⟨y,hy,rfl⟩:=hk
  rw[D_d (show gopS P cx o=some (.fn (j_q y)) by simp[gopS,ho,hy])]
  exact B_p (λen=>nilc1 (ev en y)) (λ_ _=>rfl) λ_ _ _ h=>Y_k h
 ·rename_i t x fk ho
  split at hk
  ·rename_i fs hu
   split at hk
   ·rename_i f hf
    simp only[bqB,bqS] at hk
    obtain⟨y,hy,n,hn,hk⟩:=hk
    split at hk
    ·cases hk
    ·rename_i hne
     simp only[sjE] at hk
     subst hk
     rw[D_d (show gopS P cx o=some (.fn (Q_8 f.offset y)) by
      simp only[gopS,ho,hu,hf,hn,hy,bqB,Option.bind_some]
      rw[if_neg (λe=>hne e)])]
     exact B_p (λen=>J_9 f.offset (addrOf (ev en y))) (λ_ _=>rfl) λ_ _ _ h=>O_1 h
   ·cases hk
  ·cases hk
 ·rename_i t x fk ho
  split at hk
  ·rename_i fs hu
   split at hk
   ·rename_i f hf
    simp only[bqB,bqS] at hk
    obtain⟨y,hy,b,hb,hk⟩:=hk
    cases b with
    |true=>
     simp only[bqS,sjE] at hk
     obtain⟨n,hn,rfl⟩:=hk
     rw[D_d (show gopS P cx o=some (.fn (Q_9 f.offset n y)) by simp[gopS,ho,hu,hf,hn,hy,hb])]
     exact F_e _ λ_ _=>rfl
    |false=>
     simp only[sjE] at hk
     subst hk
     rw[D_d (show gopS P cx o=some (.fn (Z_n f.offset y)) by simp[gopS,ho,hu,hf,hy,hb])]
     exact B_p (λen=>field1 f.offset (ev en y)) (λ_ _=>rfl) λ_ _ _ h=>Q_r h
   ·cases hk
  ·cases hk
 ·rename_i t x i ho
  split at hk
  ·rename_i e hu
   simp only[bqB,bqS,sjE] at hk
   obtain⟨u,hsz,y,hy,z,hz,rfl⟩:=hk
   rw[D_d (show gopS P cx o=some (.fn (j_k u y z)) by simp[gopS,ho,hu,hsz,hy,hz])]
   exact B_p (λen=>d_p u (B_y (ev en z)) (ev en y)) (λ_ _=>rfl) λ_ _ _ h=>U_0 h
  ·rename_i n e hu
   simp only[bqB,bqS,sjE] at hk
   obtain⟨u,hsz,y,hy,z,hz,rfl⟩:=hk
   rw[D_d (show gopS P cx o=some (.fn (R_a u n y z)) by simp[gopS,ho,hu,hsz,hy,hz])]
   exact F_e _ λ_ _=>rfl
  ·cases hk
 ·rename_i x i ho
  simp only[bqB,bqS,sjE] at hk
  obtain⟨y,hy,rfl⟩:=hk
  rw[D_d (show gopS P cx o=some (.fn (j_j y i)) by simp[gopS,ho,hy])]
  exact B_p (λen=>extr1 i (ev en y)) (λ_ _=>rfl) λ_ _ _ h=>U_z h
 ·rename_i c ho
  split at hk
  ·rename_i f hc
   simp only[bqB,bqS,sjE] at hk
   obtain⟨xs,hxs,rfl⟩:=hk
   rw[D_d (show gopS P cx o=some (.call f xs) by simp[gopS,ho,hc,hxs])]
   intro R en h K out hd K' hK
   obtain⟨v,h1,hr,hk1⟩:=G_u hd
   show G_a K' (R f (evL en xs) h)=some out
   rw[hr]
   exact hK _ _ hk1
  ·rename_i hc
   split at hk
   ·rename_i x ha ht
    simp only[bqB,bqS,sjE] at hk
    obtain⟨y,hy,rfl⟩:=hk
    rw[D_d (show gopS P cx o=some (.fn (j_m y)) by simp[gopS,ho,hc,ha,ht,hy])]
    exact B_p (λen=>Y_y (ev en y)) (λ_ _=>rfl) λ_ _ _ h=>U_1 h
   ·rename_i x e ha ht
    simp only[bqB,bqS,sjE] at hk
    obtain⟨y,hy,rfl⟩:=hk
    rw[D_d (show gopS P cx o=some (.fn (j_n y)) by simp[gopS,ho,hc,ha,ht,hy])]
    exact B_p (λen=>Q_x (ev en y)) (λ_ _=>rfl) λ_ _ _ h=>U_2 h
   ·cases hk
  ·cases hk
 ·cases hk
theorem Y_x(P:Program)(cx:Cx)(o:Oper):KRel (kop P cx o) (gop P cx o):=by
 unfold kop
 cases hX:gopX P cx o with
 |some g=>
  have:gop P cx o=.fn g:=by unfold gop;rw[hX]
  rw[this]
  exact P_n rfl
 |none=>
  simp only
  cases h:kopS P cx o with
  |none=>exact d_2 P cx o
  |some k=>rw[d_l hX];exact d_3 h
end Go.Gev
