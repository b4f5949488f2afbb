import Derived.Test.YtnbnmojckhcdeaaGreatDoorGevPS
import Derived.Test.YtnbnmojckhcdeaaGreatDoorGevMain
namespace Go.Gev
open Go.RowKit
def KRel(k:KOp)(g:GOp):Prop:=match k with
 |.pure pk=>∃(gf:En→Hs→Rs) (pf:En→Option Value),g=.fn gf∧(∀en h,gf en h=ret1 h (pf en))∧∀en K o,pk en K=some o→∃v,pf en=some v∧K v=some o
 |.read rk=>∃(gf:En→Hs→Rs) (rf:En→Hs→Option Value),g=.fn gf∧(∀en h,gf en h=ret1 h (rf en h))∧∀en h K o,rk en h K=some o→∃v,rf en h=some v∧K v=some o
 |.gen f=>∀(R:RnK) en h K o,f R en h K=some o→∀K':KV,(∀v h1,K v h1=some o→K' v h1=some o)→doOp (toRn R) en h K' g=some o
theorem k_6{R:Rn}{en:En}{h:Hs}{K K':KV}{g:GOp}{o:Out}(hd:doOp R en h K g=some o)(hk:∀v h1,K v h1=some o→K' v h1=some o):doOp R en h K' g=some o:=by
 have val:∀x:Option Out,U_m K x=some o→U_m K' x=some o:=λx hx=>by
  cases x with
  |none=>cases hx
  |some y=>cases y with
   |fin e fr h1=>cases hx
   |val v h1=>exact hk v h1 hx
 cases g with
 |fn g=>
  simp only[doOp] at hd ⊢
  cases hg:g en h with
  |none=>rw[hg] at hd;cases hd
  |some p=>rw[hg] at hd;exact hk _ _ hd
 |call f args=>exact val _ hd
 |callv f args=>exact val _ hd
theorem AF9(P:Program)(cx:Cx)(o:Oper):KRel (kopG P cx o) (gop P cx o):=λ_ _ _ _ _ hd _ hk=>k_6 hd hk
theorem I_6{pk:En→(Value→An)→An}{gf:En→Hs→Rs}(pf:En→Option Value)(h1:∀en h,gf en h=ret1 h (pf en))(h2:∀en K o,pk en K=some o→∃v,pf en=some v∧K v=some o):KRel (.pure pk) (.fn gf):=
 ⟨gf,pf,rfl,h1,h2⟩
theorem S_b(pf:En→Option Value){gf:En→Hs→Rs}(h1:∀en h,gf en h=ret1 h (pf en)):KRel (m_c pf) (.fn gf):=
 ⟨gf,pf,rfl,h1,λ_ _ _ h=>G_c h⟩
theorem m_8{gf:En→Hs→Rs}{f:En→Hs→Rs}(h1:gf=f):KRel (.gen λ_ en h K=>after K (f en h)) (.fn gf):=λ_ _ _ _ _ hd _ hk=>by
 subst h1
 exact k_6 (g:=.fn gf) hd hk
noncomputable def gopN(P:Program)(cx:Cx)(o:Oper):GOp:=match gopS P cx o with
 |some g=>g
 |none=>.fn oBad
theorem AE2{P:Program}{cx:Cx}{o:Oper}(h:gopX P cx o=none):gop P cx o=gopN P cx o:=by unfold gop gopN;rw[h];rfl
theorem N_u{P:Program}{cx:Cx}{o:Oper}{g:GOp}(h:gopS P cx o=some g):gopN P cx o=g:=by unfold gopN;rw[h]
theorem AF3{P:Program}{cx:Cx}{o:Oper}{op:BinOp}{t yt:TypeId}{x y:Operand}{x' y':GX}{k:KOp}(ho:o.op=.binOp op t x y yt)(hx:gx cx x=some x')(hy:gx cx y=some y')(hk:kBin P op (orB (cstB x) (cstB y)) t x' y'=some k):KRel k (gopN P cx o):=by
 have hb:∀f,binF P op (orB (cstB x) (cstB y)) t=some f→gopN P cx o=.fn (oV2 f x' y'):=λf hf=>N_u (by simp[gopS,ho,hf,hx,hy])
 have hsh:op=.shl∨op=.shr∨(op≠.shl∧op≠.shr):=by cases op<;>simp
 rcases hsh with rfl|rfl|⟨h1,h2⟩
 ·simp only[kBin,sjE] at hk
  subst hk
  rw[hb (sh2 .shl) rfl]
  exact I_6 _ (λ_ _=>rfl) λ_ _ _ h=>Ai2 h
 ·simp only[kBin,sjE] at hk
  subst hk
  rw[hb (sh2 .shr) rfl]
  exact I_6 _ (λ_ _=>rfl) λ_ _ _ h=>Ai3 h
 ·have hbin:∀kd,P.underlying t=some (.int kd)→binF P op (orB (cstB x) (cstB y)) t=some (i2 (fOf op)):=λkd hu=>by
   cases op<;>first|(exact absurd rfl h1)|(exact absurd rfl h2)|(simp only[binF,hu])
  have hkb:kBin P op (orB (cstB x) (cstB y)) t x' y'=(match P.underlying t with
   |some (.int .i64)=>some (.pure λen K=>kI64 op (ev en x') (ev en y') K)
   |some (.int .u64)=>some (.pure λen K=>kU64 op (ev en x') (ev en y') K)
   |some (.int .u8)=>some (.pure λen K=>kU8 op (ev en x') (ev en y') K)
   |_=>match binF P op (orB (cstB x) (cstB y)) t with
    |some f=>some (m_c λen=>f (ev en x') (ev en y'))
    |none=>none):=by
   cases op<;>first|(exact absurd rfl h1)|(exact absurd rfl h2)|rfl
  rw[hkb] at hk
  split at hk
  ·rename_i hu
   simp only[sjE] at hk
   subst hk
   rw[hb _ (hbin _ hu)]
   exact I_6 _ (λ_ _=>rfl) λ_ _ _ h=>Ah6 h
  ·rename_i hu
   simp only[sjE] at hk
   subst hk
   rw[hb _ (hbin _ hu)]
   exact I_6 _ (λ_ _=>rfl) λ_ _ _ h=>Ai5 h
  ·rename_i hu
   simp only[sjE] at hk
   subst hk
   rw[hb _ (hbin _ hu)]
   exact I_6 _ (λ_ _=>rfl) λ_ _ _ h=>AF4 h
  ·split at hk
   ·rename_i f hf
    simp only[sjE] at hk
    subst hk
    rw[hb f hf]
    exact S_b _ λ_ _=>rfl
   ·cases hk
theorem Ag2{P:Program}{cx:Cx}{o:Oper}{s d:TypeId}{x:Operand}{x':GX}{k:KOp}(ho:o.op=.convert s d x)(hx:gx cx x=some x')(hk:AW7 P s d x'=some k):KRel k (gopN P cx o):=by
 have hI:∀k0 kd,P.underlying s=some (.int k0)→P.underlying d=some (.int kd)→gopN P cx o=.fn (An6 kd x'):=λk0 kd h1 h2=>N_u (by simp[gopS,ho,hx,h1,h2])
 unfold AW7 at hk
 split at hk
 ·rename_i h1 h2
  simp only[sjE] at hk
  subst hk
  rw[hI _ _ h1 h2]
  exact I_6 (λen=>V_0 .i64 (ev en x')) (λ_ _=>rfl) λ_ _ _ h=>i_f AO6 h
 ·rename_i h1 h2
  simp only[sjE] at hk
  subst hk
  rw[hI _ _ h1 h2]
  exact I_6 (λen=>V_0 .u64 (ev en x')) (λ_ _=>rfl) λ_ _ _ h=>i_f AO7 h
 ·rename_i h1 h2
  simp only[sjE] at hk
  subst hk
  rw[hI _ _ h1 h2]
  exact I_6 (λen=>V_0 .u8 (ev en x')) (λ_ _=>rfl) λ_ _ _ h=>i_f Bl6 h
 ·rename_i h1 h2
  simp only[sjE] at hk
  subst hk
  rw[hI _ _ h1 h2]
  exact S_b _ λ_ _=>rfl
 ·rename_i h1 h2
  simp only[sjE] at hk
  subst hk
  have:gopN P cx o=.fn (An7 x'):=N_u (by simp[gopS,ho,hx,h1,h2])
  rw[this]
  exact S_b _ λ_ _=>rfl
 ·cases hk
set_option maxHeartbeats 1000000 in
theorem AG0{P:Program}{cx:Cx}{o:Oper}{k:KOp}(hk:kopS P cx o=some k):KRel k (gopN P cx o):=by
 unfold kopS at hk
 split at hk
 ·rename_i x ho
  simp only[bqB,bqS,sjE] at hk
  obtain⟨y,hy,rfl⟩:=hk
  rw[N_u (show gopS P cx o=some (.fn (oMv y)) by simp[gopS,ho,hy])]
  exact I_6 (λen=>some (ev en y)) (λ_ _=>rfl) λ_ _ _ h=>⟨_,rfl,h⟩
 ·rename_i x ho
  simp only[bqB,bqS,sjE] at hk
  obtain⟨y,hy,rfl⟩:=hk
  rw[N_u (show gopS P cx o=some (.fn (oMv y)) by simp[gopS,ho,hy])]
  exact I_6 (λen=>some (ev en y)) (λ_ _=>rfl) λ_ _ _ h=>⟨_,rfl,h⟩
 ·rename_i op t x y yt ho
  simp only[bqB,bqS] at hk
  obtain⟨x',hx,y',hy,hb⟩:=hk
  exact AF3 ho hx hy hb
 ·rename_i op t x ho
  simp only[bqB,bqS] at hk
  obtain⟨y,hy,hb⟩:=hk
  have hg:gopN P cx o=.fn (oUn op y):=N_u (by simp[gopS,ho,hy])
  rw[hg]
  split at hb
  ·simp only[sjE] at hb
   subst hb
   exact I_6 (λen=>un .not (ev en y)) (λ_ _=>rfl) λ_ _ _ h=>Ah9 h
  ·simp only[sjE] at hb
   subst hb
   exact S_b _ λ_ _=>rfl
 ·rename_i s d x ho
  simp only[bqB,bqS] at hk
  obtain⟨y,hy,hb⟩:=hk
  exact Ag2 ho hy hb
 ·rename_i t a ho
  simp only[bqB,bqS] at hk
  obtain⟨y,hy,n,hn,b,hb,hk⟩:=hk
  cases b with
  |true=>
   simp only[sjE] at hk
   subst hk
   rw[N_u (show gopS P cx o=some (.fn (f_1 n y)) by simp[gopS,ho,hy,hn,hb])]
   exact⟨_,λen h=>ldsV n (ev en y) h,rfl,λen h=>An9 n y en h,λ_ _ _ _ h=>p_h h⟩
  |false=>
   simp only[sjE] at hk
   subst hk
   rw[N_u (show gopS P cx o=some (.fn (x_q y)) by simp[gopS,ho,hy,hn,hb])]
   exact⟨_,λen h=>ldV (ev en y) h,rfl,λen h=>AH8 y en h,λ_ _ _ _ h=>w_s h⟩
 ·rename_i t a x ho
  simp only[bqB,bqS] at hk
  obtain⟨y,hy,z,hz,n,hn,hk⟩:=hk
  have hg:gopN P cx o=.fn (f_8 n y z):=N_u (by simp[gopS,ho,hy,hz,hn])
  rw[hg]
  split at hk
  ·simp only[sjE] at hk
   subst hk
   intro R en h K out hd K' hK
   obtain⟨h1,hs,hk1⟩:=m_d hd
   show after K' (f_8 1 y z en h)=some out
   unfold f_8
   rw[hs]
   exact hK _ _ hk1
  ·simp only[sjE] at hk
   subst hk
   exact m_8 rfl
 ·rename_i x ho
  simp only[bqB,bqS,sjE] at hk
  obtain⟨y,hy,rfl⟩:=hk
  rw[N_u (show gopS P cx o=some (.fn (AZ9 y)) by simp[gopS,ho,hy])]
  exact I_6 (λen=>nilc1 (ev en y)) (λ_ _=>rfl) λ_ _ _ h=>Ah8 h
 ·rename_i t x fk ho
  split at hk
  ·rename_i fs hu
   split at hk
   ·rename_i f hf
    simp only[bqB,bqS] at hk
    obtain⟨y,hy,n,hn,hk⟩:=hk
    split at hk
    ·cases hk
    ·rename_i hne
     simp only[sjE] at hk
     subst hk
     rw[N_u (show gopS P cx o=some (.fn (p_x f.offset y)) by
      simp only[gopS,ho,hu,hf,hn,hy,bqB,Option.bind_some]
      rw[if_neg (λe=>hne e)])]
     exact I_6 (λen=>a_z f.offset (addrOf (ev en y))) (λ_ _=>rfl) λ_ _ _ h=>m_b h
   ·cases hk
  ·cases hk
 ·rename_i t x fk ho
  split at hk
  ·rename_i fs hu
   split at hk
   ·rename_i f hf
    simp only[bqB,bqS] at hk
    obtain⟨y,hy,b,hb,hk⟩:=hk
    cases b with
    |true=>
     simp only[bqS,sjE] at hk
     obtain⟨n,hn,rfl⟩:=hk
     rw[N_u (show gopS P cx o=some (.fn (p_z f.offset n y)) by simp[gopS,ho,hu,hf,hn,hy,hb])]
     exact S_b _ λ_ _=>rfl
    |false=>
     simp only[sjE] at hk
     subst hk
     rw[N_u (show gopS P cx o=some (.fn (An8 f.offset y)) by simp[gopS,ho,hu,hf,hy,hb])]
     exact I_6 (λen=>field1 f.offset (ev en y)) (λ_ _=>rfl) λ_ _ _ h=>p_g h
   ·cases hk
  ·cases hk
 ·rename_i t x i ho
  split at hk
  ·rename_i e hu
   simp only[bqB,bqS,sjE] at hk
   obtain⟨u,hsz,y,hy,z,hz,rfl⟩:=hk
   rw[N_u (show gopS P cx o=some (.fn (AZ3 u y z)) by simp[gopS,ho,hu,hsz,hy,hz])]
   exact I_6 (λen=>AE6 u (J_4 (ev en z)) (ev en y)) (λ_ _=>rfl) λ_ _ _ h=>w_g h
  ·rename_i n e hu
   simp only[bqB,bqS,sjE] at hk
   obtain⟨u,hsz,y,hy,z,hz,rfl⟩:=hk
   rw[N_u (show gopS P cx o=some (.fn (p_0 u n y z)) by simp[gopS,ho,hu,hsz,hy,hz])]
   exact S_b _ λ_ _=>rfl
  ·cases hk
 ·rename_i x i ho
  simp only[bqB,bqS,sjE] at hk
  obtain⟨y,hy,rfl⟩:=hk
  rw[N_u (show gopS P cx o=some (.fn (AZ2 y i)) by simp[gopS,ho,hy])]
  exact I_6 (λen=>extr1 i (ev en y)) (λ_ _=>rfl) λ_ _ _ h=>w_f h
 ·rename_i c ho
  split at hk
  ·rename_i f hc
   simp only[bqB,bqS,sjE] at hk
   obtain⟨xs,hxs,rfl⟩:=hk
   rw[N_u (show gopS P cx o=some (.call f xs) by simp[gopS,ho,hc,hxs])]
   intro R en h K out hd K' hK
   obtain⟨v,h1,hr,hk1⟩:=V_n hd
   show U_m K' (R f (evL en xs) h)=some out
   rw[hr]
   exact hK _ _ hk1
  ·rename_i hc
   split at hk
   ·rename_i x ha ht
    simp only[bqB,bqS,sjE] at hk
    obtain⟨y,hy,rfl⟩:=hk
    rw[N_u (show gopS P cx o=some (.fn (AZ5 y)) by simp[gopS,ho,hc,ha,ht,hy])]
    exact I_6 (λen=>Aj7 (ev en y)) (λ_ _=>rfl) λ_ _ _ h=>w_h h
   ·rename_i x e ha ht
    simp only[bqB,bqS,sjE] at hk
    obtain⟨y,hy,rfl⟩:=hk
    rw[N_u (show gopS P cx o=some (.fn (AZ6 y)) by simp[gopS,ho,hc,ha,ht,hy])]
    exact I_6 (λen=>p_m (ev en y)) (λ_ _=>rfl) λ_ _ _ h=>w_r h
   ·cases hk
  ·cases hk
 ·cases hk
theorem Aj6(P:Program)(cx:Cx)(o:Oper):KRel (kop P cx o) (gop P cx o):=by
 unfold kop
 cases hX:gopX P cx o with
 |some g=>
  have:gop P cx o=.fn g:=by unfold gop;rw[hX]
  rw[this]
  exact m_8 rfl
 |none=>
  simp only
  cases h:kopS P cx o with
  |none=>exact AF9 P cx o
  |some k=>rw[AE2 hX];exact AG0 h
end Go.Gev
