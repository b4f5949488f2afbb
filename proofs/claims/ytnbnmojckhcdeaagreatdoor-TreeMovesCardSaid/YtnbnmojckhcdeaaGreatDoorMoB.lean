import Derived.Test.YtnbnmojckhcdeaaGreatDoorMoA
namespace Go.Proofs.YtnbnmojckhcdeaaGreatDoor.treeMoves
open Go Go.Gev
set_option linter.unusedVariables false
abbrev Wr:=Except Nat (Nat × Nat)
def I_s (T : Tm) (wy : Nat → Str → Nat → Wr) (fol : Bool) : List Str → Nat → Nat → Wr
 |[],d,k=>.ok (d,k)
 | p :: l, d, k => match P_d T d p with
  |.error e=>.error e
  | .ok n => match T n with
   |none=>.error 1
   | some x => if x.k = 3 ∧ (fol = true ∨ l ≠ []) then (match k with
    |0=>.error 11
    |k+1=>match wy d x.data k with
     |.error e=>.error e
     |.ok r=>I_s T wy fol l r.1 r.2) else I_s T wy fol l n k
def wayF(T:Tm):Nat→Bool→Nat→Str→Nat→Wr
 |0,_,_,_,_=>.error 1
 |g+1,fol,d,s,k=>match M_x s with
  |.error e=>.error e
  |.ok l=>I_s T (wayF T g true) fol l (if s.head?=some 47 then 1 else d) k
def WrOk(T:Tm)(k:Nat)(r:Wr):Prop:=match r with
 |.ok r=>(∃x,T r.1=some x)∧r.2≤k
 |.error e=>e≠0
theorem t_w{T:Tm}{d:Nat}{s:Str}{e:Nat}(h:P_d T d s=.error e):e≠0:=by
 unfold P_d at h
 split at h
 ·injection h with h;omega
 ·split at h
  ·split at h
   ·cases h
   ·split at h
    ·cases h
    ·injection h with h;omega
  ·injection h with h;omega
theorem c_5{T:Tm}{most:Nat}(W:WF T most){wy:Nat→Str→Nat→Wr}{fol:Bool}(hw:∀d s k,(∃x,T d=some x)→WrOk T k (wy d s k)):∀(l:List Str)(d k:Nat),(∃x,T d=some x)→WrOk T k (I_s T wy fol l d k):=by
 intro l
 induction l with
 |nil=>intro d k h;exact⟨h,lR _⟩
 | cons p l ih =>
  intro d k h
  unfold I_s
  cases e:P_d T d p with
  |error e1=>exact t_w e
  | ok n =>
   obtain⟨x,hx⟩:=i_0 W e
   dsimp only
   rw[hx]
   dsimp only
   split
   ·cases k with
    |zero=>show (11:Nat)≠0;decide
    | succ k =>
     dsimp only
     have q:=hw d x.data k h
     cases e2:wy d x.data k with
     |error e3=>rw[e2] at q;exact q
     |ok r=>
      rw[e2] at q
      have:=ih r.1 r.2 q.1
      dsimp only
      have q2:=q.2
      cases e4:I_s T wy fol l r.1 r.2 with
      |error e5=>rw[e4] at this;exact this
      |ok r2=>rw[e4] at this;exact⟨this.1,lTr this.2 (by omega)⟩
   ·exact ih n k ⟨x,hx⟩
theorem c_4{D:Str}{e:Nat}(h:M_x D=.error e):e≠0:=by
 unfold M_x at h
 split at h
 ·injection h with h;omega
 split at h
 ·injection h with h;omega
 split at h
 ·cases h
 ·injection h with h;omega
theorem d_t{T:Tm}{most:Nat}(W:WF T most):∀(g:Nat)(fol:Bool)(d:Nat)(s:Str)(k:Nat),(∃x,T d=some x)→WrOk T k (wayF T g fol d s k):=by
 intro g
 induction g with
 |zero=>intro fol d s k _;show (1:Nat)≠0;decide
 | succ g ih =>
  intro fol d s k h
  unfold wayF
  cases e:M_x s with
  |error e1=>exact c_4 e
  |ok l=>
   refine c_5 W (λd s k h=>ih true d s k h) l _ k ?_
   split
   ·obtain⟨x,q,_⟩:=W.r1;exact⟨x,q⟩
   ·exact h
def WkQ(h:Hs)(w p:Nat)(r:Wr)(v:Value)(h':Hs):Prop:=Mut h h' w∧match r with
 |.ok r=>v=.tuple #[kI r.1,kI 0]∧Holds (h'.hp.get w) (rowW p (8-r.2))
 |.error e=>v=.tuple #[kI 0,kI e]∧∃k,Holds (h'.hp.get w) (rowW p k)
def CParts(R:RnK)(g:Nat):Prop:=∀(h:Hs)(t:TS)(w k d:Nat)(l:List Str)(sl:Value)(fol:Bool),TrAt h t→WF t.T t.most→Holds (h.hp.get w) (rowW t.p (8-k))→w<h.nx→t.L.ro w=none→k≤8→k≤g→(∃x,t.T d=some x)→Rd h sl 1 (ones (strs l))→(∀b,Th.id (.rsl sl 1 (ones (strs l)))=some b→b≠w)→l.length≤60000 →
 WP (R 57 [pV w,kI d,sl,.bool fol] h) (WkQ h w t.p (I_s t.T (wayF t.T g true) fol l d k))
def CWay(R:RnK)(g:Nat):Prop:=∀(h:Hs)(t:TS)(w k d:Nat)(s:Str)(fol:Bool),TrAt h t→WF t.T t.most→Holds (h.hp.get w) (rowW t.p (8-k))→w<h.nx→t.L.ro w=none→k≤8→k+1≤g→(∃x,t.T d=some x)→s.length≤50000 →
 WP (R 54 [pV w,kI d,sV s,.bool fol] h) (WkQ h w t.p (wayF t.T g fol d s k))
theorem BA9{Q:Value→Hs→Prop}{u:Hs}{t:TS}{n:Nat}{x:Itm}{K:KV}(A:TrAt u t)(hx:t.T n=some x)(w:WP (K (sV x.data) u) Q):WP (after K (ret1 u (S_h u (t.L.dv n)))) Q:=by
 obtain⟨a,c,e,hr⟩:=RdSl.row (A.it n x hx).rdd.1 (by decide)
 rw[e]
 have:S_h u (.slice a (dsT x).length c)=some (sV x.data):=by
  show strO (X_i (rowOf u 1 (dsT x).length a))=_
  rw[hr _ (lR _),List.take_length]
  unfold dsT
  rw[J_p]
  show strO (U_c (B_9 x.data))=_
  rw[g_5];rfl
 exact O_f this w
theorem Bs4{R:RnK}{N g:Nat}(cs:CPSplit R)(cp:CParts R g){h:Hs}{t:TS}{w k d:Nat}{s:Str}{fol:Bool}(A:TrAt h t)(W:WF t.T t.most)(hw:Holds (h.hp.get w) (rowW t.p (8-k)))(wl:w<h.nx)(wr:t.L.ro w=none)(k8:k≤8)(kg:k≤g)(hd:∃x,t.T d=some x)(hs:s.length≤50000) :
 WP (r54 R N [pV w,kI d,sV s,.bool fol] h) (WkQ h w t.p (wayF t.T (g+1) fol d s k)):=by
 have H:=Sto.enterM [] hw wl (λt ht=>by cases ht)
 have ro:∀s ∈ [w],t.L.ro s=none:=λs q=>by rw[msQ.1 q];exact wr
 unfold r54
 repeat' (first|(with_reducible first|refine H_i ?_|refine H_1 ?_))
 refine G_b (cs s _ hs) λv u hv=>?_
 unfold wayF
 cases e:M_x s with
 |error e1=>
  rw[e] at hv
  obtain⟨rfl,rfl⟩:=hv
  have:=c_4 e
  repeat' (first|(with_reducible first|refine w_jn ?_|refine F_2 ?_)|((with_reducible apply F_8) ;rfl)|((with_reducible refine D_v (λ_=>?_) (λ_=>?_))<;>first|(exfalso;omega)|skip))
  exact d_n 0 H rfl wl rfl λh'' mu ho=>⟨mu,rfl,_,ho⟩
 | ok l =>
  rw[e] at hv
  obtain⟨sl,rfl,n⟩:=hv
  have ll:=Y_s hs e
  have hne:∃c D,s=c::D:=by
   cases s with
   |nil=>unfold M_x at e;rw[if_pos rfl] at e;cases e
   |cons c D=>exact⟨c,D,rfl⟩
  clear e
  obtain⟨c,D,rfl⟩:=hne
  have nid:∀b,vId sl=some b→b≠w:=λb hb=>by
   have:h.nx≤b:=(n.2.2 b hb).1
   omega
  replace H:=H.call n
  clear n
  have A1:=A.sto H ro
  repeat' (first|(with_reducible first|refine w_jn ?_|refine E_k ?_)|((with_reducible apply F_8) ;rfl)|((with_reducible refine D_v (λ_=>?_) (λ_=>?_))<;>first|(exfalso;omega)|skip))
  refine r_x ?_
  have fin:∀d0,(∃x,t.T d0=some x)→WP (E_d R 57 [pV w,kI d0,sl,.bool fol] u (λx15 h16=>kExtr x15 0 (λx17=>kExtr x15 1 (λx18=>clrK h (Value.tuple #[x17,x18]) h16)))) (WkQ h w t.p (I_s t.T (wayF t.T g true) fol l d0 k)):=λd0 hd0=>by
   have rd:=H.rdO 0 rfl
   refine G_b (cp u t w k d0 l sl fol A1 W (H.holds 1 rfl) (H.lt 1 rfl) wr k8 kg hd0 rd (λb hb=>?_) (by omega)) λv2 u2 hv2=>?_
   ·exact nid b (OwnSl.rd1 (H.ok _ (mgE (i:=0) rfl)) |>.2 b hb)
   ·obtain⟨mu,hr⟩:=hv2
    cases hq:I_s t.T (wayF t.T g true) fol l d0 k with
    |error e1=>
     rw[hq] at hr
     obtain⟨rfl,k',ho⟩:=hr
     have H2:=H.mut 1 rfl mu ho
     clear H
     have H:=H2
     repeat' (first|((with_reducible apply F_8) ;rfl))
     exact d_n 1 H rfl wl rfl λh'' mu ho=>⟨mu,rfl,_,ho⟩
    |ok r=>
     rw[hq] at hr
     obtain⟨rfl,ho⟩:=hr
     have H2:=H.mut 1 rfl mu ho
     clear H
     have H:=H2
     repeat' (first|((with_reducible apply F_8) ;rfl))
     exact d_n 1 H rfl wl rfl λh'' mu ho=>⟨mu,rfl,ho⟩
  refine Bs3 (λe1=>?_) (λe1=>?_)
  ·repeat' (first|(with_reducible first|refine w_jn ?_|refine F_2 ?_))
   have:c=47:=UInt8.toNat_inj.1 e1
   rw[if_pos (show (c::D).head?=some 47 by rw[this];rfl)]
   obtain⟨x,q,_⟩:=W.r1
   exact fin 1 ⟨x,q⟩
  ·repeat' (first|(with_reducible first|refine w_jn ?_|refine E_k ?_))
   rw[if_neg (show ¬(c::D).head?=some 47 from λq=>e1 (by have q:some c=some 47:=q;injection q with q;rw[q];rfl))]
   exact fin d hd
theorem I_4(T:Tm)(wy:Nat→Str→Nat→Wr)(fol:Bool)(p:Str)(l:List Str)(d k:Nat):I_s T wy fol (p::l) d k=match P_d T d p with
 |.error e=>.error e
 | .ok n => match T n with
  |none=>.error 1
  | some x => if x.k = 3 ∧ (fol = true ∨ l ≠ []) then (match k with
   |0=>.error 11
   |k+1=>match wy d x.data k with
    |.error e=>.error e
    |.ok r=>I_s T wy fol l r.1 r.2) else I_s T wy fol l n k:=rfl
theorem AC3{α:Type}{l:List α}{i:Nat}(h:i<l.length):l.drop i=l[i]::l.drop (i+1):=by rw[List.getElem_cons_drop]
theorem AI3 {R : RnK} {N g : Nat} (hN : 100000 < N) (cpt : CPart R) (cw : CWay R g) {h : Hs} {t : TS} {w k d : Nat} {l : List Str} {sl : Value} {fol : Bool} (A : TrAt h t) (W : WF t.T t.most) (hw : Holds (h.hp.get w) (rowW t.p (8 - k))) (wl : w < h.nx) (wr : t.L.ro w = none) (k8 : k ≤ 8) (kg : k ≤ g) (hd : ∃ x, t.T d = some x)
 (hs:Rd h sl 1 (ones (strs l))) (hsi:∀b,Th.id (.rsl sl 1 (ones (strs l)))=some b→b≠w) (hl:l.length≤60000) :
 WP (r57 R N [pV w,kI d,sl,.bool fol] h) (WkQ h w t.p (I_s t.T (wayF t.T g true) fol l d k)):=by
 have H:=Sto.enterM [.rsl sl 1 (ones (strs l))] hw wl (λt ht=>by
  rw[msQ.1 ht]
  exact⟨rfl,hs.1,λb hb=>⟨hs.2 b hb,hsi b hb⟩⟩)
 have ro:∀s ∈ [w],t.L.ro s=none:=λs q=>by rw[msQ.1 q];exact wr
 have ol:(ones (strs l)).length=l.length:=by rw[J_t,lmQ]
 unfold r57
 repeat' (first|(with_reducible first|refine w_jn ?_|refine H_i ?_|refine H_1 ?_)|((with_reducible apply u_o 1 H) ;rfl))
 rw[ol]
 refine V_1 (Good:=λr (self:L14)=>∀(i d' k':Nat)(y2 y4 y5 y6 y7 y8 y9 y10 y11 y12 y13 y14:Value)(u:Hs),i+r=l.length→(∃x,t.T d'=some x)→k'≤8→k'≤g→I_s t.T (wayF t.T g true) fol l d k=I_s t.T (wayF t.T g true) fol (l.drop i) d' k'→Sto h [w] u [.blk w (rowW t.p (8-k')),.rsl sl 1 (ones (strs l))] →
  WP (self (kI i) y2 (kI d') y4 y5 y6 y7 y8 y9 y10 y11 y12 y13 y14 u) (WkQ h w t.p (I_s t.T (wayF t.T g true) fol l d k)))
  (λr self ih i d' k' y2 y4 y5 y6 y7 y8 y9 y10 y11 y12 y13 y14 u hi hd' k8 kg hf H1=>?_) N l.length (by omega) 0 d k _ _ _ _ _ _ _ _ _ _ _ _ _ (by omega) hd k8 kg rfl H
 clear H
 have H:=H1
 clear H1
 repeat' (first|(with_reducible first|refine w_jn ?_|refine F_2 ?_|refine E_k ?_)|((with_reducible refine J_c (λ_=>?_) (λ_=>?_))<;>first|(exfalso;omega)|skip))
 ·have il : i < l.length := by omega
  have dg:=AC3 il
  rw[dg] at hf
  have hg:(ones (strs l))[i]?=some [sV l[i]]:=by unfold ones strs;rw[List.getElem?_map,List.getElem?_map,gqG il];rfl
  refine Bd6 1 H rfl hg rfl rfl ?_
  clear hg
  generalize hq:l[i]=q at *
  obtain⟨x,hx⟩:=hd'
  have A1:=A.sto H ro
  refine E_b (cpt u t w (8-k') d' x q A1 (H.holds 0 rfl) (H.lt 0 rfl) hx) ?_
  rw[I_4] at hf
  cases e:P_d t.T d' q with
  |error e1=>
   rw[e] at hf
   rw[hf]
   have:=t_w e
   unfold ptV
   repeat' (first|(with_reducible first|refine w_jn ?_|refine F_2 ?_)|((with_reducible apply F_8) ;rfl)|((with_reducible refine D_v (λ_=>?_) (λ_=>?_))<;>first|(exfalso;omega)|skip))
   exact d_n 0 H rfl wl rfl λh'' mu ho=>⟨mu,rfl,_,ho⟩
  | ok n =>
   obtain⟨y,hy⟩:=i_0 W e
   rw[e] at hf
   dsimp only at hf
   rw[hy] at hf
   dsimp only at hf
   unfold ptV
   repeat' (first|(with_reducible first|refine w_jn ?_|refine E_k ?_|refine A_g ?_|refine F_w ?_)|((with_reducible apply F_8) ;rfl)|((with_reducible refine D_v (λ_=>?_) (λ_=>?_))<;>first|(exfalso;omega)|skip)|((with_reducible apply H_c 0 H) ;rfl;rfl;rfl))
   refine t_mp A1 rfl ?_
   refine t_lk A1 hy ?_
   repeat' (first|(with_reducible first|refine A_g ?_|refine F_w ?_))
   refine t_k A1 hy rfl ?_
   have sdone:∀(a2 a4 a5 a6 a7 a8 a9 a10 a11 a12 a13 a14:Value),¬(y.k=3∧(fol=true∨l.drop (i+1) ≠ []))→WP (self (kI (i+1)) a2 (kI n) a4 a5 a6 a7 a8 a9 a10 a11 a12 a13 a14 u) (WkQ h w t.p (I_s t.T (wayF t.T g true) fol l d k)):=λa2 a4 a5 a6 a7 a8 a9 a10 a11 a12 a13 a14 q=>by
    rw[if_neg q] at hf
    exact ih (r-1) (by omega) (i+1) n k' _ _ _ _ _ _ _ _ _ _ _ _ u (by omega) ⟨y,hy⟩ k8 kg hf H
   have dn:l.drop (i+1) ≠ []↔i+1<l.length:=by
    rw[←List.length_pos_iff,List.length_drop];omega
   have wl2:=(A1.it n y hy).da
   repeat' (first|(with_reducible first|refine w_jn ?_|refine E_k ?_|refine N_k ?_|refine U_3 ?_|refine BC0 ?_|refine G_t ?_)|((with_reducible refine G_h (λ_=>?_) (λ_=>?_))<;>first|(exfalso;omega)|skip)|((with_reducible refine H_6 ?_ ?_) ;omega))
   ·rename_i k3
    by_cases hc:fol=true∨l.drop (i+1) ≠ []
    ·have hc2:fol=true∨(fol=false∧i+1<l.length):=by
      cases fol with
      |true=>exact .inl rfl
      |false=>exact .inr ⟨rfl,dn.1 (hc.elim (λq=>by cases q) id)⟩
     rw[if_pos ⟨k3,hc⟩] at hf
     clear sdone dn hc
     rcases hc2 with rfl|⟨rfl,hlt⟩
     all_goals
      cases k' with
      |zero=>
       repeat' (first|(with_reducible first|refine w_jn ?_|refine F_2 ?_|refine N_k ?_|refine j_j ?_|refine R_m ?_|refine G_7 ?_|refine G_t ?_|refine A_g ?_|refine F_w ?_)|((with_reducible first|refine J_c (λ_=>?_) (λ_=>?_)|refine O_n (λ_=>?_) (λ_=>?_))<;>first|(exfalso;omega)|skip)|((with_reducible refine H_6 ?_ ?_) ;omega)|((with_reducible refine Q_9 ?_ ?_ ?_) ;omega;omega)|((with_reducible apply H_c 0 H) ;rfl;rfl;rfl)|((with_reducible apply Y_b 0 H) ;rfl;(simp only[lcQ,List.length_nil];omega);rfl;(clear H;intro u H hu;(try dsimp only[scZ,scS,A_4,ttA,splice,ev,rep,caQ,naQ] at H)))|((with_reducible apply u_o 1 H) ;rfl))
       rw[hf]
       exact d_n 0 H rfl wl rfl λh'' mu ho=>⟨mu,rfl,_,ho⟩
      | succ j =>
       repeat' (first|(with_reducible first|refine w_jn ?_|refine F_2 ?_|refine E_k ?_|refine N_k ?_|refine j_j ?_|refine R_m ?_|refine G_7 ?_|refine G_t ?_|refine A_g ?_|refine F_w ?_)|((with_reducible first|refine J_c (λ_=>?_) (λ_=>?_)|refine O_n (λ_=>?_) (λ_=>?_))<;>first|(exfalso;omega)|skip)|((with_reducible refine H_6 ?_ ?_) ;omega)|((with_reducible refine Q_9 ?_ ?_ ?_) ;omega;omega)|((with_reducible apply H_c 0 H) ;rfl;rfl;rfl)|((with_reducible apply Y_b 0 H) ;rfl;(simp only[lcQ,List.length_nil];omega);rfl;(clear H;intro u H hu;(try dsimp only[scZ,scS,A_4,ttA,splice,ev,rep,caQ,naQ] at H)))|((with_reducible apply u_o 1 H) ;rfl))
       have A2:=A.sto H ro
       refine t_dv A2 hy rfl ?_
       refine BA9 A2 hy ?_
       have hw2:=H.holds 0 rfl
       rw[show 8-(j+1)+1=8-j by omega] at hw2
       have hr:=d_t W g true d' y.data j ⟨x,hx⟩
       have dl:=(W.da _ _ hy).1
       refine G_b (cw _ t w j d' y.data true A2 W hw2 (H.lt 0 rfl) wr (by omega) (by omega) ⟨x,hx⟩ (by omega)) λv2 u2 hv=>?_
       obtain⟨mu,hv⟩:=hv
       dsimp only at hf
       cases eq2:wayF t.T g true d' y.data j with
       |error e3=>
        rw[eq2] at hv hf hr
        obtain⟨rfl,k9,ho⟩:=hv
        have H2:=H.mut 0 rfl mu ho
        clear H
        have H:=H2
        have:e3≠0:=hr
        repeat' (first|(with_reducible first|refine w_jn ?_|refine F_2 ?_)|((with_reducible apply F_8) ;rfl)|((with_reducible refine D_v (λ_=>?_) (λ_=>?_))<;>first|(exfalso;omega)|skip))
        rw[hf]
        exact d_n 0 H rfl wl rfl λh'' mu ho=>⟨mu,rfl,_,ho⟩
       |ok r2=>
        rw[eq2] at hv hf hr
        obtain⟨rfl,ho⟩:=hv
        have H2:=H.mut 0 rfl mu ho
        clear H
        have H:=H2
        have hr2:=hr.2
        dsimp only at hf
        repeat' (first|(with_reducible first|refine w_jn ?_|refine E_k ?_)|((with_reducible apply F_8) ;rfl)|((with_reducible refine D_v (λ_=>?_) (λ_=>?_))<;>first|(exfalso;omega)|skip)|((with_reducible refine H_6 ?_ ?_) ;omega))
        exact ih (r-1) (by omega) (i+1) r2.1 r2.2 _ _ _ _ _ _ _ _ _ _ _ _ _ (by omega) hr.1 (by omega) (by omega) hf H
    ·have hc2:fol=false∧¬i+1<l.length:=by
      cases fol with
      |true=>exact absurd (.inl rfl) hc
      |false=>exact⟨rfl,λq=>hc (.inr (dn.2 q))⟩
     obtain⟨rfl,hlt⟩:=hc2
     repeat' (first|(with_reducible first|refine w_jn ?_|refine E_k ?_|refine N_k ?_|refine R_m ?_|refine G_7 ?_|refine G_t ?_)|((with_reducible refine J_c (λ_=>?_) (λ_=>?_))<;>first|(exfalso;omega)|skip)|((with_reducible refine H_6 ?_ ?_) ;omega)|((with_reducible refine Q_9 ?_ ?_ ?_) ;omega;omega)|((with_reducible apply u_o 1 H) ;rfl))
     exact sdone _ _ _ _ _ _ _ _ _ _ _ _ λq=>hc q.2
   ·rename_i k3
    cases fol with
    |true=>
     skip
     exact sdone _ _ _ _ _ _ _ _ _ _ _ _ λq=>k3 q.1
    |false=>
     skip
     exact sdone _ _ _ _ _ _ _ _ _ _ _ _ λq=>k3 q.1
 ·have:i=l.length:=by omega
  subst this
  rw[hf,List.drop_length]
  exact d_n 0 H rfl wl rfl λh'' mu ho=>⟨mu,rfl,ho⟩
def wayT(T:Tm)(fol:Bool)(s:Str):Except Nat Nat:=match wayF T 9 fol 1 s 8 with
 |.ok r=>.ok r.1
 |.error e=>.error e
def dirT(T:Tm)(l:List Str):Except Nat Nat:=match I_s T (wayF T 9 true) true l 1 8 with
 |.error e=>.error e
 |.ok r=>match T r.1 with
  |none=>.error 1
  |some x=>if x.k=2 then .ok r.1 else .error 4
theorem r1x{T:Tm}{most:Nat}(W:WF T most):∃x,T 1=some x:=by obtain⟨x,q,_⟩:=W.r1;exact⟨x,q⟩
theorem W_1{T:Tm}{most:Nat}(W:WF T most){fol:Bool}{s:Str}{n:Nat}(h:wayT T fol s=.ok n):∃x,T n=some x:=by
 unfold wayT at h
 have:=d_t W 9 fol 1 s 8 (r1x W)
 cases e:wayF T 9 fol 1 s 8 with
 |error e1=>rw[e] at h;cases h
 |ok r=>rw[e] at h this;injection h with h;subst h;exact this.1
theorem W_2{T:Tm}{most:Nat}(W:WF T most){fol:Bool}{s:Str}{n:Nat}(h:wayT T fol s=.error n):n≠0:=by
 unfold wayT at h
 have:=d_t W 9 fol 1 s 8 (r1x W)
 cases e:wayF T 9 fol 1 s 8 with
 |error e1=>rw[e] at h this;injection h with h;subst h;exact this
 |ok r=>rw[e] at h;cases h
theorem Y_e{T:Tm}{l:List Str}{n:Nat}(h:dirT T l=.ok n):∃x,T n=some x∧x.k=2:=by
 unfold dirT at h
 split at h
 ·cases h
 ·split at h
  ·cases h
  ·rename_i x hx
   split at h
   ·injection h with h;subst h
    exact⟨x,hx,by assumption⟩
   ·cases h
theorem Y_f{T:Tm}{most:Nat}(W:WF T most){l:List Str}{n:Nat}(h:dirT T l=.error n):n≠0:=by
 unfold dirT at h
 have:=c_5 W (wy:=wayF T 9 true) (fol:=true) (λd s k h=>d_t W 9 true d s k h) l 1 8 (r1x W)
 split at h
 ·rename_i e he
  rw[he] at this;injection h with h;subst h;exact this
 ·split at h
  ·injection h with h;omega
  ·split at h
   ·cases h
   ·injection h with h;omega
def CWayT(R:RnK):Prop:=∀(h:Hs)(t:TS)(s:Str)(fol:Bool),TrAt h t→WF t.T t.most→s.length≤50000→R 36 [pV t.p,sV s,.bool fol] h=some (.val (ptV (wayT t.T fol s)) h)
def CDir(R:RnK):Prop:=∀(h:Hs)(t:TS)(l:List Str)(sl:Value),TrAt h t→WF t.T t.most→Rd h sl 1 (ones (strs l))→l.length≤60000→R 40 [pV t.p,sl] h=some (.val (ptV (dirT t.T l)) h)
theorem Be8{R:RnK}{N:Nat}(cw:CWay R 9){h:Hs}{t:TS}{s:Str}{fol:Bool}(A:TrAt h t)(W:WF t.T t.most)(hs:s.length≤50000):r36 R N [pV t.p,sV s,.bool fol] h=some (.val (ptV (wayT t.T fol s)) h):=by
 refine WP.eqn ?_
 have H:=Sto.enter h
 unfold r36
 repeat' (first|(with_reducible first|refine H_i ?_|refine H_1 ?_)|((with_reducible apply H_e) ;rfl;(try dsimp only[splice,ev,A_4,rep,caQ,naQ]))|((with_reducible refine M_f H ?_) ;(clear H;intro u H hu)))
 have A1:=A.st H
 refine G_b (cw u t _ 8 1 s fol A1 W (H.holds 0 rfl) (H.lt 0 rfl) (A.fr _ (lR _)) (by omega) (by omega) (r1x W) hs) λv2 u2 hv=>?_
 obtain⟨mu,hv⟩:=hv
 unfold wayT
 cases e:wayF t.T 9 fol 1 s 8 with
 |error e1=>
  rw[e] at hv
  obtain⟨rfl,k,ho⟩:=hv
  have H2:=H.mut 0 rfl mu ho
  clear H
  have H:=H2
  repeat' (first|((with_reducible apply F_8) ;rfl))
  exact E_z H rfl ⟨rfl,rfl⟩
 |ok r=>
  rw[e] at hv
  obtain⟨rfl,ho⟩:=hv
  have H2:=H.mut 0 rfl mu ho
  clear H
  have H:=H2
  repeat' (first|((with_reducible apply F_8) ;rfl))
  exact E_z H rfl ⟨rfl,rfl⟩
theorem AT5{R:RnK}{N:Nat}(cw:CParts R 9){h:Hs}{t:TS}{l:List Str}{sl:Value}(A:TrAt h t)(W:WF t.T t.most)(hr:Rd h sl 1 (ones (strs l)))(hl:l.length≤60000):r40 R N [pV t.p,sl] h=some (.val (ptV (dirT t.T l)) h):=by
 refine WP.eqn ?_
 have H:=Sto.enter1 hr
 unfold r40
 repeat' (first|(with_reducible first|refine H_i ?_|refine H_1 ?_)|((with_reducible apply H_e) ;rfl;(try dsimp only[splice,ev,A_4,rep,caQ,naQ]))|((with_reducible refine M_f H ?_) ;(clear H;intro u H hu)))
 have A1:=A.st H
 refine G_b (cw u t _ 8 1 l sl true A1 W (H.holds 0 rfl) (H.lt 0 rfl) (A.fr _ (lR _)) (by omega) (by omega) (r1x W) (H.rd 1 rfl) (λb hb e=>H.neR (i:=0) (j:=1) rfl rfl (by decide) (by rw[hb,e])) hl) λv2 u2 hv=>?_
 obtain⟨mu,hv⟩:=hv
 have ok:=c_5 W (wy:=wayF t.T 9 true) (fol:=true) (λd s k h=>d_t W 9 true d s k h) l 1 8 (r1x W)
 unfold dirT
 cases e:I_s t.T (wayF t.T 9 true) true l 1 8 with
 |error e1=>
  rw[e] at hv ok
  obtain⟨rfl,k,ho⟩:=hv
  have H2:=H.mut 0 rfl mu ho
  clear H
  have H:=H2
  have:e1≠0:=ok
  repeat' (first|(with_reducible first|refine w_jn ?_|refine F_2 ?_)|((with_reducible apply F_8) ;rfl)|((with_reducible refine D_v (λ_=>?_) (λ_=>?_))<;>first|(exfalso;omega)|skip))
  exact E_z H rfl ⟨rfl,rfl⟩
 | ok r =>
  rw[e] at hv ok
  obtain⟨rfl,ho⟩:=hv
  obtain⟨x,hx⟩:=ok.1
  have H2:=H.mut 0 rfl mu ho
  clear H
  have H:=H2
  have A2:=A.st H
  dsimp only
  rw[hx]
  dsimp only
  repeat' (first|(with_reducible first|refine w_jn ?_|refine E_k ?_|refine A_g ?_|refine F_w ?_)|((with_reducible apply F_8) ;rfl)|((with_reducible refine D_v (λ_=>?_) (λ_=>?_))<;>first|(exfalso;omega)|skip))
  refine t_mp A2 rfl ?_
  refine t_lk A2 hx ?_
  repeat' (first|(with_reducible first|refine A_g ?_|refine F_w ?_))
  refine t_k A2 hx rfl ?_
  repeat' (first|(with_reducible first|refine w_jn ?_|refine F_2 ?_|refine E_k ?_)|((with_reducible refine D_v (λ_=>?_) (λ_=>?_))<;>first|(exfalso;omega)|skip))
  ·rename_i q
   rw[if_pos q]
   exact E_z H rfl ⟨rfl,rfl⟩
  ·rename_i q
   rw[if_neg q]
   exact E_z H rfl ⟨rfl,rfl⟩
def Q_n(T:Tm)(s:Str):Except Nat (Nat × Str):=match N_3 s with
 |.error e=>.error e
 | .ok r => match dirT T r.1 with
  |.error e=>.error e
  |.ok d=>match findF T d r.2 with
   |some _=>.error 3
   |none=>if d=2 then .error 12 else .ok (d,r.2)
def oldF(T:Tm)(s:Str):Except Nat (Nat × Str × Nat):=match N_3 s with
 |.error e=>.error e
 | .ok r => match dirT T r.1 with
  |.error e=>.error e
  |.ok d=>match findF T d r.2 with
   |some n=>.ok (d,r.2,n)
   |none=>.error 2
def frV:Except Nat (Nat × Str)→Value
 |.ok r=>.tuple #[kI r.1,sV r.2,kI 0]
 |.error e=>.tuple #[kI 0,sV [],kI e]
def olV:Except Nat (Nat × Str × Nat)→Value
 |.ok r=>.tuple #[kI r.1,sV r.2.1,kI r.2.2,kI 0]
 |.error e=>.tuple #[kI 0,sV [],kI 0,kI e]
theorem P_w{D:Str}{e:Nat}(h:N_3 D=.error e):e≠0:=by
 unfold N_3 at h
 split at h
 ·rename_i e1 he
  injection h with h;subst h;exact c_4 he
 ·split at h
  ·injection h with h;omega
  ·split at h
   ·injection h with h;omega
   ·cases h
theorem U_x{D:Str}{r:List Str × Str}(hD:D.length≤50000)(h:N_3 D=.ok r):r.1.length≤50001∧r.2.length≤400:=by
 unfold N_3 at h
 split at h
 ·cases h
 ·rename_i l he
  have:=Y_s hD he
  split at h
  ·cases h
  ·rename_i x hx
   split at h
   ·cases h
   ·injection h with h;subst h
    exact⟨by show l.dropLast.length≤_;rw[List.length_dropLast];omega,this.2.2 x (List.mem_of_getLast? hx)⟩
def CFresh(R:RnK):Prop:=∀(h:Hs)(t:TS)(s:Str),TrAt h t→WF t.T t.most→s.length≤50000→R 33 [pV t.p,sV s] h=some (.val (frV (Q_n t.T s)) h)
def COld(R:RnK):Prop:=∀(h:Hs)(t:TS)(s:Str),TrAt h t→WF t.T t.most→s.length≤50000→R 37 [pV t.p,sV s] h=some (.val (olV (oldF t.T s)) h)
theorem AE0{R:RnK}{N:Nat}(cl:CLast R)(cd:CDir R)(cf:CFind R){h:Hs}{t:TS}{s:Str}(A:TrAt h t)(W:WF t.T t.most)(hs:s.length≤50000):r33 R N [pV t.p,sV s] h=some (.val (frV (Q_n t.T s)) h):=by
 refine WP.eqn ?_
 have H:=Sto.enter h
 unfold r33
 repeat' (first|(with_reducible first|refine H_i ?_|refine H_1 ?_))
 refine G_b (cl s _ hs) λv u hv=>?_
 unfold Q_n
 cases e:N_3 s with
 |error e1=>
  rw[e] at hv
  obtain⟨rfl,rfl⟩:=hv
  have:=P_w e
  repeat' (first|(with_reducible first|refine w_jn ?_|refine F_2 ?_)|((with_reducible apply F_8) ;rfl)|((with_reducible refine D_v (λ_=>?_) (λ_=>?_))<;>first|(exfalso;omega)|skip))
  exact E_z H rfl ⟨rfl,rfl⟩
 | ok r =>
  rw[e] at hv
  obtain⟨sl,rfl,n⟩:=hv
  have ll:=U_x hs e
  replace H:=H.call n
  clear n
  have A1:=A.st H
  repeat' (first|(refine E_b (cd u t r.1 sl A1 W (H.rdO 0 rfl) (by omega)) ?_))
  dsimp only
  cases e2:dirT t.T r.1 with
  |error e3=>
   have:=Y_f W e2
   unfold ptV
   repeat' (first|(with_reducible first|refine w_jn ?_|refine F_2 ?_)|((with_reducible apply F_8) ;rfl)|((with_reducible refine D_v (λ_=>?_) (λ_=>?_))<;>first|(exfalso;omega)|skip))
   exact E_z H rfl ⟨rfl,rfl⟩
  | ok d =>
   obtain⟨x,hx,hk⟩:=Y_e e2
   unfold ptV
   repeat' (first|(refine E_b (cf u t d x r.2 A1 hx hk) ?_))
   dsimp only
   cases e4:findF t.T d r.2 with
   |some m=>
    unfold fdV
    repeat' (first|(with_reducible first|refine w_jn ?_|refine F_2 ?_)|((with_reducible apply F_8) ;rfl))
    exact E_z H rfl ⟨rfl,rfl⟩
   | none =>
    unfold fdV
    dsimp only
    repeat' (first|(with_reducible first|refine w_jn ?_|refine F_2 ?_|refine E_k ?_)|((with_reducible apply F_8) ;rfl)|((with_reducible refine G_h (λ_=>?_) (λ_=>?_))<;>first|(exfalso;omega)|skip))
    ·rename_i q
     rw[if_pos q]
     exact E_z H rfl ⟨rfl,rfl⟩
    ·rename_i q
     rw[if_neg q]
     exact E_z H rfl ⟨rfl,rfl⟩
theorem Bm7{R:RnK}{N:Nat}(cl:CLast R)(cd:CDir R)(cf:CFind R){h:Hs}{t:TS}{s:Str}(A:TrAt h t)(W:WF t.T t.most)(hs:s.length≤50000):r37 R N [pV t.p,sV s] h=some (.val (olV (oldF t.T s)) h):=by
 refine WP.eqn ?_
 have H:=Sto.enter h
 unfold r37
 repeat' (first|(with_reducible first|refine H_i ?_|refine H_1 ?_))
 refine G_b (cl s _ hs) λv u hv=>?_
 unfold oldF
 cases e:N_3 s with
 |error e1=>
  rw[e] at hv
  obtain⟨rfl,rfl⟩:=hv
  have:=P_w e
  repeat' (first|(with_reducible first|refine w_jn ?_|refine F_2 ?_)|((with_reducible apply F_8) ;rfl)|((with_reducible refine D_v (λ_=>?_) (λ_=>?_))<;>first|(exfalso;omega)|skip))
  exact E_z H rfl ⟨rfl,rfl⟩
 | ok r =>
  rw[e] at hv
  obtain⟨sl,rfl,n⟩:=hv
  have ll:=U_x hs e
  replace H:=H.call n
  clear n
  have A1:=A.st H
  repeat' (first|(refine E_b (cd u t r.1 sl A1 W (H.rdO 0 rfl) (by omega)) ?_))
  dsimp only
  cases e2:dirT t.T r.1 with
  |error e3=>
   have:=Y_f W e2
   unfold ptV
   repeat' (first|(with_reducible first|refine w_jn ?_|refine F_2 ?_)|((with_reducible apply F_8) ;rfl)|((with_reducible refine D_v (λ_=>?_) (λ_=>?_))<;>first|(exfalso;omega)|skip))
   exact E_z H rfl ⟨rfl,rfl⟩
  | ok d =>
   obtain⟨x,hx,hk⟩:=Y_e e2
   unfold ptV
   repeat' (first|(refine E_b (cf u t d x r.2 A1 hx hk) ?_))
   dsimp only
   cases e4:findF t.T d r.2 with
   |some m=>
    unfold fdV
    repeat' (first|(with_reducible first|refine w_jn ?_|refine E_k ?_|refine Z_q ?_)|((with_reducible apply F_8) ;rfl))
    exact E_z H rfl ⟨rfl,rfl⟩
   |none=>
    unfold fdV
    repeat' (first|(with_reducible first|refine w_jn ?_|refine F_2 ?_|refine u_q ?_)|((with_reducible apply F_8) ;rfl))
    exact E_z H rfl ⟨rfl,rfl⟩
def updI(T:Tm)(n:Nat)(f:Itm→Itm):Tm:=λj=>if j=n then (T n).map f else T j
theorem G_x{T:Tm}{n:Nat}{f:Itm→Itm}{x:Itm}(hx:T n=some x)(j:Nat):updI T n f j=if j=n then some (f x) else T j:=by
 unfold updI
 by_cases e:j=n
 ·rw[if_pos e,if_pos e,hx];rfl
 ·rw[if_neg e,if_neg e]
theorem K_f{T:Tm}{n:Nat}{f:Itm→Itm}{x:Itm}(hx:T n=some x):updI T n f n=some (f x):=by rw[G_x hx,if_pos rfl]
theorem H_d{T:Tm}{n j:Nat}{f:Itm→Itm}(h:j≠n):updI T n f j=T j:=by unfold updI;rw[if_neg h]
def R_n(s:Str)(m:Nat)(x:Itm):Itm:={ x with names:=λz=>if z=s then some m else x.names z,cnt:=x.cnt+1 }
def K_8(s:Str)(x:Itm):Itm:={ x with names:=λz=>if z=s then none else x.names z,cnt:=x.cnt-1 }
def x_3(d:Nat)(x:Itm):Itm:={ x with up:=d }
def O_7(l:Int)(x:Itm):Itm:={ x with links:=l }
theorem ItAt.fr3{h u:Hs}{L:Lay}{n B B':Nat}{x:Itm}(A:ItAt h L n x B)(hn:h.nx≤u.nx)(hB:B≤B')(h1:u.hp.get (L.q n)=h.hp.get (L.q n))(h2:x.k=2→u.hp.get (L.nb n)=h.hp.get (L.nb n))(h3:∀b,vId (L.dv n)=some b→u.hp.get b=h.hp.get b):ItAt u L n x B':=by
 refine⟨?_,llN A.ql hn,A.rq,λk=>?_,?_,λb hb=>⟨llN (A.rd b hb).1 hn,(A.rd b hb).2⟩⟩
 ·obtain⟨fl,r⟩:=A.row
  exact⟨fl,by rw[h1];exact r⟩
 ·obtain⟨a,b,es,cl,r,M⟩:=A.nm k
  exact⟨llN a hn,b,es,cl,by rw[h2 k];exact r,M.mono hB⟩
 ·exact A.da.congr h3
theorem ItAt.set1{h:Hs}{L:Lay}{n B B' b lo:Nat}{x:Itm}{o:Option Blk}(A:ItAt h L n x B)(hB:B≤B')(h1:L.ro b≠some (.item n))(h2:L.ro b≠some (.nms n))(h3:L.ro b≠some (.dat n)):ItAt ⟨h.hp.set b o,h.nx,lo⟩ L n x B':=
 A.fr3 (lR _) hB (by show (h.hp.set b o).get _=_;rw[tgS,if_neg (λe=>h1 (by rw[e];exact A.rq))])
  (λk=>by show (h.hp.set b o).get _=_;rw[tgS,if_neg (λe=>h2 (by rw[e];exact(A.nm k).2.1))])
  (λc hc=>by show (h.hp.set b o).get _=_;rw[tgS,if_neg (λe=>h3 (by rw[e];exact(A.rd c hc).2))])
theorem P_v{h:Hs}{b:Nat}{o:Option Blk}:MutS [b] h ⟨h.hp.set b o,h.nx,minN h.lo b⟩:=by
 refine⟨lR _,λx _ hn=>?_,λx h1 h2=>?_,F_1 _ _,λs hs=>.inl ?_⟩
 ·show (h.hp.set b o).get x=_
  rw[tgS,if_neg (by simpa using λz=>hn (by simp[z]))]
 ·show x≤minN h.lo b
  rw[minN_eq]
  have:=h2 b (by simp)
  omega
 ·rw[msQ.1 hs];exact C_m _ _
theorem TrAt.names{h:Hs}{t:TS}{d lo:Nat}{x:Itm}{f:Itm→Itm}{es:List MapEntry}{cl:Nat}(A:TrAt h t)(hx:t.T d=some x)(hk:x.k=2)(hf:(f x).k=x.k∧(f x).up=x.up∧(f x).links=x.links∧(f x).data=x.data)(M:MapC sV (λs=>((f x).names s).map kI) (f x).cnt (t.B+1) es cl) :
 TrAt ⟨h.hp.set (t.L.nb d) (some (.mp es cl)),h.nx,lo⟩ { t with T:=updI t.T d f,B:=t.B+1 }:=by
 obtain⟨rw',fl,tr⟩:=A.tr
 obtain⟨es0,cl0,mp,M0⟩:=A.mp
 have I:=A.it d x hx
 obtain⟨nl,nr,es1,cl1,nh,_⟩:=I.nm hk
 have ne:∀b r,t.L.ro b=some r→r≠.nms d→(h.hp.set (t.L.nb d) (some (.mp es cl))).get b=h.hp.get b:=λb r hr q=>by
  rw[tgS,if_neg (λe=>q (by rw[←e,nr] at hr;injection hr with hr;exact hr.symm))]
 refine⟨⟨rw',fl,by show Holds ((h.hp.set _ _).get t.p) _;rw[ne _ _ A.rp (by simp)];exact tr⟩,A.pl,A.rp,⟨es0,cl0,by show Holds ((h.hp.set _ _).get t.mb) _;rw[ne _ _ A.rm (by simp)];exact mp,?_⟩,A.ml,A.rm,λn y hy=>?_,A.fr⟩
 ·refine(M0.mono (Nat.le_succ _)).cg λa=>?_
  show (t.T a).map _=(updI t.T d f a).map _
  rw[G_x hx]
  by_cases e:a=d
  ·rw[if_pos e,e,hx];rfl
  ·rw[if_neg e]
 ·have hy:updI t.T d f n=some y:=hy
  rw[G_x hx] at hy
  by_cases e:n=d
  ·rw[if_pos e] at hy
   injection hy with hy;subst hy;subst e
   obtain⟨f1,f2,f3,f4⟩:=hf
   obtain⟨fl2,r⟩:=I.row
   refine⟨⟨fl2,?_⟩,I.ql,I.rq,λ_=>⟨nl,nr,es,cl,?_,M⟩,?_,?_⟩
   ·show Holds ((h.hp.set _ _).get _) _
    rw[ne _ _ I.rq (by simp)]
    have:rowI t.L n (f x)=rowI t.L n x:=by unfold rowI nmV;rw[f1,f2,f3]
    rw[this];exact r
   ·show Holds ((h.hp.set _ _).get _) _
    rw[tgS,if_pos rfl];rfl
   ·rw[f4]
    exact I.da.congr λb hb=>ne _ _ (I.rd b hb).2 (by simp)
   ·exact I.rd
  ·rw[if_neg e] at hy
   exact(A.it n y hy).set1 (Nat.le_succ _) (by rw[nr];simp) (by rw[nr];simp;exactλq=>e q.symm) (by rw[nr];simp)
section
variable {Q:Value→Hs→Prop} {u:Hs} {t:TS} {F:KV}
theorem Br6{d m:Nat}{s:Str}{x:Itm}(A:TrAt u t)(hx:t.T d=some x)(hk:x.k=2)(hs:x.names s=none)(hB:t.B<1000000000000)
 (kk:∀u',MutS [t.L.nb d] u u'→u'.nx=u.nx→TrAt u' { t with T:=updI t.T d (R_n s m),B:=t.B+1 }→WP (F undef' u') Q):WP (after F (mapup1 false u (sV s) (kI m) (.map (some (t.L.nb d))))) Q:=by
 obtain⟨nl,nr,es,cl,nh,M⟩:=(A.it d x hx).nm hk
 have nh:u.hp.get (t.L.nb d)=some (.mp es cl):=nh
 obtain⟨es',cl',e,M'⟩:=Ax6 Aj0 (v:=kI m) (h:=u) nh M hB (by show (x.names s).map kI=none;rw[hs];rfl)
 rw[e]
 refine kk _ P_v rfl (A.names hx hk ⟨rfl,rfl,rfl,rfl⟩ (M'.cg λa=>?_))
 show (if a=s then some (kI m) else (x.names a).map kI)=(if a=s then some m else x.names a).map kI
 split<;>rfl
theorem AQ6{d m:Nat}{s:Str}{x:Itm}(A:TrAt u t)(hx:t.T d=some x)(hk:x.k=2)(hs:x.names s=some m)
 (kk:∀u',MutS [t.L.nb d] u u'→u'.nx=u.nx→TrAt u' { t with T:=updI t.T d (K_8 s),B:=t.B+1 }→WP (F undef' u') Q):WP (after F (mapdel1 false u (sV s) (.map (some (t.L.nb d))))) Q:=by
 obtain⟨nl,nr,es,cl,nh,M⟩:=(A.it d x hx).nm hk
 have nh:u.hp.get (t.L.nb d)=some (.mp es cl):=nh
 obtain⟨es',cl',e,M'⟩:=AQ3 Aj0 (h:=u) nh M (by show (x.names s).map kI≠none;rw[hs];simp)
 rw[e]
 refine kk _ P_v rfl (A.names hx hk ⟨rfl,rfl,rfl,rfl⟩ ((M'.mono (Nat.le_succ _)).cg λa=>?_))
 show (if a=s then none else (x.names a).map kI)=(if a=s then none else x.names a).map kI
 split<;>rfl
theorem st1E{b o e un:Nat}{fl:Bool}{L:List Value}{x:Value}{K:KV}(hb:Holds (u.hp.get b) (.row e un true fl L))(ho:o<L.length)(hx:oneC x=true) :
 ∃B,Holds (some B) (.row e un true (andB fl (flat1 x)) (L.set o x))∧H_l (.pointer (some ⟨b,o,none⟩)) x u K=K undef' ⟨u.hp.set b (some B),u.nx,minN u.lo b⟩:=by
 obtain⟨c,f,hb,hf,hc⟩:=hb
 have hv:Tr.getK c o=some L[o]:=by rw[getK_eq,hc,gqG ho]
 refine⟨.row (c.set o (some x)) L.length e un true (andB f (flat1 x)),⟨c.set o (some x),andB f (flat1 x),by rw[List.length_set],λhh=>?_,λi=>?_⟩,?_⟩
 ·cases fl with
  |false=>cases hh
  |true=>rw[hf rfl];exact hh
 ·rw[tgS,List.getElem?_set]
  by_cases e:o=i
  ·rw[if_pos e,if_pos e]
   subst e
   simp[ho]
  ·rw[if_neg e,if_neg e];exact hc i
 ·unfold H_l
  rw[hx]
  show getB u b (λB=>st1 u b o x K B)=_
  unfold getB
  rw[getK_eq,hb]
  show st1 u b o x K (.row c L.length e un true f)=_
  unfold st1
  show Option.rec (motive:=λ_=>An) none _ (Tr.getK c o)=_
  rw[hv]
  obtain⟨hp,nx,lo⟩:=u
  show flF f x _=_
  rw[Ae8,Ak0,setK_eq,setK_eq]
end
theorem TrAt.row{h:Hs}{t:TS}{n lo:Nat}{x:Itm}{f:Itm→Itm}{fl:Bool}{B:Blk}(A:TrAt h t)(hx:t.T n=some x)(hf:(f x).k=x.k∧(f x).names=x.names∧(f x).cnt=x.cnt∧(f x).data=x.data)(hB:Holds (some B) (.row 49 0 true fl (rowI t.L n (f x)))) :
 TrAt ⟨h.hp.set (t.L.q n) (some B),h.nx,lo⟩ { t with T:=updI t.T n f }:=by
 obtain⟨rw',fl0,tr⟩:=A.tr
 obtain⟨es0,cl0,mp,M0⟩:=A.mp
 have I:=A.it n x hx
 have ne:∀b r,t.L.ro b=some r→r≠.item n→(h.hp.set (t.L.q n) (some B)).get b=h.hp.get b:=λb r hr q=>by
  rw[tgS,if_neg (λe=>q (by rw[←e,I.rq] at hr;injection hr with hr;exact hr.symm))]
 refine⟨⟨rw',fl0,by show Holds ((h.hp.set _ _).get t.p) _;rw[ne _ _ A.rp (by simp)];exact tr⟩,A.pl,A.rp,⟨es0,cl0,by show Holds ((h.hp.set _ _).get t.mb) _;rw[ne _ _ A.rm (by simp)];exact mp,?_⟩,A.ml,A.rm,λj y hy=>?_,A.fr⟩
 ·refine M0.cg λa=>?_
  show (t.T a).map _=(updI t.T n f a).map _
  rw[G_x hx]
  by_cases e:a=n
  ·rw[if_pos e,e,hx];rfl
  ·rw[if_neg e]
 ·have hy:updI t.T n f j=some y:=hy
  rw[G_x hx] at hy
  by_cases e:j=n
  ·rw[if_pos e] at hy
   injection hy with hy;subst hy;subst e
   obtain⟨f1,f2,f3,f4⟩:=hf
   refine⟨⟨fl,?_⟩,I.ql,I.rq,λk=>?_,?_,?_⟩
   ·show Holds ((h.hp.set _ _).get _) _
    rw[tgS,if_pos rfl];exact hB
   ·rw[f1] at k
    obtain⟨nl,nr,es,cl,nh,M⟩:=I.nm k
    refine⟨nl,nr,es,cl,?_,by rw[f2,f3];exact M⟩
    show Holds ((h.hp.set _ _).get _) _
    rw[ne _ _ nr (by simp)];exact nh
   ·rw[f4]
    exact I.da.congr λb hb=>ne _ _ (I.rd b hb).2 (by simp)
   ·exact I.rd
  ·rw[if_neg e] at hy
   exact(A.it j y hy).set1 (lR _) (by rw[I.rq];simp;exactλq=>e q.symm) (by rw[I.rq];simp) (by rw[I.rq];simp)
section
variable {Q:Value→Hs→Prop} {u:Hs} {t:TS} {F:KV} {n:Nat} {x:Itm}
theorem BC8{d:Nat}(A:TrAt u t)(hx:t.T n=some x)(kk:∀u',MutS [t.L.q n] u u'→u'.nx=u.nx→TrAt u' { t with T:=updI t.T n (x_3 d) }→WP (F undef' u') Q):WP (H_l (.pointer (some ⟨t.L.q n,0+3,none⟩)) (kI d) u F) Q:=by
 obtain⟨fl,r⟩:=(A.it n x hx).row
 obtain⟨B,hB,e⟩:=st1E (K:=F) (o:=0+3) (x:=kI d) r (by show 3<5;decide) rfl
 rw[e]
 exact kk _ P_v rfl (A.row hx ⟨rfl,rfl,rfl,rfl⟩ (by exact hB))
theorem Be0{l:Int}(A:TrAt u t)(hx:t.T n=some x)(kk:∀u',MutS [t.L.q n] u u'→u'.nx=u.nx→TrAt u' { t with T:=updI t.T n (O_7 l) }→WP (F undef' u') Q):WP (H_l (.pointer (some ⟨t.L.q n,0+4,none⟩)) (.int .i64 l) u F) Q:=by
 obtain⟨fl,r⟩:=(A.it n x hx).row
 obtain⟨B,hB,e⟩:=st1E (K:=F) (o:=0+4) (x:=.int .i64 l) r (by show 4<5;decide) rfl
 rw[e]
 exact kk _ P_v rfl (A.row hx ⟨rfl,rfl,rfl,rfl⟩ (by exact hB))
def delN(T:Tm)(n:Nat):Tm:=λj=>if j=n then none else T j
theorem Br0(A:TrAt u t)(hx:t.T n=some x)(kk:∀u',MutS [t.mb] u u'→u'.nx=u.nx→TrAt u' { t with T:=delN t.T n,c:=t.c-1 }→WP (F undef' u') Q):WP (after F (mapdel1 true u (kI n) (.map (some t.mb)))) Q:=by
 obtain⟨rw',fl0,tr⟩:=A.tr
 obtain⟨es,cl,mp,M⟩:=A.mp
 have mp:u.hp.get t.mb=some (.mp es cl):=mp
 obtain⟨es',cl',e,M'⟩:=AQ3 w_w (h:=u) (a:=n) mp M (by show (t.T n).map _≠none;rw[hx];simp)
 rw[e]
 have ne:∀b r,t.L.ro b=some r→r≠.map→(u.hp.set t.mb (some (.mp es' cl'))).get b=u.hp.get b:=λb r hr q=>by
  rw[tgS,if_neg (λe=>q (by rw[←e,A.rm] at hr;injection hr with hr;exact hr.symm))]
 refine kk _ P_v rfl ⟨⟨rw',fl0,by show Holds ((u.hp.set _ _).get t.p) _;rw[ne _ _ A.rp (by simp)];exact tr⟩,A.pl,A.rp,⟨es',cl',by show Holds ((u.hp.set _ _).get t.mb) _;rw[tgS,if_pos rfl];rfl,M'.cg λa=>?_⟩,A.ml,A.rm,λj y hy=>?_,A.fr⟩
 ·show (if a=n then none else (t.T a).map _)=(delN t.T n a).map _
  unfold delN
  split<;>rfl
 ·have hy:delN t.T n j=some y:=hy
  unfold delN at hy
  split at hy
  ·cases hy
  ·exact(A.it j y hy).set1 (lR _) (by rw[A.rm];simp) (by rw[A.rm];simp) (by rw[A.rm];simp)
end
theorem r_s{T:Tm}{n:Nat}{f g:Itm→Itm}{x:Itm}(hx:T n=some x)(h:f x=g x):updI T n f=updI T n g:=by
 funext j
 rw[G_x hx,G_x hx,h]
theorem TrAt.neN{h h':Hs}{t t':TS}(A:TrAt h t)(A':TrAt h' t')(hL:t'.L.nb=t.L.nb){d:Nat}{x x':Itm}{s:Str}(hx:t.T d=some x)(hx':t'.T d=some x')(hk:x.k=2)(hk':x'.k=2)(hs:x.names s≠x'.names s):h'.hp.get (t.L.nb d)≠h.hp.get (t.L.nb d):=by
 obtain⟨_,_,es,cl,nh,M⟩:=(A.it d x hx).nm hk
 obtain⟨_,_,es',cl',nh',M'⟩:=(A'.it d x' hx').nm hk'
 rw[hL] at nh'
 have nh:h.hp.get (t.L.nb d)=some (.mp es cl):=nh
 have nh':h'.hp.get (t.L.nb d)=some (.mp es' cl'):=nh'
 rw[nh,nh']
 intro e
 injection e with e
 injection e with e1 e2
 subst e1
 refine MapC.ne Aj0 M M' (a:=s) (λq=>hs ?_) rfl
 cases e1:x.names s with
 |none=>cases e2:x'.names s with
  |none=>rfl
  |some b=>rw[e1,e2] at q;cases q
 | some a => cases e2 : x'.names s with
  |none=>rw[e1,e2] at q;cases q
  |some b=>
   rw[e1,e2] at q
   injection q with q
   injection q with q1 q2
   injection q2 with q2
   rw[q2]
def I_e(d:Nat)(y:Itm):Itm:=if y.k=2 then x_3 d y else O_7 (y.links+1) y
def putT(T:Tm)(d:Nat)(s:Str)(n:Nat):Tm:=updI (updI T d (R_n s n)) n (I_e d)
def PutQ(h:Hs)(t:TS)(d:Nat)(s:Str)(n:Nat)(v:Value)(h':Hs):Prop:=v=.tuple #[]∧MutS [t.L.nb d,t.L.q n] h h'∧TrAt h' { t with T:=putT t.T d s n,B:=t.B+1 }
def CPut(R:RnK):Prop:=∀(h:Hs)(t:TS)(d n:Nat)(s:Str)(x y:Itm),TrAt h t→t.T d=some x→x.k=2→x.names s=none→t.T n=some y→n≠d→t.B<1000000000000→0≤y.links→y.links≤1000→WP (R 35 [pV t.p,kI d,sV s,kI n] h) (PutQ h t d s n)
theorem Bn8{R:RnK}{N:Nat}{h:Hs}{t:TS}{d n:Nat}{s:Str}{x y:Itm}(A:TrAt h t)(hx:t.T d=some x)(hk:x.k=2)(hs:x.names s=none)(hy:t.T n=some y)(nd:n≠d)(hB:t.B<1000000000000)(l0:0≤y.links)(l1:y.links≤1000) :
 WP (r35 R N [pV t.p,kI d,sV s,kI n] h) (PutQ h t d s n):=by
 have H:=(Sto.enter h).wide [t.L.nb d,t.L.q n]
 have A1:=A.en h.nx
 have I:=A.it d x hx
 have J:=A.it n y hy
 have hS:∀s ∈ [t.L.nb d,t.L.q n],s<h.nx:=λs hs=>by
  rcases mcQ.1 hs with rfl|hs
  ·exact(I.nm hk).1
  ·rw[msQ.1 hs];exact J.ql
 unfold r35
 repeat' (first|(with_reducible first|refine H_i ?_|refine H_1 ?_|refine A_g ?_|refine F_w ?_))
 refine t_mp A1 rfl ?_
 refine t_lk A1 hy ?_
 repeat' (first|(with_reducible first|refine A_g ?_|refine F_w ?_))
 refine t_mp A1 rfl ?_
 refine t_lk A1 hx ?_
 repeat' (first|(with_reducible first|refine A_g ?_|refine F_w ?_))
 refine t_nm A1 hx hk rfl ?_
 refine Br6 A1 hx hk hs hB λu1 M1 n1 A2=>?_
 have H1:=H.mutS M1 (λs hs=>.inr (by rw[msQ.1 hs];exact mcS)) (λt ht=>by cases ht)
 clear H
 have hy2:(updI t.T d (R_n s n)) n=some y:=by rw[H_d nd];exact hy
 repeat' (first|(with_reducible first|refine A_g ?_|refine F_w ?_))
 refine t_k (t:={ t with T:=updI t.T d (R_n s n),B:=t.B+1 }) A2 hy2 rfl ?_
 have fin:∀(u2:Hs)(f:Itm→Itm),MutS [t.L.q n] u1 u2→TrAt u2 { t with T:=updI (updI t.T d (R_n s n)) n f,B:=t.B+1 }→f y=I_e d y→WP (clrK h (.tuple #[]) u2) (PutQ h t d s n):=λu2 f M2 A3 hf=>by
  have H2:=H1.mutS M2 (λs hs=>.inr (by rw[msQ.1 hs];exact mcM _ mcS)) (λt ht=>by cases ht)
  have e:updI (updI t.T d (R_n s n)) n f=putT t.T d s n:=r_s hy2 hf
  rw[e] at A3
  have hd3:putT t.T d s n d=some (R_n s n x):=by
   unfold putT
   rw[H_d (λq=>nd q.symm),K_f hx]
  refine d_r H2 (I.nm hk).1 mcS hS (A.neN A3 rfl hx hd3 hk hk (s:=s) ?_) λh'' mu e1 e2=>⟨rfl,mu,A3.ext (Nat.le_of_eq e2.symm) λb _ _=>by rw[e1]⟩
  show x.names s≠if s=s then some n else x.names s
  rw[hs,if_pos rfl];simp
 repeat' (first|(with_reducible first|refine w_jn ?_|refine F_2 ?_|refine E_k ?_|refine A_g ?_|refine F_w ?_)|((with_reducible refine G_h (λ_=>?_) (λ_=>?_))<;>first|(exfalso;omega)|skip))
 ·refine BC8 (t:={ t with T:=updI t.T d (R_n s n),B:=t.B+1 }) A2 hy2 λu2 M2 n2 A3=>fin u2 _ M2 A3 ?_
  unfold I_e;rw[if_pos (by assumption)]
 ·refine t_ln (t:={ t with T:=updI t.T d (R_n s n),B:=t.B+1 }) A2 hy2 rfl ?_
  repeat' (first|(with_reducible first|refine A_g ?_|refine F_w ?_)|((with_reducible refine AM0 ?_ ?_ ?_) ;omega;omega))
  refine Be0 (t:={ t with T:=updI t.T d (R_n s n),B:=t.B+1 }) A2 hy2 λu2 M2 n2 A3=>fin u2 _ M2 A3 ?_
  unfold I_e;rw[if_neg (by assumption)];rfl
def N_e(T:Tm)(d:Nat)(s:Str)(n:Nat):Tm:=match T n with
 |none=>T
 |some y=>if y.links≤1 then delN (updI T d (K_8 s)) n else updI (updI T d (K_8 s)) n (λy=>O_7 (y.links-1) y)
def v_0(T:Tm)(n c:Nat):Nat:=match T n with
 |none=>c
 |some y=>if y.links≤1 then c-1 else c
def DropQ(h:Hs)(t:TS)(d:Nat)(s:Str)(n:Nat)(v:Value)(h':Hs):Prop:=v=.tuple #[]∧MutS [t.L.nb d,t.L.q n,t.mb] h h'∧TrAt h' { t with T:=N_e t.T d s n,c:=v_0 t.T n t.c,B:=t.B+1 }
def CDrop(R:RnK):Prop:=∀(h:Hs)(t:TS)(d n:Nat)(s:Str)(x y:Itm),TrAt h t→t.T d=some x→x.k=2→x.names s=some n→t.T n=some y→n≠d→0≤y.links→y.links≤1000→WP (R 38 [pV t.p,kI d,sV s] h) (DropQ h t d s n)
theorem AT8{R:RnK}{N:Nat}{h:Hs}{t:TS}{d n:Nat}{s:Str}{x y:Itm}(A:TrAt h t)(hx:t.T d=some x)(hk:x.k=2)(hs:x.names s=some n)(hy:t.T n=some y)(nd:n≠d)(l0:0≤y.links)(l1:y.links≤1000) :
 WP (r38 R N [pV t.p,kI d,sV s] h) (DropQ h t d s n):=by
 have H:=(Sto.enter h).wide [t.L.nb d,t.L.q n,t.mb]
 have A1:=A.en h.nx
 have I:=A.it d x hx
 have J:=A.it n y hy
 have hS:∀s ∈ [t.L.nb d,t.L.q n,t.mb],s<h.nx:=λs hs=>by
  rcases mcQ.1 hs with rfl|hs
  ·exact(I.nm hk).1
  ·rcases mcQ.1 hs with rfl|hs
   ·exact J.ql
   ·rw[msQ.1 hs];exact A.ml
 unfold r38
 repeat' (first|(with_reducible first|refine H_i ?_|refine H_1 ?_|refine A_g ?_|refine F_w ?_))
 refine t_mp A1 rfl ?_
 refine t_lk A1 hx ?_
 repeat' (first|(with_reducible first|refine A_g ?_|refine F_w ?_))
 refine t_nm A1 hx hk rfl ?_
 refine Bp9 A1 hx hk hs ?_
 repeat' (first|(with_reducible first|refine A_g ?_|refine F_w ?_))
 refine t_mp A1 rfl ?_
 refine t_lk A1 hy ?_
 repeat' (first|(with_reducible first|refine A_g ?_|refine F_w ?_))
 refine t_mp A1 rfl ?_
 refine t_lk A1 hx ?_
 repeat' (first|(with_reducible first|refine A_g ?_|refine F_w ?_))
 refine t_nm A1 hx hk rfl ?_
 refine AQ6 A1 hx hk hs λu1 M1 n1 A2=>?_
 have H1:=H.mutS M1 (λs hs=>.inr (by rw[msQ.1 hs];exact mcS)) (λt ht=>by cases ht)
 clear H
 have hy2:(updI t.T d (K_8 s)) n=some y:=by rw[H_d nd];exact hy
 repeat' (first|(with_reducible first|refine A_g ?_|refine F_w ?_))
 refine t_ln (t:={ t with T:=updI t.T d (K_8 s),B:=t.B+1 }) A2 hy2 rfl ?_
 repeat' (first|(with_reducible first|refine A_g ?_|refine F_w ?_)|((with_reducible refine u_r ?_ ?_ ?_) ;omega;omega))
 refine Be0 (t:={ t with T:=updI t.T d (K_8 s),B:=t.B+1 }) A2 hy2 λu2 M2 n2 A3=>?_
 have H2:=H1.mutS M2 (λs hs=>.inr (by rw[msQ.1 hs];simp)) (λt ht=>by cases ht)
 clear H1
 have hy3:(updI (updI t.T d (K_8 s)) n (O_7 (y.links-1))) n=some (O_7 (y.links-1) y):=K_f hy2
 have fin:∀(u3:Hs),Sto h [t.L.nb d,t.L.q n,t.mb] u3 []→TrAt u3 { t with T:=N_e t.T d s n,c:=v_0 t.T n t.c,B:=t.B+1 }→WP (clrK h (.tuple #[]) u3) (DropQ h t d s n):=λu3 H3 A4=>by
  have hd3:N_e t.T d s n d=some (K_8 s x):=by
   unfold N_e
   rw[hy]
   dsimp only
   split
   ·unfold delN
    rw[if_neg (λq=>nd q.symm),K_f hx]
   ·rw[H_d (λq=>nd q.symm),K_f hx]
  refine d_r H3 (I.nm hk).1 mcS hS (A.neN A4 rfl hx hd3 hk hk (s:=s) ?_) λh'' mu e1 e2=>⟨rfl,mu,A4.ext (Nat.le_of_eq e2.symm) λb _ _=>by rw[e1]⟩
  show x.names s≠if s=s then none else x.names s
  rw[hs,if_pos rfl];simp
 repeat' (first|(with_reducible first|refine A_g ?_|refine F_w ?_))
 refine t_ln (t:={ t with T:=updI (updI t.T d (K_8 s)) n (O_7 (y.links-1)),B:=t.B+1 }) A3 hy3 rfl ?_
 show WP (kI64 .leq (.int .i64 (y.links-1)) (.int .i64 (.ofNat 0)) _) _
 refine AM3 (λq=>?_) λq=>?_
 ·repeat' (first|(with_reducible first|refine w_jn ?_|refine F_2 ?_|refine A_g ?_|refine F_w ?_))
  refine t_mp (t:={ t with T:=updI (updI t.T d (K_8 s)) n (O_7 (y.links-1)),B:=t.B+1 }) A3 rfl ?_
  refine Br0 (t:={ t with T:=updI (updI t.T d (K_8 s)) n (O_7 (y.links-1)),B:=t.B+1 }) A3 hy3 λu3 M3 n3 A4=>?_
  refine fin u3 (H2.mutS M3 (λs hs=>.inr (by rw[msQ.1 hs];simp)) (λt ht=>by cases ht)) ?_
  have e1:N_e t.T d s n=delN (updI (updI t.T d (K_8 s)) n (O_7 (y.links-1))) n:=by
   unfold N_e
   rw[hy]
   dsimp only
   rw[if_pos (by omega)]
   funext j
   unfold delN
   by_cases e:j=n
   ·rw[if_pos e,if_pos e]
   ·rw[if_neg e,if_neg e,H_d e]
  have e2:v_0 t.T n t.c=t.c-1:=by unfold v_0;rw[hy];dsimp only;rw[if_pos (by omega)]
  rw[e1,e2]
  exact A4
 ·repeat' (first|(with_reducible first|refine w_jn ?_|refine E_k ?_))
  refine fin u2 H2 ?_
  have e1:N_e t.T d s n=updI (updI t.T d (K_8 s)) n (O_7 (y.links-1)):=by
   unfold N_e
   rw[hy]
   dsimp only
   rw[if_neg (by omega)]
   exact r_s hy2 rfl
  have e2:v_0 t.T n t.c=t.c:=by unfold v_0;rw[hy];dsimp only;rw[if_neg (by omega)]
  rw[e1,e2]
  exact A3
end Go.Proofs.YtnbnmojckhcdeaaGreatDoor.treeMoves
