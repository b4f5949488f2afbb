import Derived.Test.YtnbnmojckhcdeaaGreatDoorApB
namespace Go.Proofs.YtnbnmojckhcdeaaGreatDoor.treeApart
open Go Go.Gev
set_option linter.unusedVariables false
abbrev resA(e n ty:Nat)(ln sz:Int)(d nm:Value):Value:=.agg #[kI e,kI n,kI ty,.int .i64 ln,.int .i64 sz,d,nm]
abbrev X_o(e:Nat):Value:=.agg #[kI e,kI 0,kI 0,kI 0,kI 0,.slice none 0 0,.slice none 0 0]
abbrev okV(n:Nat):Value:=.agg #[kI 0,kI n,kI 0,kI 0,kI 0,.slice none 0 0,.slice none 0 0]
abbrev opV(k:Nat)(a b:Str)(at_ n:Int)(d:Value):Value:=.agg #[kI k,sV a,sV b,.int .i64 at_,.int .i64 n,d]
def Ro.mu:Ro→Bool
 |.item _=>true
 |.nms _=>true
 |.map=>true
 |_=>false
def mutL(L:Lay)(n:Nat):List Nat:=(List.range n).filter λb=>match L.ro b with
 |some r=>r.mu
 |none=>false
theorem D_0{L:Lay}{n b:Nat}:b∈mutL L n↔b<n∧∃r,L.ro b=some r∧r.mu=true:=by
 unfold mutL
 rw[List.mem_filter,List.mem_range]
 cases e:L.ro b with
 |none=>simp
 |some r=>simp
structure TurnQ (h:Hs) (t:TS) (T':Tm) (h':Hs):Prop where
 mu:MutS (mutL t.L h.nx) h h'
 tr:∃t',TrAt h' t'∧t'.T=T'∧t'.p=t.p∧t'.mb=t.mb∧t'.most=t.most∧(∀b,b<h.nx→t'.L.ro b=t.L.ro b)∧t'.B≤t.B+4
 ch:(h'=h∧T'=t.T)∨∃b,b∈mutL t.L h.nx∧h'.hp.get b≠h.hp.get b
def UpQ(h:Hs)(t:TS)(r:Except Nat (Nat × Tm))(v:Value)(h':Hs):Prop:=match r with
 |.error e=>v=X_o e∧h'=h
 |.ok r=>v=okV r.1∧TurnQ h t r.2 h'
theorem H_4(k:Nat){Q:Value→Hs→Prop}{h0 h:Hs}{S:List Nat}{m:List Th}{b n e u:Nat}{fl:Bool}{L cs:List Value}{K:KV}(H:Sto h0 S h m)(hk:m[k]?=some (.blk b (.row e u true fl L)))(hn:cs.length=n)(hl:L.length=n)(h0n:0<n)(hx:D_a cs=true)
 (kk:∀h',Sto h0 S h' (m.set k (.blk b (.row e u true (andB fl (B_5 cs)) cs)))→MutS [b] h h'→h'.nx=h.nx→WP (K undef' h') Q):WP (after K (store1 n h cs (addrOf (.pointer (some ⟨b,0,none⟩))))) Q:=by
 obtain⟨c,f,hb,hf,hc⟩:=H.ok _ (mgE hk)
 obtain⟨c',e1,e2⟩:=P_p cs 0 c L hc hx (by omega)
 have e3:setL L 0 cs=cs:=by
  show L.take 0++cs++L.drop (0+cs.length)=cs
  rw[List.take_zero,List.nil_append,List.drop_of_length_le (by omega),List.append_nil]
 have:store1 n h cs (addrOf (.pointer (some ⟨b,0,none⟩)))=some (undef',⟨h.hp.set b (some (.row c' L.length e u true (andB f (B_5 cs)))),h.nx,minN h.lo b⟩):=by
  unfold store1
  rw[hn,Nat.beq_refl]
  show unit1 (H_o h b 0 cs (h.hp.get b))=_
  rw[hb]
  cases cs with
  |nil=>simp at hn;omega
  |cons v vs=>
   show unit1 (setRow h b L.length e u (andB f (B_5 (v::vs))) (G_4 (v::vs) 0 c))=_
   rw[e1];rfl
 rw[this]
 refine kk _ (H.wr hk (by omega) (λi=>?_) (λhh=>?_)) I_x rfl
 ·rw[e2,←V_8 (by omega),e3]
 ·cases fl with
  |false=>cases hh
  |true=>rw[hf rfl];exact hh
theorem u_6{h u:Hs}{m:List Th}{t t':TS}{v:Value}{b:Nat}{Q:Value→Hs→Prop}(A:TrAt h t)(H:Sto h (mutL t.L h.nx) u m)(A':TrAt u t')(hb:b∈mutL t.L h.nx)(hne:u.hp.get b≠h.hp.get b)(e1:t'.p=t.p)(e2:t'.mb=t.mb)(e3:t'.most=t.most)(e4:∀b,b<h.nx→t'.L.ro b=t.L.ro b)(e5:t'.B≤t.B+4)
 (q:∀h'',TurnQ h t t'.T h''→Q v h''):WP (clrK h v u) Q:=
 S_y H (D_0.1 hb).1 hb (λs hs=>(D_0.1 hs).1) hne λh'' mu e6 e7=>q h'' ⟨mu,⟨t',A'.ext (Nat.le_of_eq e7.symm) λb _ _=>by rw[e6],rfl,e1,e2,e3,e4,e5⟩,.inr ⟨b,hb,by rw[e6];exact hne⟩⟩
theorem O_t{h u u':Hs}{m:List Th}{t:TS}{S:List Nat}(H:Sto h (mutL t.L h.nx) u m)(M:MutS S u u')(hS:∀s∈S,∃r,t.L.ro s=some r∧r.mu=true)(hm:∀x∈m,∀b,x.id=some b→t.L.ro b=none∨t.L.ro b=some .root∨∃n,t.L.ro b=some (.dat n)):Sto h (mutL t.L h.nx) u' m:=by
 refine H.mutS M (λs hs=>?_) λx hx b hb hbs=>?_
 ·rcases Nat.lt_or_ge s h.nx with g|g
  ·exact .inr (D_0.2 ⟨g,hS s hs⟩)
  ·exact .inl g
 ·obtain⟨r,h1,h2⟩:=hS b hbs
  rcases hm x hx b hb with q|q|⟨_,q⟩
  ·rw[q] at h1;cases h1
  ·rw[q] at h1;injection h1 with h1;subst h1;cases h2
  ·rw[q] at h1;injection h1 with h1;subst h1;cases h2
theorem ItAt.qm{h:Hs}{L:Lay}{n B:Nat}{x:Itm}(I:ItAt h L n x B):∃r,L.ro (L.q n)=some r∧r.mu=true:=⟨_,I.rq,rfl⟩
theorem ItAt.nbm{h:Hs}{L:Lay}{n B:Nat}{x:Itm}(I:ItAt h L n x B)(hk:x.k=2):∃r,L.ro (L.nb n)=some r∧r.mu=true:=⟨_,(I.nm hk).2.1,rfl⟩
theorem TrAt.mm{h:Hs}{t:TS}(A:TrAt h t):∃r,t.L.ro t.mb=some r∧r.mu=true:=⟨_,A.rm,rfl⟩
theorem d_y{h u:Hs}{S:List Nat}{m:List Th}{t:TS}(A:TrAt h t)(H:Sto h S u m)(hx:∀x∈m,x.ex=true)(hS:S = []):∀x∈m,∀b,x.id=some b→t.L.ro b=none∨t.L.ro b=some .root∨∃n,t.L.ro b=some (.dat n):=λx hxm b hb=>by
 subst hS
 rcases (H.ids x hxm b hb).2 (hx x hxm) with g|g
 ·exact .inl (A.fr b g)
 ·cases g
theorem R_i{T:Tm}{d n:Nat}{s:Str}{x y:Itm}(hx:T d=some x)(hy:T n=some y)(nd:n≠d):G_5 T d s n d=some (F_z s x):=by
 unfold G_5
 rw[hy]
 dsimp only
 split
 ·unfold delN
  rw[if_neg (λq=>nd q.symm),F_k hx]
 ·rw[D_r (λq=>nd q.symm),F_k hx]
theorem w_c{T:Tm}{d n:Nat}{s:Str}{x:Itm}(hx:T d=some x)(nd:n≠d):putT T d s n d=some (M_4 s n x):=by
 unfold putT
 rw[D_r (λq=>nd q.symm),F_k hx]
theorem J_v{h u:Hs}{m:List Th}{t t':TS}{b b':Nat}{fl:Bool}{L cs:List Value}{Q:Value→Hs→Prop}(A:TrAt h t)(H:Sto h (mutL t.L h.nx) u (.blk b (.row 34 0 true fl L)::m))(A':TrAt u t')(bn:h.nx≤b)(br:t'.L.ro b=none)(hL:L.length=7)(hc:cs.length=7)(h1:D_a cs=true)
 (hb:b'∈mutL t.L h.nx) (hne:u.hp.get b'≠h.hp.get b') (e1:t'.p=t.p) (e2:t'.mb=t.mb) (e3:t'.most=t.most) (e4:∀b,b<h.nx→t'.L.ro b=t.L.ro b) (e5:t'.B≤t.B+4) (q:∀h'',TurnQ h t t'.T h''→Q (.agg cs.toArray) h'') :
 WP (after (λx h30=>B_l h (C_w h30 (resV enE h30 [.cell (.c (pV b)) 7 true]))) (store1 7 u cs (addrOf (pV b)))) Q:=by
 refine H_4 0 H rfl hc hL (by decide) h1 λu3 H3 M3 n3=>?_
 dsimp only[List.set_cons_zero] at H3
 have A3:=A'.mutS M3 (λs hs=>by rw[List.mem_singleton.1 hs];exact br)
 refine C_t 0 H3 rfl hc rfl ?_
 have lb:=(D_0.1 hb).1
 exact u_6 A H3 A3 hb (by rw[M3.2.1 b' (llN lb H.nx) (by simp;omega)];exact hne) e1 e2 e3 e4 e5 q
def CFail(R:RnK):Prop:=∀(e:Nat)(h:Hs),R 17 [kI e] h=some (.val (X_o e) h)
theorem x_v{R:RnK}{N e:Nat}{h:Hs}:r17 R N [kI e] h=some (.val (X_o e) h):=by
 refine WP.eqn ?_
 have H:=Sto.enter h
 unfold r17
 repeat' (first|(with_reducible first|refine D_c ?_|refine D_p ?_)|((with_reducible apply D_w) ;rfl;(try dsimp only[splice,ev,A_p,rep,List.cons_append,List.nil_append]))|((with_reducible refine F_n H ?_) ;(clear H;intro u H hu))|((with_reducible apply B_w 0 H) ;rfl;rfl;rfl;omega;rfl;(clear H;intro u H hu;(try dsimp only[List.set_cons_zero,List.set_cons_succ,A_p,List.toList_toArray,splice,ev,rep,List.cons_append,List.nil_append] at H)))|((with_reducible apply C_t 0 H) ;rfl;rfl;rfl))
 exact B_z H rfl ⟨rfl,rfl⟩
def P_q(T:Tm)(s:Str):Except Nat (Nat × Tm):=match oldF T s with
 |.error e=>.error e
 |.ok r=>match T r.2.2 with
  |none=>.error 1
  |some y=>if y.k=2 then .error 5 else .ok (r.2.2,G_5 T r.1 r.2.1 r.2.2)
theorem P_i{T:Tm}{most:Nat}(W:WF T most){s:Str}{r:Nat × Str × Nat}(h:oldF T s=.ok r):∃x y,T r.1=some x∧x.k=2∧T r.2.2=some y∧findF T r.1 r.2.1=some r.2.2:=by
 unfold oldF at h
 split at h
 ·cases h
 ·split at h
  ·cases h
  ·rename_i d hd
   obtain⟨x,hx,hk⟩:=O_8 hd
   split at h
   ·rename_i n hn
    injection h with h;subst h
    obtain⟨y,hy⟩:=Q_k W hn
    exact⟨x,y,hx,hk,hy,hn⟩
   ·cases h
theorem a_y{T:Tm}{most:Nat}(W:WF T most){s:Str}{e:Nat}(h:oldF T s=.error e):e≠0:=by
 unfold oldF at h
 split at h
 ·rename_i e1 he
  injection h with h;subst h;exact M_w he
 ·split at h
  ·rename_i e1 he
   injection h with h;subst h;exact Q_1 W he
  ·split at h
   ·cases h
   ·injection h with h;omega
theorem G_z{T:Tm}{most d n:Nat}{s:Str}{x:Itm}(W:WF T most)(hx:T d=some x)(hn:n≠2)(h:findF T d s=some n):x.names s=some n∧3≤n:=by
 unfold findF at h
 split at h
 ·injection h with h;omega
 ·rw[hx] at h
  have h:x.names s=some n:=h
  exact⟨h,(W.nm d x s n hx h).2.1⟩
theorem WF.kne{T:Tm}{d n:Nat}{x y:Itm}(hx:T d=some x)(hy:T n=some y)(h:x.k≠y.k):n≠d:=λe=>by
 subst e
 rw[hx] at hy
 injection hy with hy
 exact h (by rw[hy])
theorem q_0{R:RnK}{N:Nat}(cf:CFail R)(co:COld R)(cd:CDrop R){h:Hs}{t:TS}{k:Nat}{a b:Str}{p q:Int}{dv:Value}(A:TrAt h t)(W:WF t.T t.most)(ha:a.length≤50000) :
 WP (r19 R N [pV t.p,opV k a b p q dv] h) (UpQ h t (P_q t.T a)):=by
 have H:=Sto.enter h
 unfold r19
 repeat' (first|(with_reducible first|refine D_c ?_|refine D_p ?_|refine A_c ?_)|((with_reducible refine G_e H ?_) ;(clear H;intro u H hu))|((with_reducible refine F_n H ?_) ;(clear H;intro u H hu))|((with_reducible apply D_g 1 H) ;rfl;rfl;rfl))
 have A1:=A.st H
 repeat' (first|(refine B_n (co _ t a A1 W ha) ?_))
 unfold P_q
 cases e:oldF t.T a with
 |error e1=>
  have:=a_y W e
  unfold olV
  repeat' (first|(refine B_n (cf _ _) ?_)|(with_reducible refine w_jn ?_)|((with_reducible apply C_p) ;rfl)|((with_reducible refine B_h (λ_=>?_) (λ_=>?_))<;>first|(exfalso;omega)|skip)|((with_reducible apply B_w 0 H) ;rfl;rfl;rfl;omega;rfl;(clear H;intro u H hu;(try dsimp only[List.set_cons_zero,List.set_cons_succ,A_p,List.toList_toArray,splice,ev,rep,List.cons_append,List.nil_append] at H)))|((with_reducible apply C_t 0 H) ;rfl;rfl;rfl))
  exact B_z H rfl ⟨rfl,rfl⟩
 | ok r =>
  obtain⟨x,y,hx,hk,hy,hf⟩:=P_i W e
  unfold olV
  repeat' (first|(with_reducible first|refine w_jn ?_|refine B_p ?_|refine A_c ?_|refine C_g ?_)|((with_reducible apply C_p) ;rfl)|((with_reducible refine B_h (λ_=>?_) (λ_=>?_))<;>first|(exfalso;omega)|skip))
  refine t_mp A1 rfl ?_
  refine t_lk A1 hy ?_
  repeat' (first|(with_reducible first|refine A_c ?_|refine C_g ?_))
  refine t_k A1 hy rfl ?_
  dsimp only
  rw[hy]
  dsimp only
  have W2:=W.r2
  repeat' (first|(refine B_n (cf _ _) ?_)|(with_reducible first|refine w_jn ?_|refine B_p ?_)|((with_reducible refine C_u (λ_=>?_) (λ_=>?_))<;>first|(exfalso;omega)|skip)|((with_reducible apply B_w 0 H) ;rfl;rfl;rfl;omega;rfl;(clear H;intro u H hu;(try dsimp only[List.set_cons_zero,List.set_cons_succ,A_p,List.toList_toArray,splice,ev,rep,List.cons_append,List.nil_append] at H)))|((with_reducible apply C_t 0 H) ;rfl;rfl;rfl))
  ·rename_i q2
   rw[if_pos q2]
   exact B_z H rfl ⟨rfl,rfl⟩
  ·rename_i q2
   rw[if_neg q2]
   have n2:r.2.2≠2:=λe=>by
    obtain⟨z,z1,z2,_⟩:=W2
    rw[e,z1] at hy
    injection hy with hy
    exact q2 (by rw[←hy];exact z2)
   obtain⟨hs,n3⟩:=G_z W hx n2 hf
   have nd:=WF.kne hx hy (by omega)
   have lk:=W.lk _ _ hy
   have I:=A.it _ _ hx
   have J:=A.it _ _ hy
   refine C_n (cd _ t r.1 r.2.2 r.2.1 x y A1 hx hk hs hy nd lk.1 (by omega)) λv2 u2 hv=>?_
   obtain⟨rfl,M,A2⟩:=hv
   have no:=d_y A H (by simp[Th.ex]) rfl
   have bn0:h.nx≤_:=((H.ids _ (mgE (i:=0) rfl) _ rfl).2 rfl).elim id (λq=>by cases q)
   have H2:=O_t (t:=t) (H.wide _) M (λs hs=>by
    simp only[List.mem_cons,List.not_mem_nil,or_false] at hs
    rcases hs with rfl|rfl|rfl
    ·exact I.nbm hk
    ·exact J.qm
    ·exact A.mm) no
   clear H
   have H:=H2
   refine D_w rfl ?_
   exact J_v A H A2 bn0 (A.fr _ bn0) rfl rfl rfl (D_0.2 ⟨(I.nm hk).1,I.nbm hk⟩) (A.neN A2 rfl hx (R_i hx hy nd) hk hk (s:=r.2.1) (by show x.names r.2.1≠if r.2.1=r.2.1 then none else x.names r.2.1;rw[hs,if_pos rfl];simp)) rfl rfl rfl (λ_ _=>rfl) (by show t.B+1≤_;omega) λh'' T=>⟨rfl,T⟩
def U_r(T:Tm)(s:Str):Except Nat (Nat × Tm):=match oldF T s with
 |.error e=>.error e
 |.ok r=>match T r.2.2 with
  |none=>.error 1
  |some y=>if y.k=2 then (if r.2.2=2 then .error 12 else if 0<y.cnt then .error 6 else .ok (r.2.2,G_5 T r.1 r.2.1 r.2.2)) else .error 4
theorem TrAt.cnt0{h:Hs}{t:TS}(A:TrAt h t){n:Nat}{y:Itm}(hy:t.T n=some y)(hk:y.k=2):y.cnt=0↔∀s,y.names s=none:=by
 obtain⟨_,_,es,cl,_,M⟩:=(A.it n y hy).nm hk
 rw[M.zero]
 constructor
 ·intro q s
  have:=q s
  cases e:y.names s with
  |none=>rfl
  |some m=>rw[e] at this;cases this
 ·intro q s;show (y.names s).map kI=none;rw[q];rfl
theorem u_d{R:RnK}{N:Nat}(cf:CFail R)(co:COld R)(cd:CDrop R){h:Hs}{t:TS}{k:Nat}{a b:Str}{p q:Int}{dv:Value}(A:TrAt h t)(W:WF t.T t.most)(ha:a.length≤50000) :
 WP (r20 R N [pV t.p,opV k a b p q dv] h) (UpQ h t (U_r t.T a)):=by
 have H:=Sto.enter h
 unfold r20
 repeat' (first|(with_reducible first|refine D_c ?_|refine D_p ?_|refine A_c ?_)|((with_reducible refine G_e H ?_) ;(clear H;intro u H hu))|((with_reducible refine F_n H ?_) ;(clear H;intro u H hu))|((with_reducible apply D_g 1 H) ;rfl;rfl;rfl))
 have A1:=A.st H
 repeat' (first|(refine B_n (co _ t a A1 W ha) ?_))
 unfold U_r
 cases e:oldF t.T a with
 |error e1=>
  have:=a_y W e
  unfold olV
  repeat' (first|(refine B_n (cf _ _) ?_)|(with_reducible refine w_jn ?_)|((with_reducible apply C_p) ;rfl)|((with_reducible refine B_h (λ_=>?_) (λ_=>?_))<;>first|(exfalso;omega)|skip)|((with_reducible apply B_w 0 H) ;rfl;rfl;rfl;omega;rfl;(clear H;intro u H hu;(try dsimp only[List.set_cons_zero,List.set_cons_succ,A_p,List.toList_toArray,splice,ev,rep,List.cons_append,List.nil_append] at H)))|((with_reducible apply C_t 0 H) ;rfl;rfl;rfl))
  exact B_z H rfl ⟨rfl,rfl⟩
 | ok r =>
  obtain⟨x,y,hx,hk,hy,hf⟩:=P_i W e
  unfold olV
  repeat' (first|(with_reducible first|refine w_jn ?_|refine B_p ?_|refine A_c ?_|refine C_g ?_)|((with_reducible apply C_p) ;rfl)|((with_reducible refine B_h (λ_=>?_) (λ_=>?_))<;>first|(exfalso;omega)|skip))
  refine t_mp A1 rfl ?_
  refine t_lk A1 hy ?_
  repeat' (first|(with_reducible first|refine A_c ?_|refine C_g ?_))
  refine t_k A1 hy rfl ?_
  dsimp only
  rw[hy]
  dsimp only
  repeat' (first|(refine B_n (cf _ _) ?_)|(with_reducible first|refine w_jn ?_|refine B_p ?_|refine A_c ?_|refine C_g ?_)|((with_reducible first|refine C_u (λ_=>?_) (λ_=>?_)|refine B_h (λ_=>?_) (λ_=>?_))<;>first|(exfalso;omega)|skip)|((with_reducible apply B_w 0 H) ;rfl;rfl;rfl;omega;rfl;(clear H;intro u H hu;(try dsimp only[List.set_cons_zero,List.set_cons_succ,A_p,List.toList_toArray,splice,ev,rep,List.cons_append,List.nil_append] at H)))|((with_reducible apply C_t 0 H) ;rfl;rfl;rfl))
  ·rename_i q2 q3
   rw[if_pos q2,if_pos q3]
   exact B_z H rfl ⟨rfl,rfl⟩
  ·rename_i q2 q3
   rw[if_pos q2,if_neg q3]
   refine t_mp A1 rfl ?_
   refine t_lk A1 hy ?_
   repeat' (first|(with_reducible first|refine A_c ?_|refine C_g ?_))
   refine t_nm A1 hy q2 rfl ?_
   refine z_y A1 hy q2 ?_
   repeat' (first|(refine B_n (cf _ _) ?_)|(with_reducible first|refine w_jn ?_|refine B_p ?_)|((with_reducible refine H_3 (λ_=>?_) (λ_=>?_))<;>first|(exfalso;omega)|skip)|((with_reducible apply B_w 0 H) ;rfl;rfl;rfl;omega;rfl;(clear H;intro u H hu;(try dsimp only[List.set_cons_zero,List.set_cons_succ,A_p,List.toList_toArray,splice,ev,rep,List.cons_append,List.nil_append] at H)))|((with_reducible apply C_t 0 H) ;rfl;rfl;rfl))
   ·rename_i q4
    rw[if_pos q4]
    exact B_z H rfl ⟨rfl,rfl⟩
   ·rename_i q4
    rw[if_neg q4]
    obtain⟨hs,n3⟩:=G_z W hx q3 hf
    have nd:r.2.2≠r.1:=λe=>by
     rw[e,hx] at hy
     injection hy with hy
     have:=(A.cnt0 hx hk).1 (by rw[hy];omega) r.2.1
     rw[hs] at this;cases this
    have lk:=W.lk _ _ hy
    have I:=A.it _ _ hx
    have J:=A.it _ _ hy
    refine C_n (cd _ t r.1 r.2.2 r.2.1 x y A1 hx hk hs hy nd lk.1 (by omega)) λv2 u2 hv=>?_
    obtain⟨rfl,M,A2⟩:=hv
    have no:=d_y A H (by simp[Th.ex]) rfl
    have bn0:h.nx≤_:=((H.ids _ (mgE (i:=0) rfl) _ rfl).2 rfl).elim id (λq=>by cases q)
    have H2:=O_t (t:=t) (H.wide _) M (λs hs=>by
     simp only[List.mem_cons,List.not_mem_nil,or_false] at hs
     rcases hs with rfl|rfl|rfl
     ·exact I.nbm hk
     ·exact J.qm
     ·exact A.mm) no
    clear H
    have H:=H2
    refine D_w rfl ?_
    exact J_v A H A2 bn0 (A.fr _ bn0) rfl rfl rfl (D_0.2 ⟨(I.nm hk).1,I.nbm hk⟩) (A.neN A2 rfl hx (R_i hx hy nd) hk hk (s:=r.2.1) (by show x.names r.2.1≠if r.2.1=r.2.1 then none else x.names r.2.1;rw[hs,if_pos rfl];simp)) rfl rfl rfl (λ_ _=>rfl) (by show t.B+1≤_;omega) λh'' T=>⟨rfl,T⟩
  ·rename_i q2
   rw[if_neg q2]
   exact B_z H rfl ⟨rfl,rfl⟩
def g_s(T:Tm)(a b:Str):Except Nat (Nat × Tm):=match wayT T false a with
 |.error e=>.error e
 | .ok n => match T n with
  |none=>.error 1
  |some y=>if y.k=2 then .error 5 else match J_a T b with
   |.error e=>.error e
   |.ok r=>if 200≤y.links then .error 10 else .ok (n,putT T r.1 r.2 n)
theorem O_j{T:Tm}{s:Str}{r:Nat × Str}(h:J_a T s=.ok r):∃x,T r.1=some x∧x.k=2∧x.names r.2=none∧r.1≠2∧¬(r.1=1∧r.2=J_2):=by
 unfold J_a at h
 split at h
 ·cases h
 ·split at h
  ·cases h
  ·rename_i d hd
   obtain⟨x,hx,hk⟩:=O_8 hd
   split at h
   ·cases h
   ·rename_i hf
    split at h
    ·cases h
    ·injection h with h;subst h
     refine⟨x,hx,hk,?_,by assumption,λq=>?_⟩
     ·unfold findF at hf
      split at hf
      ·cases hf
      ·rw[hx] at hf;exact hf
     ·unfold findF at hf
      rw[if_pos q] at hf;cases hf
theorem X_z{T:Tm}{most:Nat}(W:WF T most){s:Str}{e:Nat}(h:J_a T s=.error e):e≠0:=by
 unfold J_a at h
 split at h
 ·rename_i e1 he
  injection h with h;subst h;exact M_w he
 ·split at h
  ·rename_i e1 he
   injection h with h;subst h;exact Q_1 W he
  ·split at h
   ·injection h with h;omega
   ·split at h
    ·injection h with h;omega
    ·cases h
theorem y_j{R:RnK}{N:Nat}(cf:CFail R)(cw:CWayT R)(cr:CFresh R)(cp:CPut R){h:Hs}{t:TS}{k:Nat}{a b:Str}{p q:Int}{dv:Value}(A:TrAt h t)(W:WF t.T t.most)(hB:t.B≤1000000)(ha:a.length≤50000)(hb:b.length≤50000) :
 WP (r18 R N [pV t.p,opV k a b p q dv] h) (UpQ h t (g_s t.T a b)):=by
 have H:=Sto.enter h
 unfold r18
 repeat' (first|(with_reducible first|refine D_c ?_|refine D_p ?_|refine A_c ?_)|((with_reducible refine G_e H ?_) ;(clear H;intro u H hu))|((with_reducible refine F_n H ?_) ;(clear H;intro u H hu))|((with_reducible apply D_g 1 H) ;rfl;rfl;rfl))
 have A1:=A.st H
 repeat' (first|(refine B_n (cw _ t a false A1 W ha) ?_))
 unfold g_s
 cases e:wayT t.T false a with
 |error e1=>
  have:=N_8 W e
  unfold ptV
  repeat' (first|(refine B_n (cf _ _) ?_)|(with_reducible refine w_jn ?_)|((with_reducible apply C_p) ;rfl)|((with_reducible refine B_h (λ_=>?_) (λ_=>?_))<;>first|(exfalso;omega)|skip)|((with_reducible apply B_w 0 H) ;rfl;rfl;rfl;omega;rfl;(clear H;intro u H hu;(try dsimp only[List.set_cons_zero,List.set_cons_succ,A_p,List.toList_toArray,splice,ev,rep,List.cons_append,List.nil_append] at H)))|((with_reducible apply C_t 0 H) ;rfl;rfl;rfl))
  exact B_z H rfl ⟨rfl,rfl⟩
 | ok n =>
  obtain⟨y,hy⟩:=N_7 W e
  unfold ptV
  repeat' (first|(with_reducible first|refine w_jn ?_|refine B_p ?_|refine A_c ?_|refine C_g ?_)|((with_reducible apply C_p) ;rfl)|((with_reducible refine B_h (λ_=>?_) (λ_=>?_))<;>first|(exfalso;omega)|skip))
  refine t_mp A1 rfl ?_
  refine t_lk A1 hy ?_
  repeat' (first|(with_reducible first|refine A_c ?_|refine C_g ?_))
  refine t_k A1 hy rfl ?_
  dsimp only
  rw[hy]
  dsimp only
  repeat' (first|(refine B_n (cf _ _) ?_)|(with_reducible first|refine w_jn ?_|refine B_p ?_|refine A_c ?_)|((with_reducible refine C_u (λ_=>?_) (λ_=>?_))<;>first|(exfalso;omega)|skip)|((with_reducible apply B_w 0 H) ;rfl;rfl;rfl;omega;rfl;(clear H;intro u H hu;(try dsimp only[List.set_cons_zero,List.set_cons_succ,A_p,List.toList_toArray,splice,ev,rep,List.cons_append,List.nil_append] at H)))|((with_reducible apply C_t 0 H) ;rfl;rfl;rfl)|((with_reducible apply D_g 1 H) ;rfl;rfl;rfl))
  ·rename_i q2
   rw[if_pos q2]
   exact B_z H rfl ⟨rfl,rfl⟩
  ·rename_i q2
   rw[if_neg q2]
   repeat' (first|(refine B_n (cr _ t b A1 W hb) ?_))
   cases e2:J_a t.T b with
   |error e3=>
    have:=X_z W e2
    unfold frV
    repeat' (first|(refine B_n (cf _ _) ?_)|(with_reducible refine w_jn ?_)|((with_reducible apply C_p) ;rfl)|((with_reducible refine B_h (λ_=>?_) (λ_=>?_))<;>first|(exfalso;omega)|skip)|((with_reducible apply B_w 0 H) ;rfl;rfl;rfl;omega;rfl;(clear H;intro u H hu;(try dsimp only[List.set_cons_zero,List.set_cons_succ,A_p,List.toList_toArray,splice,ev,rep,List.cons_append,List.nil_append] at H)))|((with_reducible apply C_t 0 H) ;rfl;rfl;rfl))
    exact B_z H rfl ⟨rfl,rfl⟩
   | ok r =>
    obtain⟨x,hx,hk,hs,d2,d1⟩:=O_j e2
    unfold frV
    repeat' (first|(with_reducible first|refine w_jn ?_|refine B_p ?_|refine A_c ?_|refine C_g ?_)|((with_reducible apply C_p) ;rfl)|((with_reducible refine B_h (λ_=>?_) (λ_=>?_))<;>first|(exfalso;omega)|skip))
    refine t_mp A1 rfl ?_
    refine t_lk A1 hy ?_
    repeat' (first|(with_reducible first|refine A_c ?_|refine C_g ?_))
    refine t_ln A1 hy rfl ?_
    dsimp only
    repeat' (first|(refine B_n (cf _ _) ?_)|(with_reducible first|refine w_jn ?_|refine B_p ?_)|((with_reducible refine e_t (λ_=>?_) (λ_=>?_))<;>first|(exfalso;omega)|skip)|((with_reducible apply B_w 0 H) ;rfl;rfl;rfl;omega;rfl;(clear H;intro u H hu;(try dsimp only[List.set_cons_zero,List.set_cons_succ,A_p,List.toList_toArray,splice,ev,rep,List.cons_append,List.nil_append] at H)))|((with_reducible apply C_t 0 H) ;rfl;rfl;rfl))
    ·rename_i q4
     rw[if_pos (by omega)]
     exact B_z H rfl ⟨rfl,rfl⟩
    ·rename_i q4
     rw[if_neg (by omega)]
     have nd:=WF.kne hx hy (by omega)
     have lk:=W.lk _ _ hy
     have I:=A.it _ _ hx
     have J:=A.it _ _ hy
     refine C_n (cp _ t r.1 n r.2 x y A1 hx hk hs hy nd (by omega) lk.1 (by omega)) λv2 u2 hv=>?_
     obtain⟨rfl,M,A2⟩:=hv
     have no:=d_y A H (by simp[Th.ex]) rfl
     have bn0:h.nx≤_:=((H.ids _ (mgE (i:=0) rfl) _ rfl).2 rfl).elim id (λq=>by cases q)
     have H2:=O_t (t:=t) (H.wide _) M (λs hs=>by
      simp only[List.mem_cons,List.not_mem_nil,or_false] at hs
      rcases hs with rfl|rfl
      ·exact I.nbm hk
      ·exact J.qm) no
     clear H
     have H:=H2
     refine D_w rfl ?_
     exact J_v A H A2 bn0 (A.fr _ bn0) rfl rfl rfl (D_0.2 ⟨(I.nm hk).1,I.nbm hk⟩) (A.neN A2 rfl hx (w_c hx nd) hk hk (s:=r.2) (by show x.names r.2≠if r.2=r.2 then some n else x.names r.2;rw[hs,if_pos rfl];simp)) rfl rfl rfl (λ_ _=>rfl) (by show t.B+1≤_;omega) λh'' T=>⟨rfl,T⟩
theorem d_p:∀(k:Nat)(l:List Nat),l.Nodup→(∀x∈l,x<k)→l.length≤k:=by
 intro k
 induction k with
 |zero=>intro l _ h;cases l with
  |nil=>exact Nat.le_refl _
  |cons x l=>exact absurd (h x List.mem_cons_self) (Nat.not_lt_zero _)
 | succ k ih =>
  intro l nd h
  by_cases q:k∈l
  ·have:=ih (l.erase k) (nd.erase k) λx hx=>by
    have h1:=h x (List.mem_of_mem_erase hx)
    have h2:x≠k:=λe=>by
     subst e
     exact(List.Nodup.not_mem_erase nd) hx
    omega
   rw[List.length_erase_of_mem q] at this
   omega
  ·have:=ih l nd λx hx=>by
    have h1:=h x hx
    have h2:x≠k:=λe=>q (e ▸ hx)
    omega
   omega
theorem W_e(T:Tm):∀(i j n:Nat),upN T (i+j) n=upN T j (upN T i n):=by
 intro i
 induction i with
 |zero=>intro j n;rw[Nat.zero_add];rfl
 |succ i ih=>
  intro j n
  rw[show i+1+j=(i+j)+1 by omega]
  exact ih j _
theorem P_8{T:Tm}{most:Nat}(W:WF T most):∀(i n:Nat),(∃x,T n=some x∧x.k=2)→∃x,T (upN T i n)=some x∧x.k=2:=by
 intro i
 induction i with
 |zero=>intro n h;exact h
 |succ i ih=>
  intro n ⟨x,hx,hk⟩
  show ∃z,T (upN T i (match T n with|some x=>x.up|none=>n))=some z∧z.k=2
  rw[hx]
  exact ih x.up (W.up n x hx hk)
theorem e_l{T:Tm}{most:Nat}(W:WF T most):∀j,upN T j 1=1:=by
 intro j
 obtain⟨x,hx,_,hu⟩:=W.r1
 induction j with
 |zero=>rfl
 |succ j ih=>
  show upN T j (match T 1 with|some x=>x.up|none=>1)=1
  rw[hx]
  show upN T j x.up=1
  rw[hu];exact ih
theorem ac64{T:Tm}{most n:Nat}(W:WF T most)(hn:∃x,T n=some x∧x.k=2):∃j,j≤64∧upN T j n=1:=by
 obtain⟨x,hx,hk⟩:=hn
 obtain⟨j,hj⟩:=W.ac n x hx hk
 induction j using Nat.strongRecOn with
 | ind j ih =>
  by_cases q:j≤64
  ·exact⟨j,q,hj⟩
  ·have nn:¬((List.range 65).map λi=>upN T i n).Nodup:=λnd=>by
    have:=d_p 65 (((List.range 65).map λi=>upN T i n).map id) (by simpa using nd) (λv hv=>by
     simp only[List.map_id,List.mem_map,List.mem_range] at hv
     obtain⟨i,hi,rfl⟩:=hv
     obtain⟨z,hz,_⟩:=P_8 W i n ⟨x,hx,hk⟩
     have:=(W.lo _ _ hz).2
     have:=W.mo
     omega)
    have h1:∀v∈(((List.range 65).map λi=>upN T i n).map λv=>v-1),v<64:=λv hv=>by
     simp only[List.map_map,List.mem_map,List.mem_range,Function.comp] at hv
     obtain⟨i,hi,rfl⟩:=hv
     obtain⟨z,hz,_⟩:=P_8 W i n ⟨x,hx,hk⟩
     have:=W.lo _ _ hz
     have:=W.mo
     omega
    have h2:(((List.range 65).map λi=>upN T i n).map λv=>v-1).Nodup:=by
     refine(List.pairwise_map).2 (nd.imp_of_mem λ{a b} ha hb hab e=>hab ?_)
     simp only[List.mem_map,List.mem_range] at ha hb
     obtain⟨i,_,rfl⟩:=ha
     obtain⟨i',_,rfl⟩:=hb
     obtain⟨z,hz,_⟩:=P_8 W i n ⟨x,hx,hk⟩
     obtain⟨z',hz',_⟩:=P_8 W i' n ⟨x,hx,hk⟩
     have:=W.lo _ _ hz
     have:=W.lo _ _ hz'
     omega
    have:=d_p 64 _ h2 h1
    simp at this
   obtain⟨i,i',hlt,hi',he⟩:∃i i',i<i'∧i'<65∧upN T i n=upN T i' n:=by
    refine Classical.byContradiction λno=>nn ?_
    rw[List.Nodup,List.pairwise_map]
    refine(List.pairwise_lt_range (n:=65)).imp_of_mem λ{a b} ha hb hab e=>no ⟨a,b,hab,by simpa using hb,e⟩
   refine ih (i+(j-i')) (by omega) ?_
   rw[W_e,he,←W_e,show i'+(j-i')=j by omega]
   exact hj
def inside(T:Tm)(m d:Nat):Prop:=∃i,upN T i d=m
theorem r_n{T:Tm}{most m:Nat}(W:WF T most):∀(j d:Nat),upN T j d=1→(M_i T m j d=true↔inside T m d):=by
 intro j
 induction j with
 |zero=>
  intro d hd
  have hd:d=1:=hd
  subst hd
  rw[M_i]
  refine⟨λh=>⟨0,of_decide_eq_true h⟩,λ⟨i,hi⟩=>?_⟩
  rw[e_l W] at hi
  exact decide_eq_true hi
 | succ j ih =>
  intro d hd
  rw[M_i]
  by_cases e1:d=m
  ·rw[if_pos e1];exact⟨λ_=>⟨0,e1⟩,λ_=>rfl⟩
  ·rw[if_neg e1]
   by_cases e2:d=1
   ·rw[if_pos e2]
    subst e2
    refine⟨λh=>(by cases h),λ⟨i,hi⟩=>?_⟩
    rw[e_l W] at hi
    exact absurd hi e1
   ·rw[if_neg e2]
    refine(ih _ hd).trans ?_
    constructor
    ·rintro⟨i,hi⟩;exact⟨i+1,hi⟩
    ·rintro⟨i,hi⟩
     cases i with
     |zero=>exact absurd hi e1
     |succ i=>exact⟨i,hi⟩
theorem WF.nself{T:Tm}{most d n:Nat}{s:Str}{x:Itm}(W:WF T most)(hx:T d=some x)(hs:x.names s=some n):n≠d:=λe=>by
 subst e
 obtain⟨hk,n3,_⟩:=W.nm n x s n hx hs
 obtain⟨l,_,h1,_,h2⟩:=W.rf n x hx n3
 obtain⟨s',hl⟩:=h2 hk
 have:(n,s)∈l:=(h1 n s).1 ⟨x,hx,hs⟩
 rw[hl,List.mem_singleton] at this
 injection this with hu _
 have st:∀j,upN T j n=n:=by
  intro j
  induction j with
  |zero=>rfl
  |succ j ih=>
   show upN T j (match T n with|some x=>x.up|none=>n)=n
   rw[hx]
   show upN T j x.up=n
   rw[←hu];exact ih
 obtain⟨j,hj⟩:=W.ac n x hx hk
 rw[st] at hj
 omega
def V_4(T:Tm)(n m:Nat):Nat:=match T n,T m with
 |some a,some b=>if m=2 then 12 else if b.k=2∧a.k≠2 then 5 else if a.k=2∧b.k≠2 then 4 else if b.k=2∧0<b.cnt then 6 else 0
 |_,_=>1
def COver(R:RnK):Prop:=∀(h:Hs)(t:TS)(n m:Nat)(a b:Itm),TrAt h t→t.T n=some a→t.T m=some b→R 43 [pV t.p,kI n,kI m] h=some (.val (kI (V_4 t.T n m)) h)
theorem Al1{Q:Value→Hs→Prop}{u:Hs}{t:TS}{n:Nat}{x:Itm}{F:KV}{hp':Tr Blk}(A:TrAt u t)(hx:t.T n=some x)(hp:hp'.get t.mb=u.hp.get t.mb)(w:WP (F (pV (t.L.q n)) u) Q) :
 WP (after (λv w=>dPut F v (C_f u w .light) (andB (dFit u w .light) (Nat.ble 0 w.lo))) (ret1 ⟨hp',u.nx,u.nx⟩ (lk1 true ⟨hp',u.nx,u.nx⟩ (.pointer none) false (kI n) (.map (some t.mb))))) Q:=by
 rw[z_z (hh:=⟨hp',u.nx,u.nx⟩) A n hp,hx]
 refine H_t rfl ?_
 exact Q_s w
theorem z_c{R:RnK}{N:Nat}{h:Hs}{t:TS}{n m:Nat}{a b:Itm}(A:TrAt h t)(ha:t.T n=some a)(hb:t.T m=some b):r43 R N [pV t.p,kI n,kI m] h=some (.val (kI (V_4 t.T n m)) h):=by
 refine WP.eqn ?_
 have H:=Sto.enter h
 have A1:=A.st H
 have hid:∀(lm:List Bool)(hist:List (Option (Nat × Nat)))(b:Nat),b<h.nx→HidOk b hist→(K_b .light lm hist ⟨h.hp,h.nx,h.nx⟩).hp.get b=h.hp.get b:=λlm hist b hb hq=>J_b _ _ _ _ hq
 have q1:=(A.it _ _ ha).ql
 have q2:=(A.it _ _ hb).ql
 have q3:=A.ml
 have q4:=A.pl
 have hv:V_4 t.T n m=if m=2 then 12 else if b.k=2∧a.k≠2 then 5 else if a.k=2∧b.k≠2 then 4 else if b.k=2∧0<b.cnt then 6 else 0:=by unfold V_4;rw[ha,hb]
 rw[hv]
 have fin:∀v:Nat,v=(if m=2 then 12 else if b.k=2∧a.k≠2 then 5 else if a.k=2∧b.k≠2 then 4 else if b.k=2∧0<b.cnt then 6 else 0)→WP (clrK h (kI v) ⟨h.hp,h.nx,h.nx⟩) (λv' h'=>v'=kI (if m=2 then 12 else if b.k=2∧a.k≠2 then 5 else if a.k=2∧b.k≠2 then 4 else if b.k=2∧0<b.cnt then 6 else 0)∧h'=h):=λv e=>by
  rw[←e]
  exact B_z H rfl ⟨rfl,rfl⟩
 unfold r43
 repeat' (first|(with_reducible first|refine D_c ?_|refine D_p ?_|refine A_c ?_|refine C_g ?_))
 refine t_mp A1 rfl ?_
 refine Al1 A1 ha rfl ?_
 repeat' (first|(with_reducible first|refine A_c ?_|refine C_g ?_))
 refine t_k A1 ha (hid _ _ _ q1 (by simp only[HidOk,and_true];omega)) ?_
 repeat' (first|(with_reducible first|refine A_c ?_|refine C_g ?_)|((with_reducible refine C_u (λ_=>?_) (λ_=>?_))<;>first|(exfalso;omega)|skip))
 all_goals
  refine t_mp A1 (hid _ _ _ q4 (by simp only[HidOk,and_true];omega)) ?_
  refine Al1 A1 hb (J_b _ _ _ _ (by simp only[HidOk,and_true];omega)) ?_
  repeat' (first|(with_reducible first|refine A_c ?_|refine C_g ?_))
  refine t_k A1 hb (hid _ _ _ q2 (by simp only[HidOk,and_true];omega)) ?_
  repeat' (first|(with_reducible first|refine w_jn ?_|refine C_j ?_|refine B_p ?_|refine G_k ?_|refine M_g ?_|refine C_9 ?_|refine C_4 ?_|refine P_9 ?_|refine e_z ?_|refine A_c ?_|refine C_g ?_)|((with_reducible refine C_u (λ_=>?_) (λ_=>?_))<;>first|(exfalso;omega)|skip))
 any_goals
  refine fin _ ?_
  (repeat' split)<;>omega
 all_goals
  refine t_mp A1 rfl ?_
  repeat' (first|(with_reducible refine G_k ?_))
  refine t_lk A1 hb ?_
  repeat' (first|(with_reducible first|refine G_k ?_|refine A_c ?_|refine C_g ?_))
  refine t_nm A1 hb (by assumption) rfl ?_
  repeat' (first|(with_reducible refine G_k ?_))
  refine z_y A1 hb (by assumption) ?_
  repeat' (first|(with_reducible first|refine w_jn ?_|refine C_j ?_|refine B_p ?_|refine G_k ?_|refine C_9 ?_)|((with_reducible refine H_3 (λ_=>?_) (λ_=>?_))<;>first|(exfalso;omega)|skip))
 all_goals
  refine fin _ ?_
  (repeat' split)<;>omega
def Q_e(T:Tm)(d:Nat)(was:Str)(to:Nat)(s:Str)(n:Nat):Tm:=updI (updI (putT T to s n) d (F_z was)) n (λy=>if y.k=2 then y else J_k (y.links-1) y)
open Classical in
noncomputable def P_k(T:Tm)(a b:Str):Except Nat (Nat × Tm):=match J_j a with
 |.error e=>.error e
 | .ok _ => match J_j b with
  |.error e=>.error e
  | .ok l => match oldF T a with
   |.error e=>.error e
   | .ok r => if r.2.2 = 2 then .error 12 else match dirT T l.1 with
    |.error e=>.error e
    | .ok to => if to = 2 then .error 12 else match T r.2.2 with
     |none=>.error 1
     |some y=>if y.k=2∧inside T r.2.2 to then .error 1 else match findF T to l.2 with
      |none=>.ok (r.2.2,Q_e T r.1 r.2.1 to l.2 r.2.2)
      |some m=>if m=r.2.2 then .ok (r.2.2,T) else if V_4 T r.2.2 m=0 then .ok (r.2.2,Q_e (G_5 T to l.2 m) r.1 r.2.1 to l.2 r.2.2) else .error (V_4 T r.2.2 m)
theorem Ax1{Q:Value→Hs→Prop}{T:Type}{k:T}{F:T→An}(Good:T→Prop)(hk:Good k)(hF:∀k',Good k'→WP (F k') Q):WP (jn k F) Q:=hF k hk
theorem R_l{T:Tm}{d n j:Nat}{s:Str}(hd:j≠d)(hn:j≠n):G_5 T d s n j=T j:=by
 unfold G_5
 cases T n with
 |none=>rfl
 | some y =>
  dsimp only
  split
  ·unfold delN
   rw[if_neg hn,D_r hd]
  ·rw[D_r hn,D_r hd]
theorem Ae2(o:Option Nat):fdV o=.tuple #[kI (o.getD 0),.bool o.isSome]:=by cases o<;>rfl
theorem TurnQ.refl{h:Hs}{t:TS}(A:TrAt h t):TurnQ h t t.T h:=⟨MutS.refl _ _,⟨t,A,rfl,rfl,rfl,rfl,λ_ _=>rfl,by omega⟩,.inl ⟨rfl,rfl⟩⟩
theorem H_g{d:Nat}{y:Itm}:(E_c d y).k=y.k:=by unfold E_c;split<;>rfl
theorem o_u{T:Tm}{n m:Nat}{a b:Itm}(ha:T n=some a)(hb:T m=some b)(h:V_4 T n m=0):m≠2∧(b.k=2→a.k=2∧b.cnt=0)∧(a.k=2→b.k=2):=by
 unfold V_4 at h
 rw[ha,hb] at h
 dsimp only at h
 split at h
 ·cases h
 split at h
 ·cases h
 split at h
 ·cases h
 split at h
 ·cases h
 omega
theorem o_9 {R : RnK} {N : Nat} (cf : CFail R) (cl : CLast R) (co : COld R) (cdi : CDir R) (cfi : CFind R) (cwi : CWithin R) (cov : COver R) (cd : CDrop R) (cp : CPut R) {h : Hs} {t : TS} {k : Nat} {a b : Str} {p q : Int} {dv : Value} (A : TrAt h t) (W : WF t.T t.most) (hB : t.B ≤ 1000000) (ha : a.length ≤ 50000) (hb : b.length ≤ 50000) :
 WP (r21 R N [pV t.p,opV k a b p q dv] h) (UpQ h t (P_k t.T a b)):=by
 have H:=Sto.enter h
 unfold r21
 repeat' (first|(with_reducible first|refine D_c ?_|refine D_p ?_|refine A_c ?_)|((with_reducible refine G_e H ?_) ;(clear H;intro u H hu))|((with_reducible refine F_n H ?_) ;(clear H;intro u H hu))|((with_reducible apply D_g 1 H) ;rfl;rfl;rfl))
 rename_i ua hua
 refine C_n (cl a _ ha) λv u1 hv=>?_
 unfold P_k
 cases e1:J_j a with
 |error e=>
  rw[e1] at hv
  obtain⟨rfl,rfl⟩:=hv
  have:=M_w e1
  repeat' (first|(refine B_n (cf _ _) ?_)|((with_reducible apply C_p) ;rfl)|((with_reducible refine B_h (λ_=>?_) (λ_=>?_))<;>first|(exfalso;omega)|skip)|((with_reducible apply B_w 0 H) ;rfl;rfl;rfl;omega;rfl;(clear H;intro u H hu;(try dsimp only[List.set_cons_zero,List.set_cons_succ,A_p,List.toList_toArray,splice,ev,rep,List.cons_append,List.nil_append] at H)))|((with_reducible apply C_t 0 H) ;rfl;rfl;rfl))
  exact B_z H rfl ⟨rfl,rfl⟩
 | ok la =>
  rw[e1] at hv
  obtain⟨sl1,rfl,n1⟩:=hv
  replace H:=(H.call n1).tail
  clear n1
  repeat' (first|(with_reducible first|refine w_jn ?_|refine B_p ?_|refine A_c ?_)|((with_reducible apply C_p) ;rfl)|((with_reducible refine B_h (λ_=>?_) (λ_=>?_))<;>first|(exfalso;omega)|skip)|((with_reducible apply D_g 1 H) ;rfl;rfl;rfl))
  refine C_n (cl b _ hb) λv u2 hv=>?_
  dsimp only
  cases e2:J_j b with
  |error e=>
   rw[e2] at hv
   obtain⟨rfl,rfl⟩:=hv
   have:=M_w e2
   repeat' (first|(refine B_n (cf _ _) ?_)|((with_reducible apply C_p) ;rfl)|((with_reducible refine B_h (λ_=>?_) (λ_=>?_))<;>first|(exfalso;omega)|skip)|((with_reducible apply B_w 0 H) ;rfl;rfl;rfl;omega;rfl;(clear H;intro u H hu;(try dsimp only[List.set_cons_zero,List.set_cons_succ,A_p,List.toList_toArray,splice,ev,rep,List.cons_append,List.nil_append] at H)))|((with_reducible apply C_t 0 H) ;rfl;rfl;rfl))
   exact B_z H rfl ⟨rfl,rfl⟩
  | ok lb =>
   rw[e2] at hv
   obtain⟨sl,rfl,n1⟩:=hv
   have ll:=L_9 hb e2
   replace H:=H.call n1
   clear n1
   have A1:=A.st H
   repeat' (first|(refine B_n (co _ t a A1 W ha) ?_)|(with_reducible first|refine w_jn ?_|refine B_p ?_|refine A_c ?_)|((with_reducible apply C_p) ;rfl)|((with_reducible refine B_h (λ_=>?_) (λ_=>?_))<;>first|(exfalso;omega)|skip)|((with_reducible apply D_g 2 H) ;rfl;rfl;rfl))
   dsimp only
   cases e3:oldF t.T a with
   |error e=>
    have:=a_y W e3
    unfold olV
    repeat' (first|(refine B_n (cf _ _) ?_)|(with_reducible refine w_jn ?_)|((with_reducible apply C_p) ;rfl)|((with_reducible refine B_h (λ_=>?_) (λ_=>?_))<;>first|(exfalso;omega)|skip)|((with_reducible apply B_w 1 H) ;rfl;rfl;rfl;omega;rfl;(clear H;intro u H hu;(try dsimp only[List.set_cons_zero,List.set_cons_succ,A_p,List.toList_toArray,splice,ev,rep,List.cons_append,List.nil_append] at H)))|((with_reducible apply C_t 1 H) ;rfl;rfl;rfl))
    exact B_z H rfl ⟨rfl,rfl⟩
   | ok r =>
    obtain⟨x,y,hx,hk,hy,hf⟩:=P_i W e3
    unfold olV
    dsimp only
    repeat' (first|(refine B_n (cf _ _) ?_)|(with_reducible first|refine w_jn ?_|refine B_p ?_)|((with_reducible apply C_p) ;rfl)|((with_reducible first|refine C_u (λ_=>?_) (λ_=>?_)|refine B_h (λ_=>?_) (λ_=>?_))<;>first|(exfalso;omega)|skip)|((with_reducible apply B_w 1 H) ;rfl;rfl;rfl;omega;rfl;(clear H;intro u H hu;(try dsimp only[List.set_cons_zero,List.set_cons_succ,A_p,List.toList_toArray,splice,ev,rep,List.cons_append,List.nil_append] at H)))|((with_reducible apply C_t 1 H) ;rfl;rfl;rfl))
    ·rename_i q2
     rw[if_pos q2]
     exact B_z H rfl ⟨rfl,rfl⟩
    rename_i q2
    rw[if_neg q2]
    obtain⟨hs,n3⟩:=G_z W hx q2 hf
    have nd:=W.nself hx hs
    repeat' (first|(refine B_n (cdi _ t lb.1 sl A1 W (H.rdO 0 rfl) (by omega)) ?_))
    cases e4:dirT t.T lb.1 with
    |error e=>
     have:=Q_1 W e4
     unfold ptV
     repeat' (first|(refine B_n (cf _ _) ?_)|(with_reducible refine w_jn ?_)|((with_reducible apply C_p) ;rfl)|((with_reducible refine B_h (λ_=>?_) (λ_=>?_))<;>first|(exfalso;omega)|skip)|((with_reducible apply B_w 1 H) ;rfl;rfl;rfl;omega;rfl;(clear H;intro u H hu;(try dsimp only[List.set_cons_zero,List.set_cons_succ,A_p,List.toList_toArray,splice,ev,rep,List.cons_append,List.nil_append] at H)))|((with_reducible apply C_t 1 H) ;rfl;rfl;rfl))
     exact B_z H rfl ⟨rfl,rfl⟩
    | ok to =>
     obtain⟨z,hz,hzk⟩:=O_8 e4
     unfold ptV
     dsimp only
     repeat' (first|(refine B_n (cf _ _) ?_)|(with_reducible first|refine w_jn ?_|refine B_p ?_|refine A_c ?_|refine C_g ?_)|((with_reducible apply C_p) ;rfl)|((with_reducible first|refine C_u (λ_=>?_) (λ_=>?_)|refine B_h (λ_=>?_) (λ_=>?_))<;>first|(exfalso;omega)|skip)|((with_reducible apply B_w 1 H) ;rfl;rfl;rfl;omega;rfl;(clear H;intro u H hu;(try dsimp only[List.set_cons_zero,List.set_cons_succ,A_p,List.toList_toArray,splice,ev,rep,List.cons_append,List.nil_append] at H)))|((with_reducible apply C_t 1 H) ;rfl;rfl;rfl))
     ·rename_i q3
      rw[if_pos q3]
      exact B_z H rfl ⟨rfl,rfl⟩
     rename_i q3
     rw[if_neg q3]
     replace H:=H.tail
     refine t_mp A1 rfl ?_
     refine t_lk A1 hy ?_
     repeat' (first|(with_reducible first|refine A_c ?_|refine C_g ?_))
     refine t_k A1 hy rfl ?_
     rw[hy]
     dsimp only
     obtain⟨j,jl,hj⟩:=ac64 W ⟨z,hz,hzk⟩
     have wi:=r_n (m:=r.2.2) W j to hj
     have cw:=cwi _ t to r.2.2 j A1 W ⟨z,hz,hzk⟩ hj (by omega)
     by_cases q4:y.k=2∧inside t.T r.2.2 to
     ·rw[if_pos q4]
      obtain⟨q41,q42⟩:=q4
      rw[wi.2 q42] at cw
      repeat' (first|(refine B_n (cw) ?_)|(refine B_n (cf _ _) ?_)|((with_reducible refine C_u (λ_=>?_) (λ_=>?_))<;>first|(exfalso;omega)|skip)|((with_reducible apply B_w 0 H) ;rfl;rfl;rfl;omega;rfl;(clear H;intro u H hu;(try dsimp only[List.set_cons_zero,List.set_cons_succ,A_p,List.toList_toArray,splice,ev,rep,List.cons_append,List.nil_append] at H)))|((with_reducible apply C_t 0 H) ;rfl;rfl;rfl))
      exact B_z H rfl ⟨rfl,rfl⟩
     rw[if_neg q4]
     have cw':y.k=2→R 41 [pV t.p,kI to,kI r.2.2] u2=some (.val (.bool false) u2):=λk2=>by
      cases hw:M_i t.T r.2.2 j to with
      |true=>exact absurd ⟨k2,wi.1 hw⟩ q4
      |false=>rw[hw] at cw;exact cw
     have nto:r.2.2≠to:=λe=>by
      rw[e,hz] at hy
      injection hy with hy
      exact q4 ⟨by rw[←hy];exact hzk,⟨0,e.symm⟩⟩
     clear cw wi hj
     rcases Nat.decEq y.k 2 with k2|k2
     all_goals
      repeat' (first|(refine B_n (cw' (by assumption)) ?_)|(with_reducible first|refine w_jn ?_|refine B_p ?_|refine M_g ?_|refine C_9 ?_|refine C_4 ?_)|((with_reducible refine C_u (λ_=>?_) (λ_=>?_))<;>first|(exfalso;omega)|skip))
      refine B_n (cfi _ t to z lb.2 A1 hz hzk) ?_
      rw[Ae2]
      refine C_p rfl ?_
      refine C_p rfl ?_
      have bn0:h.nx≤_:=((H.ids _ (mgE (i:=0) rfl) _ rfl).2 rfl).elim id (λq=>by cases q)
      have H2:=(H.pick [0] (by decide) (m':=[_]) rfl).wide (mutL t.L h.nx)
      refine Ax1 (Good:=λK=>∀(c1 c2 c3:Value)(u3:Hs)(T2:Tm)(n2 B2:Nat)(x2 y2 z2:Itm),B2≤t.B+1→Sto h (mutL t.L h.nx) u3 [.blk ua.nx (.row 34 0 true true [kI 0,kI 0,kI 0,kI 0,kI 0,.slice none 0 0,.slice none 0 0])]→TrAt u3 { t with T:=T2,c:=n2,B:=B2 } →
       T2 r.1=some x2→x2.k=2→x2.names r.2.1=some r.2.2→T2 r.2.2=some y2→y2.k=y.k→0≤y2.links→y2.links≤200→T2 to=some z2→z2.k=2→z2.names lb.2=none →
       WP (K c1 c2 c3 u3) (UpQ h t (.ok (r.2.2,Q_e T2 r.1 r.2.1 to lb.2 r.2.2)))) ?_ ?_
      ·intro c1 c2 c3 u3 T2 n2 B2 x2 y2 z2 hB2 H A2 hx2 hk2 hs2 hy2 yk l0 l1 hz2 hzk2 hzs
       have noL:∀o,∀x ∈ [Th.blk ua.nx o],∀b,x.id=some b→t.L.ro b=none∨t.L.ro b=some .root∨∃n,t.L.ro b=some (.dat n):=λo x hx b hb=>by
        rw[List.mem_singleton.1 hx] at hb
        injection hb with hb
        subst hb
        exact .inl (A.fr _ bn0)
       have I:=A2.it _ _ hz2
       have J:=A2.it _ _ hy2
       have Fm:=A2.it _ _ hx2
       refine C_n (cp u3 { t with T:=T2,c:=n2,B:=B2 } to r.2.2 lb.2 z2 y2 A2 hz2 hzk2 hzs hy2 nto (by show B2<_;omega) l0 (by omega)) λv2 u4 hv=>?_
       obtain⟨rfl,M,A3⟩:=hv
       have H3:=O_t H M (λs hs=>by
        simp only[List.mem_cons,List.not_mem_nil,or_false] at hs
        rcases hs with rfl|rfl
        ·exact I.nbm hzk2
        ·exact J.qm) (noL _)
       obtain⟨x3,hx3,hk3,hs3⟩:∃x3,putT T2 to lb.2 r.2.2 r.1=some x3∧x3.k=2∧x3.names r.2.1=some r.2.2:=by
        by_cases e:r.1=to
        ·rw[e] at hx2 ⊢
         rw[hz2] at hx2
         injection hx2 with hx2
         refine⟨_,w_c hz2 nto,hzk2,?_⟩
         show (if r.2.1=lb.2 then some r.2.2 else z2.names r.2.1)=_
         rw[hx2,hs2];split<;>rfl
        ·exact⟨x2,by unfold putT;rw[D_r (λq=>nd q.symm),D_r e];exact hx2,hk2,hs2⟩
       repeat' (first|(with_reducible first|refine A_c ?_|refine C_g ?_))
       refine t_mp (t:={ t with T:=putT T2 to lb.2 r.2.2,c:=n2,B:=B2+1 }) A3 rfl ?_
       refine t_lk (t:={ t with T:=putT T2 to lb.2 r.2.2,c:=n2,B:=B2+1 }) A3 hx3 ?_
       repeat' (first|(with_reducible first|refine A_c ?_|refine C_g ?_))
       refine t_nm (t:={ t with T:=putT T2 to lb.2 r.2.2,c:=n2,B:=B2+1 }) A3 hx3 hk3 rfl ?_
       refine w_l (t:={ t with T:=putT T2 to lb.2 r.2.2,c:=n2,B:=B2+1 }) A3 hx3 hk3 hs3 λu5 M5 n5 A4=>?_
       have H4:=O_t H3 M5 (λs hs=>by rw[List.mem_singleton.1 hs];exact Fm.nbm hk2) (noL _)
       have hy4:updI (putT T2 to lb.2 r.2.2) r.1 (F_z r.2.1) r.2.2=some (E_c to y2):=by
        rw[D_r nd]
        unfold putT
        rw[F_k (by rw[D_r nto];exact hy2)]
       have hx5:∀f,updI (updI (putT T2 to lb.2 r.2.2) r.1 (F_z r.2.1)) r.2.2 f r.1=some (F_z r.2.1 x3):=λf=>by
        rw[D_r (λq=>nd q.symm),F_k hx3]
       clear H H3
       have fin:∀(u6:Hs)(hh:Sto h (mutL t.L h.nx) u6 [.blk ua.nx (.row 34 0 true true [kI 0,kI 0,kI 0,kI 0,kI 0,.slice none 0 0,.slice none 0 0])]),TrAt u6 { t with T:=Q_e T2 r.1 r.2.1 to lb.2 r.2.2,c:=n2,B:=B2+1+1 } →
        WP (after (λx h30=>B_l h (C_w h30 (resV enE h30 [.cell (.c (pV ua.nx)) 7 true]))) (store1 7 u6 [kI 0,kI r.2.2,kI 0,kI 0,kI 0,.slice none 0 0,.slice none 0 0] (addrOf (pV ua.nx)))) (UpQ h t (.ok (r.2.2,Q_e T2 r.1 r.2.1 to lb.2 r.2.2))):=λu6 H6 A6=>by
        have I0:=A.it _ _ hx
        exact J_v A H6 A6 bn0 (A.fr _ bn0) rfl rfl rfl (D_0.2 ⟨(I0.nm hk).1,I0.nbm hk⟩) (A.neN A6 rfl hx (hx5 _) hk hk3 (s:=r.2.1) (by show x.names r.2.1≠if r.2.1=r.2.1 then none else x3.names r.2.1;rw[hs,if_pos rfl];simp)) rfl rfl rfl (λ_ _=>rfl) (by show B2+1+1≤_;omega) λh'' T=>⟨rfl,T⟩
       repeat' (first|(with_reducible first|refine A_c ?_|refine C_g ?_))
       refine t_mp (t:={ t with T:=updI (putT T2 to lb.2 r.2.2) r.1 (F_z r.2.1),c:=n2,B:=B2+1+1 }) A4 rfl ?_
       refine t_lk (t:={ t with T:=updI (putT T2 to lb.2 r.2.2) r.1 (F_z r.2.1),c:=n2,B:=B2+1+1 }) A4 hy4 ?_
       repeat' (first|(with_reducible first|refine A_c ?_|refine C_g ?_))
       refine t_k (t:={ t with T:=updI (putT T2 to lb.2 r.2.2) r.1 (F_z r.2.1),c:=n2,B:=B2+1+1 }) A4 hy4 rfl ?_
       rw[H_g]
       refine B_h (λq6=>?_) λq6=>?_
       ·repeat' (first|(with_reducible first|refine w_jn ?_|refine B_p ?_)|((with_reducible apply D_w) ;rfl;(try dsimp only[splice,ev,A_p,rep,List.cons_append,List.nil_append])))
        refine fin u5 H4 ?_
        have e:Q_e T2 r.1 r.2.1 to lb.2 r.2.2=updI (putT T2 to lb.2 r.2.2) r.1 (F_z r.2.1):=by
         unfold Q_e
         funext j
         rw[C_2 hy4]
         by_cases e:j=r.2.2
         ·rw[if_pos e,if_pos (by rw[H_g];exact q6),e,hy4]
         ·rw[if_neg e]
        rw[e]
        exact A4
       ·have l4:(E_c to y2).links=y2.links+1:=by unfold E_c;rw[if_neg q6];rfl
        repeat' (first|(with_reducible first|refine w_jn ?_|refine C_j ?_|refine A_c ?_|refine C_g ?_))
        refine t_mp (t:={ t with T:=updI (putT T2 to lb.2 r.2.2) r.1 (F_z r.2.1),c:=n2,B:=B2+1+1 }) A4 rfl ?_
        refine t_lk (t:={ t with T:=updI (putT T2 to lb.2 r.2.2) r.1 (F_z r.2.1),c:=n2,B:=B2+1+1 }) A4 hy4 ?_
        repeat' (first|(with_reducible first|refine A_c ?_|refine C_g ?_))
        refine t_ln (t:={ t with T:=updI (putT T2 to lb.2 r.2.2) r.1 (F_z r.2.1),c:=n2,B:=B2+1+1 }) A4 hy4 rfl ?_
        repeat' (first|(with_reducible first|refine A_c ?_|refine C_g ?_)|((with_reducible refine e_0 ?_ ?_ ?_) ;omega;omega))
        refine z_9 (t:={ t with T:=updI (putT T2 to lb.2 r.2.2) r.1 (F_z r.2.1),c:=n2,B:=B2+1+1 }) A4 hy4 λu6 M6 n6 A5=>?_
        have H6:=O_t H4 M6 (λs hs=>by rw[List.mem_singleton.1 hs];exact J.qm) (noL _)
        repeat' (first|((with_reducible apply D_w) ;rfl;(try dsimp only[splice,ev,A_p,rep,List.cons_append,List.nil_append])))
        refine fin u6 H6 ?_
        have e:Q_e T2 r.1 r.2.1 to lb.2 r.2.2=updI (updI (putT T2 to lb.2 r.2.2) r.1 (F_z r.2.1)) r.2.2 (J_k ((E_c to y2).links-1)):=by
         unfold Q_e
         exact b_u hy4 (if_neg (by rw[H_g];exact q6))
        rw[e]
        exact A5
      ·intro K tail
       cases e5:findF t.T to lb.2 with
       | none =>
        dsimp only[Option.isSome_none]
        repeat' (first|(with_reducible refine B_p ?_))
        have lk:=W.lk _ _ hy
        have hzs:z.names lb.2=none:=by
         unfold findF at e5
         split at e5
         ·cases e5
         ·rw[hz] at e5;exact e5
        exact tail _ _ _ u2 t.T t.c t.B x y z (by omega) H2 A1 hx hk hs hy rfl lk.1 lk.2 hz hzk hzs
       | some m =>
        dsimp only[Option.isSome_some,Option.getD_some]
        obtain⟨w,hw⟩:=Q_k W e5
        repeat' (first|(with_reducible first|refine w_jn ?_|refine C_j ?_|refine B_p ?_)|((with_reducible apply D_w) ;rfl;(try dsimp only[splice,ev,A_p,rep,List.cons_append,List.nil_append]))|((with_reducible refine C_u (λ_=>?_) (λ_=>?_))<;>first|(exfalso;omega)|skip)|((with_reducible apply B_w 0 H) ;rfl;rfl;rfl;omega;rfl;(clear H;intro u H hu;(try dsimp only[List.set_cons_zero,List.set_cons_succ,A_p,List.toList_toArray,splice,ev,rep,List.cons_append,List.nil_append] at H)))|((with_reducible apply C_t 0 H) ;rfl;rfl;rfl))
        ·rename_i q5
         rw[if_pos q5]
         exact B_z H rfl ⟨rfl,TurnQ.refl A⟩
        ·rename_i q5
         rw[if_neg q5]
         repeat' (first|(refine B_n (cov _ t r.2.2 m y w A1 hy hw) ?_)|(refine B_n (cf _ _) ?_)|(with_reducible first|refine w_jn ?_|refine B_p ?_)|((with_reducible refine B_h (λ_=>?_) (λ_=>?_))<;>first|(exfalso;omega)|skip)|((with_reducible apply B_w 0 H) ;rfl;rfl;rfl;omega;rfl;(clear H;intro u H hu;(try dsimp only[List.set_cons_zero,List.set_cons_succ,A_p,List.toList_toArray,splice,ev,rep,List.cons_append,List.nil_append] at H)))|((with_reducible apply C_t 0 H) ;rfl;rfl;rfl))
         ·rename_i q6
          rw[if_pos q6]
          obtain⟨m2,o1,o2⟩:=o_u hy hw q6
          obtain⟨hzm,m3⟩:=G_z W hz m2 e5
          have nmt:=W.nself hz hzm
          have nmr:r.1≠m:=λe=>by
           rw[←e,hx] at hw
           injection hw with hw
           have:=(A.cnt0 hx hk).1 (by rw[hw];exact(o1 (by rw[←hw];exact hk)).2) r.2.1
           rw[hs] at this;cases this
          have lw:=W.lk _ _ hw
          have ly:=W.lk _ _ hy
          have I:=A.it _ _ hz
          have J:=A.it _ _ hw
          refine C_n (cd u2 t to m lb.2 z w A1 hz hzk hzm hw nmt lw.1 (by omega)) λv2 u5 hv=>?_
          obtain⟨rfl,M,A2⟩:=hv
          have H3:=O_t (t:=t) H2 M (λs hs=>by
           simp only[List.mem_cons,List.not_mem_nil,or_false] at hs
           rcases hs with rfl|rfl|rfl
           ·exact I.nbm hzk
           ·exact J.qm
           ·exact A.mm) (λx hx b hb=>by
            rw[List.mem_singleton.1 hx] at hb
            injection hb with hb
            subst hb
            exact .inl (A.fr _ bn0))
          clear H
          obtain⟨x',hx',hk',hs'⟩:∃x',G_5 t.T to lb.2 m r.1=some x'∧x'.k=2∧x'.names r.2.1=some r.2.2:=by
           by_cases e:r.1=to
           ·rw[e] at hx ⊢
            rw[hz] at hx
            injection hx with hx
            refine⟨_,R_i hz hw nmt,hzk,?_⟩
            show (if r.2.1=lb.2 then none else z.names r.2.1)=_
            rw[if_neg,hx,hs]
            intro e2
            rw[←e2,hx,hs] at hzm
            injection hzm with hzm
            exact q5 hzm.symm
           ·exact⟨x,by rw[R_l e nmr];exact hx,hk,hs⟩
          skip
          exact tail _ _ _ u5 _ _ _ x' y (F_z lb.2 z) (Nat.le_refl _) H3 A2 hx' hk' hs' (by rw[R_l nto (λe=>q5 e.symm)];exact hy) rfl ly.1 ly.2 (R_i hz hw nmt) hzk (by show (if lb.2=lb.2 then none else _)=none;rw[if_pos rfl])
         ·rename_i q6
          rw[if_neg q6]
          exact B_z H rfl ⟨rfl,rfl⟩
end Go.Proofs.YtnbnmojckhcdeaaGreatDoor.treeApart
