import Derived.Test.YtnbnmojckhcdeaaGreatDoorMoB
namespace Go.Proofs.YtnbnmojckhcdeaaGreatDoor.treeMoves
open Go Go.Gev
set_option linter.unusedVariables false
abbrev resA(e n ty:Nat)(ln sz:Int)(d nm:Value):Value:=.agg #[kI e,kI n,kI ty,.int .i64 ln,.int .i64 sz,d,nm]
abbrev l_e(e:Nat):Value:=.agg #[kI e,kI 0,kI 0,kI 0,kI 0,.slice none 0 0,.slice none 0 0]
abbrev okV(n:Nat):Value:=.agg #[kI 0,kI n,kI 0,kI 0,kI 0,.slice none 0 0,.slice none 0 0]
abbrev opV(k:Nat)(a b:Str)(at_ n:Int)(d:Value):Value:=.agg #[kI k,sV a,sV b,.int .i64 at_,.int .i64 n,d]
def Ro.mu:Ro→Bool
 |.item _=>true
 |.nms _=>true
 |.map=>true
 |_=>false
def mutL(L:Lay)(n:Nat):List Nat:=(List.range n).filter λb=>match L.ro b with
 |some r=>r.mu
 |none=>false
theorem H_w{L:Lay}{n b:Nat}:b∈mutL L n↔b<n∧∃r,L.ro b=some r∧r.mu=true:=by
 unfold mutL
 rw[List.mem_filter,List.mem_range]
 cases e:L.ro b with
 |none=>simp
 |some r=>simp
structure TurnQ (h:Hs) (t:TS) (T':Tm) (h':Hs):Prop where
 mu:MutS (mutL t.L h.nx) h h'
 tr:∃t',TrAt h' t'∧t'.T=T'∧t'.p=t.p∧t'.mb=t.mb∧t'.most=t.most∧(∀b,b<h.nx→t'.L.ro b=t.L.ro b)∧t'.B≤t.B+4
 ch:(h'=h∧T'=t.T)∨∃b,b∈mutL t.L h.nx∧h'.hp.get b≠h.hp.get b
def UpQ(h:Hs)(t:TS)(r:Except Nat (Nat × Tm))(v:Value)(h':Hs):Prop:=match r with
 |.error e=>v=l_e e∧h'=h
 |.ok r=>v=okV r.1∧TurnQ h t r.2 h'
theorem O_o(k:Nat){Q:Value→Hs→Prop}{h0 h:Hs}{S:List Nat}{m:List Th}{b n e u:Nat}{fl:Bool}{L cs:List Value}{K:KV}(H:Sto h0 S h m)(hk:m[k]?=some (.blk b (.row e u true fl L)))(hn:cs.length=n)(hl:L.length=n)(h0n:0<n)(hx:G_8 cs=true)
 (kk:∀h',Sto h0 S h' (m.set k (.blk b (.row e u true (andB fl (F_e cs)) cs)))→MutS [b] h h'→h'.nx=h.nx→WP (K undef' h') Q):WP (after K (store1 n h cs (addrOf (.pointer (some ⟨b,0,none⟩))))) Q:=by
 obtain⟨c,f,hb,hf,hc⟩:=H.ok _ (mgE hk)
 obtain⟨c',e1,e2⟩:=Y_x cs 0 c L hc hx (by omega)
 have e3:setL L 0 cs=cs:=by
  show L.take 0++cs++L.drop (0+cs.length)=cs
  rw[List.take_zero,naQ,List.drop_of_length_le (by omega),List.append_nil]
 have:store1 n h cs (addrOf (.pointer (some ⟨b,0,none⟩)))=some (undef',⟨h.hp.set b (some (.row c' L.length e u true (andB f (F_e cs)))),h.nx,minN h.lo b⟩):=by
  unfold store1
  rw[hn,Nat.beq_refl]
  show unit1 (O_d h b 0 cs (h.hp.get b))=_
  rw[hb]
  cases cs with
  |nil=>simp at hn;omega
  |cons v vs=>
   show unit1 (setRow h b L.length e u (andB f (F_e (v::vs))) (N_d (v::vs) 0 c))=_
   rw[e1];rfl
 rw[this]
 refine kk _ (H.wr hk (by omega) (λi=>?_) (λhh=>?_)) P_v rfl
 ·rw[e2,←i_8 (by omega),e3]
 ·cases fl with
  |false=>cases hh
  |true=>rw[hf rfl];exact hh
theorem AL6{h u:Hs}{m:List Th}{t t':TS}{v:Value}{b:Nat}{Q:Value→Hs→Prop}(A:TrAt h t)(H:Sto h (mutL t.L h.nx) u m)(A':TrAt u t')(hb:b∈mutL t.L h.nx)(hne:u.hp.get b≠h.hp.get b)(e1:t'.p=t.p)(e2:t'.mb=t.mb)(e3:t'.most=t.most)(e4:∀b,b<h.nx→t'.L.ro b=t.L.ro b)(e5:t'.B≤t.B+4)
 (q:∀h'',TurnQ h t t'.T h''→Q v h''):WP (clrK h v u) Q:=
 d_r H (H_w.1 hb).1 hb (λs hs=>(H_w.1 hs).1) hne λh'' mu e6 e7=>q h'' ⟨mu,⟨t',A'.ext (Nat.le_of_eq e7.symm) λb _ _=>by rw[e6],rfl,e1,e2,e3,e4,e5⟩,.inr ⟨b,hb,by rw[e6];exact hne⟩⟩
theorem X_2{h u u':Hs}{m:List Th}{t:TS}{S:List Nat}(H:Sto h (mutL t.L h.nx) u m)(M:MutS S u u')(hS:∀s∈S,∃r,t.L.ro s=some r∧r.mu=true)(hm:∀x∈m,∀b,x.id=some b→t.L.ro b=none∨t.L.ro b=some .root∨∃n,t.L.ro b=some (.dat n)):Sto h (mutL t.L h.nx) u' m:=by
 refine H.mutS M (λs hs=>?_) λx hx b hb hbs=>?_
 ·rcases logQ s h.nx with g|g
  ·exact .inr (H_w.2 ⟨g,hS s hs⟩)
  ·exact .inl g
 ·obtain⟨r,h1,h2⟩:=hS b hbs
  rcases hm x hx b hb with q|q|⟨_,q⟩
  ·rw[q] at h1;cases h1
  ·rw[q] at h1;injection h1 with h1;subst h1;cases h2
  ·rw[q] at h1;injection h1 with h1;subst h1;cases h2
theorem ItAt.qm{h:Hs}{L:Lay}{n B:Nat}{x:Itm}(I:ItAt h L n x B):∃r,L.ro (L.q n)=some r∧r.mu=true:=⟨_,I.rq,rfl⟩
theorem ItAt.nbm{h:Hs}{L:Lay}{n B:Nat}{x:Itm}(I:ItAt h L n x B)(hk:x.k=2):∃r,L.ro (L.nb n)=some r∧r.mu=true:=⟨_,(I.nm hk).2.1,rfl⟩
theorem TrAt.mm{h:Hs}{t:TS}(A:TrAt h t):∃r,t.L.ro t.mb=some r∧r.mu=true:=⟨_,A.rm,rfl⟩
theorem t_v{h u:Hs}{S:List Nat}{m:List Th}{t:TS}(A:TrAt h t)(H:Sto h S u m)(hx:∀x∈m,x.ex=true)(hS:S = []):∀x∈m,∀b,x.id=some b→t.L.ro b=none∨t.L.ro b=some .root∨∃n,t.L.ro b=some (.dat n):=λx hxm b hb=>by
 subst hS
 rcases (H.ids x hxm b hb).2 (hx x hxm) with g|g
 ·exact .inl (A.fr b g)
 ·cases g
theorem b_a{T:Tm}{d n:Nat}{s:Str}{x y:Itm}(hx:T d=some x)(hy:T n=some y)(nd:n≠d):N_e T d s n d=some (K_8 s x):=by
 unfold N_e
 rw[hy]
 dsimp only
 split
 ·unfold delN
  rw[if_neg (λq=>nd q.symm),K_f hx]
 ·rw[H_d (λq=>nd q.symm),K_f hx]
theorem AP7{T:Tm}{d n:Nat}{s:Str}{x:Itm}(hx:T d=some x)(nd:n≠d):putT T d s n d=some (R_n s n x):=by
 unfold putT
 rw[H_d (λq=>nd q.symm),K_f hx]
theorem Q_6{h u:Hs}{m:List Th}{t t':TS}{b b':Nat}{fl:Bool}{L cs:List Value}{Q:Value→Hs→Prop}(A:TrAt h t)(H:Sto h (mutL t.L h.nx) u (.blk b (.row 34 0 true fl L)::m))(A':TrAt u t')(bn:h.nx≤b)(br:t'.L.ro b=none)(hL:L.length=7)(hc:cs.length=7)(h1:G_8 cs=true)
 (hb:b'∈mutL t.L h.nx) (hne:u.hp.get b'≠h.hp.get b') (e1:t'.p=t.p) (e2:t'.mb=t.mb) (e3:t'.most=t.most) (e4:∀b,b<h.nx→t'.L.ro b=t.L.ro b) (e5:t'.B≤t.B+4) (q:∀h'',TurnQ h t t'.T h''→Q (.agg cs.toArray) h'') :
 WP (after (λx h30=>D_4 h (G_p h30 (resV enE h30 [.cell (.c (pV b)) 7 true]))) (store1 7 u cs (addrOf (pV b)))) Q:=by
 refine O_o 0 H rfl hc hL (by decide) h1 λu3 H3 M3 n3=>?_
 dsimp only[scZ] at H3
 have A3:=A'.mutS M3 (λs hs=>by rw[msQ.1 hs];exact br)
 refine G_f 0 H3 rfl hc rfl ?_
 have lb:=(H_w.1 hb).1
 exact AL6 A H3 A3 hb (by rw[M3.2.1 b' (llN lb H.nx) (by simp;omega)];exact hne) e1 e2 e3 e4 e5 q
def CFail(R:RnK):Prop:=∀(e:Nat)(h:Hs),R 17 [kI e] h=some (.val (l_e e) h)
theorem AV1{R:RnK}{N e:Nat}{h:Hs}:r17 R N [kI e] h=some (.val (l_e e) h):=by
 refine WP.eqn ?_
 have H:=Sto.enter h
 unfold r17
 repeat' (first|(with_reducible first|refine H_i ?_|refine H_1 ?_)|((with_reducible apply H_e) ;rfl;(try dsimp only[splice,ev,A_4,rep,caQ,naQ]))|((with_reducible refine K_z H ?_) ;(clear H;intro u H hu))|((with_reducible apply E_s 0 H) ;rfl;rfl;rfl;omega;rfl;(clear H;intro u H hu;(try dsimp only[scZ,scS,A_4,ttA,splice,ev,rep,caQ,naQ] at H)))|((with_reducible apply G_f 0 H) ;rfl;rfl;rfl))
 exact E_z H rfl ⟨rfl,rfl⟩
def Y_y(T:Tm)(s:Str):Except Nat (Nat × Tm):=match oldF T s with
 |.error e=>.error e
 |.ok r=>match T r.2.2 with
  |none=>.error 1
  |some y=>if y.k=2 then .error 5 else .ok (r.2.2,N_e T r.1 r.2.1 r.2.2)
theorem Y_r{T:Tm}{most:Nat}(W:WF T most){s:Str}{r:Nat × Str × Nat}(h:oldF T s=.ok r):∃x y,T r.1=some x∧x.k=2∧T r.2.2=some y∧findF T r.1 r.2.1=some r.2.2:=by
 unfold oldF at h
 split at h
 ·cases h
 ·split at h
  ·cases h
  ·rename_i d hd
   obtain⟨x,hx,hk⟩:=Y_e hd
   split at h
   ·rename_i n hn
    injection h with h;subst h
    obtain⟨y,hy⟩:=Z_5 W hn
    exact⟨x,y,hx,hk,hy,hn⟩
   ·cases h
theorem i_x{T:Tm}{most:Nat}(W:WF T most){s:Str}{e:Nat}(h:oldF T s=.error e):e≠0:=by
 unfold oldF at h
 split at h
 ·rename_i e1 he
  injection h with h;subst h;exact P_w he
 ·split at h
  ·rename_i e1 he
   injection h with h;subst h;exact Y_f W he
  ·split at h
   ·cases h
   ·injection h with h;omega
theorem N_c{T:Tm}{most d n:Nat}{s:Str}{x:Itm}(W:WF T most)(hx:T d=some x)(hn:n≠2)(h:findF T d s=some n):x.names s=some n∧3≤n:=by
 unfold findF at h
 split at h
 ·injection h with h;omega
 ·rw[hx] at h
  have h:x.names s=some n:=h
  exact⟨h,(W.nm d x s n hx h).2.1⟩
theorem WF.kne{T:Tm}{d n:Nat}{x y:Itm}(hx:T d=some x)(hy:T n=some y)(h:x.k≠y.k):n≠d:=λe=>by
 subst e
 rw[hx] at hy
 injection hy with hy
 exact h (by rw[hy])
theorem Ax5{R:RnK}{N:Nat}(cf:CFail R)(co:COld R)(cd:CDrop R){h:Hs}{t:TS}{k:Nat}{a b:Str}{p q:Int}{dv:Value}(A:TrAt h t)(W:WF t.T t.most)(ha:a.length≤50000) :
 WP (r19 R N [pV t.p,opV k a b p q dv] h) (UpQ h t (Y_y t.T a)):=by
 have H:=Sto.enter h
 unfold r19
 repeat' (first|(with_reducible first|refine H_i ?_|refine H_1 ?_|refine A_g ?_)|((with_reducible refine M_f H ?_) ;(clear H;intro u H hu))|((with_reducible refine K_z H ?_) ;(clear H;intro u H hu))|((with_reducible apply H_c 1 H) ;rfl;rfl;rfl))
 have A1:=A.st H
 repeat' (first|(refine E_b (co _ t a A1 W ha) ?_))
 unfold Y_y
 cases e:oldF t.T a with
 |error e1=>
  have:=i_x W e
  unfold olV
  repeat' (first|(refine E_b (cf _ _) ?_)|(with_reducible refine w_jn ?_)|((with_reducible apply F_8) ;rfl)|((with_reducible refine D_v (λ_=>?_) (λ_=>?_))<;>first|(exfalso;omega)|skip)|((with_reducible apply E_s 0 H) ;rfl;rfl;rfl;omega;rfl;(clear H;intro u H hu;(try dsimp only[scZ,scS,A_4,ttA,splice,ev,rep,caQ,naQ] at H)))|((with_reducible apply G_f 0 H) ;rfl;rfl;rfl))
  exact E_z H rfl ⟨rfl,rfl⟩
 | ok r =>
  obtain⟨x,y,hx,hk,hy,hf⟩:=Y_r W e
  unfold olV
  repeat' (first|(with_reducible first|refine w_jn ?_|refine E_k ?_|refine A_g ?_|refine F_w ?_)|((with_reducible apply F_8) ;rfl)|((with_reducible refine D_v (λ_=>?_) (λ_=>?_))<;>first|(exfalso;omega)|skip))
  refine t_mp A1 rfl ?_
  refine t_lk A1 hy ?_
  repeat' (first|(with_reducible first|refine A_g ?_|refine F_w ?_))
  refine t_k A1 hy rfl ?_
  dsimp only
  rw[hy]
  dsimp only
  have W2:=W.r2
  repeat' (first|(refine E_b (cf _ _) ?_)|(with_reducible first|refine w_jn ?_|refine E_k ?_)|((with_reducible refine G_h (λ_=>?_) (λ_=>?_))<;>first|(exfalso;omega)|skip)|((with_reducible apply E_s 0 H) ;rfl;rfl;rfl;omega;rfl;(clear H;intro u H hu;(try dsimp only[scZ,scS,A_4,ttA,splice,ev,rep,caQ,naQ] at H)))|((with_reducible apply G_f 0 H) ;rfl;rfl;rfl))
  ·rename_i q2
   rw[if_pos q2]
   exact E_z H rfl ⟨rfl,rfl⟩
  ·rename_i q2
   rw[if_neg q2]
   have n2:r.2.2≠2:=λe=>by
    obtain⟨z,z1,z2,_⟩:=W2
    rw[e,z1] at hy
    injection hy with hy
    exact q2 (by rw[←hy];exact z2)
   obtain⟨hs,n3⟩:=N_c W hx n2 hf
   have nd:=WF.kne hx hy (by omega)
   have lk:=W.lk _ _ hy
   have I:=A.it _ _ hx
   have J:=A.it _ _ hy
   refine G_b (cd _ t r.1 r.2.2 r.2.1 x y A1 hx hk hs hy nd lk.1 (by omega)) λv2 u2 hv=>?_
   obtain⟨rfl,M,A2⟩:=hv
   have no:=t_v A H (by simp[Th.ex]) rfl
   have bn0:h.nx≤_:=((H.ids _ (mgE (i:=0) rfl) _ rfl).2 rfl).elim id (λq=>by cases q)
   have H2:=X_2 (t:=t) (H.wide _) M (λs hs=>by
    simp only[mcQ,List.not_mem_nil,or_false] at hs
    rcases hs with rfl|rfl|rfl
    ·exact I.nbm hk
    ·exact J.qm
    ·exact A.mm) no
   clear H
   have H:=H2
   refine H_e rfl ?_
   exact Q_6 A H A2 bn0 (A.fr _ bn0) rfl rfl rfl (H_w.2 ⟨(I.nm hk).1,I.nbm hk⟩) (A.neN A2 rfl hx (b_a hx hy nd) hk hk (s:=r.2.1) (by show x.names r.2.1≠if r.2.1=r.2.1 then none else x.names r.2.1;rw[hs,if_pos rfl];simp)) rfl rfl rfl (λ_ _=>rfl) (by show t.B+1≤_;omega) λh'' T=>⟨rfl,T⟩
def g_c(T:Tm)(s:Str):Except Nat (Nat × Tm):=match oldF T s with
 |.error e=>.error e
 |.ok r=>match T r.2.2 with
  |none=>.error 1
  |some y=>if y.k=2 then (if r.2.2=2 then .error 12 else if 0<y.cnt then .error 6 else .ok (r.2.2,N_e T r.1 r.2.1 r.2.2)) else .error 4
theorem TrAt.cnt0{h:Hs}{t:TS}(A:TrAt h t){n:Nat}{y:Itm}(hy:t.T n=some y)(hk:y.k=2):y.cnt=0↔∀s,y.names s=none:=by
 obtain⟨_,_,es,cl,_,M⟩:=(A.it n y hy).nm hk
 rw[M.zero]
 constructor
 ·intro q s
  have:=q s
  cases e:y.names s with
  |none=>rfl
  |some m=>rw[e] at this;cases this
 ·intro q s;show (y.names s).map kI=none;rw[q];rfl
theorem AI9{R:RnK}{N:Nat}(cf:CFail R)(co:COld R)(cd:CDrop R){h:Hs}{t:TS}{k:Nat}{a b:Str}{p q:Int}{dv:Value}(A:TrAt h t)(W:WF t.T t.most)(ha:a.length≤50000) :
 WP (r20 R N [pV t.p,opV k a b p q dv] h) (UpQ h t (g_c t.T a)):=by
 have H:=Sto.enter h
 unfold r20
 repeat' (first|(with_reducible first|refine H_i ?_|refine H_1 ?_|refine A_g ?_)|((with_reducible refine M_f H ?_) ;(clear H;intro u H hu))|((with_reducible refine K_z H ?_) ;(clear H;intro u H hu))|((with_reducible apply H_c 1 H) ;rfl;rfl;rfl))
 have A1:=A.st H
 repeat' (first|(refine E_b (co _ t a A1 W ha) ?_))
 unfold g_c
 cases e:oldF t.T a with
 |error e1=>
  have:=i_x W e
  unfold olV
  repeat' (first|(refine E_b (cf _ _) ?_)|(with_reducible refine w_jn ?_)|((with_reducible apply F_8) ;rfl)|((with_reducible refine D_v (λ_=>?_) (λ_=>?_))<;>first|(exfalso;omega)|skip)|((with_reducible apply E_s 0 H) ;rfl;rfl;rfl;omega;rfl;(clear H;intro u H hu;(try dsimp only[scZ,scS,A_4,ttA,splice,ev,rep,caQ,naQ] at H)))|((with_reducible apply G_f 0 H) ;rfl;rfl;rfl))
  exact E_z H rfl ⟨rfl,rfl⟩
 | ok r =>
  obtain⟨x,y,hx,hk,hy,hf⟩:=Y_r W e
  unfold olV
  repeat' (first|(with_reducible first|refine w_jn ?_|refine E_k ?_|refine A_g ?_|refine F_w ?_)|((with_reducible apply F_8) ;rfl)|((with_reducible refine D_v (λ_=>?_) (λ_=>?_))<;>first|(exfalso;omega)|skip))
  refine t_mp A1 rfl ?_
  refine t_lk A1 hy ?_
  repeat' (first|(with_reducible first|refine A_g ?_|refine F_w ?_))
  refine t_k A1 hy rfl ?_
  dsimp only
  rw[hy]
  dsimp only
  repeat' (first|(refine E_b (cf _ _) ?_)|(with_reducible first|refine w_jn ?_|refine E_k ?_|refine A_g ?_|refine F_w ?_)|((with_reducible first|refine G_h (λ_=>?_) (λ_=>?_)|refine D_v (λ_=>?_) (λ_=>?_))<;>first|(exfalso;omega)|skip)|((with_reducible apply E_s 0 H) ;rfl;rfl;rfl;omega;rfl;(clear H;intro u H hu;(try dsimp only[scZ,scS,A_4,ttA,splice,ev,rep,caQ,naQ] at H)))|((with_reducible apply G_f 0 H) ;rfl;rfl;rfl))
  ·rename_i q2 q3
   rw[if_pos q2,if_pos q3]
   exact E_z H rfl ⟨rfl,rfl⟩
  ·rename_i q2 q3
   rw[if_pos q2,if_neg q3]
   refine t_mp A1 rfl ?_
   refine t_lk A1 hy ?_
   repeat' (first|(with_reducible first|refine A_g ?_|refine F_w ?_))
   refine t_nm A1 hy q2 rfl ?_
   refine Bc9 A1 hy q2 ?_
   repeat' (first|(refine E_b (cf _ _) ?_)|(with_reducible first|refine w_jn ?_|refine E_k ?_)|((with_reducible refine O_n (λ_=>?_) (λ_=>?_))<;>first|(exfalso;omega)|skip)|((with_reducible apply E_s 0 H) ;rfl;rfl;rfl;omega;rfl;(clear H;intro u H hu;(try dsimp only[scZ,scS,A_4,ttA,splice,ev,rep,caQ,naQ] at H)))|((with_reducible apply G_f 0 H) ;rfl;rfl;rfl))
   ·rename_i q4
    rw[if_pos q4]
    exact E_z H rfl ⟨rfl,rfl⟩
   ·rename_i q4
    rw[if_neg q4]
    obtain⟨hs,n3⟩:=N_c W hx q3 hf
    have nd:r.2.2≠r.1:=λe=>by
     rw[e,hx] at hy
     injection hy with hy
     have:=(A.cnt0 hx hk).1 (by rw[hy];omega) r.2.1
     rw[hs] at this;cases this
    have lk:=W.lk _ _ hy
    have I:=A.it _ _ hx
    have J:=A.it _ _ hy
    refine G_b (cd _ t r.1 r.2.2 r.2.1 x y A1 hx hk hs hy nd lk.1 (by omega)) λv2 u2 hv=>?_
    obtain⟨rfl,M,A2⟩:=hv
    have no:=t_v A H (by simp[Th.ex]) rfl
    have bn0:h.nx≤_:=((H.ids _ (mgE (i:=0) rfl) _ rfl).2 rfl).elim id (λq=>by cases q)
    have H2:=X_2 (t:=t) (H.wide _) M (λs hs=>by
     simp only[mcQ,List.not_mem_nil,or_false] at hs
     rcases hs with rfl|rfl|rfl
     ·exact I.nbm hk
     ·exact J.qm
     ·exact A.mm) no
    clear H
    have H:=H2
    refine H_e rfl ?_
    exact Q_6 A H A2 bn0 (A.fr _ bn0) rfl rfl rfl (H_w.2 ⟨(I.nm hk).1,I.nbm hk⟩) (A.neN A2 rfl hx (b_a hx hy nd) hk hk (s:=r.2.1) (by show x.names r.2.1≠if r.2.1=r.2.1 then none else x.names r.2.1;rw[hs,if_pos rfl];simp)) rfl rfl rfl (λ_ _=>rfl) (by show t.B+1≤_;omega) λh'' T=>⟨rfl,T⟩
  ·rename_i q2
   rw[if_neg q2]
   exact E_z H rfl ⟨rfl,rfl⟩
def w_6(T:Tm)(a b:Str):Except Nat (Nat × Tm):=match wayT T false a with
 |.error e=>.error e
 | .ok n => match T n with
  |none=>.error 1
  |some y=>if y.k=2 then .error 5 else match Q_n T b with
   |.error e=>.error e
   |.ok r=>if 200≤y.links then .error 10 else .ok (n,putT T r.1 r.2 n)
theorem X_l{T:Tm}{s:Str}{r:Nat × Str}(h:Q_n T s=.ok r):∃x,T r.1=some x∧x.k=2∧x.names r.2=none∧r.1≠2∧¬(r.1=1∧r.2=O_2):=by
 unfold Q_n at h
 split at h
 ·cases h
 ·split at h
  ·cases h
  ·rename_i d hd
   obtain⟨x,hx,hk⟩:=Y_e hd
   split at h
   ·cases h
   ·rename_i hf
    split at h
    ·cases h
    ·injection h with h;subst h
     refine⟨x,hx,hk,?_,by assumption,λq=>?_⟩
     ·unfold findF at hf
      split at hf
      ·cases hf
      ·rw[hx] at hf;exact hf
     ·unfold findF at hf
      rw[if_pos q] at hf;cases hf
theorem l_5{T:Tm}{most:Nat}(W:WF T most){s:Str}{e:Nat}(h:Q_n T s=.error e):e≠0:=by
 unfold Q_n at h
 split at h
 ·rename_i e1 he
  injection h with h;subst h;exact P_w he
 ·split at h
  ·rename_i e1 he
   injection h with h;subst h;exact Y_f W he
  ·split at h
   ·injection h with h;omega
   ·split at h
    ·injection h with h;omega
    ·cases h
theorem AX7{R:RnK}{N:Nat}(cf:CFail R)(cw:CWayT R)(cr:CFresh R)(cp:CPut R){h:Hs}{t:TS}{k:Nat}{a b:Str}{p q:Int}{dv:Value}(A:TrAt h t)(W:WF t.T t.most)(hB:t.B≤1000000)(ha:a.length≤50000)(hb:b.length≤50000) :
 WP (r18 R N [pV t.p,opV k a b p q dv] h) (UpQ h t (w_6 t.T a b)):=by
 have H:=Sto.enter h
 unfold r18
 repeat' (first|(with_reducible first|refine H_i ?_|refine H_1 ?_|refine A_g ?_)|((with_reducible refine M_f H ?_) ;(clear H;intro u H hu))|((with_reducible refine K_z H ?_) ;(clear H;intro u H hu))|((with_reducible apply H_c 1 H) ;rfl;rfl;rfl))
 have A1:=A.st H
 repeat' (first|(refine E_b (cw _ t a false A1 W ha) ?_))
 unfold w_6
 cases e:wayT t.T false a with
 |error e1=>
  have:=W_2 W e
  unfold ptV
  repeat' (first|(refine E_b (cf _ _) ?_)|(with_reducible refine w_jn ?_)|((with_reducible apply F_8) ;rfl)|((with_reducible refine D_v (λ_=>?_) (λ_=>?_))<;>first|(exfalso;omega)|skip)|((with_reducible apply E_s 0 H) ;rfl;rfl;rfl;omega;rfl;(clear H;intro u H hu;(try dsimp only[scZ,scS,A_4,ttA,splice,ev,rep,caQ,naQ] at H)))|((with_reducible apply G_f 0 H) ;rfl;rfl;rfl))
  exact E_z H rfl ⟨rfl,rfl⟩
 | ok n =>
  obtain⟨y,hy⟩:=W_1 W e
  unfold ptV
  repeat' (first|(with_reducible first|refine w_jn ?_|refine E_k ?_|refine A_g ?_|refine F_w ?_)|((with_reducible apply F_8) ;rfl)|((with_reducible refine D_v (λ_=>?_) (λ_=>?_))<;>first|(exfalso;omega)|skip))
  refine t_mp A1 rfl ?_
  refine t_lk A1 hy ?_
  repeat' (first|(with_reducible first|refine A_g ?_|refine F_w ?_))
  refine t_k A1 hy rfl ?_
  dsimp only
  rw[hy]
  dsimp only
  repeat' (first|(refine E_b (cf _ _) ?_)|(with_reducible first|refine w_jn ?_|refine E_k ?_|refine A_g ?_)|((with_reducible refine G_h (λ_=>?_) (λ_=>?_))<;>first|(exfalso;omega)|skip)|((with_reducible apply E_s 0 H) ;rfl;rfl;rfl;omega;rfl;(clear H;intro u H hu;(try dsimp only[scZ,scS,A_4,ttA,splice,ev,rep,caQ,naQ] at H)))|((with_reducible apply G_f 0 H) ;rfl;rfl;rfl)|((with_reducible apply H_c 1 H) ;rfl;rfl;rfl))
  ·rename_i q2
   rw[if_pos q2]
   exact E_z H rfl ⟨rfl,rfl⟩
  ·rename_i q2
   rw[if_neg q2]
   repeat' (first|(refine E_b (cr _ t b A1 W hb) ?_))
   cases e2:Q_n t.T b with
   |error e3=>
    have:=l_5 W e2
    unfold frV
    repeat' (first|(refine E_b (cf _ _) ?_)|(with_reducible refine w_jn ?_)|((with_reducible apply F_8) ;rfl)|((with_reducible refine D_v (λ_=>?_) (λ_=>?_))<;>first|(exfalso;omega)|skip)|((with_reducible apply E_s 0 H) ;rfl;rfl;rfl;omega;rfl;(clear H;intro u H hu;(try dsimp only[scZ,scS,A_4,ttA,splice,ev,rep,caQ,naQ] at H)))|((with_reducible apply G_f 0 H) ;rfl;rfl;rfl))
    exact E_z H rfl ⟨rfl,rfl⟩
   | ok r =>
    obtain⟨x,hx,hk,hs,d2,d1⟩:=X_l e2
    unfold frV
    repeat' (first|(with_reducible first|refine w_jn ?_|refine E_k ?_|refine A_g ?_|refine F_w ?_)|((with_reducible apply F_8) ;rfl)|((with_reducible refine D_v (λ_=>?_) (λ_=>?_))<;>first|(exfalso;omega)|skip))
    refine t_mp A1 rfl ?_
    refine t_lk A1 hy ?_
    repeat' (first|(with_reducible first|refine A_g ?_|refine F_w ?_))
    refine t_ln A1 hy rfl ?_
    dsimp only
    repeat' (first|(refine E_b (cf _ _) ?_)|(with_reducible first|refine w_jn ?_|refine E_k ?_)|((with_reducible refine u_l (λ_=>?_) (λ_=>?_))<;>first|(exfalso;omega)|skip)|((with_reducible apply E_s 0 H) ;rfl;rfl;rfl;omega;rfl;(clear H;intro u H hu;(try dsimp only[scZ,scS,A_4,ttA,splice,ev,rep,caQ,naQ] at H)))|((with_reducible apply G_f 0 H) ;rfl;rfl;rfl))
    ·rename_i q4
     rw[if_pos (by omega)]
     exact E_z H rfl ⟨rfl,rfl⟩
    ·rename_i q4
     rw[if_neg (by omega)]
     have nd:=WF.kne hx hy (by omega)
     have lk:=W.lk _ _ hy
     have I:=A.it _ _ hx
     have J:=A.it _ _ hy
     refine G_b (cp _ t r.1 n r.2 x y A1 hx hk hs hy nd (by omega) lk.1 (by omega)) λv2 u2 hv=>?_
     obtain⟨rfl,M,A2⟩:=hv
     have no:=t_v A H (by simp[Th.ex]) rfl
     have bn0:h.nx≤_:=((H.ids _ (mgE (i:=0) rfl) _ rfl).2 rfl).elim id (λq=>by cases q)
     have H2:=X_2 (t:=t) (H.wide _) M (λs hs=>by
      simp only[mcQ,List.not_mem_nil,or_false] at hs
      rcases hs with rfl|rfl
      ·exact I.nbm hk
      ·exact J.qm) no
     clear H
     have H:=H2
     refine H_e rfl ?_
     exact Q_6 A H A2 bn0 (A.fr _ bn0) rfl rfl rfl (H_w.2 ⟨(I.nm hk).1,I.nbm hk⟩) (A.neN A2 rfl hx (AP7 hx nd) hk hk (s:=r.2) (by show x.names r.2≠if r.2=r.2 then some n else x.names r.2;rw[hs,if_pos rfl];simp)) rfl rfl rfl (λ_ _=>rfl) (by show t.B+1≤_;omega) λh'' T=>⟨rfl,T⟩
theorem t_m:∀(k:Nat)(l:List Nat),l.Nodup→(∀x∈l,x<k)→l.length≤k:=by
 intro k
 induction k with
 |zero=>intro l _ h;cases l with
  |nil=>exact lR _
  |cons x l=>exact absurd (h x mcS) (Nat.not_lt_zero _)
 | succ k ih =>
  intro l nd h
  by_cases q:k∈l
  ·have:=ih (l.erase k) (nd.erase k) λx hx=>by
    have h1:=h x (List.mem_of_mem_erase hx)
    have h2:x≠k:=λe=>by
     subst e
     exact(List.Nodup.not_mem_erase nd) hx
    omega
   rw[List.length_erase_of_mem q] at this
   omega
  ·have:=ih l nd λx hx=>by
    have h1:=h x hx
    have h2:x≠k:=λe=>q (e ▸ hx)
    omega
   omega
theorem j_f(T:Tm):∀(i j n:Nat),upN T (i+j) n=upN T j (upN T i n):=by
 intro i
 induction i with
 |zero=>intro j n;rw[zaQ];rfl
 |succ i ih=>
  intro j n
  rw[show i+1+j=(i+j)+1 by omega]
  exact ih j _
theorem Z_p{T:Tm}{most:Nat}(W:WF T most):∀(i n:Nat),(∃x,T n=some x∧x.k=2)→∃x,T (upN T i n)=some x∧x.k=2:=by
 intro i
 induction i with
 |zero=>intro n h;exact h
 |succ i ih=>
  intro n ⟨x,hx,hk⟩
  show ∃z,T (upN T i (match T n with|some x=>x.up|none=>n))=some z∧z.k=2
  rw[hx]
  exact ih x.up (W.up n x hx hk)
theorem u_f{T:Tm}{most:Nat}(W:WF T most):∀j,upN T j 1=1:=by
 intro j
 obtain⟨x,hx,_,hu⟩:=W.r1
 induction j with
 |zero=>rfl
 |succ j ih=>
  show upN T j (match T 1 with|some x=>x.up|none=>1)=1
  rw[hx]
  show upN T j x.up=1
  rw[hu];exact ih
theorem ac64{T:Tm}{most n:Nat}(W:WF T most)(hn:∃x,T n=some x∧x.k=2):∃j,j≤64∧upN T j n=1:=by
 obtain⟨x,hx,hk⟩:=hn
 obtain⟨j,hj⟩:=W.ac n x hx hk
 induction j using Nat.strongRecOn with
 | ind j ih =>
  by_cases q:j≤64
  ·exact⟨j,q,hj⟩
  ·have nn:¬((List.range 65).map λi=>upN T i n).Nodup:=λnd=>by
    have:=t_m 65 (((List.range 65).map λi=>upN T i n).map id) (by simpa using nd) (λv hv=>by
     simp only[List.map_id,List.mem_map,List.mem_range] at hv
     obtain⟨i,hi,rfl⟩:=hv
     obtain⟨z,hz,_⟩:=Z_p W i n ⟨x,hx,hk⟩
     have:=(W.lo _ _ hz).2
     have:=W.mo
     omega)
    have h1:∀v∈(((List.range 65).map λi=>upN T i n).map λv=>v-1),v<64:=λv hv=>by
     simp only[List.map_map,List.mem_map,List.mem_range,Function.comp] at hv
     obtain⟨i,hi,rfl⟩:=hv
     obtain⟨z,hz,_⟩:=Z_p W i n ⟨x,hx,hk⟩
     have:=W.lo _ _ hz
     have:=W.mo
     omega
    have h2:(((List.range 65).map λi=>upN T i n).map λv=>v-1).Nodup:=by
     refine(List.pairwise_map).2 (nd.imp_of_mem λ{a b} ha hb hab e=>hab ?_)
     simp only[List.mem_map,List.mem_range] at ha hb
     obtain⟨i,_,rfl⟩:=ha
     obtain⟨i',_,rfl⟩:=hb
     obtain⟨z,hz,_⟩:=Z_p W i n ⟨x,hx,hk⟩
     obtain⟨z',hz',_⟩:=Z_p W i' n ⟨x,hx,hk⟩
     have:=W.lo _ _ hz
     have:=W.lo _ _ hz'
     omega
    have:=t_m 64 _ h2 h1
    simp at this
   obtain⟨i,i',hlt,hi',he⟩:∃i i',i<i'∧i'<65∧upN T i n=upN T i' n:=by
    refine Classical.byContradiction λno=>nn ?_
    rw[List.Nodup,List.pairwise_map]
    refine(List.pairwise_lt_range (n:=65)).imp_of_mem λ{a b} ha hb hab e=>no ⟨a,b,hab,by simpa using hb,e⟩
   refine ih (i+(j-i')) (by omega) ?_
   rw[j_f,he,←j_f,show i'+(j-i')=j by omega]
   exact hj
def inside(T:Tm)(m d:Nat):Prop:=∃i,upN T i d=m
theorem Az5{T:Tm}{most m:Nat}(W:WF T most):∀(j d:Nat),upN T j d=1→(U_7 T m j d=true↔inside T m d):=by
 intro j
 induction j with
 |zero=>
  intro d hd
  have hd:d=1:=hd
  subst hd
  rw[U_7]
  refine⟨λh=>⟨0,of_decide_eq_true h⟩,λ⟨i,hi⟩=>?_⟩
  rw[u_f W] at hi
  exact decide_eq_true hi
 | succ j ih =>
  intro d hd
  rw[U_7]
  by_cases e1:d=m
  ·rw[if_pos e1];exact⟨λ_=>⟨0,e1⟩,λ_=>rfl⟩
  ·rw[if_neg e1]
   by_cases e2:d=1
   ·rw[if_pos e2]
    subst e2
    refine⟨λh=>(by cases h),λ⟨i,hi⟩=>?_⟩
    rw[u_f W] at hi
    exact absurd hi e1
   ·rw[if_neg e2]
    refine(ih _ hd).trans ?_
    constructor
    ·rintro⟨i,hi⟩;exact⟨i+1,hi⟩
    ·rintro⟨i,hi⟩
     cases i with
     |zero=>exact absurd hi e1
     |succ i=>exact⟨i,hi⟩
theorem WF.nself{T:Tm}{most d n:Nat}{s:Str}{x:Itm}(W:WF T most)(hx:T d=some x)(hs:x.names s=some n):n≠d:=λe=>by
 subst e
 obtain⟨hk,n3,_⟩:=W.nm n x s n hx hs
 obtain⟨l,_,h1,_,h2⟩:=W.rf n x hx n3
 obtain⟨s',hl⟩:=h2 hk
 have:(n,s)∈l:=(h1 n s).1 ⟨x,hx,hs⟩
 rw[hl,msQ] at this
 injection this with hu _
 have st:∀j,upN T j n=n:=by
  intro j
  induction j with
  |zero=>rfl
  |succ j ih=>
   show upN T j (match T n with|some x=>x.up|none=>n)=n
   rw[hx]
   show upN T j x.up=n
   rw[←hu];exact ih
 obtain⟨j,hj⟩:=W.ac n x hx hk
 rw[st] at hj
 omega
def i_z(T:Tm)(n m:Nat):Nat:=match T n,T m with
 |some a,some b=>if m=2 then 12 else if b.k=2∧a.k≠2 then 5 else if a.k=2∧b.k≠2 then 4 else if b.k=2∧0<b.cnt then 6 else 0
 |_,_=>1
def COver(R:RnK):Prop:=∀(h:Hs)(t:TS)(n m:Nat)(a b:Itm),TrAt h t→t.T n=some a→t.T m=some b→R 43 [pV t.p,kI n,kI m] h=some (.val (kI (i_z t.T n m)) h)
theorem Bq0{Q:Value→Hs→Prop}{u:Hs}{t:TS}{n:Nat}{x:Itm}{F:KV}{hp':Tr Blk}(A:TrAt u t)(hx:t.T n=some x)(hp:hp'.get t.mb=u.hp.get t.mb)(w:WP (F (pV (t.L.q n)) u) Q) :
 WP (after (λv w=>dPut F v (F_u u w .light) (andB (dFit u w .light) (Nat.ble 0 w.lo))) (ret1 ⟨hp',u.nx,u.nx⟩ (lk1 true ⟨hp',u.nx,u.nx⟩ (.pointer none) false (kI n) (.map (some t.mb))))) Q:=by
 rw[Bd0 (hh:=⟨hp',u.nx,u.nx⟩) A n hp,hx]
 refine O_f rfl ?_
 exact a_d w
theorem Ba7{R:RnK}{N:Nat}{h:Hs}{t:TS}{n m:Nat}{a b:Itm}(A:TrAt h t)(ha:t.T n=some a)(hb:t.T m=some b):r43 R N [pV t.p,kI n,kI m] h=some (.val (kI (i_z t.T n m)) h):=by
 refine WP.eqn ?_
 have H:=Sto.enter h
 have A1:=A.st H
 have hid:∀(lm:List Bool)(hist:List (Option (Nat × Nat)))(b:Nat),b<h.nx→HidOk b hist→(R_q .light lm hist ⟨h.hp,h.nx,h.nx⟩).hp.get b=h.hp.get b:=λlm hist b hb hq=>Q_o _ _ _ _ hq
 have q1:=(A.it _ _ ha).ql
 have q2:=(A.it _ _ hb).ql
 have q3:=A.ml
 have q4:=A.pl
 have hv:i_z t.T n m=if m=2 then 12 else if b.k=2∧a.k≠2 then 5 else if a.k=2∧b.k≠2 then 4 else if b.k=2∧0<b.cnt then 6 else 0:=by unfold i_z;rw[ha,hb]
 rw[hv]
 have fin:∀v:Nat,v=(if m=2 then 12 else if b.k=2∧a.k≠2 then 5 else if a.k=2∧b.k≠2 then 4 else if b.k=2∧0<b.cnt then 6 else 0)→WP (clrK h (kI v) ⟨h.hp,h.nx,h.nx⟩) (λv' h'=>v'=kI (if m=2 then 12 else if b.k=2∧a.k≠2 then 5 else if a.k=2∧b.k≠2 then 4 else if b.k=2∧0<b.cnt then 6 else 0)∧h'=h):=λv e=>by
  rw[←e]
  exact E_z H rfl ⟨rfl,rfl⟩
 unfold r43
 repeat' (first|(with_reducible first|refine H_i ?_|refine H_1 ?_|refine A_g ?_|refine F_w ?_))
 refine t_mp A1 rfl ?_
 refine Bq0 A1 ha rfl ?_
 repeat' (first|(with_reducible first|refine A_g ?_|refine F_w ?_))
 refine t_k A1 ha (hid _ _ _ q1 (by simp only[HidOk,and_true];omega)) ?_
 repeat' (first|(with_reducible first|refine A_g ?_|refine F_w ?_)|((with_reducible refine G_h (λ_=>?_) (λ_=>?_))<;>first|(exfalso;omega)|skip))
 all_goals
  refine t_mp A1 (hid _ _ _ q4 (by simp only[HidOk,and_true];omega)) ?_
  refine Bq0 A1 hb (Q_o _ _ _ _ (by simp only[HidOk,and_true];omega)) ?_
  repeat' (first|(with_reducible first|refine A_g ?_|refine F_w ?_))
  refine t_k A1 hb (hid _ _ _ q2 (by simp only[HidOk,and_true];omega)) ?_
  repeat' (first|(with_reducible first|refine w_jn ?_|refine F_2 ?_|refine E_k ?_|refine N_k ?_|refine U_3 ?_|refine G_7 ?_|refine G_t ?_|refine Z_q ?_|refine u_q ?_|refine A_g ?_|refine F_w ?_)|((with_reducible refine G_h (λ_=>?_) (λ_=>?_))<;>first|(exfalso;omega)|skip))
 any_goals
  refine fin _ ?_
  (repeat' split)<;>omega
 all_goals
  refine t_mp A1 rfl ?_
  repeat' (first|(with_reducible refine N_k ?_))
  refine t_lk A1 hb ?_
  repeat' (first|(with_reducible first|refine N_k ?_|refine A_g ?_|refine F_w ?_))
  refine t_nm A1 hb (by assumption) rfl ?_
  repeat' (first|(with_reducible refine N_k ?_))
  refine Bc9 A1 hb (by assumption) ?_
  repeat' (first|(with_reducible first|refine w_jn ?_|refine F_2 ?_|refine E_k ?_|refine N_k ?_|refine G_7 ?_)|((with_reducible refine O_n (λ_=>?_) (λ_=>?_))<;>first|(exfalso;omega)|skip))
 all_goals
  refine fin _ ?_
  (repeat' split)<;>omega
def P_c(T:Tm)(d:Nat)(was:Str)(to:Nat)(s:Str)(n:Nat):Tm:=updI (updI (putT T to s n) d (K_8 was)) n (λy=>if y.k=2 then y else O_7 (y.links-1) y)
open Classical in
noncomputable def L_3(T:Tm)(a b:Str):Except Nat (Nat × Tm):=match N_3 a with
 |.error e=>.error e
 | .ok _ => match N_3 b with
  |.error e=>.error e
  | .ok l => match oldF T a with
   |.error e=>.error e
   | .ok r => if r.2.2 = 2 then .error 12 else match dirT T l.1 with
    |.error e=>.error e
    | .ok to => if to = 2 then .error 12 else match T r.2.2 with
     |none=>.error 1
     |some y=>if y.k=2∧inside T r.2.2 to then .error 1 else match findF T to l.2 with
      |none=>.ok (r.2.2,P_c T r.1 r.2.1 to l.2 r.2.2)
      |some m=>if m=r.2.2 then .ok (r.2.2,T) else if i_z T r.2.2 m=0 then .ok (r.2.2,P_c (N_e T to l.2 m) r.1 r.2.1 to l.2 r.2.2) else .error (i_z T r.2.2 m)
theorem BC2{Q:Value→Hs→Prop}{T:Type}{k:T}{F:T→An}(Good:T→Prop)(hk:Good k)(hF:∀k',Good k'→WP (F k') Q):WP (jn k F) Q:=hF k hk
theorem b_c{T:Tm}{d n j:Nat}{s:Str}(hd:j≠d)(hn:j≠n):N_e T d s n j=T j:=by
 unfold N_e
 cases T n with
 |none=>rfl
 | some y =>
  dsimp only
  split
  ·unfold delN
   rw[if_neg hn,H_d hd]
  ·rw[H_d hn,H_d hd]
theorem Bi6(o:Option Nat):fdV o=.tuple #[kI (o.getD 0),.bool o.isSome]:=by cases o<;>rfl
theorem TurnQ.refl{h:Hs}{t:TS}(A:TrAt h t):TurnQ h t t.T h:=⟨MutS.refl _ _,⟨t,A,rfl,rfl,rfl,rfl,λ_ _=>rfl,by omega⟩,.inl ⟨rfl,rfl⟩⟩
theorem N_x{d:Nat}{y:Itm}:(I_e d y).k=y.k:=by unfold I_e;split<;>rfl
theorem Ao9{T:Tm}{n m:Nat}{a b:Itm}(ha:T n=some a)(hb:T m=some b)(h:i_z T n m=0):m≠2∧(b.k=2→a.k=2∧b.cnt=0)∧(a.k=2→b.k=2):=by
 unfold i_z at h
 rw[ha,hb] at h
 dsimp only at h
 split at h
 ·cases h
 split at h
 ·cases h
 split at h
 ·cases h
 split at h
 ·cases h
 omega
theorem Aq5 {R : RnK} {N : Nat} (cf : CFail R) (cl : CLast R) (co : COld R) (cdi : CDir R) (cfi : CFind R) (cwi : CWithin R) (cov : COver R) (cd : CDrop R) (cp : CPut R) {h : Hs} {t : TS} {k : Nat} {a b : Str} {p q : Int} {dv : Value} (A : TrAt h t) (W : WF t.T t.most) (hB : t.B ≤ 1000000) (ha : a.length ≤ 50000) (hb : b.length ≤ 50000) :
 WP (r21 R N [pV t.p,opV k a b p q dv] h) (UpQ h t (L_3 t.T a b)):=by
 have H:=Sto.enter h
 unfold r21
 repeat' (first|(with_reducible first|refine H_i ?_|refine H_1 ?_|refine A_g ?_)|((with_reducible refine M_f H ?_) ;(clear H;intro u H hu))|((with_reducible refine K_z H ?_) ;(clear H;intro u H hu))|((with_reducible apply H_c 1 H) ;rfl;rfl;rfl))
 rename_i ua hua
 refine G_b (cl a _ ha) λv u1 hv=>?_
 unfold L_3
 cases e1:N_3 a with
 |error e=>
  rw[e1] at hv
  obtain⟨rfl,rfl⟩:=hv
  have:=P_w e1
  repeat' (first|(refine E_b (cf _ _) ?_)|((with_reducible apply F_8) ;rfl)|((with_reducible refine D_v (λ_=>?_) (λ_=>?_))<;>first|(exfalso;omega)|skip)|((with_reducible apply E_s 0 H) ;rfl;rfl;rfl;omega;rfl;(clear H;intro u H hu;(try dsimp only[scZ,scS,A_4,ttA,splice,ev,rep,caQ,naQ] at H)))|((with_reducible apply G_f 0 H) ;rfl;rfl;rfl))
  exact E_z H rfl ⟨rfl,rfl⟩
 | ok la =>
  rw[e1] at hv
  obtain⟨sl1,rfl,n1⟩:=hv
  replace H:=(H.call n1).tail
  clear n1
  repeat' (first|(with_reducible first|refine w_jn ?_|refine E_k ?_|refine A_g ?_)|((with_reducible apply F_8) ;rfl)|((with_reducible refine D_v (λ_=>?_) (λ_=>?_))<;>first|(exfalso;omega)|skip)|((with_reducible apply H_c 1 H) ;rfl;rfl;rfl))
  refine G_b (cl b _ hb) λv u2 hv=>?_
  dsimp only
  cases e2:N_3 b with
  |error e=>
   rw[e2] at hv
   obtain⟨rfl,rfl⟩:=hv
   have:=P_w e2
   repeat' (first|(refine E_b (cf _ _) ?_)|((with_reducible apply F_8) ;rfl)|((with_reducible refine D_v (λ_=>?_) (λ_=>?_))<;>first|(exfalso;omega)|skip)|((with_reducible apply E_s 0 H) ;rfl;rfl;rfl;omega;rfl;(clear H;intro u H hu;(try dsimp only[scZ,scS,A_4,ttA,splice,ev,rep,caQ,naQ] at H)))|((with_reducible apply G_f 0 H) ;rfl;rfl;rfl))
   exact E_z H rfl ⟨rfl,rfl⟩
  | ok lb =>
   rw[e2] at hv
   obtain⟨sl,rfl,n1⟩:=hv
   have ll:=U_x hb e2
   replace H:=H.call n1
   clear n1
   have A1:=A.st H
   repeat' (first|(refine E_b (co _ t a A1 W ha) ?_)|(with_reducible first|refine w_jn ?_|refine E_k ?_|refine A_g ?_)|((with_reducible apply F_8) ;rfl)|((with_reducible refine D_v (λ_=>?_) (λ_=>?_))<;>first|(exfalso;omega)|skip)|((with_reducible apply H_c 2 H) ;rfl;rfl;rfl))
   dsimp only
   cases e3:oldF t.T a with
   |error e=>
    have:=i_x W e3
    unfold olV
    repeat' (first|(refine E_b (cf _ _) ?_)|(with_reducible refine w_jn ?_)|((with_reducible apply F_8) ;rfl)|((with_reducible refine D_v (λ_=>?_) (λ_=>?_))<;>first|(exfalso;omega)|skip)|((with_reducible apply E_s 1 H) ;rfl;rfl;rfl;omega;rfl;(clear H;intro u H hu;(try dsimp only[scZ,scS,A_4,ttA,splice,ev,rep,caQ,naQ] at H)))|((with_reducible apply G_f 1 H) ;rfl;rfl;rfl))
    exact E_z H rfl ⟨rfl,rfl⟩
   | ok r =>
    obtain⟨x,y,hx,hk,hy,hf⟩:=Y_r W e3
    unfold olV
    dsimp only
    repeat' (first|(refine E_b (cf _ _) ?_)|(with_reducible first|refine w_jn ?_|refine E_k ?_)|((with_reducible apply F_8) ;rfl)|((with_reducible first|refine G_h (λ_=>?_) (λ_=>?_)|refine D_v (λ_=>?_) (λ_=>?_))<;>first|(exfalso;omega)|skip)|((with_reducible apply E_s 1 H) ;rfl;rfl;rfl;omega;rfl;(clear H;intro u H hu;(try dsimp only[scZ,scS,A_4,ttA,splice,ev,rep,caQ,naQ] at H)))|((with_reducible apply G_f 1 H) ;rfl;rfl;rfl))
    ·rename_i q2
     rw[if_pos q2]
     exact E_z H rfl ⟨rfl,rfl⟩
    rename_i q2
    rw[if_neg q2]
    obtain⟨hs,n3⟩:=N_c W hx q2 hf
    have nd:=W.nself hx hs
    repeat' (first|(refine E_b (cdi _ t lb.1 sl A1 W (H.rdO 0 rfl) (by omega)) ?_))
    cases e4:dirT t.T lb.1 with
    |error e=>
     have:=Y_f W e4
     unfold ptV
     repeat' (first|(refine E_b (cf _ _) ?_)|(with_reducible refine w_jn ?_)|((with_reducible apply F_8) ;rfl)|((with_reducible refine D_v (λ_=>?_) (λ_=>?_))<;>first|(exfalso;omega)|skip)|((with_reducible apply E_s 1 H) ;rfl;rfl;rfl;omega;rfl;(clear H;intro u H hu;(try dsimp only[scZ,scS,A_4,ttA,splice,ev,rep,caQ,naQ] at H)))|((with_reducible apply G_f 1 H) ;rfl;rfl;rfl))
     exact E_z H rfl ⟨rfl,rfl⟩
    | ok to =>
     obtain⟨z,hz,hzk⟩:=Y_e e4
     unfold ptV
     dsimp only
     repeat' (first|(refine E_b (cf _ _) ?_)|(with_reducible first|refine w_jn ?_|refine E_k ?_|refine A_g ?_|refine F_w ?_)|((with_reducible apply F_8) ;rfl)|((with_reducible first|refine G_h (λ_=>?_) (λ_=>?_)|refine D_v (λ_=>?_) (λ_=>?_))<;>first|(exfalso;omega)|skip)|((with_reducible apply E_s 1 H) ;rfl;rfl;rfl;omega;rfl;(clear H;intro u H hu;(try dsimp only[scZ,scS,A_4,ttA,splice,ev,rep,caQ,naQ] at H)))|((with_reducible apply G_f 1 H) ;rfl;rfl;rfl))
     ·rename_i q3
      rw[if_pos q3]
      exact E_z H rfl ⟨rfl,rfl⟩
     rename_i q3
     rw[if_neg q3]
     replace H:=H.tail
     refine t_mp A1 rfl ?_
     refine t_lk A1 hy ?_
     repeat' (first|(with_reducible first|refine A_g ?_|refine F_w ?_))
     refine t_k A1 hy rfl ?_
     rw[hy]
     dsimp only
     obtain⟨j,jl,hj⟩:=ac64 W ⟨z,hz,hzk⟩
     have wi:=Az5 (m:=r.2.2) W j to hj
     have cw:=cwi _ t to r.2.2 j A1 W ⟨z,hz,hzk⟩ hj (by omega)
     by_cases q4:y.k=2∧inside t.T r.2.2 to
     ·rw[if_pos q4]
      obtain⟨q41,q42⟩:=q4
      rw[wi.2 q42] at cw
      repeat' (first|(refine E_b (cw) ?_)|(refine E_b (cf _ _) ?_)|((with_reducible refine G_h (λ_=>?_) (λ_=>?_))<;>first|(exfalso;omega)|skip)|((with_reducible apply E_s 0 H) ;rfl;rfl;rfl;omega;rfl;(clear H;intro u H hu;(try dsimp only[scZ,scS,A_4,ttA,splice,ev,rep,caQ,naQ] at H)))|((with_reducible apply G_f 0 H) ;rfl;rfl;rfl))
      exact E_z H rfl ⟨rfl,rfl⟩
     rw[if_neg q4]
     have cw':y.k=2→R 41 [pV t.p,kI to,kI r.2.2] u2=some (.val (.bool false) u2):=λk2=>by
      cases hw:U_7 t.T r.2.2 j to with
      |true=>exact absurd ⟨k2,wi.1 hw⟩ q4
      |false=>rw[hw] at cw;exact cw
     have nto:r.2.2≠to:=λe=>by
      rw[e,hz] at hy
      injection hy with hy
      exact q4 ⟨by rw[←hy];exact hzk,⟨0,e.symm⟩⟩
     clear cw wi hj
     rcases Nat.decEq y.k 2 with k2|k2
     all_goals
      repeat' (first|(refine E_b (cw' (by assumption)) ?_)|(with_reducible first|refine w_jn ?_|refine E_k ?_|refine U_3 ?_|refine G_7 ?_|refine G_t ?_)|((with_reducible refine G_h (λ_=>?_) (λ_=>?_))<;>first|(exfalso;omega)|skip))
      refine E_b (cfi _ t to z lb.2 A1 hz hzk) ?_
      rw[Bi6]
      refine F_8 rfl ?_
      refine F_8 rfl ?_
      have bn0:h.nx≤_:=((H.ids _ (mgE (i:=0) rfl) _ rfl).2 rfl).elim id (λq=>by cases q)
      have H2:=(H.pick [0] (by decide) (m':=[_]) rfl).wide (mutL t.L h.nx)
      refine BC2 (Good:=λK=>∀(c1 c2 c3:Value)(u3:Hs)(T2:Tm)(n2 B2:Nat)(x2 y2 z2:Itm),B2≤t.B+1→Sto h (mutL t.L h.nx) u3 [.blk ua.nx (.row 34 0 true true [kI 0,kI 0,kI 0,kI 0,kI 0,.slice none 0 0,.slice none 0 0])]→TrAt u3 { t with T:=T2,c:=n2,B:=B2 } →
       T2 r.1=some x2→x2.k=2→x2.names r.2.1=some r.2.2→T2 r.2.2=some y2→y2.k=y.k→0≤y2.links→y2.links≤200→T2 to=some z2→z2.k=2→z2.names lb.2=none →
       WP (K c1 c2 c3 u3) (UpQ h t (.ok (r.2.2,P_c T2 r.1 r.2.1 to lb.2 r.2.2)))) ?_ ?_
      ·intro c1 c2 c3 u3 T2 n2 B2 x2 y2 z2 hB2 H A2 hx2 hk2 hs2 hy2 yk l0 l1 hz2 hzk2 hzs
       have noL:∀o,∀x ∈ [Th.blk ua.nx o],∀b,x.id=some b→t.L.ro b=none∨t.L.ro b=some .root∨∃n,t.L.ro b=some (.dat n):=λo x hx b hb=>by
        rw[msQ.1 hx] at hb
        injection hb with hb
        subst hb
        exact .inl (A.fr _ bn0)
       have I:=A2.it _ _ hz2
       have J:=A2.it _ _ hy2
       have Fm:=A2.it _ _ hx2
       refine G_b (cp u3 { t with T:=T2,c:=n2,B:=B2 } to r.2.2 lb.2 z2 y2 A2 hz2 hzk2 hzs hy2 nto (by show B2<_;omega) l0 (by omega)) λv2 u4 hv=>?_
       obtain⟨rfl,M,A3⟩:=hv
       have H3:=X_2 H M (λs hs=>by
        simp only[mcQ,List.not_mem_nil,or_false] at hs
        rcases hs with rfl|rfl
        ·exact I.nbm hzk2
        ·exact J.qm) (noL _)
       obtain⟨x3,hx3,hk3,hs3⟩:∃x3,putT T2 to lb.2 r.2.2 r.1=some x3∧x3.k=2∧x3.names r.2.1=some r.2.2:=by
        by_cases e:r.1=to
        ·rw[e] at hx2 ⊢
         rw[hz2] at hx2
         injection hx2 with hx2
         refine⟨_,AP7 hz2 nto,hzk2,?_⟩
         show (if r.2.1=lb.2 then some r.2.2 else z2.names r.2.1)=_
         rw[hx2,hs2];split<;>rfl
        ·exact⟨x2,by unfold putT;rw[H_d (λq=>nd q.symm),H_d e];exact hx2,hk2,hs2⟩
       repeat' (first|(with_reducible first|refine A_g ?_|refine F_w ?_))
       refine t_mp (t:={ t with T:=putT T2 to lb.2 r.2.2,c:=n2,B:=B2+1 }) A3 rfl ?_
       refine t_lk (t:={ t with T:=putT T2 to lb.2 r.2.2,c:=n2,B:=B2+1 }) A3 hx3 ?_
       repeat' (first|(with_reducible first|refine A_g ?_|refine F_w ?_))
       refine t_nm (t:={ t with T:=putT T2 to lb.2 r.2.2,c:=n2,B:=B2+1 }) A3 hx3 hk3 rfl ?_
       refine AQ6 (t:={ t with T:=putT T2 to lb.2 r.2.2,c:=n2,B:=B2+1 }) A3 hx3 hk3 hs3 λu5 M5 n5 A4=>?_
       have H4:=X_2 H3 M5 (λs hs=>by rw[msQ.1 hs];exact Fm.nbm hk2) (noL _)
       have hy4:updI (putT T2 to lb.2 r.2.2) r.1 (K_8 r.2.1) r.2.2=some (I_e to y2):=by
        rw[H_d nd]
        unfold putT
        rw[K_f (by rw[H_d nto];exact hy2)]
       have hx5:∀f,updI (updI (putT T2 to lb.2 r.2.2) r.1 (K_8 r.2.1)) r.2.2 f r.1=some (K_8 r.2.1 x3):=λf=>by
        rw[H_d (λq=>nd q.symm),K_f hx3]
       clear H H3
       have fin:∀(u6:Hs)(hh:Sto h (mutL t.L h.nx) u6 [.blk ua.nx (.row 34 0 true true [kI 0,kI 0,kI 0,kI 0,kI 0,.slice none 0 0,.slice none 0 0])]),TrAt u6 { t with T:=P_c T2 r.1 r.2.1 to lb.2 r.2.2,c:=n2,B:=B2+1+1 } →
        WP (after (λx h30=>D_4 h (G_p h30 (resV enE h30 [.cell (.c (pV ua.nx)) 7 true]))) (store1 7 u6 [kI 0,kI r.2.2,kI 0,kI 0,kI 0,.slice none 0 0,.slice none 0 0] (addrOf (pV ua.nx)))) (UpQ h t (.ok (r.2.2,P_c T2 r.1 r.2.1 to lb.2 r.2.2))):=λu6 H6 A6=>by
        have I0:=A.it _ _ hx
        exact Q_6 A H6 A6 bn0 (A.fr _ bn0) rfl rfl rfl (H_w.2 ⟨(I0.nm hk).1,I0.nbm hk⟩) (A.neN A6 rfl hx (hx5 _) hk hk3 (s:=r.2.1) (by show x.names r.2.1≠if r.2.1=r.2.1 then none else x3.names r.2.1;rw[hs,if_pos rfl];simp)) rfl rfl rfl (λ_ _=>rfl) (by show B2+1+1≤_;omega) λh'' T=>⟨rfl,T⟩
       repeat' (first|(with_reducible first|refine A_g ?_|refine F_w ?_))
       refine t_mp (t:={ t with T:=updI (putT T2 to lb.2 r.2.2) r.1 (K_8 r.2.1),c:=n2,B:=B2+1+1 }) A4 rfl ?_
       refine t_lk (t:={ t with T:=updI (putT T2 to lb.2 r.2.2) r.1 (K_8 r.2.1),c:=n2,B:=B2+1+1 }) A4 hy4 ?_
       repeat' (first|(with_reducible first|refine A_g ?_|refine F_w ?_))
       refine t_k (t:={ t with T:=updI (putT T2 to lb.2 r.2.2) r.1 (K_8 r.2.1),c:=n2,B:=B2+1+1 }) A4 hy4 rfl ?_
       rw[N_x]
       refine D_v (λq6=>?_) λq6=>?_
       ·repeat' (first|(with_reducible first|refine w_jn ?_|refine E_k ?_)|((with_reducible apply H_e) ;rfl;(try dsimp only[splice,ev,A_4,rep,caQ,naQ])))
        refine fin u5 H4 ?_
        have e:P_c T2 r.1 r.2.1 to lb.2 r.2.2=updI (putT T2 to lb.2 r.2.2) r.1 (K_8 r.2.1):=by
         unfold P_c
         funext j
         rw[G_x hy4]
         by_cases e:j=r.2.2
         ·rw[if_pos e,if_pos (by rw[N_x];exact q6),e,hy4]
         ·rw[if_neg e]
        rw[e]
        exact A4
       ·have l4:(I_e to y2).links=y2.links+1:=by unfold I_e;rw[if_neg q6];rfl
        repeat' (first|(with_reducible first|refine w_jn ?_|refine F_2 ?_|refine A_g ?_|refine F_w ?_))
        refine t_mp (t:={ t with T:=updI (putT T2 to lb.2 r.2.2) r.1 (K_8 r.2.1),c:=n2,B:=B2+1+1 }) A4 rfl ?_
        refine t_lk (t:={ t with T:=updI (putT T2 to lb.2 r.2.2) r.1 (K_8 r.2.1),c:=n2,B:=B2+1+1 }) A4 hy4 ?_
        repeat' (first|(with_reducible first|refine A_g ?_|refine F_w ?_))
        refine t_ln (t:={ t with T:=updI (putT T2 to lb.2 r.2.2) r.1 (K_8 r.2.1),c:=n2,B:=B2+1+1 }) A4 hy4 rfl ?_
        repeat' (first|(with_reducible first|refine A_g ?_|refine F_w ?_)|((with_reducible refine u_r ?_ ?_ ?_) ;omega;omega))
        refine Be0 (t:={ t with T:=updI (putT T2 to lb.2 r.2.2) r.1 (K_8 r.2.1),c:=n2,B:=B2+1+1 }) A4 hy4 λu6 M6 n6 A5=>?_
        have H6:=X_2 H4 M6 (λs hs=>by rw[msQ.1 hs];exact J.qm) (noL _)
        repeat' (first|((with_reducible apply H_e) ;rfl;(try dsimp only[splice,ev,A_4,rep,caQ,naQ])))
        refine fin u6 H6 ?_
        have e:P_c T2 r.1 r.2.1 to lb.2 r.2.2=updI (updI (putT T2 to lb.2 r.2.2) r.1 (K_8 r.2.1)) r.2.2 (O_7 ((I_e to y2).links-1)):=by
         unfold P_c
         exact r_s hy4 (if_neg (by rw[N_x];exact q6))
        rw[e]
        exact A5
      ·intro K tail
       cases e5:findF t.T to lb.2 with
       | none =>
        dsimp only[Option.isSome_none]
        repeat' (first|(with_reducible refine E_k ?_))
        have lk:=W.lk _ _ hy
        have hzs:z.names lb.2=none:=by
         unfold findF at e5
         split at e5
         ·cases e5
         ·rw[hz] at e5;exact e5
        exact tail _ _ _ u2 t.T t.c t.B x y z (by omega) H2 A1 hx hk hs hy rfl lk.1 lk.2 hz hzk hzs
       | some m =>
        dsimp only[Option.isSome_some,Option.getD_some]
        obtain⟨w,hw⟩:=Z_5 W e5
        repeat' (first|(with_reducible first|refine w_jn ?_|refine F_2 ?_|refine E_k ?_)|((with_reducible apply H_e) ;rfl;(try dsimp only[splice,ev,A_4,rep,caQ,naQ]))|((with_reducible refine G_h (λ_=>?_) (λ_=>?_))<;>first|(exfalso;omega)|skip)|((with_reducible apply E_s 0 H) ;rfl;rfl;rfl;omega;rfl;(clear H;intro u H hu;(try dsimp only[scZ,scS,A_4,ttA,splice,ev,rep,caQ,naQ] at H)))|((with_reducible apply G_f 0 H) ;rfl;rfl;rfl))
        ·rename_i q5
         rw[if_pos q5]
         exact E_z H rfl ⟨rfl,TurnQ.refl A⟩
        ·rename_i q5
         rw[if_neg q5]
         repeat' (first|(refine E_b (cov _ t r.2.2 m y w A1 hy hw) ?_)|(refine E_b (cf _ _) ?_)|(with_reducible first|refine w_jn ?_|refine E_k ?_)|((with_reducible refine D_v (λ_=>?_) (λ_=>?_))<;>first|(exfalso;omega)|skip)|((with_reducible apply E_s 0 H) ;rfl;rfl;rfl;omega;rfl;(clear H;intro u H hu;(try dsimp only[scZ,scS,A_4,ttA,splice,ev,rep,caQ,naQ] at H)))|((with_reducible apply G_f 0 H) ;rfl;rfl;rfl))
         ·rename_i q6
          rw[if_pos q6]
          obtain⟨m2,o1,o2⟩:=Ao9 hy hw q6
          obtain⟨hzm,m3⟩:=N_c W hz m2 e5
          have nmt:=W.nself hz hzm
          have nmr:r.1≠m:=λe=>by
           rw[←e,hx] at hw
           injection hw with hw
           have:=(A.cnt0 hx hk).1 (by rw[hw];exact(o1 (by rw[←hw];exact hk)).2) r.2.1
           rw[hs] at this;cases this
          have lw:=W.lk _ _ hw
          have ly:=W.lk _ _ hy
          have I:=A.it _ _ hz
          have J:=A.it _ _ hw
          refine G_b (cd u2 t to m lb.2 z w A1 hz hzk hzm hw nmt lw.1 (by omega)) λv2 u5 hv=>?_
          obtain⟨rfl,M,A2⟩:=hv
          have H3:=X_2 (t:=t) H2 M (λs hs=>by
           simp only[mcQ,List.not_mem_nil,or_false] at hs
           rcases hs with rfl|rfl|rfl
           ·exact I.nbm hzk
           ·exact J.qm
           ·exact A.mm) (λx hx b hb=>by
            rw[msQ.1 hx] at hb
            injection hb with hb
            subst hb
            exact .inl (A.fr _ bn0))
          clear H
          obtain⟨x',hx',hk',hs'⟩:∃x',N_e t.T to lb.2 m r.1=some x'∧x'.k=2∧x'.names r.2.1=some r.2.2:=by
           by_cases e:r.1=to
           ·rw[e] at hx ⊢
            rw[hz] at hx
            injection hx with hx
            refine⟨_,b_a hz hw nmt,hzk,?_⟩
            show (if r.2.1=lb.2 then none else z.names r.2.1)=_
            rw[if_neg,hx,hs]
            intro e2
            rw[←e2,hx,hs] at hzm
            injection hzm with hzm
            exact q5 hzm.symm
           ·exact⟨x,by rw[b_c e nmr];exact hx,hk,hs⟩
          skip
          exact tail _ _ _ u5 _ _ _ x' y (K_8 lb.2 z) (lR _) H3 A2 hx' hk' hs' (by rw[b_c nto (λe=>q5 e.symm)];exact hy) rfl ly.1 ly.2 (b_a hz hw nmt) hzk (by show (if lb.2=lb.2 then none else _)=none;rw[if_pos rfl])
         ·rename_i q6
          rw[if_neg q6]
          exact E_z H rfl ⟨rfl,rfl⟩
end Go.Proofs.YtnbnmojckhcdeaaGreatDoor.treeMoves
