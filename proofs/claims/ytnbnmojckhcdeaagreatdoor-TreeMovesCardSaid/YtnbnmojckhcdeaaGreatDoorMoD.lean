import Derived.Test.YtnbnmojckhcdeaaGreatDoorMoC
namespace Go.Proofs.YtnbnmojckhcdeaaGreatDoor.treeMoves
open Go Go.Gev
set_option linter.unusedVariables false
def O_i(T:Tm)(n:Nat)(x:Itm):Tm:=λj=>if j=n then some x else T j
structure NewIt (h:Hs) (L:Lay) (x:Itm) (q nb:Nat) (dv:Value):Prop where
 row:∃fl,Holds (h.hp.get q) (.row 49 0 true fl [kI x.k,dv,.map (if x.k=2 then some nb else none),kI x.up,.int .i64 x.links])
 ql:q<h.nx
 rq:L.ro q=none
 nm:x.k=2→nb<h.nx∧L.ro nb=none∧nb≠q∧Holds (h.hp.get nb) (.mp [] 0)
 nn:x.names=λ_=>none
 nc:x.cnt=0
 da:DatAt h dv x.data
 rd:∀b,vId dv=some b→b<h.nx∧L.ro b=none∧b≠q∧(x.k=2→b≠nb)
def Lay.add(L:Lay)(n q nb:Nat)(dv:Value)(x:Itm):Lay where
 q:=λj=>if j=n then q else L.q j
 nb:=λj=>if j=n then nb else L.nb j
 dv:=λj=>if j=n then dv else L.dv j
 ro:=λb=>if b=q then some (.item n) else if x.k=2∧b=nb then some (.nms n) else if vId dv=some b then some (.dat n) else L.ro b
theorem NewIt.ext{h u:Hs}{L:Lay}{x:Itm}{q nb:Nat}{dv:Value}(A:NewIt h L x q nb dv)(hn:h.nx≤u.nx)(hg:∀b,b<h.nx→L.ro b=none→u.hp.get b=h.hp.get b):NewIt u L x q nb dv:=by
 obtain⟨fl,r⟩:=A.row
 refine⟨⟨fl,by rw[hg _ A.ql A.rq];exact r⟩,llN A.ql hn,A.rq,λk=>?_,A.nn,A.nc,A.da.congr λb hb=>hg b (A.rd b hb).1 (A.rd b hb).2.1,λb hb=>⟨llN (A.rd b hb).1 hn,(A.rd b hb).2⟩⟩
 obtain⟨a,b,c,d⟩:=A.nm k
 exact⟨llN a hn,b,c,by rw[hg _ a b];exact d⟩
theorem Lay.add_ro{L:Lay}{n q nb b:Nat}{dv:Value}{x:Itm}{h:Hs}(I:NewIt h L x q nb dv)(hb:L.ro b≠none):(L.add n q nb dv x).ro b=L.ro b:=by
 show (if b=q then _ else if x.k=2∧b=nb then _ else if vId dv=some b then _ else L.ro b)=_
 rw[if_neg (λe=>hb (by rw[e];exact I.rq)),if_neg (λe=>hb (by rw[e.2];exact(I.nm e.1).2.1)),if_neg (λe=>hb (I.rd b e).2.1)]
theorem Lay.add_no{L:Lay}{n q nb b:Nat}{dv:Value}{x:Itm}(h1:b≠q)(h2:x.k=2→b≠nb)(h3:vId dv≠some b):(L.add n q nb dv x).ro b=L.ro b:=by
 show (if b=q then _ else if x.k=2∧b=nb then _ else if vId dv=some b then _ else L.ro b)=_
 rw[if_neg h1,if_neg (λe=>h2 e.1 e.2),if_neg h3]
theorem Q_w{T:Tm}{n:Nat}{x:Itm}:O_i T n x n=some x:=by unfold O_i;rw[if_pos rfl]
theorem P_s{T:Tm}{n j:Nat}{x:Itm}(h:j≠n):O_i T n x j=T j:=by unfold O_i;rw[if_neg h]
theorem Br5{Q:Value→Hs→Prop}{u:Hs}{t:TS}{F:KV}{n q nb:Nat}{x:Itm}{dv:Value}(A:TrAt u t)(hn:t.T n=none)(I:NewIt u t.L x q nb dv)(hB:t.B<1000000000000)
 (kk:∀u',MutS [t.mb] u u'→u'.nx=u.nx→TrAt u' { t with T:=O_i t.T n x,c:=t.c+1,B:=t.B+1,L:=t.L.add n q nb dv x }→WP (F undef' u') Q):WP (after F (mapup1 true u (kI n) (pV q) (.map (some t.mb)))) Q:=by
 obtain⟨rw',fl0,tr⟩:=A.tr
 obtain⟨es,cl,mp,M⟩:=A.mp
 have mp:u.hp.get t.mb=some (.mp es cl):=mp
 obtain⟨es',cl',e,M'⟩:=Ax6 w_w (h:=u) (a:=n) (v:=pV q) mp M hB (by show (t.T n).map _=none;rw[hn];rfl)
 rw[e]
 have ne:∀b,b≠t.mb→(u.hp.set t.mb (some (.mp es' cl'))).get b=u.hp.get b:=λb q=>by rw[tgS,if_neg (λe=>q e.symm)]
 have nr:∀b,t.L.ro b≠some .map→b≠t.mb:=λb h e=>h (by rw[e];exact A.rm)
 have ad:∀b,t.L.ro b≠none→(t.L.add n q nb dv x).ro b=t.L.ro b:=λb hb=>Lay.add_ro I hb
 refine kk _ P_v rfl ⟨⟨rw',fl0,?_⟩,A.pl,?_,⟨es',cl',?_,M'.cg λa=>?_⟩,A.ml,?_,λj y hy=>?_,λb hb=>?_⟩
 ·show Holds ((u.hp.set _ _).get t.p) _
  rw[ne _ (nr _ (by rw[A.rp];simp))];exact tr
 ·show (t.L.add n q nb dv x).ro t.p=_
  rw[ad _ (by rw[A.rp];simp)];exact A.rp
 ·show Holds ((u.hp.set _ _).get t.mb) _
  rw[tgS,if_pos rfl];rfl
 ·show (if a=n then some (pV q) else (t.T a).map λ_=>pV (t.L.q a))=(O_i t.T n x a).map λ_=>pV (if a=n then q else t.L.q a)
  by_cases e:a=n
  ·rw[if_pos e,if_pos e,e,Q_w];rfl
  ·rw[if_neg e,if_neg e,P_s e]
 ·show (t.L.add n q nb dv x).ro t.mb=_
  rw[ad _ (by rw[A.rm];simp)];exact A.rm
 ·have hy:O_i t.T n x j=some y:=hy
  by_cases e:j=n
  ·subst e
   rw[Q_w] at hy
   injection hy with hy;subst hy
   have q0:(t.L.add j q nb dv x).q j=q:=if_pos rfl
   have q1:(t.L.add j q nb dv x).nb j=nb:=if_pos rfl
   have q2:(t.L.add j q nb dv x).dv j=dv:=if_pos rfl
   obtain⟨fl,r⟩:=I.row
   refine⟨⟨fl,?_⟩,?_,?_,λk=>?_,?_,?_⟩
   ·rw[q0]
    show Holds ((u.hp.set _ _).get q) _
    rw[ne _ (nr _ (by rw[I.rq];simp))]
    unfold rowI nmV
    rw[q1,q2];exact r
   ·rw[q0];exact I.ql
   ·rw[q0];exact if_pos rfl
   ·obtain⟨a,b,c,d⟩:=I.nm k
    rw[q1]
    refine⟨a,?_,[],0,?_,?_⟩
    ·show (if nb=q then _ else if x.k=2∧nb=nb then _ else _)=_
     rw[if_neg c,if_pos ⟨k,rfl⟩]
    ·show Holds ((u.hp.set _ _).get nb) _
     rw[ne _ (nr _ (by rw[b];simp))];exact d
    ·rw[I.nn,I.nc];exact MapC.nil _ _
   ·rw[q2]
    exact I.da.congr λb hb=>ne _ (nr _ (by rw[(I.rd b hb).2.1];simp))
   ·rw[q2]
    intro b hb
    obtain⟨r0,r1,r2,r3⟩:=I.rd b hb
    refine⟨r0,?_⟩
    show (if b=q then _ else if x.k=2∧b=nb then _ else if vId dv=some b then _ else _)=_
    rw[if_neg r2,if_neg (λe=>r3 e.1 e.2),if_pos hb]
  ·rw[P_s e] at hy
   have J:=A.it j y hy
   have q0:(t.L.add n q nb dv x).q j=t.L.q j:=if_neg e
   have q1:(t.L.add n q nb dv x).nb j=t.L.nb j:=if_neg e
   have q2:(t.L.add n q nb dv x).dv j=t.L.dv j:=if_neg e
   obtain⟨fl,r⟩:=J.row
   refine⟨⟨fl,?_⟩,?_,?_,λk=>?_,?_,?_⟩
   ·rw[q0]
    show Holds ((u.hp.set _ _).get (t.L.q j)) _
    rw[ne _ (nr _ (by rw[J.rq];simp))]
    unfold rowI nmV at r ⊢
    rw[q1,q2];exact r
   ·rw[q0];exact J.ql
   ·rw[q0,ad _ (by rw[J.rq];simp)];exact J.rq
   ·obtain⟨a,b,es2,cl2,d,M2⟩:=J.nm k
    rw[q1]
    refine⟨a,?_,es2,cl2,?_,M2.mono (Nat.le_succ _)⟩
    ·rw[ad _ (by rw[b];simp)];exact b
    ·show Holds ((u.hp.set _ _).get _) _
     rw[ne _ (nr _ (by rw[b];simp))];exact d
   ·rw[q2]
    exact J.da.congr λb hb=>ne _ (nr _ (by rw[(J.rd b hb).2];simp))
   ·rw[q2]
    intro b hb
    rw[ad _ (by rw[(J.rd b hb).2];simp)];exact J.rd b hb
 ·show (t.L.add n q nb dv x).ro b=none
  have hb:u.nx≤b:=hb
  rw[Lay.add_no (λe=>by have:=I.ql;omega) (λk e=>by have:=(I.nm k).1;omega) (λe=>by have:=(I.rd b e).1;omega)]
  exact A.fr b hb
def S_o(T:Tm)(most:Nat)(s:Str)(x:Itm):Except Nat (Nat × Tm):=match Q_n T s with
 |.error e=>.error e
 |.ok r=>match h_0 T most with
  |none=>.error 7
  |some n=>.ok (n,putT (O_i T n x) r.1 r.2 n)
theorem s_s{T:Tm}{most n:Nat}(h:h_0 T most=some n):1≤n∧n≤most∧T n=none:=by
 unfold h_0 at h
 have h1:=List.mem_of_find?_eq_some h
 have h2:=List.find?_some h
 rw[List.mem_range'] at h1
 obtain⟨i,hi,e⟩:=h1
 exact⟨by omega,by omega,by simpa using h2⟩
def CreQ(h:Hs)(t:TS)(x:Itm)(q nb:Nat)(dv:Value)(r:Except Nat (Nat × Tm))(v:Value)(h':Hs):Prop:=match r with
 |.error e=>v=l_e e∧h'=h
 |.ok r=>v=okV r.1∧MutS (q::mutL t.L h.nx) h h'∧h'.hp.get t.mb≠h.hp.get t.mb∧∃t',TrAt h' t'∧t'.T=r.2∧t'.p=t.p∧t'.mb=t.mb∧t'.most=t.most∧(∀b,b<h.nx→b≠q→(x.k=2→b≠nb)→vId dv≠some b→t'.L.ro b=t.L.ro b)∧t'.B≤t.B+4
def CCreate(R:RnK):Prop:=∀(h:Hs)(t:TS)(s:Str)(x:Itm)(q nb:Nat)(dv:Value),TrAt h t→WF t.T t.most→NewIt h t.L x q nb dv→0≤x.links→x.links≤100→t.B≤1000000→s.length≤50000→WP (R 16 [pV t.p,sV s,pV q] h) (CreQ h t x q nb dv (S_o t.T t.most s x))
theorem TrAt.neM{h h':Hs}{t t':TS}(A:TrAt h t)(A':TrAt h' t')(hm:t'.mb=t.mb){n:Nat}{x:Itm}(hx:t.T n=none)(hx':t'.T n=some x):h'.hp.get t.mb≠h.hp.get t.mb:=by
 obtain⟨es,cl,nh,M⟩:=A.mp
 obtain⟨es',cl',nh',M'⟩:=A'.mp
 rw[hm] at nh'
 have nh:h.hp.get t.mb=some (.mp es cl):=nh
 have nh':h'.hp.get t.mb=some (.mp es' cl'):=nh'
 rw[nh,nh']
 intro e
 injection e with e
 injection e with e1 e2
 subst e1
 refine MapC.ne w_w M M' (a:=n) ?_ rfl
 rw[hx,hx']
 simp
theorem Aa9{R:RnK}{N:Nat}(cf:CFail R)(cr:CFresh R)(cfr:CFree R)(cp:CPut R){h:Hs}{t:TS}{s:Str}{x:Itm}{q nb:Nat}{dv:Value}(A:TrAt h t)(W:WF t.T t.most)(I:NewIt h t.L x q nb dv)(l0:0≤x.links)(l1:x.links≤100)(hB:t.B≤1000000)(hs:s.length≤50000) :
 WP (r16 R N [pV t.p,sV s,pV q] h) (CreQ h t x q nb dv (S_o t.T t.most s x)):=by
 have H:=Sto.enter h
 unfold r16
 repeat' (first|(with_reducible first|refine H_i ?_|refine H_1 ?_)|((with_reducible refine K_z H ?_) ;(clear H;intro u H hu)))
 have A1:=A.st H
 have mo:=W.mo
 repeat' (first|(refine E_b (cr _ t s A1 W hs) ?_))
 unfold S_o
 cases e:Q_n t.T s with
 |error e1=>
  have:=l_5 W e
  unfold frV
  repeat' (first|(refine E_b (cf _ _) ?_)|((with_reducible apply F_8) ;rfl)|((with_reducible refine D_v (λ_=>?_) (λ_=>?_))<;>first|(exfalso;omega)|skip)|((with_reducible apply E_s 0 H) ;rfl;rfl;rfl;omega;rfl;(clear H;intro u H hu;(try dsimp only[scZ,scS,A_4,ttA,splice,ev,rep,caQ,naQ] at H)))|((with_reducible apply G_f 0 H) ;rfl;rfl;rfl))
  exact E_z H rfl ⟨rfl,rfl⟩
 | ok r =>
  obtain⟨xd,hx,hk,hns,d2,d1⟩:=X_l e
  unfold frV
  repeat' (first|(refine E_b (cfr _ t A1 (by omega)) ?_))
  dsimp only
  cases e2:h_0 t.T t.most with
  |none=>
   unfold fdV
   repeat' (first|(refine E_b (cf _ _) ?_)|((with_reducible apply E_s 0 H) ;rfl;rfl;rfl;omega;rfl;(clear H;intro u H hu;(try dsimp only[scZ,scS,A_4,ttA,splice,ev,rep,caQ,naQ] at H)))|((with_reducible apply G_f 0 H) ;rfl;rfl;rfl))
   exact E_z H rfl ⟨rfl,rfl⟩
  | some n =>
   obtain⟨n1,n2,hn⟩:=s_s e2
   have nd:n≠r.1:=λq=>by rw[q,hx] at hn;cases hn
   unfold fdV
   repeat' (first|(with_reducible first|refine w_jn ?_|refine E_k ?_|refine Z_q ?_|refine A_g ?_|refine F_w ?_)|((with_reducible apply F_8) ;rfl))
   have I1:NewIt u t.L x q nb dv:=I.ext H.nx λb hb _=>H.fr b hb List.not_mem_nil
   have bn0:h.nx≤_:=((H.ids _ (mgE (i:=0) rfl) _ rfl).2 rfl).elim id (λq=>by cases q)
   have Id:=A.it _ _ hx
   have H2:=H.wide (q::mutL t.L h.nx)
   have tl:∀s∈q::mutL t.L h.nx,s<h.nx:=λs hs=>by
    rcases mcQ.1 hs with rfl|hs
    ·exact I.ql
    ·exact(H_w.1 hs).1
   have noL:∀(S:List Nat)(o:Gev.Obj),(∀s∈S,s<h.nx)→∀x ∈ [Th.blk h.nx o],∀b,x.id=some b→b∉S:=λS o hS x hx b hb hbs=>by
    rw[msQ.1 hx] at hb
    injection hb with hb
    have:=hS b hbs
    omega
   refine t_mp A1 rfl ?_
   refine Br5 A1 hn I1 (by omega) λu3 M3 n3 A3=>?_
   have mbm:t.mb∈q::mutL t.L h.nx:=mcM _ (H_w.2 ⟨A.ml,A.mm⟩)
   have H3:=H2.mutS M3 (λs hs=>.inr (by rw[msQ.1 hs];exact mbm)) (noL _ _ (λs hs=>by rw[msQ.1 hs];exact A.ml))
   clear H H2
   have hx3:O_i t.T n x r.1=some xd:=by rw[P_s (λe=>nd e.symm)];exact hx
   have q0:(t.L.add n q nb dv x).q n=q:=if_pos rfl
   have q1:(t.L.add n q nb dv x).nb r.1=t.L.nb r.1:=if_neg (λe=>nd e.symm)
   refine G_b (cp u3 { t with T:=O_i t.T n x,c:=t.c+1,B:=t.B+1,L:=t.L.add n q nb dv x } r.1 n r.2 xd x A3 hx3 hk hns Q_w nd (by show t.B+1<_;omega) l0 (by omega)) λv2 u4 hv=>?_
   obtain⟨rfl,M4,A4⟩:=hv
   dsimp only at M4
   rw[q0,q1] at M4
   have nbm:t.L.nb r.1∈q::mutL t.L h.nx:=mcM _ (H_w.2 ⟨(Id.nm hk).1,Id.nbm hk⟩)
   have H4:=H3.mutS M4 (λs hs=>.inr (by
    simp only[mcQ,List.not_mem_nil,or_false] at hs
    rcases hs with rfl|rfl
    ·exact nbm
    ·exact mcS)) (noL _ _ (λs hs=>by
    simp only[mcQ,List.not_mem_nil,or_false] at hs
    rcases hs with rfl|rfl
    ·exact tl _ nbm
    ·exact I.ql))
   clear H3
   repeat' (first|((with_reducible apply H_e) ;rfl;(try dsimp only[splice,ev,A_4,rep,caQ,naQ])))
   refine O_o 0 H4 rfl rfl rfl (by decide) rfl λu5 H5 M5 n5=>?_
   dsimp only[scZ] at H5
   have A5:=A4.mutS M5 (λs hs=>by
    rw[msQ.1 hs]
    show (t.L.add n q nb dv x).ro h.nx=none
    rw[Lay.add_no (λe=>by have:=I.ql;omega) (λk e=>by have:=(I.nm k).1;omega) (λe=>by have:=(I.rd _ e).1;omega)]
    exact A.fr _ (lR _))
   refine G_f 0 H5 rfl rfl rfl ?_
   have hn5:putT (O_i t.T n x) r.1 r.2 n n=some (I_e r.1 x):=by
    unfold putT
    rw[K_f (by rw[H_d nd];exact Q_w)]
   have ne5:=A.neM A5 rfl hn hn5
   refine d_r H5 A.ml mbm tl ne5 λh'' mu e1 e2=>⟨rfl,mu,?_,_,A5.ext (Nat.le_of_eq e2.symm) λb _ _=>by rw[e1],rfl,rfl,rfl,rfl,λb _ h1 h2 h3=>Lay.add_no h1 h2 h3,by show t.B+1+1≤_;omega⟩
   rw[e1];exact ne5
abbrev NewD(h h':Hs)(v:Value)(D:Str):Prop:=New h h' (.osl v 5 1 true D.length (B_9 D))
theorem nilD{h h':Hs}(s:Same h h'):NewD h h' (.slice none 0 0) []:=⟨s,⟨rfl,.inl ⟨rfl,rfl⟩⟩,λb hb=>by cases hb⟩
theorem nilS{h h':Hs}(s:Same h h'):NewS h h' (.slice none 0 0) []:=⟨s,⟨rfl,.inl ⟨rfl,rfl⟩⟩,λb hb=>by cases hb⟩
def CBClone(R:RnK):Prop:=∀(v:Value)(D:Str)(h:Hs),D.length≤10000→Rd h v 1 (ones (B_9 D))→WP (R 14 [v] h) λv' u=>NewD h u v' D
theorem y_0{R:RnK}{N:Nat}{v:Value}{D:Str}{h:Hs}(hl:D.length≤10000)(r:Rd h v 1 (ones (B_9 D))):WP (r14 R N [v] h) λv' u=>NewD h u v' D:=by
 have ll:(ones (B_9 D)).length=D.length:=by rw[J_t,O_y]
 obtain⟨a,c,rfl⟩:=r.1.formN ll
 unfold r14
 have H:=Sto.enter1 r
 repeat' (first|(with_reducible first|refine H_i ?_|refine H_1 ?_))
 cases a with
 | none =>
  have d0:D = []:=by
   rcases r.1.2 with⟨_,_,_,e⟩|⟨_,_,_,_,_,_,_,_,_,e,_⟩
   ·have:D.length=0:=by rw[←ll,e];rfl
    exact enZ this
   ·cases e
  subst d0
  refine w_ob (v:=.bool true) rfl ?_
  repeat' (first|(with_reducible first|refine w_jn ?_|refine F_2 ?_))
  exact E_z H rfl (nilD (Same.refl h))
 |some a=>
  refine w_ob (v:=.bool false) rfl ?_
  repeat' (first|(with_reducible first|refine w_jn ?_|refine E_k ?_)|((with_reducible apply d_s H) ;rfl;(clear H;intro u H hu;(try dsimp only[scZ,scS,A_4,ttA,splice,ev,rep,caQ,naQ] at H))))
  have H2:=H.osl 0 rfl (n:=0) (c:=0) rfl (lR _)
  dsimp only[scZ,scS] at H2
  refine AM1 0 1 H2 rfl rfl (by decide) (by rw[J_p];exact W_9 D) (by rw[ll];omega) λv1 u1 H3 hn=>?_
  rw[J_p,ll,W_b] at H3
  dsimp only[scZ,scS,naQ] at H3
  rw[zaQ] at H3
  exact Ay7 0 H3 rfl λv' h' n=>n
theorem r_i{Q:Value→Hs→Prop}{u:Hs}{t:TS}{n:Nat}{x:Itm}{K:Value→An}(A:TrAt u t)(hx:t.T n=some x)(w:WP (K (kI x.data.length)) Q):WP (L_o (t.L.dv n) K) Q:=by
 obtain⟨e,fl,o⟩:=(A.it n x hx).da
 obtain⟨a,c,q⟩:=o.form
 rw[q,P_t];exact w
def szF(x:Itm):Nat:=if x.k=2 then x.cnt else x.data.length
def CISize(R:RnK):Prop:=∀(h:Hs)(t:TS)(n:Nat)(x:Itm),TrAt h t→t.T n=some x→R 45 [pV (t.L.q n)] h=some (.val (kI (szF x)) h)
theorem AF2{R:RnK}{N:Nat}{h:Hs}{t:TS}{n:Nat}{x:Itm}(A:TrAt h t)(hx:t.T n=some x):r45 R N [pV (t.L.q n)] h=some (.val (kI (szF x)) h):=by
 refine WP.eqn ?_
 have H:=Sto.enter h
 have A1:=A.st H
 unfold r45 szF
 repeat' (first|(with_reducible first|refine H_i ?_|refine H_1 ?_|refine A_g ?_|refine F_w ?_))
 refine t_k A1 hx rfl ?_
 repeat' (first|(with_reducible first|refine w_jn ?_|refine F_2 ?_|refine E_k ?_|refine A_g ?_|refine F_w ?_)|((with_reducible refine G_h (λ_=>?_) (λ_=>?_))<;>first|(exfalso;omega)|skip))
 ·rename_i q
  rw[if_pos q]
  refine t_nm A1 hx q rfl ?_
  refine Bc9 A1 hx q ?_
  exact E_z H rfl ⟨rfl,rfl⟩
 ·rename_i q
  rw[if_neg q]
  refine t_dv A1 hx rfl ?_
  refine r_i A1 hx ?_
  exact E_z H rfl ⟨rfl,rfl⟩
def IsNames(x:Itm)(n:Nat)(l:List Str):Prop:=(∀s,s∈l↔(x.names s≠none∨(n=1∧s=O_2)))∧l.Nodup∧l.Pairwise (λa b=>E_0 a b=true)
def CNames(R:RnK):Prop:=∀(h:Hs)(t:TS)(n:Nat)(x:Itm),TrAt h t→WF t.T t.most→t.B≤50000→t.T n=some x→x.k=2→WP (R 44 [pV t.p,kI n] h) λv h'=>∃l,IsNames x n l∧NewS h h' v l
structure Rres where
 n:Nat
 ty:Nat
 ln:Int
 sz:Int
 data:Str
 nm:List Str
def RdQ(h:Hs)(r:Except Nat (Rres→Prop))(v:Value)(h':Hs):Prop:=match r with
 |.error e=>v=l_e e∧h'=h
 |.ok P=>∃r d nm,P r∧v=resA 0 r.n r.ty r.ln r.sz d nm∧NewD h h' d r.data∧NewS h h' nm r.nm∧((d=.slice none 0 0∧r.data = [])∨(nm=.slice none 0 0∧r.nm = []))
def Y_n(T:Tm)(k:Nat)(s:Str):Except Nat (Rres→Prop):=match wayT T (decide (k=13)) s with
 |.error e=>.error e
 | .ok n => match T n with
  |none=>.error 1
  |some x=>if k=8 then (if x.k=3 then .ok (λr=>r=⟨n,0,0,0,x.data,[]⟩) else .error 1)
   else if k=13 then (if x.k=2 then .ok (λr=>∃l,IsNames x n l∧r=⟨n,0,0,0,[],l⟩) else .error 4)
   else .ok (λr=>r=⟨n,x.k,if x.k=2 then 1 else x.links,szF x,[],[]⟩)
def CLook(R:RnK):Prop:=∀(h:Hs)(t:TS)(k:Nat)(a b:Str)(p q:Int)(dv:Value),TrAt h t→WF t.T t.most→t.B≤50000→a.length≤50000→k=8∨k=12∨k=13→WP (R 22 [pV t.p,opV k a b p q dv] h) (RdQ h (Y_n t.T k a))
theorem AX9{R:RnK}{N:Nat}(cf:CFail R)(cw:CWayT R)(cc:CBClone R)(cs:CISize R)(cn:CNames R){h:Hs}{t:TS}{k:Nat}{a b:Str}{p q:Int}{dv:Value}(A:TrAt h t)(W:WF t.T t.most)(hB:t.B≤50000)(ha:a.length≤50000)(hk3:k=8∨k=12∨k=13) :
 WP (r22 R N [pV t.p,opV k a b p q dv] h) (RdQ h (Y_n t.T k a)):=by
 have H:=Sto.enter h
 unfold r22
 have cf':=λe u=>cf e u
 rcases hk3 with rfl|rfl|rfl
 all_goals
  repeat' (first|(with_reducible first|refine H_i ?_|refine H_1 ?_|refine A_g ?_)|((with_reducible refine M_f H ?_) ;(clear H;intro u H hu))|((with_reducible refine K_z H ?_) ;(clear H;intro u H hu))|((with_reducible refine G_h (λ_=>?_) (λ_=>?_))<;>first|(exfalso;omega)|skip)|((with_reducible apply H_c 1 H) ;rfl;rfl;rfl))
  have A1:=A.st H
  unfold Y_n
 ·refine E_b (cw _ t a false A1 W ha) ?_
  rw[show decide (8=13)=false from rfl]
  cases e:wayT t.T false a with
  |error e1=>
   have:=W_2 W e
   unfold ptV
   repeat' (first|(refine E_b (cf _ _) ?_)|((with_reducible apply F_8) ;rfl)|((with_reducible refine D_v (λ_=>?_) (λ_=>?_))<;>first|(exfalso;omega)|skip)|((with_reducible apply E_s 0 H) ;rfl;rfl;rfl;omega;rfl;(clear H;intro u H hu;(try dsimp only[scZ,scS,A_4,ttA,splice,ev,rep,caQ,naQ] at H)))|((with_reducible apply G_f 0 H) ;rfl;rfl;rfl))
   exact E_z H rfl ⟨rfl,rfl⟩
  | ok n =>
   obtain⟨x,hx⟩:=W_1 W e
   unfold ptV
   repeat' (first|(with_reducible first|refine w_jn ?_|refine E_k ?_|refine A_g ?_|refine F_w ?_)|((with_reducible apply F_8) ;rfl)|((with_reducible refine D_v (λ_=>?_) (λ_=>?_))<;>first|(exfalso;omega)|skip))
   refine t_mp A1 rfl ?_
   refine t_lk A1 hx ?_
   repeat' (first|(with_reducible first|refine w_jn ?_|refine F_2 ?_|refine A_g ?_|refine F_w ?_)|((with_reducible refine G_h (λ_=>?_) (λ_=>?_))<;>first|(exfalso;omega)|skip)|((with_reducible apply H_c 1 H) ;rfl;rfl;rfl))
   refine t_k A1 hx rfl ?_
   dsimp only
   rw[hx]
   dsimp only
   rw[if_pos rfl]
   have dl:=(W.da _ _ hx).1
   repeat' (first|(refine E_b (cf _ _) ?_)|(with_reducible first|refine w_jn ?_|refine E_k ?_|refine A_g ?_|refine F_w ?_)|((with_reducible refine D_v (λ_=>?_) (λ_=>?_))<;>first|(exfalso;omega)|skip)|((with_reducible apply E_s 0 H) ;rfl;rfl;rfl;omega;rfl;(clear H;intro u H hu;(try dsimp only[scZ,scS,A_4,ttA,splice,ev,rep,caQ,naQ] at H)))|((with_reducible apply G_f 0 H) ;rfl;rfl;rfl))
   ·rename_i q2
    rw[if_pos q2]
    refine t_dv A1 hx rfl ?_
    refine G_b (cc _ x.data _ (by omega) (A1.it _ _ hx).rdd) λv2 u2 n2=>?_
    replace H:=H.call n2
    obtain⟨a5,c5,rfl⟩:=n2.2.1.form
    clear n2
    repeat' (first|((with_reducible apply H_e) ;rfl;(try dsimp only[splice,ev,A_4,rep,caQ,naQ]))|((with_reducible apply E_s 1 H) ;rfl;rfl;rfl;omega;rfl;(clear H;intro u H hu;(try dsimp only[scZ,scS,A_4,ttA,splice,ev,rep,caQ,naQ] at H)))|((with_reducible apply G_f 1 H) ;rfl;rfl;rfl))
    exact d_l (λd=>resA 0 n 0 0 0 d (.slice none 0 0)) 0 H rfl (λ_ _ _=>by simp[blkV,blkP,blkC]) (λ_ _ _ _=>rfl) λv' h' nn=>⟨_,v',.slice none 0 0,rfl,rfl,nn,nilS nn.1,.inr ⟨rfl,rfl⟩⟩
   ·rename_i q2
    rw[if_neg q2]
    exact E_z H rfl ⟨rfl,rfl⟩
 ·refine E_b (cw _ t a false A1 W ha) ?_
  rw[show decide (12=13)=false from rfl]
  cases e:wayT t.T false a with
  |error e1=>
   have:=W_2 W e
   unfold ptV
   repeat' (first|(refine E_b (cf _ _) ?_)|((with_reducible apply F_8) ;rfl)|((with_reducible refine D_v (λ_=>?_) (λ_=>?_))<;>first|(exfalso;omega)|skip)|((with_reducible apply E_s 0 H) ;rfl;rfl;rfl;omega;rfl;(clear H;intro u H hu;(try dsimp only[scZ,scS,A_4,ttA,splice,ev,rep,caQ,naQ] at H)))|((with_reducible apply G_f 0 H) ;rfl;rfl;rfl))
   exact E_z H rfl ⟨rfl,rfl⟩
  | ok n =>
   obtain⟨x,hx⟩:=W_1 W e
   unfold ptV
   repeat' (first|(with_reducible first|refine w_jn ?_|refine E_k ?_|refine A_g ?_|refine F_w ?_)|((with_reducible apply F_8) ;rfl)|((with_reducible refine D_v (λ_=>?_) (λ_=>?_))<;>first|(exfalso;omega)|skip))
   refine t_mp A1 rfl ?_
   refine t_lk A1 hx ?_
   repeat' (first|(with_reducible first|refine w_jn ?_|refine E_k ?_|refine A_g ?_|refine F_w ?_)|((with_reducible refine G_h (λ_=>?_) (λ_=>?_))<;>first|(exfalso;omega)|skip)|((with_reducible apply H_c 1 H) ;rfl;rfl;rfl))
   refine t_ln A1 hx rfl ?_
   repeat' (first|(with_reducible first|refine A_g ?_|refine F_w ?_))
   refine t_k A1 hx rfl ?_
   dsimp only
   rw[hx]
   dsimp only
   rw[if_neg (by decide),if_neg (by decide)]
   repeat' (first|(with_reducible first|refine w_jn ?_|refine F_2 ?_|refine E_k ?_|refine A_g ?_|refine F_w ?_)|((with_reducible refine G_h (λ_=>?_) (λ_=>?_))<;>first|(exfalso;omega)|skip))
   ·rename_i q2
    refine t_k A1 hx rfl ?_
    refine E_b (cs _ t n x (A1.en _) hx) ?_
    repeat' (first|(with_reducible first|refine a_b ?_|refine R_h ?_)|((with_reducible apply H_e) ;rfl;(try dsimp only[splice,ev,A_4,rep,caQ,naQ]))|((with_reducible refine W_0 ?_ ?_) ;omega)|((with_reducible apply E_s 0 H) ;rfl;rfl;rfl;omega;rfl;(clear H;intro u H hu;(try dsimp only[scZ,scS,A_4,ttA,splice,ev,rep,caQ,naQ] at H)))|((with_reducible apply G_f 0 H) ;rfl;rfl;rfl))
    exact E_z H rfl ⟨_,_,_,rfl,by rw[if_pos q2];rfl,nilD (Same.refl h),nilS (Same.refl h),.inl ⟨rfl,rfl⟩⟩
   ·rename_i q2
    refine t_k A1 hx rfl ?_
    refine E_b (cs _ t n x (A1.en _) hx) ?_
    repeat' (first|(with_reducible first|refine a_b ?_|refine R_h ?_)|((with_reducible apply H_e) ;rfl;(try dsimp only[splice,ev,A_4,rep,caQ,naQ]))|((with_reducible refine W_0 ?_ ?_) ;omega)|((with_reducible apply E_s 0 H) ;rfl;rfl;rfl;omega;rfl;(clear H;intro u H hu;(try dsimp only[scZ,scS,A_4,ttA,splice,ev,rep,caQ,naQ] at H)))|((with_reducible apply G_f 0 H) ;rfl;rfl;rfl))
    exact E_z H rfl ⟨_,_,_,rfl,by rw[if_neg q2];rfl,nilD (Same.refl h),nilS (Same.refl h),.inl ⟨rfl,rfl⟩⟩
 ·refine E_b (cw _ t a true A1 W ha) ?_
  rw[show decide (13=13)=true from rfl]
  cases e:wayT t.T true a with
  |error e1=>
   have:=W_2 W e
   unfold ptV
   repeat' (first|(refine E_b (cf _ _) ?_)|((with_reducible apply F_8) ;rfl)|((with_reducible refine D_v (λ_=>?_) (λ_=>?_))<;>first|(exfalso;omega)|skip)|((with_reducible apply E_s 0 H) ;rfl;rfl;rfl;omega;rfl;(clear H;intro u H hu;(try dsimp only[scZ,scS,A_4,ttA,splice,ev,rep,caQ,naQ] at H)))|((with_reducible apply G_f 0 H) ;rfl;rfl;rfl))
   exact E_z H rfl ⟨rfl,rfl⟩
  | ok n =>
   obtain⟨x,hx⟩:=W_1 W e
   unfold ptV
   repeat' (first|(with_reducible first|refine w_jn ?_|refine E_k ?_|refine A_g ?_|refine F_w ?_)|((with_reducible apply F_8) ;rfl)|((with_reducible refine D_v (λ_=>?_) (λ_=>?_))<;>first|(exfalso;omega)|skip))
   refine t_mp A1 rfl ?_
   refine t_lk A1 hx ?_
   repeat' (first|(with_reducible first|refine w_jn ?_|refine F_2 ?_|refine E_k ?_|refine A_g ?_|refine F_w ?_)|((with_reducible refine G_h (λ_=>?_) (λ_=>?_))<;>first|(exfalso;omega)|skip)|((with_reducible apply H_c 1 H) ;rfl;rfl;rfl))
   refine t_k A1 hx rfl ?_
   dsimp only
   rw[hx]
   dsimp only
   rw[if_neg (by decide),if_pos rfl]
   repeat' (first|(refine E_b (cf _ _) ?_)|(with_reducible first|refine w_jn ?_|refine E_k ?_)|((with_reducible refine D_v (λ_=>?_) (λ_=>?_))<;>first|(exfalso;omega)|skip)|((with_reducible apply E_s 0 H) ;rfl;rfl;rfl;omega;rfl;(clear H;intro u H hu;(try dsimp only[scZ,scS,A_4,ttA,splice,ev,rep,caQ,naQ] at H)))|((with_reducible apply G_f 0 H) ;rfl;rfl;rfl))
   ·rename_i q2
    rw[if_pos q2]
    refine G_b (cn _ t n x A1 W hB hx q2) λv2 u2 hv=>?_
    obtain⟨l,il,n2⟩:=hv
    replace H:=H.call n2
    obtain⟨a5,c5,rfl⟩:=n2.2.1.form
    clear n2
    repeat' (first|((with_reducible apply H_e) ;rfl;(try dsimp only[splice,ev,A_4,rep,caQ,naQ]))|((with_reducible apply E_s 1 H) ;rfl;rfl;rfl;omega;rfl;(clear H;intro u H hu;(try dsimp only[scZ,scS,A_4,ttA,splice,ev,rep,caQ,naQ] at H)))|((with_reducible apply G_f 1 H) ;rfl;rfl;rfl))
    exact d_l (λd=>resA 0 n 0 0 0 (.slice none 0 0) d) 0 H rfl (λ_ _ _=>by simp[blkV,blkP,blkC]) (λ_ _ _ _=>rfl) λv' h' nn=>⟨_,.slice none 0 0,v',⟨l,il,rfl⟩,rfl,nilD nn.1,nn,.inl ⟨rfl,rfl⟩⟩
   ·rename_i q2
    rw[if_neg q2]
    exact E_z H rfl ⟨rfl,rfl⟩
def Lay.dat(L:Lay)(n:Nat)(v:Value):Lay where
 q:=L.q
 nb:=L.nb
 dv:=λj=>if j=n then v else L.dv j
 ro:=λb=>if vId v=some b then some (.dat n) else L.ro b
def P_e(D:Str)(x:Itm):Itm:={ x with data:=D }
section
variable {Q:Value→Hs→Prop} {u:Hs} {t:TS} {F:KV} {n:Nat} {x:Itm}
theorem Lay.dat_ro{L:Lay}{v:Value}{b:Nat}(hv:∀i,vId v=some i→L.ro i=none)(hb:L.ro b≠none):(L.dat n v).ro b=L.ro b:=by
 show (if vId v=some b then _ else L.ro b)=_
 rw[if_neg (λe=>hb (hv b e))]
theorem BB7{v:Value}{D:Str}(A:TrAt u t)(hx:t.T n=some x)(hv:∀i,vId v=some i→i<u.nx∧t.L.ro i=none)(hd:DatAt u v D)(hone:oneC v=true)
 (kk:∀u',MutS [t.L.q n] u u'→u'.nx=u.nx→TrAt u' { t with T:=updI t.T n (P_e D),L:=t.L.dat n v }→WP (F undef' u') Q):WP (H_l (.pointer (some ⟨t.L.q n,0+1,none⟩)) v u F) Q:=by
 have I:=A.it n x hx
 obtain⟨fl,r⟩:=I.row
 obtain⟨B,hB,e⟩:=st1E (K:=F) (o:=0+1) (x:=v) r (by show 1<5;decide) hone
 rw[e]
 have hv2:∀i,vId v=some i→t.L.ro i=none:=λi hi=>(hv i hi).2
 have ad:∀b,t.L.ro b≠none→(t.L.dat n v).ro b=t.L.ro b:=λb hb=>Lay.dat_ro hv2 hb
 obtain⟨rw',fl0,tr⟩:=A.tr
 obtain⟨es0,cl0,mp,M0⟩:=A.mp
 have ne:∀b r,t.L.ro b=some r→r≠.item n→(u.hp.set (t.L.q n) (some B)).get b=u.hp.get b:=λb r hr q=>by
  rw[tgS,if_neg (λe=>q (by rw[←e,I.rq] at hr;injection hr with hr;exact hr.symm))]
 refine kk _ P_v rfl ⟨⟨rw',fl0,by show Holds ((u.hp.set _ _).get t.p) _;rw[ne _ _ A.rp (by simp)];exact tr⟩,A.pl,by show (t.L.dat n v).ro t.p=_;rw[ad _ (by rw[A.rp];simp)];exact A.rp,⟨es0,cl0,by show Holds ((u.hp.set _ _).get t.mb) _;rw[ne _ _ A.rm (by simp)];exact mp,?_⟩,A.ml,by show (t.L.dat n v).ro t.mb=_;rw[ad _ (by rw[A.rm];simp)];exact A.rm,λj y hy=>?_,λb hb=>?_⟩
 ·refine M0.cg λa=>?_
  show (t.T a).map _=(updI t.T n (P_e D) a).map _
  rw[G_x hx]
  by_cases e:a=n
  ·rw[if_pos e,e,hx];rfl
  ·rw[if_neg e];rfl
 ·have hy:updI t.T n (P_e D) j=some y:=hy
  rw[G_x hx] at hy
  by_cases e:j=n
  ·rw[if_pos e] at hy
   injection hy with hy;subst hy;subst e
   have q2:(t.L.dat j v).dv j=v:=if_pos rfl
   refine⟨⟨andB fl (flat1 v),?_⟩,I.ql,by show (t.L.dat j v).ro (t.L.q j)=_;rw[ad _ (by rw[I.rq];simp)];exact I.rq,λk=>?_,?_,λb hb=>?_⟩
   ·show Holds ((u.hp.set _ _).get (t.L.q j)) _
    rw[tgS,if_pos rfl]
    unfold rowI
    rw[q2]
    exact hB
   ·obtain⟨nl,nr,es,cl,nh,M⟩:=I.nm k
    refine⟨nl,by show (t.L.dat j v).ro (t.L.nb j)=_;rw[ad _ (by rw[nr];simp)];exact nr,es,cl,?_,M⟩
    show Holds ((u.hp.set _ _).get (t.L.nb j)) _
    rw[ne _ _ nr (by simp)];exact nh
   ·rw[q2]
    exact hd.congr λb hb=>by
     show (u.hp.set _ _).get b=_
     rw[tgS,if_neg (λe=>by have:=(hv b hb).2;rw[←e,I.rq] at this;cases this)]
   ·rw[q2] at hb
    exact⟨(hv b hb).1,if_pos hb⟩
  ·rw[if_neg e] at hy
   have J:=A.it j y hy
   have q2:(t.L.dat n v).dv j=t.L.dv j:=if_neg e
   obtain⟨fl2,r2⟩:=J.row
   refine⟨⟨fl2,?_⟩,J.ql,by show (t.L.dat n v).ro (t.L.q j)=_;rw[ad _ (by show t.L.ro (t.L.q j)≠none;rw[J.rq];simp)];exact J.rq,λk=>?_,?_,λb hb=>?_⟩
   ·show Holds ((u.hp.set _ _).get (t.L.q j)) _
    rw[ne _ _ J.rq (by simp;exact e)]
    unfold rowI nmV at r2 ⊢
    rw[q2];exact r2
   ·obtain⟨nl,nr,es,cl,nh,M⟩:=J.nm k
    refine⟨nl,by show (t.L.dat n v).ro (t.L.nb j)=_;rw[ad _ (by show t.L.ro (t.L.nb j)≠none;rw[nr];simp)];exact nr,es,cl,?_,M⟩
    show Holds ((u.hp.set _ _).get (t.L.nb j)) _
    rw[ne _ _ nr (by simp)];exact nh
   ·rw[q2]
    exact J.da.congr λb hb=>ne _ _ (J.rd b hb).2 (by simp)
   ·rw[q2] at hb
    exact⟨(J.rd b hb).1,by rw[ad _ (by rw[(J.rd b hb).2];simp)];exact(J.rd b hb).2⟩
 ·have hb:u.nx≤b:=hb
  show (if vId v=some b then _ else t.L.ro b)=none
  rw[if_neg (λe=>by have:=(hv b e).1;omega)]
  exact A.fr b hb
theorem TrAt.bytes{u':Hs}{i c:Nat}{e:Nat}{D:Str}(A:TrAt u t)(hx:t.T n=some x)(hi:t.L.dv n=.slice (some ⟨i,0,none⟩) D.length c)(hc:D.length≤c)(M:MutS [i] u u')(hB:Holds (u'.hp.get i) (.row e 1 true true (B_9 D))):TrAt u' { t with T:=updI t.T n (P_e D) }:=by
 have I:=A.it n x hx
 obtain⟨il,ir⟩:=I.rd i (by rw[hi];rfl)
 have ne:∀b r,b<u.nx→t.L.ro b=some r→r≠.dat n→u'.hp.get b=u.hp.get b:=λb r hl hr q=>M.2.1 b hl (by
  intro e
  rw[msQ] at e
  rw[e,ir] at hr
  injection hr with hr
  exact q hr.symm)
 obtain⟨rw',fl0,tr⟩:=A.tr
 obtain⟨es0,cl0,mp,M0⟩:=A.mp
 refine⟨⟨rw',fl0,by show Holds (u'.hp.get t.p) _;rw[ne _ _ A.pl A.rp (by simp)];exact tr⟩,llN A.pl M.1,A.rp,⟨es0,cl0,by show Holds (u'.hp.get t.mb) _;rw[ne _ _ A.ml A.rm (by simp)];exact mp,?_⟩,llN A.ml M.1,A.rm,λj y hy=>?_,λb hb=>A.fr b (lTr M.1 hb)⟩
 ·refine M0.cg λa=>?_
  show (t.T a).map _=(updI t.T n (P_e D) a).map _
  rw[G_x hx]
  by_cases e:a=n
  ·rw[if_pos e,e,hx];rfl
  ·rw[if_neg e]
 ·have hy:updI t.T n (P_e D) j=some y:=hy
  rw[G_x hx] at hy
  by_cases e:j=n
  ·rw[if_pos e] at hy
   injection hy with hy;subst hy;subst e
   obtain⟨fl,r⟩:=I.row
   refine⟨⟨fl,by show Holds (u'.hp.get (t.L.q j)) _;rw[ne _ _ I.ql I.rq (by simp)];exact r⟩,llN I.ql M.1,I.rq,λk=>?_,?_,λb hb=>⟨llN (I.rd b hb).1 M.1,(I.rd b hb).2⟩⟩
   ·obtain⟨nl,nr,es,cl,nh,M2⟩:=I.nm k
    exact⟨llN nl M.1,nr,es,cl,by show Holds (u'.hp.get (t.L.nb j)) _;rw[ne _ _ nl nr (by simp)];exact nh,M2⟩
   ·show DatAt u' (t.L.dv j) D
    rw[hi]
    obtain⟨cs,f,h1,h2,h3⟩:=hB
    exact⟨e,true,by rw[O_y,Nat.mul_one],.inr ⟨i,c,cs,_,f,rfl,hc,h1,h2,lR _,λi _=>h3 i⟩⟩
  ·rw[if_neg e] at hy
   have J:=A.it j y hy
   exact J.fr3 M.1 (lR _) (ne _ _ J.ql J.rq (by simp)) (λk=>ne _ _ (J.nm k).1 (J.nm k).2.1 (by simp)) (λb hb=>ne _ _ (J.rd b hb).1 (J.rd b hb).2 (by simp;exact e))
theorem Bh8{b o dn dc un un' e:Nat}{fl:Bool}{L:List Value}{v2:Value}{L2:List (List Value)}(hb:Holds (u.hp.get b) (.row e un' true fl L))(r:RdSl u v2 un L2)(hu:0<un)(h1:G_8 L2.flatten=true)(hl:o+min L2.length dn*un≤L.length) :
 ∃u1,copy0 un u (.slice (some ⟨b,o,none⟩) dn dc) v2=some (.int .i64 (.ofNat (min L2.length dn)),u1)∧MutS [b] u u1∧u1.nx=u.nx∧Holds (u1.hp.get b) (.row e un' true (andB fl (F_e (L2.take (min L2.length dn)).flatten)) (setL L o (L2.take (min L2.length dn)).flatten)):=by
 have hb0:=hb
 obtain⟨a,c,rfl,hr⟩:=RdSl.row r hu
 have e0:copy0 un u (.slice (some ⟨b,o,none⟩) dn dc) (.slice a L2.length c)=copy1 un u (some ⟨b,o,none⟩) a (min L2.length dn):=by
  show copy1 un u (some ⟨b,o,none⟩) a (minN L2.length dn)=_
  rw[minN_eq]
 rw[e0]
 generalize hn:min L2.length dn=n at *
 cases n with
 |zero=>
  refine⟨u,rfl,MutS.refl _ _,rfl,?_⟩
  rw[List.take_zero,List.flatten_nil,t_4]
  have:andB fl (F_e [])=fl:=by cases fl<;>rfl
  rw[this];exact hb0
 | succ n =>
  have lt:(L2.take (n+1)).flatten.length=(n+1)*un:=by
   rw[Q_j (u:=un) (λl hq=>r.1 l (List.mem_of_mem_take hq)),List.length_take];congr 1;omega
  obtain⟨cs,f,hb,hf,hc⟩:=hb
  obtain⟨c',s1,s2⟩:=Y_x (L2.take (n+1)).flatten o cs L hc (a_f h1 _) (by rw[lt];exact hl)
  have hne:(L2.take (n+1)).flatten ≠ []:=λq=>by rw[q,List.length_nil] at lt;have:=Nat.mul_pos (show 0<n+1 by omega) hu;omega
  refine⟨⟨u.hp.set b (some (.row c' L.length e un' true (andB f (F_e (L2.take (n+1)).flatten)))),u.nx,minN u.lo b⟩,?_,P_v,rfl,?_⟩
  ·show copy2 u (Nat.succ n) (some ⟨b,o,none⟩) (rowOf u un (Nat.succ n) a)=_
   rw[show rowOf u un (Nat.succ n) a=some (L2.take (n+1)).flatten from hr (n+1) (by omega)]
   show copy3 (Nat.succ n) (O_d u b o (L2.take (n+1)).flatten (u.hp.get b))=_
   rw[hb]
   cases hF:(L2.take (n+1)).flatten with
   |nil=>exact absurd hF hne
   |cons v vs=>
    rw[hF] at s1
    show copy3 (Nat.succ n) (setRow u b L.length e un' (andB f (F_e (v::vs))) (N_d (v::vs) o cs))=_
    rw[s1];rfl
  ·show Holds ((u.hp.set b _).get b) _
   rw[tgS,if_pos rfl]
   refine⟨c',andB f (F_e (L2.take (n+1)).flatten),by rw[t_3 (by rw[lt];exact hl)],λhh=>?_,λi=>by rw[s2,i_8 (by rw[lt];exact hl)]⟩
   cases fl with
   |false=>cases hh
   |true=>rw[hf rfl];exact hh
end
def cutD(D:Str)(n:Nat):Str:=D.take n++List.replicate (n-D.length) 0
theorem S_p(D:Str)(n:Nat):(cutD D n).length=n:=by unfold cutD;rw[List.length_append,List.length_take,List.length_replicate];omega
theorem c_w(L:List Value)(n:Nat):(ones L).take n=ones (L.take n):=List.map_take.symm
theorem Bc1(n:Nat)(D E:Str)(h:E.length≤n):setL (B_9 (List.replicate n 0)) 0 (B_9 E)=B_9 (E++List.replicate (n-E.length) 0):=by
 unfold setL
 rw[List.take_zero,naQ,O_y,zaQ,←n_6,←r_1]
 congr 2
 rw[List.drop_replicate]
theorem TrAt.neD{h h':Hs}{t t':TS}(A:TrAt h t)(A':TrAt h' t'){n:Nat}{x x':Itm}(hq:t'.L.q n=t.L.q n)(hx:t.T n=some x)(hx':t'.T n=some x')(hd:t.L.dv n≠t'.L.dv n):h'.hp.get (t.L.q n)≠h.hp.get (t.L.q n):=by
 obtain⟨fl,c1,f1,q1,_,q3⟩:=(A.it n x hx).row
 obtain⟨fl',c2,f2,r1,_,r3⟩:=(A'.it n x' hx').row
 rw[hq] at r1
 intro e
 rw[q1,r1] at e
 injection e with e;injection e with e
 subst e
 have:=(q3 1).symm.trans (r3 1)
 exact hd (by simpa [rowI] using this)
def FitQ(h:Hs)(t:TS)(n:Nat)(D:Str)(v:Value)(h':Hs):Prop:=v=.tuple #[]∧MutS [t.L.q n] h h'∧h'.hp.get (t.L.q n)≠h.hp.get (t.L.q n)∧∃i,h.nx≤i∧i<h'.nx∧Holds (h'.hp.get i) (.row 5 1 true true (B_9 D))∧TrAt h' { t with T:=updI t.T n (P_e D),L:=t.L.dat n (.slice (some ⟨i,0,none⟩) D.length D.length) }
def CFitT(R:RnK):Prop:=∀(h:Hs)(t:TS)(n m:Nat)(x:Itm),TrAt h t→t.T n=some x→m≤5000→WP (R 47 [pV (t.L.q n),kI m] h) (FitQ h t n (cutD x.data m))
theorem Bi8{R:RnK}{N:Nat}{h:Hs}{t:TS}{n m:Nat}{x:Itm}(A:TrAt h t)(hx:t.T n=some x)(hm:m≤5000):WP (r47 R N [pV (t.L.q n),kI m] h) (FitQ h t n (cutD x.data m)):=by
 have H:=Sto.enter h
 have I:=A.it n x hx
 unfold r47
 repeat' (first|(with_reducible first|refine H_i ?_|refine H_1 ?_|refine A_g ?_|refine F_w ?_)|((with_reducible refine n_z H ?_ ?_ ?_) ;omega;rfl;(clear H;intro u H hu)))
 rw[t_1] at H
 have A1:=A.st H
 refine t_dv A1 hx rfl ?_
 have l2:(dsT x).length=x.data.length:=by rw[J_t,O_y]
 obtain⟨u1,e1,M1,n1,hB⟩:=Bh8 (o:=0) (dn:=m) (dc:=m) (H.holds 0 rfl) (A1.it n x hx).rdd.1 (by decide) (by unfold dsT;rw[J_p];exact W_9 _) (by rw[l2,O_y,List.length_replicate];omega)
 rw[e1]
 have eq:setL (B_9 (List.replicate m 0)) 0 ((dsT x).take (min (dsT x).length m)).flatten=B_9 (cutD x.data m):=by
  have e1:((dsT x).take (min (dsT x).length m)).flatten=B_9 (x.data.take m):=by
   rw[l2]
   unfold dsT
   rw[W_d,c_w,J_p,←W_d,←W_d]
   congr 1
   by_cases h9:x.data.length≤m
   ·rw[Nat.min_eq_left h9,List.take_length,List.take_of_length_le h9]
   ·rw[Nat.min_eq_right (by omega)]
  rw[e1,Bc1 _ (List.replicate m 0) _ (by rw[List.length_take];omega)]
  congr 1
  unfold cutD
  rw[List.length_take]
  congr 2
  omega
 have fl:andB true (F_e ((dsT x).take (min (dsT x).length m)).flatten)=true:=by
  unfold dsT
  rw[c_w,J_p,←W_d,W_b];rfl
 rw[eq,fl] at hB
 have il:h.nx<u.nx:=H.lt 0 rfl
 have A2:=A1.mutS M1 (λs hs=>by rw[msQ.1 hs];exact A.fr _ (lR _))
 have H1:=H.tail.mutS M1 (λs hs=>.inl (by rw[msQ.1 hs];exact lR _)) (λt ht=>by cases ht)
 clear H
 refine r_v ?_
 repeat' (first|(with_reducible first|refine A_g ?_|refine F_w ?_))
 have cl:(cutD x.data m).length=m:=S_p _ _
 refine BB7 (v:=.slice (some ⟨h.nx,0,none⟩) m m) (D:=cutD x.data m) A2 hx (λi hi=>?_) ?_ rfl λu2 M2 n2 A3=>?_
 ·have:h.nx=i:=by injection hi
  subst this
  exact⟨by rw[n1];exact il,A.fr _ (lR _)⟩
 ·obtain⟨cs,f,h1,h2,h3⟩:=hB
  exact⟨_,true,by rw[O_y,Nat.mul_one],.inr ⟨h.nx,m,cs,_,f,by rw[cl],by rw[cl];exact lR _,h1,h2,lR _,λi _=>h3 i⟩⟩
 ·have H2:=(H1.wide [t.L.q n]).mutS M2 (λs hs=>.inr hs) (λt ht=>by cases ht)
  have nq:h.nx≠t.L.q n:=λe=>by have:=I.ql;omega
  have ne:u2.hp.get (t.L.q n)≠h.hp.get (t.L.q n):=A.neD A3 rfl hx (K_f hx) (λe=>by
   have e2:({ t with T:=updI t.T n (P_e (cutD x.data m)),L:=t.L.dat n (.slice (some ⟨h.nx,0,none⟩) m m) }:TS).L.dv n=.slice (some ⟨h.nx,0,none⟩) m m:=if_pos rfl
   rw[e2] at e
   have:=(I.rd h.nx (by rw[e];rfl)).1
   omega)
  refine d_r H2 I.ql (by simp) (λs hs=>by rw[msQ.1 hs];exact I.ql) ne λh'' mu e3 e4=>⟨rfl,mu,by rw[e3];exact ne,h.nx,lR _,by rw[e4,n2,n1];exact il,?_,?_⟩
  ·rw[e3,M2.2.1 _ (by rw[n1];exact il) (by simpa using nq)];exact hB
  ·rw[cl]
   exact A3.ext (Nat.le_of_eq e4.symm) λb _ _=>by rw[e3]
theorem Bs0{Q:Value→Hs→Prop}{h:Hs}{b o n c u u' l e:Nat}{rw_ fl:Bool}{L:List Value}{k1:IntKind}{en:En}{K:KV}(hb:Holds (h.hp.get b) (.row e u' rw_ fl L))(hu:u'=0∨u'=u)(hl:l<n)(w:WP (K (.slice (some ⟨b,o+l*u,none⟩) (n-l) (c-l)) h) Q) :
 WP (after K (L_2 u (.c (.slice (some ⟨b,o,none⟩) n c)) (some (.c (.int k1 (.ofNat l)))) none none en h)) Q:=by
 obtain⟨cs,f,hb,_,_⟩:=hb
 refine w_rs (v:=.slice (some ⟨b,o+l*u,none⟩) (n-l) (c-l)) (h:=h) ?_ w
 show ret1 h (slice3 h u en (some ⟨b,o,none⟩) (some (.c (.int k1 (.ofNat l)))) c (some n))=_
 show ret1 h (match bnd en 0 n (some (.c (.int k1 (.ofNat l)))) with|none=>none|some l=>cutA h u l n c (some ⟨b,o,none⟩))=_
 rw[show bnd en 0 n (some (.c (.int k1 (.ofNat l))))=some l from R_g (k:=k1) (by omega)]
 show ret1 h (match Nat.beq l 0 with|true=>some (Value.slice (some ⟨b,o,none⟩) n c)|false=>match Nat.beq n l with|true=>some (Value.slice (some ⟨b,o,some 0⟩) 0 0)|false=>match X_9 u (h.hp.get b) with|true=>some (Value.slice (some ⟨b,Nat.add o (Nat.mul l u),none⟩) (Nat.sub n l) (Nat.sub c l))|false=>none)=_
 cases hz:Nat.beq l 0 with
 |true=>
  have:l=0:=beq_iff.1 hz
  subst this
  rw[Nat.zero_mul,Nat.add_zero,Nat.sub_zero,Nat.sub_zero];rfl
 | false =>
  rw[beq_false.2 (show n≠l by omega),hb]
  have uk:X_9 u (some (Blk.row cs L.length e u' rw_ f))=true:=by
   show orB (Nat.beq u' 0) (Nat.beq u' u)=true
   rcases hu with q|q
   ·rw[q];rfl
   ·rw[q,Nat.beq_refl];cases Nat.beq u 0<;>rfl
  rw[uk];rfl
theorem Ax9{T:Tm}{n:Nat}{f g:Itm→Itm}{x:Itm}(hx:T n=some x)(h:g (f x)=g x):updI (updI T n f) n g=updI T n g:=by
 funext j
 rw[G_x (K_f hx),G_x hx,G_x hx,h]
 split<;>rfl
def wrD(D:Str)(a:Nat)(X:Str):Str:=(cutD D (max D.length (a+X.length))).take a++X++(cutD D (max D.length (a+X.length))).drop (a+X.length)
theorem Az7(D:Str)(a:Nat)(X:Str):(wrD D a X).length=max D.length (a+X.length):=by
 unfold wrD
 rw[List.length_append,List.length_append,List.length_take,List.length_drop,S_p];omega
abbrev Wrs:=Except Nat (Nat × Int × Tm)
def WrQ(h:Hs)(t:TS)(r:Wrs)(v:Value)(h':Hs):Prop:=match r with
 |.error e=>v=l_e e∧h'=h
 |.ok r=>v=resA 0 r.1 0 0 r.2.1 (.slice none 0 0) (.slice none 0 0)∧TurnQ h t r.2.2 h'
def g_r(T:Tm)(n:Nat)(x:Itm)(a:Nat)(X:Str):Wrs:=if X.length=0 then .ok (n,x.data.length,T) else if 4096<a∨4096-a<X.length then .error 9 else .ok (n,((max x.data.length (a+X.length):Nat):Int),updI T n (P_e (wrD x.data a X)))
def CWrite(R:RnK):Prop:=∀(h:Hs)(t:TS)(n k a:Nat)(s s2 X:Str)(q:Int)(xv:Value)(x:Itm),TrAt h t→t.T n=some x→x.data.length≤4096→Rd h xv 1 (ones (B_9 X))→(∀b,Th.id (.rsl xv 1 (ones (B_9 X)))=some b→t.L.ro b=none)→X.length≤100000→a≤9223372036854775807 →
 WP (R 46 [pV t.p,kI n,opV k s s2 (.ofNat a) q xv] h) (WrQ h t (g_r t.T n x a X))
theorem AN3{R:RnK}{N:Nat}(cf:CFail R)(cfit:CFitT R){h:Hs}{t:TS}{n k a:Nat}{s s2 X:Str}{q:Int}{xv:Value}{x:Itm}(A:TrAt h t)(hx:t.T n=some x)(dl:x.data.length≤4096)(r:Rd h xv 1 (ones (B_9 X)))(rn:∀b,Th.id (.rsl xv 1 (ones (B_9 X)))=some b→t.L.ro b=none)(xl:X.length≤100000)(al:a≤9223372036854775807) :
 WP (r46 R N [pV t.p,kI n,opV k s s2 (.ofNat a) q xv] h) (WrQ h t (g_r t.T n x a X)):=by
 have H:=Sto.enter1 r
 have lx:(ones (B_9 X)).length=X.length:=by rw[J_t,O_y]
 obtain⟨xa,xc,rfl⟩:=r.1.formN lx
 have I:=A.it n x hx
 unfold r46
 repeat' (first|(with_reducible first|refine H_i ?_|refine H_1 ?_|refine A_g ?_|refine F_w ?_)|((with_reducible refine M_f H ?_) ;(clear H;intro u H hu))|((with_reducible refine K_z H ?_) ;(clear H;intro u H hu)))
 rename_i ua hua
 have A1:=A.st H
 refine t_mp A1 rfl ?_
 refine t_lk A1 hx ?_
 unfold g_r
 repeat' (first|(refine E_b (cf _ _) ?_)|(with_reducible first|refine w_jn ?_|refine F_2 ?_|refine E_k ?_|refine R_m ?_|refine G_t ?_|refine A_g ?_|refine F_w ?_|refine V_5 ?_)|((with_reducible refine O_n (λ_=>?_) (λ_=>?_))<;>first|(exfalso;omega)|skip)|((with_reducible refine Q_9 ?_ ?_ ?_) ;omega;omega)|((with_reducible apply E_s 0 H) ;rfl;rfl;rfl;omega;rfl;(clear H;intro u H hu;(try dsimp only[scZ,scS,A_4,ttA,splice,ev,rep,caQ,naQ] at H)))|((with_reducible apply G_f 0 H) ;rfl;rfl;rfl)|((with_reducible apply H_c 1 H) ;rfl;rfl;rfl))
 ·rw[if_neg (by omega),if_pos (by omega)]
  exact E_z H rfl ⟨rfl,rfl⟩
 ·rw[if_neg (by omega),if_pos (by omega)]
  exact E_z H rfl ⟨rfl,rfl⟩
 ·rw[if_neg (by omega),if_neg (by omega)]
  have rd1:=(A1.it n x hx).rdd
  refine t_dv A1 hx rfl ?_
  refine r_i A1 hx ?_
  repeat' (first|(with_reducible first|refine A_g ?_|refine V_5 ?_|refine R_h ?_|refine AM7 ?_)|((with_reducible refine H_6 ?_ ?_) ;omega)|((with_reducible apply H_c 1 H) ;rfl;rfl;rfl))
  generalize hM:max x.data.length (a+X.length)=M at *
  refine G_b (cfit u t n M x A1 hx (by omega)) λv2 u2 hv=>?_
  obtain⟨rfl,M2,ne2,i,i1,i2,hB,A2⟩:=hv
  rw[S_p] at A2
  have bn0:h.nx≤ua.nx:=lTr (Nat.le_succ h.nx) (Nat.le_of_eq hua.symm)
  have hun:=H.nx
  have hm:∀y ∈ [Th.blk ua.nx (Gev.Obj.row 34 0 true true [kI 0,kI 0,kI 0,kI 0,kI 0,.slice none 0 0,.slice none 0 0]),Th.blk h.nx (Gev.Obj.row 29 0 true (F_e [kI k,sV s,sV s2,.int .i64 (.ofNat a),.int .i64 q,.slice xa X.length xc]) [kI k,sV s,sV s2,.int .i64 (.ofNat a),.int .i64 q,.slice xa X.length xc]),.rsl (.slice xa X.length xc) 1 (ones (B_9 X))],∀b,y.id=some b→b<u.nx∧(t.L.ro b=none∨t.L.ro b=some .root∨∃n,t.L.ro b=some (.dat n)):=λy hy b hb=>by
   refine⟨(H.ids y hy b hb).1,.inl ?_⟩
   simp only[mcQ,List.not_mem_nil,or_false] at hy
   rcases hy with rfl|rfl|rfl
   ·injection hb with hb;subst hb;exact A.fr _ bn0
   ·injection hb with hb;subst hb;exact A.fr _ (lR _)
   ·exact rn b hb
  have H2:=X_2 (t:=t) (H.wide (mutL t.L h.nx)) M2 (λs hs=>by rw[msQ.1 hs];exact I.qm) (λy hy b hb=>(hm y hy b hb).2)
  have hfr:u.hp.get (t.L.q n)=h.hp.get (t.L.q n):=H.fr _ I.ql List.not_mem_nil
  clear H
  have H:=H2
  clear H2
  refine W_0 M2.1 ?_
  repeat' (first|(with_reducible first|refine A_g ?_|refine F_w ?_))
  refine t_dv (t:={ t with T:=updI t.T n (P_e (cutD x.data M)),L:=t.L.dat n (.slice (some ⟨i,0,none⟩) M M) }) A2 (K_f hx) rfl ?_
  rw[show ({ t with T:=updI t.T n (P_e (cutD x.data M)),L:=t.L.dat n (.slice (some ⟨i,0,none⟩) M M) }:TS).L.dv n=.slice (some ⟨i,0,none⟩) M M from if_pos rfl]
  repeat' (first|(with_reducible refine A_g ?_)|((with_reducible apply H_c 1 H) ;rfl;rfl;rfl))
  refine Bs0 (h:=⟨u2.hp,u2.nx,u2.nx⟩) hB (.inr rfl) (by omega) ?_
  refine a_b ?_
  repeat' (first|(with_reducible refine A_g ?_)|((with_reducible apply Be1 1 H) ;rfl;rfl;(intro _;simp only[HidOk,and_true];omega)))
  rw[zaQ,Nat.mul_one]
  obtain⟨u3,e3,M3,n3,hB3⟩:=Bh8 (o:=a) (dn:=M-a) (dc:=M-a) hB (H.ok _ (mgE (i:=2) rfl)) (by decide) (by rw[J_p];exact W_9 X) (by rw[lx,O_y,S_p];omega)
  rw[e3]
  refine r_v ?_
  have e4:((ones (B_9 X)).take (min (ones (B_9 X)).length (M-a))).flatten=B_9 X:=by
   rw[lx,Nat.min_eq_left (by omega),c_w,J_p,←W_d,List.take_length]
  have e5:setL (B_9 (cutD x.data M)) a (B_9 X)=B_9 (wrD x.data a X):=by
   unfold setL wrD
   rw[hM,O_y,←W_d,←n_6,←r_1,←r_1]
  rw[e4,e5,W_b] at hB3
  have wl:(wrD x.data a X).length=M:=by rw[Az7,hM]
  have A3:=A2.bytes (t:={ t with T:=updI t.T n (P_e (cutD x.data M)),L:=t.L.dat n (.slice (some ⟨i,0,none⟩) M M) }) (D:=wrD x.data a X) (c:=M) (K_f hx) (by rw[wl];exact if_pos rfl) (by rw[wl];exact lR _) M3 (by exact hB3)
  rw[Ax9 hx rfl] at A3
  have H3:=H.mutS M3 (λs hs=>.inl (by rw[msQ.1 hs];exact lTr hun i1)) (λy hy b hb hbs=>by
   have:=(hm y hy b hb).1
   rw[msQ] at hbs
   omega)
  clear H
  refine W_0 (Nat.le_of_eq n3.symm) ?_
  repeat' (first|(with_reducible first|refine A_g ?_|refine F_w ?_))
  refine t_dv (t:={ t with T:=updI t.T n (P_e (wrD x.data a X)),L:=t.L.dat n (.slice (some ⟨i,0,none⟩) M M) }) A3 (K_f hx) rfl ?_
  refine r_i (t:={ t with T:=updI t.T n (P_e (wrD x.data a X)),L:=t.L.dat n (.slice (some ⟨i,0,none⟩) M M) }) A3 (K_f hx) ?_
  rw[show (P_e (wrD x.data a X) x).data.length=M from wl]
  refine H_e rfl ?_
  have nq:t.L.q n≠i:=λe=>by have:=I.ql;have:u.nx≤i:=i1;omega
  refine Q_6 (t':={ t with T:=updI t.T n (P_e (wrD x.data a X)),L:=t.L.dat n (.slice (some ⟨i,0,none⟩) M M) }) (b':=t.L.q n) A H3 A3 bn0 ?_ rfl rfl rfl (H_w.2 ⟨I.ql,I.qm⟩) ?_ rfl rfl rfl (λb hb=>?_) (by show t.B≤_;omega) λh'' T=>⟨rfl,T⟩
  ·show (if some i=some ua.nx then _ else t.L.ro ua.nx)=none
   rw[if_neg (λe=>by injection e with e;have:=(hm _ mcS ua.nx rfl).1;omega)]
   exact A.fr _ bn0
  ·rw[M3.2.1 _ (llN (llN I.ql hun) M2.1) (by simpa using nq),←hfr]
   exact ne2
  ·show (if some i=some b then _ else t.L.ro b)=t.L.ro b
   rw[if_neg (λe=>by injection e with e;omega)]
 ·rename_i hX
  rw[if_pos (by omega)]
  refine t_dv A1 hx rfl ?_
  refine r_i A1 hx ?_
  repeat' (first|((with_reducible apply H_e) ;rfl;(try dsimp only[splice,ev,A_4,rep,caQ,naQ]))|((with_reducible apply E_s 0 H) ;rfl;rfl;rfl;omega;rfl;(clear H;intro u H hu;(try dsimp only[scZ,scS,A_4,ttA,splice,ev,rep,caQ,naQ] at H)))|((with_reducible apply G_f 0 H) ;rfl;rfl;rfl))
  exact E_z H rfl ⟨rfl,TurnQ.refl A⟩
theorem r_r{h u u':Hs}{m:List Th}{t:TS}{T':Tm}{b:Nat}{fl:Bool}{L cs:List Value}{Q:Value→Hs→Prop}(A:TrAt h t)(H:Sto h [] u (.blk b (.row 34 0 true fl L)::m))(hL:L.length=7)(hc:cs.length=7)(h1:G_8 cs=true)(hfl:l_3 (.agg cs.toArray)=true)(P:TurnQ u t T' u')
 (hm:∀x∈m,∀b',x.id=some b'→t.L.ro b'=none∨t.L.ro b'=some .root∨∃n,t.L.ro b'=some (.dat n)) (q:∀h'',TurnQ h t T' h''→Q (.agg cs.toArray) h'') :
 WP (after (λx h30=>D_4 h (G_p h30 (resV enE h30 [.cell (.c (pV b)) 7 true]))) (store1 7 u' cs (addrOf (pV b)))) Q:=by
 have bn:h.nx≤b:=((H.ids _ mcS b rfl).2 rfl).elim id (λq=>by cases q)
 rcases P.ch with⟨rfl,rfl⟩|⟨b',hb',hne⟩
 ·refine O_o 0 H rfl hc hL (by decide) h1 λu3 H3 M3 n3=>?_
  dsimp only[scZ] at H3
  refine G_f 0 H3 rfl hc rfl ?_
  exact E_z H3 hfl (q _ (TurnQ.refl A))
 ·obtain⟨t',A',rfl,e1,e2,e3,e4,e5⟩:=P.tr
  obtain⟨b1,b2⟩:=H_w.1 hb'
  have bl:b'<h.nx:=by
   rcases logQ b' h.nx with g|g
   ·exact g
   ·obtain⟨r,hr,_⟩:=b2
    rw[A.fr b' g] at hr;cases hr
  have H2:=(H.wide (mutL t.L h.nx)).mutS P.mu (λs hs=>by
   obtain⟨s1,s2⟩:=H_w.1 hs
   rcases logQ s h.nx with g|g
   ·exact .inr (H_w.2 ⟨g,s2⟩)
   ·exact .inl g) (λx hx c hc hcs=>by
   obtain⟨r,r1,r2⟩:=(H_w.1 hcs).2
   rcases mcQ.1 hx with rfl|hx
   ·injection hc with hc
    subst hc
    rw[A.fr _ bn] at r1;cases r1
   ·rcases hm x hx c hc with q|q|⟨_,q⟩
    ·rw[q] at r1;cases r1
    ·rw[q] at r1;injection r1 with r1;subst r1;cases r2
    ·rw[q] at r1;injection r1 with r1;subst r1;cases r2)
  exact Q_6 A H2 A' bn (by rw[e4 b (H.ids _ mcS b rfl).1];exact A.fr _ bn) hL hc h1 (H_w.2 ⟨bl,b2⟩) (by rw[←H.fr b' bl List.not_mem_nil];exact hne) e1 e2 e3 (λb hb=>e4 b (llN hb H.nx)) e5 q
def rdD(D:Str)(a n:Nat):Str:=(D.drop (min a D.length)).take (min n (D.length-min a D.length))
def l_h(T:Tm)(s:Str)(a n:Int):Except Nat (Rres→Prop):=if a<0∨n<0 then .error 1 else match wayT T true s with
 |.error e=>.error e
 |.ok m=>match T m with
  |none=>.error 1
  |some x=>if x.k=2 then .error 5 else .ok (λr=>r=⟨m,0,0,0,rdD x.data a.toNat n.toNat,[]⟩)
def l_v(T:Tm)(s:Str)(a:Int)(X:Str):Wrs:=if a<0 then .error 1 else match wayT T true s with
 |.error e=>.error e
 |.ok m=>match T m with
  |none=>.error 1
  |some x=>if x.k=2 then .error 5 else g_r T m x a.toNat X
def l_j(T:Tm)(s:Str)(n:Int):Wrs:=if n<0 then .error 1 else match wayT T true s with
 |.error e=>.error e
 |.ok m=>match T m with
  |none=>.error 1
  |some x=>if x.k=2 then .error 5 else if 4096<n then .error 9 else .ok (m,n,updI T m (P_e (cutD x.data n.toNat)))
def In64(a:Int):Prop:=-9223372036854775808≤a∧a≤9223372036854775807
theorem U_l(a:Int):a<0∨∃n:Nat,a=.ofNat n:=by
 cases a with
 |ofNat n=>exact .inr ⟨n,rfl⟩
 |negSucc n=>exact .inl (Int.negSucc_lt_zero n)
theorem AC9{R:RnK}{N:Nat}(cf:CFail R)(cw:CWayT R)(cc:CBClone R){h:Hs}{t:TS}{s s2:Str}{a n:Int}{xv:Value}(A:TrAt h t)(W:WF t.T t.most)(hs:s.length≤50000)(ha:In64 a)(hn:In64 n) :
 WP (r23 R N [pV t.p,opV 9 s s2 a n xv] h) (RdQ h (l_h t.T s a n)):=by
 have H:=Sto.enter h
 obtain⟨_,ha⟩:=ha
 obtain⟨_,hn⟩:=hn
 unfold r23 l_h
 rcases U_l a with a0|⟨a,rfl⟩
 ·rw[if_pos (.inl a0)]
  repeat' (first|(refine E_b (cf _ _) ?_)|(with_reducible first|refine N_k ?_|refine H_i ?_|refine H_1 ?_|refine A_g ?_)|((with_reducible refine M_f H ?_) ;(clear H;intro u H hu))|((with_reducible refine K_z H ?_) ;(clear H;intro u H hu))|((with_reducible refine U_a (λ_=>?_) (λ_=>?_))<;>first|(exfalso;omega)|skip)|((with_reducible apply E_s 0 H) ;rfl;rfl;rfl;omega;rfl;(clear H;intro u H hu;(try dsimp only[scZ,scS,A_4,ttA,splice,ev,rep,caQ,naQ] at H)))|((with_reducible apply G_f 0 H) ;rfl;rfl;rfl)|((with_reducible apply H_c 1 H) ;rfl;rfl;rfl))
  exact E_z H rfl ⟨rfl,rfl⟩
 rcases U_l n with n0|⟨n,rfl⟩
 ·rw[if_pos (.inr n0)]
  repeat' (first|(refine E_b (cf _ _) ?_)|(with_reducible first|refine N_k ?_|refine U_3 ?_|refine R_m ?_|refine G_t ?_|refine H_i ?_|refine H_1 ?_|refine A_g ?_)|((with_reducible refine M_f H ?_) ;(clear H;intro u H hu))|((with_reducible refine K_z H ?_) ;(clear H;intro u H hu))|((with_reducible first|refine J_c (λ_=>?_) (λ_=>?_)|refine U_a (λ_=>?_) (λ_=>?_))<;>first|(exfalso;omega)|skip)|((with_reducible apply E_s 0 H) ;rfl;rfl;rfl;omega;rfl;(clear H;intro u H hu;(try dsimp only[scZ,scS,A_4,ttA,splice,ev,rep,caQ,naQ] at H)))|((with_reducible apply G_f 0 H) ;rfl;rfl;rfl)|((with_reducible apply H_c 1 H) ;rfl;rfl;rfl))
  exact E_z H rfl ⟨rfl,rfl⟩
 have ha:a≤9223372036854775807:=by have h1:((a:Nat):Int)≤9223372036854775807:=ha;omega
 have hn:n≤9223372036854775807:=by have h1:((n:Nat):Int)≤9223372036854775807:=hn;omega
 rw[if_neg (by rintro(q|q);exact absurd q (by simp);exact absurd q (by simp))]
 repeat' (first|(with_reducible first|refine w_jn ?_|refine E_k ?_|refine U_3 ?_|refine R_m ?_|refine G_t ?_|refine H_i ?_|refine H_1 ?_|refine A_g ?_)|((with_reducible refine M_f H ?_) ;(clear H;intro u H hu))|((with_reducible refine K_z H ?_) ;(clear H;intro u H hu))|((with_reducible refine J_c (λ_=>?_) (λ_=>?_))<;>first|(exfalso;omega)|skip)|((with_reducible apply H_c 1 H) ;rfl;rfl;rfl))
 have A1:=A.st H
 refine E_b (cw _ t s true A1 W hs) ?_
 cases e:wayT t.T true s with
 |error e1=>
  have:=W_2 W e
  unfold ptV
  repeat' (first|(refine E_b (cf _ _) ?_)|((with_reducible apply F_8) ;rfl)|((with_reducible refine D_v (λ_=>?_) (λ_=>?_))<;>first|(exfalso;omega)|skip)|((with_reducible apply E_s 0 H) ;rfl;rfl;rfl;omega;rfl;(clear H;intro u H hu;(try dsimp only[scZ,scS,A_4,ttA,splice,ev,rep,caQ,naQ] at H)))|((with_reducible apply G_f 0 H) ;rfl;rfl;rfl))
  exact E_z H rfl ⟨rfl,rfl⟩
 | ok m =>
  obtain⟨x,hx⟩:=W_1 W e
  unfold ptV
  repeat' (first|(with_reducible first|refine w_jn ?_|refine E_k ?_|refine A_g ?_|refine F_w ?_)|((with_reducible apply F_8) ;rfl)|((with_reducible refine D_v (λ_=>?_) (λ_=>?_))<;>first|(exfalso;omega)|skip))
  refine t_mp A1 rfl ?_
  refine t_lk A1 hx ?_
  repeat' (first|(with_reducible first|refine A_g ?_|refine F_w ?_))
  refine t_k A1 hx rfl ?_
  dsimp only
  rw[hx]
  dsimp only
  have dl:=(W.da _ _ hx).1
  repeat' (first|(refine E_b (cf _ _) ?_)|(with_reducible first|refine w_jn ?_|refine F_2 ?_|refine E_k ?_|refine A_g ?_|refine F_w ?_)|((with_reducible refine G_h (λ_=>?_) (λ_=>?_))<;>first|(exfalso;omega)|skip)|((with_reducible apply E_s 0 H) ;rfl;rfl;rfl;omega;rfl;(clear H;intro u H hu;(try dsimp only[scZ,scS,A_4,ttA,splice,ev,rep,caQ,naQ] at H)))|((with_reducible apply G_f 0 H) ;rfl;rfl;rfl)|((with_reducible apply H_c 1 H) ;rfl;rfl;rfl))
  ·rename_i q2
   rw[if_pos q2]
   exact E_z H rfl ⟨rfl,rfl⟩
  ·rw[if_neg (show ¬x.k=2 by assumption)]
   have rdd:=(A1.it _ _ hx).rdd
   have ll:(dsT x).length=x.data.length:=by rw[J_t,O_y]
   have il:∀b,Th.id (.rsl (t.L.dv m) 1 (dsT x))=some b→b<h.nx:=λb hb=>by
    have:=(A.it _ _ hx).rdd.2 b hb;exact this
   refine t_dv A1 hx rfl ?_
   refine r_i A1 hx ?_
   repeat' (first|(with_reducible first|refine A_g ?_|refine F_w ?_|refine R_h ?_|refine j_t ?_))
   refine t_dv A1 hx rfl ?_
   repeat' (first|(with_reducible first|refine A_g ?_|refine F_w ?_)|((with_reducible apply H_c 1 H) ;rfl;rfl;rfl))
   refine t_dv A1 hx rfl ?_
   refine r_i A1 hx ?_
   repeat' (first|(with_reducible first|refine R_h ?_|refine j_t ?_)|((with_reducible refine H_6 ?_ ?_) ;omega)|((with_reducible refine Q_9 ?_ ?_ ?_) ;omega;omega))
   have H4:=H.addR (A.it _ _ hx).rdd (λb hb hbs=>by cases hbs)
   refine Br9 0 H4 rfl (by omega) (by rw[ll];omega) λv4 H5=>?_
   have e4:((dsT x).drop (min a x.data.length)).take (min a x.data.length+min n (x.data.length-min a x.data.length)-min a x.data.length)=ones (B_9 (rdD x.data a n)):=by
    unfold rdD dsT ones
    rw[←List.map_drop,←List.map_take,W_d,n_6,Nat.add_sub_cancel_left]
   rw[e4] at H5
   clear H H4
   have H:=H5
   clear H5
   refine W_0 (lR _) ?_
   have lr:(rdD x.data a n).length≤10000:=by unfold rdD;rw[List.length_take,List.length_drop];omega
   refine G_b (cc v4 (rdD x.data a n) _ lr (H.rd 0 rfl)) λv5 u5 n5=>?_
   obtain⟨a5,c5,rfl⟩:=n5.2.1.form
   refine W_0 n5.1.1.1 ?_
   replace H:=(H.call n5).pick [0,3,4] (by decide) (m':=[_,_,_]) rfl
   clear n5
   repeat' (first|(with_reducible refine R_h ?_)|((with_reducible apply H_e) ;rfl;(try dsimp only[splice,ev,A_4,rep,caQ,naQ]))|((with_reducible refine W_0 ?_ ?_) ;omega)|((with_reducible apply E_s 1 H) ;rfl;rfl;rfl;omega;rfl;(clear H;intro u H hu;(try dsimp only[scZ,scS,A_4,ttA,splice,ev,rep,caQ,naQ] at H)))|((with_reducible apply G_f 1 H) ;rfl;rfl;rfl))
   exact d_l (λd=>resA 0 m 0 0 0 d (.slice none 0 0)) 0 H rfl (λ_ _ _=>by simp[blkV,blkP,blkC]) (λ_ _ _ _=>rfl) λv' h' nn=>⟨_,v',.slice none 0 0,rfl,rfl,nn,nilS nn.1,.inr ⟨rfl,rfl⟩⟩
theorem AD1{R:RnK}{N:Nat}(cf:CFail R)(cw:CWayT R)(cwr:CWrite R){h:Hs}{t:TS}{s s2 X:Str}{a n:Int}{xv:Value}(A:TrAt h t)(W:WF t.T t.most)(hs:s.length≤50000)(ha:In64 a)(r:Rd h xv 1 (ones (B_9 X)))(rn:∀b,Th.id (.rsl xv 1 (ones (B_9 X)))=some b→t.L.ro b=none)(xl:X.length≤100000) :
 WP (r23 R N [pV t.p,opV 10 s s2 a n xv] h) (WrQ h t (l_v t.T s a X)):=by
 have H:=Sto.enter1 r
 obtain⟨_,ha⟩:=ha
 unfold r23 l_v
 rcases U_l a with a0|⟨a,rfl⟩
 ·rw[if_pos a0]
  repeat' (first|(refine E_b (cf _ _) ?_)|(with_reducible first|refine N_k ?_|refine H_i ?_|refine H_1 ?_|refine A_g ?_)|((with_reducible refine M_f H ?_) ;(clear H;intro u H hu))|((with_reducible refine K_z H ?_) ;(clear H;intro u H hu))|((with_reducible refine U_a (λ_=>?_) (λ_=>?_))<;>first|(exfalso;omega)|skip)|((with_reducible apply E_s 0 H) ;rfl;rfl;rfl;omega;rfl;(clear H;intro u H hu;(try dsimp only[scZ,scS,A_4,ttA,splice,ev,rep,caQ,naQ] at H)))|((with_reducible apply G_f 0 H) ;rfl;rfl;rfl)|((with_reducible apply H_c 1 H) ;rfl;rfl;rfl))
  exact E_z H rfl ⟨rfl,rfl⟩
 have ha:a≤9223372036854775807:=by have h1:((a:Nat):Int)≤9223372036854775807:=ha;omega
 rw[if_neg (by intro q;exact absurd q (by simp))]
 repeat' (first|(with_reducible first|refine w_jn ?_|refine E_k ?_|refine N_k ?_|refine U_3 ?_|refine R_m ?_|refine G_7 ?_|refine G_t ?_|refine H_i ?_|refine H_1 ?_|refine A_g ?_)|((with_reducible refine M_f H ?_) ;(clear H;intro u H hu))|((with_reducible refine K_z H ?_) ;(clear H;intro u H hu))|((with_reducible first|refine J_c (λ_=>?_) (λ_=>?_)|refine U_a (λ_=>?_) (λ_=>?_)|refine D_v (λ_=>?_) (λ_=>?_))<;>first|(exfalso;omega)|skip)|((with_reducible apply H_c 1 H) ;rfl;rfl;rfl))
 all_goals
  have A1:=A.st H
  refine E_b (cw _ t s true A1 W hs) ?_
  cases e:wayT t.T true s with
  |error e1=>
   have:=W_2 W e
   unfold ptV
   repeat' (first|(refine E_b (cf _ _) ?_)|((with_reducible apply F_8) ;rfl)|((with_reducible refine D_v (λ_=>?_) (λ_=>?_))<;>first|(exfalso;omega)|skip)|((with_reducible apply E_s 0 H) ;rfl;rfl;rfl;omega;rfl;(clear H;intro u H hu;(try dsimp only[scZ,scS,A_4,ttA,splice,ev,rep,caQ,naQ] at H)))|((with_reducible apply G_f 0 H) ;rfl;rfl;rfl))
   exact E_z H rfl ⟨rfl,rfl⟩
  | ok m =>
   obtain⟨x,hx⟩:=W_1 W e
   unfold ptV
   repeat' (first|(with_reducible first|refine w_jn ?_|refine E_k ?_|refine A_g ?_|refine F_w ?_)|((with_reducible apply F_8) ;rfl)|((with_reducible refine D_v (λ_=>?_) (λ_=>?_))<;>first|(exfalso;omega)|skip))
   refine t_mp A1 rfl ?_
   refine t_lk A1 hx ?_
   repeat' (first|(with_reducible first|refine A_g ?_|refine F_w ?_))
   refine t_k A1 hx rfl ?_
   dsimp only
   rw[hx]
   dsimp only
   have dl:=(W.da _ _ hx).1
   repeat' (first|(refine E_b (cf _ _) ?_)|(with_reducible first|refine w_jn ?_|refine F_2 ?_|refine E_k ?_|refine A_g ?_)|((with_reducible refine G_h (λ_=>?_) (λ_=>?_))<;>first|(exfalso;omega)|skip)|((with_reducible apply E_s 0 H) ;rfl;rfl;rfl;omega;rfl;(clear H;intro u H hu;(try dsimp only[scZ,scS,A_4,ttA,splice,ev,rep,caQ,naQ] at H)))|((with_reducible apply G_f 0 H) ;rfl;rfl;rfl)|((with_reducible apply H_c 1 H) ;rfl;rfl;rfl)|((with_reducible apply T_9 1 H) ;rfl;rfl;rfl))
   ·rename_i q2
    rw[if_pos q2]
    exact E_z H rfl ⟨rfl,rfl⟩
   ·rw[if_neg (show ¬x.k=2 by assumption)]
    refine G_b (cwr _ t m 10 a s s2 X n xv x A1 hx dl (H.rd 2 rfl) rn xl ha) λv2 u2 hv=>?_
    have no:∀y ∈ [Th.blk h.nx (.row 29 0 true (F_e [kI 10,sV s,sV s2,.int .i64 (.ofNat a),.int .i64 n,xv]) [kI 10,sV s,sV s2,.int .i64 (.ofNat a),.int .i64 n,xv]),.rsl xv 1 (ones (B_9 X))],∀b',y.id=some b'→t.L.ro b'=none∨t.L.ro b'=some .root∨∃n,t.L.ro b'=some (.dat n):=λy hy b' hb=>by
     simp only[mcQ,List.not_mem_nil,or_false] at hy
     rcases hy with rfl|rfl
     ·injection hb with hb;subst hb;exact .inl (A.fr _ (lR _))
     ·exact .inl (rn b' hb)
    have ea:(Int.ofNat a).toNat=a:=rfl
    rw[ea]
    cases er:g_r t.T m x a X with
    |error e1=>
     rw[er] at hv
     obtain⟨rfl,rfl⟩:=hv
     repeat' (first|((with_reducible apply E_s 0 H) ;rfl;rfl;rfl;omega;rfl;(clear H;intro u H hu;(try dsimp only[scZ,scS,A_4,ttA,splice,ev,rep,caQ,naQ] at H)))|((with_reducible apply G_f 0 H) ;rfl;rfl;rfl))
     exact E_z H rfl ⟨rfl,rfl⟩
    |ok r2=>
     rw[er] at hv
     obtain⟨rfl,P⟩:=hv
     exact r_r (cs:=[kI 0,kI r2.1,kI 0,.int .i64 0,.int .i64 r2.2.1,.slice none 0 0,.slice none 0 0]) A H rfl rfl rfl rfl P no λh'' T=>⟨rfl,T⟩
theorem AD0{R:RnK}{N:Nat}(cf:CFail R)(cw:CWayT R)(cfit:CFitT R){h:Hs}{t:TS}{s s2:Str}{a n:Int}{xv:Value}(A:TrAt h t)(W:WF t.T t.most)(hs:s.length≤50000)(hn:In64 n) :
 WP (r23 R N [pV t.p,opV 11 s s2 a n xv] h) (WrQ h t (l_j t.T s n)):=by
 have H:=Sto.enter h
 obtain⟨_,hn⟩:=hn
 unfold r23 l_j
 rcases U_l n with n0|⟨n,rfl⟩
 ·rw[if_pos n0]
  repeat' (first|(refine E_b (cf _ _) ?_)|(with_reducible first|refine N_k ?_|refine U_3 ?_|refine R_m ?_|refine G_7 ?_|refine G_t ?_|refine H_i ?_|refine H_1 ?_|refine A_g ?_)|((with_reducible refine M_f H ?_) ;(clear H;intro u H hu))|((with_reducible refine K_z H ?_) ;(clear H;intro u H hu))|((with_reducible first|refine U_a (λ_=>?_) (λ_=>?_)|refine D_v (λ_=>?_) (λ_=>?_))<;>first|(exfalso;omega)|skip)|((with_reducible apply E_s 0 H) ;rfl;rfl;rfl;omega;rfl;(clear H;intro u H hu;(try dsimp only[scZ,scS,A_4,ttA,splice,ev,rep,caQ,naQ] at H)))|((with_reducible apply G_f 0 H) ;rfl;rfl;rfl)|((with_reducible apply H_c 1 H) ;rfl;rfl;rfl))
  all_goals exact E_z H rfl ⟨rfl,rfl⟩
 have hn:n≤9223372036854775807:=by have h1:((n:Nat):Int)≤9223372036854775807:=hn;omega
 rw[if_neg (by intro q;exact absurd q (by simp))]
 repeat' (first|(with_reducible first|refine w_jn ?_|refine E_k ?_|refine N_k ?_|refine U_3 ?_|refine R_m ?_|refine G_7 ?_|refine G_t ?_|refine H_i ?_|refine H_1 ?_|refine A_g ?_)|((with_reducible refine M_f H ?_) ;(clear H;intro u H hu))|((with_reducible refine K_z H ?_) ;(clear H;intro u H hu))|((with_reducible first|refine J_c (λ_=>?_) (λ_=>?_)|refine U_a (λ_=>?_) (λ_=>?_)|refine D_v (λ_=>?_) (λ_=>?_))<;>first|(exfalso;omega)|skip)|((with_reducible apply H_c 1 H) ;rfl;rfl;rfl))
 all_goals
  have A1:=A.st H
  refine E_b (cw _ t s true A1 W hs) ?_
  cases e:wayT t.T true s with
  |error e1=>
   have:=W_2 W e
   unfold ptV
   repeat' (first|(refine E_b (cf _ _) ?_)|((with_reducible apply F_8) ;rfl)|((with_reducible refine D_v (λ_=>?_) (λ_=>?_))<;>first|(exfalso;omega)|skip)|((with_reducible apply E_s 0 H) ;rfl;rfl;rfl;omega;rfl;(clear H;intro u H hu;(try dsimp only[scZ,scS,A_4,ttA,splice,ev,rep,caQ,naQ] at H)))|((with_reducible apply G_f 0 H) ;rfl;rfl;rfl))
   exact E_z H rfl ⟨rfl,rfl⟩
  | ok m =>
   obtain⟨x,hx⟩:=W_1 W e
   unfold ptV
   repeat' (first|(with_reducible first|refine w_jn ?_|refine E_k ?_|refine A_g ?_|refine F_w ?_)|((with_reducible apply F_8) ;rfl)|((with_reducible refine D_v (λ_=>?_) (λ_=>?_))<;>first|(exfalso;omega)|skip))
   refine t_mp A1 rfl ?_
   refine t_lk A1 hx ?_
   repeat' (first|(with_reducible first|refine A_g ?_|refine F_w ?_))
   refine t_k A1 hx rfl ?_
   dsimp only
   rw[hx]
   dsimp only
   have dl:=(W.da _ _ hx).1
   have en:((4096:Int)<Int.ofNat n)↔(4096<n):=by
    show (4096:Int)<(n:Int)↔_
    omega
   repeat' (first|(refine E_b (cf _ _) ?_)|(with_reducible first|refine w_jn ?_|refine E_k ?_|refine A_g ?_)|((with_reducible first|refine O_n (λ_=>?_) (λ_=>?_)|refine G_h (λ_=>?_) (λ_=>?_))<;>first|(exfalso;omega)|skip)|((with_reducible apply E_s 0 H) ;rfl;rfl;rfl;omega;rfl;(clear H;intro u H hu;(try dsimp only[scZ,scS,A_4,ttA,splice,ev,rep,caQ,naQ] at H)))|((with_reducible apply G_f 0 H) ;rfl;rfl;rfl)|((with_reducible apply H_c 1 H) ;rfl;rfl;rfl))
   ·rename_i q2
    rw[if_pos q2]
    exact E_z H rfl ⟨rfl,rfl⟩
   ·rw[if_neg (show ¬x.k=2 by assumption),if_pos (en.2 (by assumption))]
    exact E_z H rfl ⟨rfl,rfl⟩
   ·rw[if_neg (show ¬x.k=2 by assumption),if_neg (λz=>absurd (en.1 z) (by assumption))]
    have I:=A.it _ _ hx
    have hfr:_=h.hp.get (t.L.q m):=H.fr _ I.ql List.not_mem_nil
    have hun:=H.nx
    have no:=t_v A H (by simp[Th.ex]) rfl
    have bn0:h.nx≤_:=((H.ids _ (mgE (i:=0) rfl) _ rfl).2 rfl).elim id (λq=>by cases q)
    have bu:=(H.ids _ (mgE (i:=0) rfl) _ rfl).1
    refine G_b (cfit _ t m n x A1 hx (by omega)) λv2 u2 hv=>?_
    obtain⟨rfl,M2,ne2,i,i1,i2,hB,A2⟩:=hv
    rw[S_p] at A2
    have H2:=X_2 (t:=t) (H.wide (mutL t.L h.nx)) M2 (λs hs=>by rw[msQ.1 hs];exact I.qm) no
    clear H
    repeat' (first|(with_reducible first|refine A_g ?_|refine F_w ?_))
    refine t_dv (t:={ t with T:=updI t.T m (P_e (cutD x.data n)),L:=t.L.dat m (.slice (some ⟨i,0,none⟩) n n) }) A2 (K_f hx) rfl ?_
    refine r_i (t:={ t with T:=updI t.T m (P_e (cutD x.data n)),L:=t.L.dat m (.slice (some ⟨i,0,none⟩) n n) }) A2 (K_f hx) ?_
    rw[show (P_e (cutD x.data n) x).data.length=n from S_p _ _]
    refine H_e rfl ?_
    refine Q_6 (t':={ t with T:=updI t.T m (P_e (cutD x.data n)),L:=t.L.dat m (.slice (some ⟨i,0,none⟩) n n) }) (b':=t.L.q m) A H2 A2 bn0 ?_ rfl rfl rfl (H_w.2 ⟨I.ql,I.qm⟩) ?_ rfl rfl rfl (λb hb=>?_) (by show t.B≤_;omega) λh'' T=>⟨rfl,T⟩
    ·show (if some i=some _ then _ else t.L.ro _)=none
     rw[if_neg (λe=>by injection e with e;omega)]
     exact A.fr _ bn0
    ·rw[←hfr]
     exact ne2
    ·show (if some i=some b then _ else t.L.ro b)=t.L.ro b
     rw[if_neg (λe=>by injection e with e;omega)]
inductive Rs' where
 |er (e:Nat)
 |up (n:Nat) (sz:Int) (T':Tm)
 |rd (P:Rres→Prop)
structure OpA where
 k:Int
 a:Str
 b:Str
 at_:Int
 n:Int
 X:Str
def ofU(r:Except Nat (Nat × Tm)):Rs':=match r with
 |.error e=>.er e
 |.ok r=>.up r.1 0 r.2
def ofW(r:Wrs):Rs':=match r with
 |.error e=>.er e
 |.ok r=>.up r.1 r.2.1 r.2.2
def ofR(r:Except Nat (Rres→Prop)):Rs':=match r with
 |.error e=>.er e
 |.ok P=>.rd P
def dirI:Itm:=⟨2,[],λ_=>none,0,0,0⟩
def filI:Itm:=⟨1,[],λ_=>none,0,0,0⟩
def lnkI(X:Str):Itm:=⟨3,X,λ_=>none,0,0,0⟩
noncomputable def doF(T:Tm)(most:Nat)(o:OpA):Rs':=
 if o.k=1 then ofU (S_o T most o.a dirI)
 else if o.k=2 then ofU (S_o T most o.a filI)
 else if o.k=7 then (if o.X.length<1∨400<o.X.length then .er 1 else ofU (S_o T most o.a (lnkI o.X)))
 else if o.k=3 then ofU (w_6 T o.a o.b)
 else if o.k=4 then ofU (Y_y T o.a)
 else if o.k=5 then ofU (g_c T o.a)
 else if o.k=6 then ofU (L_3 T o.a o.b)
 else if o.k=8 then ofR (Y_n T 8 o.a)
 else if o.k=12 then ofR (Y_n T 12 o.a)
 else if o.k=13 then ofR (Y_n T 13 o.a)
 else if o.k=9 then ofR (l_h T o.a o.at_ o.n)
 else if o.k=10 then ofW (l_v T o.a o.at_ o.X)
 else if o.k=11 then ofW (l_j T o.a o.n)
 else .er 1
def DoQ(h:Hs)(t:TS)(r:Rs')(v:Value)(h':Hs):Prop:=match r with
 |.er e=>v=l_e e∧h'=h
 |.up n sz T'=>v=resA 0 n 0 0 sz (.slice none 0 0) (.slice none 0 0)∧TurnQ h t T' h'
 |.rd P=>∃r d nm,P r∧v=resA 0 r.n r.ty r.ln r.sz d nm∧NewD h h' d r.data∧NewS h h' nm r.nm
abbrev opI(k:Int)(a b:Str)(at_ n:Int)(d:Value):Value:=.agg #[.int .i64 k,sV a,sV b,.int .i64 at_,.int .i64 n,d]
abbrev opO(o:OpA)(d:Value):Value:=opI o.k o.a o.b o.at_ o.n d
abbrev CUp(R:RnK)(f:FuncId)(F:Tm→Str→Str→Except Nat (Nat × Tm)):Prop:=∀(h:Hs)(t:TS)(k:Nat)(a b:Str)(p q:Int)(dv:Value),TrAt h t→WF t.T t.most→t.B≤1000000→a.length≤50000→b.length≤50000→WP (R f [pV t.p,opV k a b p q dv] h) (UpQ h t (F t.T a b))
def CFileR(R:RnK):Prop:=∀(h:Hs)(t:TS)(s s2:Str)(a n:Int)(xv:Value),TrAt h t→WF t.T t.most→s.length≤50000→In64 a→In64 n→WP (R 23 [pV t.p,opV 9 s s2 a n xv] h) (RdQ h (l_h t.T s a n))
def CFileW(R:RnK):Prop:=∀(h:Hs)(t:TS)(s s2 X:Str)(a n:Int)(xv:Value),TrAt h t→WF t.T t.most→s.length≤50000→In64 a→Rd h xv 1 (ones (B_9 X))→(∀b,Th.id (.rsl xv 1 (ones (B_9 X)))=some b→t.L.ro b=none)→X.length≤100000→WP (R 23 [pV t.p,opV 10 s s2 a n xv] h) (WrQ h t (l_v t.T s a X))
def CFileT(R:RnK):Prop:=∀(h:Hs)(t:TS)(s s2:Str)(a n:Int)(xv:Value),TrAt h t→WF t.T t.most→s.length≤50000→In64 n→WP (R 23 [pV t.p,opV 11 s s2 a n xv] h) (WrQ h t (l_j t.T s n))
structure CDoAll (R:RnK):Prop where
 fail:CFail R
 cre:CCreate R
 clone:CBClone R
 link:CUp R 18 w_6
 unlink:CUp R 19 (λT a _=>Y_y T a)
 rmdir:CUp R 20 (λT a _=>g_c T a)
 ren:CUp R 21 L_3
 look:CLook R
 fileR:CFileR R
 fileW:CFileW R
 fileT:CFileT R
def CDo(R:RnK):Prop:=∀(h:Hs)(t:TS)(o:OpA)(xv:Value),TrAt h t→WF t.T t.most→t.B≤50000→o.a.length≤50000→o.b.length≤50000→o.X.length≤10000→In64 o.at_→In64 o.n→Rd h xv 1 (ones (B_9 o.X))→(∀b,Th.id (.rsl xv 1 (ones (B_9 o.X)))=some b→t.L.ro b=none)→WP (R 10 [pV t.p,opO o xv] h) (DoQ h t (doF t.T t.most o))
theorem u_g{h u u':Hs}{m:List Th}{t:TS}{b:Nat}{fl:Bool}{L:List Value}{v:Value}{r:Except Nat (Nat × Tm)}(A:TrAt h t)(H:Sto h [] u (.blk b (.row 34 0 true fl L)::m))(hL:L.length=7)(hv:UpQ u t r v u')
 (hm:∀x∈m,∀b',x.id=some b'→t.L.ro b'=none∨t.L.ro b'=some .root∨∃n,t.L.ro b'=some (.dat n)):WP (after (λx h30=>D_4 h (G_p h30 (resV enE h30 [.cell (.c (pV b)) 7 true]))) (store1 7 u' (A_4 v) (addrOf (pV b)))) (DoQ h t (ofU r)):=by
 cases r with
 |error e=>
  obtain⟨rfl,rfl⟩:=hv
  refine O_o 0 H rfl rfl hL (by decide) rfl λu3 H3 M3 n3=>?_
  dsimp only[scZ] at H3
  refine G_f 0 H3 rfl rfl rfl ?_
  exact E_z H3 rfl ⟨rfl,rfl⟩
 |ok r=>
  obtain⟨rfl,P⟩:=hv
  exact r_r (cs:=[kI 0,kI r.1,kI 0,kI 0,kI 0,.slice none 0 0,.slice none 0 0]) A H hL rfl rfl rfl P hm λh'' T=>⟨rfl,T⟩
theorem AR0{h u u':Hs}{m:List Th}{t:TS}{b:Nat}{fl:Bool}{L:List Value}{v:Value}{r:Wrs}(A:TrAt h t)(H:Sto h [] u (.blk b (.row 34 0 true fl L)::m))(hL:L.length=7)(hv:WrQ u t r v u')
 (hm:∀x∈m,∀b',x.id=some b'→t.L.ro b'=none∨t.L.ro b'=some .root∨∃n,t.L.ro b'=some (.dat n)):WP (after (λx h30=>D_4 h (G_p h30 (resV enE h30 [.cell (.c (pV b)) 7 true]))) (store1 7 u' (A_4 v) (addrOf (pV b)))) (DoQ h t (ofW r)):=by
 cases r with
 |error e=>
  obtain⟨rfl,rfl⟩:=hv
  refine O_o 0 H rfl rfl hL (by decide) rfl λu3 H3 M3 n3=>?_
  dsimp only[scZ] at H3
  refine G_f 0 H3 rfl rfl rfl ?_
  exact E_z H3 rfl ⟨rfl,rfl⟩
 |ok r=>
  obtain⟨rfl,P⟩:=hv
  exact r_r (cs:=[kI 0,kI r.1,kI 0,.int .i64 0,.int .i64 r.2.1,.slice none 0 0,.slice none 0 0]) A H hL rfl rfl rfl P hm λh'' T=>⟨rfl,T⟩
theorem t_y{h u u':Hs}{m:List Th}{t:TS}{b:Nat}{fl:Bool}{L:List Value}{v:Value}{r:Except Nat (Rres→Prop)}(H:Sto h [] u (.blk b (.row 34 0 true fl L)::m))(hL:L.length=7)(hv:RdQ u r v u') :
 WP (after (λx h30=>D_4 h (G_p h30 (resV enE h30 [.cell (.c (pV b)) 7 true]))) (store1 7 u' (A_4 v) (addrOf (pV b)))) (DoQ h t (ofR r)):=by
 cases r with
 |error e=>
  obtain⟨rfl,rfl⟩:=hv
  refine O_o 0 H rfl rfl hL (by decide) rfl λu3 H3 M3 n3=>?_
  dsimp only[scZ] at H3
  refine G_f 0 H3 rfl rfl rfl ?_
  exact E_z H3 rfl ⟨rfl,rfl⟩
 | ok P =>
  obtain⟨r,d,nm,hP,rfl,n1,n2,hd|hd⟩:=hv
  ·obtain⟨rfl,hdd⟩:=hd
   obtain⟨a,c,e⟩:=n2.2.1.form
   have H2:=H.call n2
   refine O_o (cs:=[kI 0,kI r.n,kI r.ty,.int .i64 r.ln,.int .i64 r.sz,.slice none 0 0,nm]) 1 H2 rfl rfl hL (by decide) (by rw[e];rfl) λu3 H3 M3 n3=>?_
   dsimp only[scZ,scS] at H3
   refine G_f 1 H3 rfl rfl rfl ?_
   exact d_l (λd=>resA 0 r.n r.ty r.ln r.sz (.slice none 0 0) d) 0 H3 rfl (λ_ _ _=>by simp[blkV,blkP,blkC]) (λ_ _ _ _=>rfl) λv' h' nn=>⟨r,_,_,hP,rfl,by rw[hdd];exact nilD nn.1,nn⟩
  ·obtain⟨rfl,hdd⟩:=hd
   obtain⟨a,c,e⟩:=n1.2.1.form
   have H2:=H.call n1
   refine O_o (cs:=[kI 0,kI r.n,kI r.ty,.int .i64 r.ln,.int .i64 r.sz,d,.slice none 0 0]) 1 H2 rfl rfl hL (by decide) (by rw[e];rfl) λu3 H3 M3 n3=>?_
   dsimp only[scZ,scS] at H3
   refine G_f 1 H3 rfl rfl rfl ?_
   exact d_l (λd=>resA 0 r.n r.ty r.ln r.sz d (.slice none 0 0)) 0 H3 rfl (λ_ _ _=>by simp[blkV,blkP,blkC]) (λ_ _ _ _=>rfl) λv' h' nn=>⟨r,_,_,hP,rfl,nn,by rw[hdd];exact nilS nn.1⟩
theorem Aa8{h u u':Hs}{m m2:List Th}{t:TS}{b q nb:Nat}{dv:Value}{fl:Bool}{L:List Value}{v:Value}{x:Itm}{r:Except Nat (Nat × Tm)}(A:TrAt h t)(H:Sto h [] u m)(H1:Sto h [] u (.blk b (.row 34 0 true fl L)::m2))(hL:L.length=7)(hv:CreQ u t x q nb dv r v u')
 (hq:h.nx≤q∧q≠b) (hn:x.k=2→h.nx≤nb∧nb≠b) (hd:∀i,vId dv=some i→h.nx≤i∧i≠b):WP (after (λx h30=>D_4 h (G_p h30 (resV enE h30 [.cell (.c (pV b)) 7 true]))) (store1 7 u' (A_4 v) (addrOf (pV b)))) (DoQ h t (ofU r)):=by
 have bi:=H1.ids _ mcS b rfl
 have bn:h.nx≤b:=(bi.2 rfl).elim id (λq=>by cases q)
 cases r with
 |error e=>
  obtain⟨rfl,rfl⟩:=hv
  refine O_o 0 H1 rfl rfl hL (by decide) rfl λu3 H3 M3 n3=>?_
  dsimp only[scZ] at H3
  refine G_f 0 H3 rfl rfl rfl ?_
  exact E_z H3 rfl ⟨rfl,rfl⟩
 | ok r =>
  obtain⟨rfl,mu,ne,t',A',e0,e1,e2,e3,e4,e5⟩:=hv
  obtain⟨rn,rT⟩:=r
  have e0:t'.T=rT:=e0
  subst e0
  have H2:=((H1.pick [0] (by decide) (m':=[.blk b (.row 34 0 true fl L)]) rfl).wide (mutL t.L h.nx)).mutS mu (λs hs=>by
   rcases mcQ.1 hs with rfl|hs
   ·exact .inl hq.1
   ·obtain⟨s1,s2⟩:=H_w.1 hs
    rcases logQ s h.nx with g|g
    ·exact .inr (H_w.2 ⟨g,s2⟩)
    ·exact .inl g) (λy hy c hc hcs=>by
   rw[msQ.1 hy] at hc
   injection hc with hc
   subst hc
   rcases mcQ.1 hcs with g|g
   ·exact hq.2 g.symm
   ·obtain⟨r,r1,_⟩:=(H_w.1 g).2
    rw[A.fr _ bn] at r1;cases r1)
  exact Q_6 (cs:=[kI 0,kI rn,kI 0,kI 0,kI 0,.slice none 0 0,.slice none 0 0]) A H2 A' bn (by rw[e4 b bi.1 (λe=>hq.2 e.symm) (λk e=>(hn k).2 e.symm) (λe=>(hd b e).2 rfl)];exact A.fr _ bn) hL rfl rfl (H_w.2 ⟨A.ml,A.mm⟩) (by rw[←H1.fr t.mb A.ml List.not_mem_nil];exact ne) e1 e2 e3 (λc hc=>e4 c (llN hc H1.nx) (λe=>by omega) (λk e=>by have:=(hn k).1;omega) (λe=>by have:=(hd c e).1;omega)) e5 λh'' T=>⟨rfl,T⟩
theorem Aw1{n:Nat}{h u:Hs}{vs:List Value}{a:Option (Nat × Nat)}{v:Value}(e:store1 n h vs a=some (v,u)):u.nx=h.nx:=by
 unfold store1 at e
 split at e
 ·unfold store2 at e
  split at e
  ·unfold O_d at e
   split at e
   ·split at e
    ·split at e
     ·cases e
     ·unfold setRow at e
      split at e
      ·injection e with e;injection e with _ e;rw[←e]
      ·cases e
    ·cases e
   ·cases e
  ·cases e
 ·cases e
theorem Be5{Q:Value→Hs→Prop}{n:Nat}{h:Hs}{vs:List Value}{a:Option (Nat × Nat)}{F:KV}(w:WP (after F (store1 n h vs a)) Q):WP (after (λv u=>dPut F v (F_u h u .bar) (andB (dFit h u .bar) (Nat.ble 0 u.lo))) (store1 n h vs a)) Q:=by
 cases e:store1 n h vs a with
 |none=>rw[e] at w;exact w
 |some p=>
  obtain⟨v,u⟩:=p
  rw[e] at w
  exact W_0 (Nat.le_of_eq (Aw1 e).symm) w
theorem By3{R:RnK}{N:Nat}(C:CDoAll R){h:Hs}{t:TS}{o:OpA}{xv:Value}(A:TrAt h t)(W:WF t.T t.most)(hB:t.B≤50000)(ha:o.a.length≤50000)(hb:o.b.length≤50000)(hX:o.X.length≤10000)(hat:In64 o.at_)(hn:In64 o.n)(r:Rd h xv 1 (ones (B_9 o.X)))(rn:∀b,Th.id (.rsl xv 1 (ones (B_9 o.X)))=some b→t.L.ro b=none) :
 WP (r10 R N [pV t.p,opO o xv] h) (DoQ h t (doF t.T t.most o)):=by
 obtain⟨k,a,b,at_,n,X⟩:=o
 dsimp only at ha hb hX hat hn r rn
 show WP (r10 R N [pV t.p,opI k a b at_ n xv] h) _
 have H:=Sto.enter1 r
 have lx:(ones (B_9 X)).length=X.length:=by rw[J_t,O_y]
 obtain⟨xa,xc,rfl⟩:=r.1.formN lx
 have cf:=C.fail
 have hB':t.B≤1000000:=by omega
 unfold r10 doF
 dsimp only
 rcases U_l k with k0|⟨k,rfl⟩
 ·rw[if_neg (by omega),if_neg (by omega),if_neg (by omega),if_neg (by omega),if_neg (by omega),if_neg (by omega),if_neg (by omega),if_neg (by omega),if_neg (by omega),if_neg (by omega),if_neg (by omega),if_neg (by omega),if_neg (by omega)]
  repeat' (first|(refine E_b (cf _ _) ?_)|(with_reducible first|refine w_jn ?_|refine E_k ?_|refine H_i ?_|refine H_1 ?_|refine A_g ?_)|((with_reducible refine M_f H ?_) ;(clear H;intro u H hu))|((with_reducible refine K_z H ?_) ;(clear H;intro u H hu))|((with_reducible refine u_k (λ_=>?_) (λ_=>?_))<;>first|(exfalso;omega)|skip)|((with_reducible apply E_s 0 H) ;rfl;rfl;rfl;omega;rfl;(clear H;intro u H hu;(try dsimp only[scZ,scS,A_4,ttA,splice,ev,rep,caQ,naQ] at H)))|((with_reducible apply G_f 0 H) ;rfl;rfl;rfl)|((with_reducible apply H_c 1 H) ;rfl;rfl;rfl))
  exact E_z H rfl (show DoQ h t (.er 1) _ _ from ⟨rfl,rfl⟩)
 have no:∀o:Gev.Obj,∀y ∈ [Th.blk h.nx o,.rsl (.slice xa X.length xc) 1 (ones (B_9 X))],∀b',y.id=some b'→t.L.ro b'=none∨t.L.ro b'=some .root∨∃n,t.L.ro b'=some (.dat n):=λo y hy b' hb=>by
  simp only[mcQ,List.not_mem_nil,or_false] at hy
  rcases hy with rfl|rfl
  ·injection hb with hb;subst hb;exact .inl (A.fr _ (lR _))
  ·exact .inl (rn b' hb)
 repeat' (first|(refine E_b (cf _ _) ?_)|(with_reducible first|refine w_jn ?_|refine F_2 ?_|refine E_k ?_|refine R_m ?_|refine G_t ?_|refine H_i ?_|refine H_1 ?_|refine A_g ?_|refine V_5 ?_)|((with_reducible apply H_e) ;rfl;(try dsimp only[splice,ev,A_4,rep,caQ,naQ]))|((with_reducible refine M_f H ?_) ;(clear H;intro u H hu))|((with_reducible refine K_z H ?_) ;(clear H;intro u H hu))|((with_reducible first|refine J_c (λ_=>?_) (λ_=>?_)|refine O_n (λ_=>?_) (λ_=>?_)|refine G_h (λ_=>?_) (λ_=>?_))<;>first|(exfalso;omega)|skip)|((with_reducible apply E_s 0 H) ;rfl;rfl;rfl;omega;rfl;(clear H;intro u H hu;(try dsimp only[scZ,scS,A_4,ttA,splice,ev,rep,caQ,naQ] at H)))|((with_reducible apply G_f 0 H) ;rfl;rfl;rfl)|((with_reducible apply H_c 1 H) ;rfl;rfl;rfl)|((with_reducible apply T_9 1 H) ;rfl;rfl;rfl))
 ·rename_i e
  subst e
  rw[if_pos (show Int.ofNat 1=1 from rfl)]
  refine j_u H λu1 H1 hu1=>?_
  clear H
  have H:=H1
  clear H1
  repeat' (first|((with_reducible apply H_e) ;rfl;(try dsimp only[splice,ev,A_4,rep,caQ,naQ]))|((with_reducible refine M_f H ?_) ;(clear H;intro u H hu)))
  have A1:=A.st H
  have i0:=H.ids _ (mgE (i:=0) rfl) _ rfl
  have i1:=H.ids _ (mgE (i:=1) rfl) _ rfl
  have b0:h.nx≤_:=(i0.2 rfl).elim id (λq=>by cases q)
  have b1:h.nx≤_:=(i1.2 rfl).elim id (λq=>by cases q)
  have I:NewIt u t.L dirI _ _ (.slice none 0 0):=⟨⟨_,H.holds 0 rfl⟩,i0.1,A.fr _ b0,λ_=>⟨i1.1,A.fr _ b1,H.ne (i:=1) (j:=0) rfl rfl (by decide),H.holds 1 rfl⟩,rfl,rfl,⟨5,true,rfl,.inl ⟨rfl,rfl⟩⟩,λb hb=>by cases hb⟩
  refine G_b (C.cre u t a dirI _ _ _ A1 W I (by decide) (by decide) hB' ha) λv2 u2 hv=>?_
  exact Aa8 A H (H.pick [2,3,4] (by decide) (m':=[_,_,_]) rfl) rfl hv ⟨b0,H.ne (i:=0) (j:=2) rfl rfl (by decide)⟩ (λ_=>⟨b1,H.ne (i:=1) (j:=2) rfl rfl (by decide)⟩) (λi hi=>by cases hi)
 ·rename_i e
  subst e
  rw[if_neg (show ¬Int.ofNat 2=1 by decide),if_pos (show Int.ofNat 2=2 from rfl)]
  have A1:=A.st H
  have i0:=H.ids _ (mgE (i:=0) rfl) _ rfl
  have b0:h.nx≤_:=(i0.2 rfl).elim id (λq=>by cases q)
  have I:NewIt u t.L filI _ 0 (.slice none 0 0):=⟨⟨_,H.holds 0 rfl⟩,i0.1,A.fr _ b0,(λq=>by cases q),rfl,rfl,⟨5,true,rfl,.inl ⟨rfl,rfl⟩⟩,λb hb=>by cases hb⟩
  refine G_b (C.cre u t a filI _ 0 _ A1 W I (by decide) (by decide) hB' ha) λv2 u2 hv=>?_
  exact Aa8 A H (H.pick [1,2,3] (by decide) (m':=[_,_,_]) rfl) rfl hv ⟨b0,H.ne (i:=0) (j:=1) rfl rfl (by decide)⟩ (λq=>by cases q) (λi hi=>by cases hi)
 ·rename_i e _
  subst e
  rw[if_neg (show ¬Int.ofNat 7=1 by decide),if_neg (show ¬Int.ofNat 7=2 by decide),if_pos (show Int.ofNat 7=7 from rfl)]
  rw[if_pos (.inl (by assumption))]
  exact E_z H rfl (show DoQ h t (.er 1) _ _ from ⟨rfl,rfl⟩)
 ·rename_i e _ _
  subst e
  rw[if_neg (show ¬Int.ofNat 7=1 by decide),if_neg (show ¬Int.ofNat 7=2 by decide),if_pos (show Int.ofNat 7=7 from rfl)]
  rw[if_pos (.inr (by assumption))]
  exact E_z H rfl (show DoQ h t (.er 1) _ _ from ⟨rfl,rfl⟩)
 ·rename_i e _ _
  subst e
  rw[if_neg (show ¬Int.ofNat 7=1 by decide),if_neg (show ¬Int.ofNat 7=2 by decide),if_pos (show Int.ofNat 7=7 from rfl)]
  rw[if_neg (by omega)]
  refine G_b (C.clone _ X _ hX ((H.rd 2 rfl).lo _)) λv2 u2 n2=>?_
  refine r_z n2 λu3 n3=>?_
  clear n2
  obtain⟨a5,c5,rfl⟩:=n3.2.1.form
  replace H:=H.call n3
  clear n3
  repeat' (first|(with_reducible refine R_h ?_)|((with_reducible apply H_e) ;rfl;(try dsimp only[splice,ev,A_4,rep,caQ,naQ]))|((with_reducible refine Bq8 H ?_) ;(clear H;intro u H hu)))
  have A1:=A.st H
  have i0:=H.ids _ (mgE (i:=0) rfl) _ rfl
  have b0:h.nx≤_:=(i0.2 rfl).elim id (λq=>by cases q)
  have i1:=H.ids _ (mgE (i:=1) rfl)
  have b1:∀b,vId (.slice a5 X.length c5)=some b→h.nx≤b:=λb hb=>((i1 b hb).2 rfl).elim id (λq=>by cases q)
  have I:NewIt u t.L (lnkI X) _ 0 (.slice a5 X.length c5):=⟨⟨_,H.holds 0 rfl⟩,i0.1,A.fr _ b0,(λq=>by cases q),rfl,rfl,⟨5,true,H.ok _ (mgE (i:=1) rfl)⟩,λb hb=>⟨(i1 b hb).1,A.fr _ (b1 b hb),λe=>H.dj 0 1 _ _ rfl rfl (by decide) rfl _ rfl (by rw[←e];exact hb),λq=>by cases q⟩⟩
  refine G_b (C.cre u t a (lnkI X) _ 0 _ A1 W I (show (0:Int)≤0 by decide) (show (0:Int)≤100 by decide) hB' ha) λv2 u2 hv=>?_
  refine W_0 ?_ ?_
  ·cases hc:S_o t.T t.most a (lnkI X) with
   |error e=>rw[hc] at hv;rw[hv.2];exact lR _
   |ok r=>rw[hc] at hv;exact hv.2.1.1
  refine Be5 ?_
  exact Aa8 A H (H.pick [2,3,4] (by decide) (m':=[_,_,_]) rfl) rfl hv ⟨b0,H.ne (i:=0) (j:=2) rfl rfl (by decide)⟩ (λq=>by cases q) (λi hi=>⟨b1 i hi,λe=>H.dj 2 1 _ _ rfl rfl (by decide) rfl _ rfl (by rw[←e];exact hi)⟩)
 ·rename_i e
  subst e
  rw[if_neg (show ¬Int.ofNat 3=1 by decide),if_neg (show ¬Int.ofNat 3=2 by decide),if_neg (show ¬Int.ofNat 3=7 by decide),if_pos (show Int.ofNat 3=3 from rfl)]
  refine G_b (C.link u t 3 a b at_ n _ (A.st H) W hB' ha hb) λv2 u2 hv=>?_
  exact u_g A H rfl hv (no _)
 ·rename_i e
  subst e
  rw[if_neg (show ¬Int.ofNat 4=1 by decide),if_neg (show ¬Int.ofNat 4=2 by decide),if_neg (show ¬Int.ofNat 4=7 by decide),if_neg (show ¬Int.ofNat 4=3 by decide),if_pos (show Int.ofNat 4=4 from rfl)]
  refine G_b (C.unlink u t 4 a b at_ n _ (A.st H) W hB' ha hb) λv2 u2 hv=>?_
  exact u_g A H rfl hv (no _)
 ·rename_i e
  subst e
  rw[if_neg (show ¬Int.ofNat 5=1 by decide),if_neg (show ¬Int.ofNat 5=2 by decide),if_neg (show ¬Int.ofNat 5=7 by decide),if_neg (show ¬Int.ofNat 5=3 by decide),if_neg (show ¬Int.ofNat 5=4 by decide),if_pos (show Int.ofNat 5=5 from rfl)]
  refine G_b (C.rmdir u t 5 a b at_ n _ (A.st H) W hB' ha hb) λv2 u2 hv=>?_
  exact u_g A H rfl hv (no _)
 ·rename_i e
  subst e
  rw[if_neg (show ¬Int.ofNat 6=1 by decide),if_neg (show ¬Int.ofNat 6=2 by decide),if_neg (show ¬Int.ofNat 6=7 by decide),if_neg (show ¬Int.ofNat 6=3 by decide),if_neg (show ¬Int.ofNat 6=4 by decide),if_neg (show ¬Int.ofNat 6=5 by decide),if_pos (show Int.ofNat 6=6 from rfl)]
  refine G_b (C.ren u t 6 a b at_ n _ (A.st H) W hB' ha hb) λv2 u2 hv=>?_
  exact u_g A H rfl hv (no _)
 ·rename_i e
  subst e
  rw[if_neg (show ¬Int.ofNat 8=1 by decide),if_neg (show ¬Int.ofNat 8=2 by decide),if_neg (show ¬Int.ofNat 8=7 by decide),if_neg (show ¬Int.ofNat 8=3 by decide),if_neg (show ¬Int.ofNat 8=4 by decide),if_neg (show ¬Int.ofNat 8=5 by decide),if_neg (show ¬Int.ofNat 8=6 by decide),if_pos (show Int.ofNat 8=8 from rfl)]
  refine G_b (C.look u t 8 a b at_ n _ (A.st H) W hB ha (by decide)) λv2 u2 hv=>?_
  exact t_y H rfl hv
 ·rename_i e
  subst e
  rw[if_neg (show ¬Int.ofNat 12=1 by decide),if_neg (show ¬Int.ofNat 12=2 by decide),if_neg (show ¬Int.ofNat 12=7 by decide),if_neg (show ¬Int.ofNat 12=3 by decide),if_neg (show ¬Int.ofNat 12=4 by decide),if_neg (show ¬Int.ofNat 12=5 by decide),if_neg (show ¬Int.ofNat 12=6 by decide),if_neg (show ¬Int.ofNat 12=8 by decide),if_pos (show Int.ofNat 12=12 from rfl)]
  refine G_b (C.look u t 12 a b at_ n _ (A.st H) W hB ha (by decide)) λv2 u2 hv=>?_
  exact t_y H rfl hv
 ·rename_i e
  subst e
  rw[if_neg (show ¬Int.ofNat 13=1 by decide),if_neg (show ¬Int.ofNat 13=2 by decide),if_neg (show ¬Int.ofNat 13=7 by decide),if_neg (show ¬Int.ofNat 13=3 by decide),if_neg (show ¬Int.ofNat 13=4 by decide),if_neg (show ¬Int.ofNat 13=5 by decide),if_neg (show ¬Int.ofNat 13=6 by decide),if_neg (show ¬Int.ofNat 13=8 by decide),if_neg (show ¬Int.ofNat 13=12 by decide),if_pos (show Int.ofNat 13=13 from rfl)]
  refine G_b (C.look u t 13 a b at_ n _ (A.st H) W hB ha (by decide)) λv2 u2 hv=>?_
  exact t_y H rfl hv
 ·rename_i e
  subst e
  rw[if_neg (show ¬Int.ofNat 9=1 by decide),if_neg (show ¬Int.ofNat 9=2 by decide),if_neg (show ¬Int.ofNat 9=7 by decide),if_neg (show ¬Int.ofNat 9=3 by decide),if_neg (show ¬Int.ofNat 9=4 by decide),if_neg (show ¬Int.ofNat 9=5 by decide),if_neg (show ¬Int.ofNat 9=6 by decide),if_neg (show ¬Int.ofNat 9=8 by decide),if_neg (show ¬Int.ofNat 9=12 by decide),if_neg (show ¬Int.ofNat 9=13 by decide),if_pos (show Int.ofNat 9=9 from rfl)]
  refine G_b (C.fileR u t a b at_ n _ (A.st H) W ha hat hn) λv2 u2 hv=>?_
  exact t_y H rfl hv
 ·rename_i e
  subst e
  rw[if_neg (show ¬Int.ofNat 10=1 by decide),if_neg (show ¬Int.ofNat 10=2 by decide),if_neg (show ¬Int.ofNat 10=7 by decide),if_neg (show ¬Int.ofNat 10=3 by decide),if_neg (show ¬Int.ofNat 10=4 by decide),if_neg (show ¬Int.ofNat 10=5 by decide),if_neg (show ¬Int.ofNat 10=6 by decide),if_neg (show ¬Int.ofNat 10=8 by decide),if_neg (show ¬Int.ofNat 10=12 by decide),if_neg (show ¬Int.ofNat 10=13 by decide),if_neg (show ¬Int.ofNat 10=9 by decide),if_pos (show Int.ofNat 10=10 from rfl)]
  refine G_b (C.fileW u t a b X at_ n _ (A.st H) W ha hat (H.rd 2 rfl) rn (by omega)) λv2 u2 hv=>?_
  exact AR0 A H rfl hv (no _)
 ·rename_i e
  subst e
  rw[if_neg (show ¬Int.ofNat 11=1 by decide),if_neg (show ¬Int.ofNat 11=2 by decide),if_neg (show ¬Int.ofNat 11=7 by decide),if_neg (show ¬Int.ofNat 11=3 by decide),if_neg (show ¬Int.ofNat 11=4 by decide),if_neg (show ¬Int.ofNat 11=5 by decide),if_neg (show ¬Int.ofNat 11=6 by decide),if_neg (show ¬Int.ofNat 11=8 by decide),if_neg (show ¬Int.ofNat 11=12 by decide),if_neg (show ¬Int.ofNat 11=13 by decide),if_neg (show ¬Int.ofNat 11=9 by decide),if_neg (show ¬Int.ofNat 11=10 by decide),if_pos (show Int.ofNat 11=11 from rfl)]
  refine G_b (C.fileT u t a b at_ n _ (A.st H) W ha hn) λv2 u2 hv=>?_
  exact AR0 A H rfl hv (no _)
 ·rw[if_neg (λz=>by have z:((k:Nat):Int)=1:=z;omega),if_neg (λz=>by have z:((k:Nat):Int)=2:=z;omega),if_neg (λz=>by have z:((k:Nat):Int)=7:=z;omega),if_neg (λz=>by have z:((k:Nat):Int)=3:=z;omega),if_neg (λz=>by have z:((k:Nat):Int)=4:=z;omega),if_neg (λz=>by have z:((k:Nat):Int)=5:=z;omega),if_neg (λz=>by have z:((k:Nat):Int)=6:=z;omega),if_neg (λz=>by have z:((k:Nat):Int)=8:=z;omega),if_neg (λz=>by have z:((k:Nat):Int)=12:=z;omega),if_neg (λz=>by have z:((k:Nat):Int)=13:=z;omega),if_neg (λz=>by have z:((k:Nat):Int)=9:=z;omega),if_neg (λz=>by have z:((k:Nat):Int)=10:=z;omega),if_neg (λz=>by have z:((k:Nat):Int)=11:=z;omega)]
  exact E_z H rfl (show DoQ h t (.er 1) _ _ from ⟨rfl,rfl⟩)
end Go.Proofs.YtnbnmojckhcdeaaGreatDoor.treeMoves
