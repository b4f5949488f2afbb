import Derived.Test.YtnbnmojckhcdeaaGreatDoorApE
namespace Go.Proofs.YtnbnmojckhcdeaaGreatDoor.treeApart
open Go Go.Gev
set_option linter.unusedVariables false
theorem e_5:∀a b:Str,F_d a b=true→a=b:=by
 intro a
 induction a with
 |nil=>
  intro b h
  cases b with
  |nil=>rfl
  |cons y ys=>cases h
 | cons x xs ih =>
  intro b h
  cases b with
  |nil=>cases h
  | cons y ys =>
   simp only[F_d] at h
   cases q:Nat.beq x.toNat y.toNat with
   |true=>
    rw[q] at h
    rw[Al2 (Nat.eq_of_beq_eq_true q),ih ys h]
   |false=>rw[q] at h;cases h
theorem Ag7(a b c:Str)(h1:B_0 a b=true)(h2:B_0 b c=true):B_0 a c=true:=by rw[F_r] at *;simp only[decide_eq_true_eq] at *;exact List.le_trans h1 h2
theorem Ag6(a b:Str):(B_0 a b||B_0 b a)=true:=by rw[F_r,F_r];simp only[Bool.or_eq_true,decide_eq_true_eq];exact List.le_total a b
theorem Au5(a b:Str)(h1:B_0 a b=true)(h2:B_0 b a=true):a=b:=by rw[F_r] at *;simp only[decide_eq_true_eq] at *;exact List.le_antisymm h1 h2
theorem t_i:∀{l:List (Str × Value × Nat)},(∀s∈E_f l,s.length≤1000000)→K_k keyS (mkE sV l)=some (E_f l):=by
 intro l
 induction l with
 |nil=>intro _;rfl
 | cons e l ih =>
  intro h
  have e1:keyS (sV e.1)=some e.1:=by
   show (match Nat.ble e.1.length 1000000 with|true=>some e.1|false=>none)=_
   rw[Nat.ble_eq_true_of_le (h e.1 List.mem_cons_self)]
  have e2:mkE sV (e::l)=⟨sV e.1,e.2.1,e.2.2⟩::mkE sV l:=rfl
  rw[e2]
  unfold K_k
  dsimp only
  rw[e1]
  dsimp only
  rw[ih λn hn=>h n (List.mem_cons_of_mem _ hn)];rfl
theorem d_f{α:Type}[DecidableEq α]{K:α→Value}{β:Type}{g:Value→Option β}{eq:β→β→Bool}{f:α→Option Value}{c n cl:Nat}{es:List MapEntry}{ks:List β}(M:MapC K f c n es cl)(hk:K_k g es=some ks)(heq:∀a b,eq a b=true→a=b)(nd:ks.Nodup)(hl:ks.length≤100000):L_v g eq es cl=some ks:=by
 unfold L_v
 rw[hk]
 dsimp only
 rw[M.good,O_9 heq nd,Nat.ble_eq_true_of_le hl];rfl
theorem U_u(T:TypeId)(h:Hs)(ks:List Str):WP (F_f Go.Proofs.encStr B_0 T h (some ks)) λv h'=>New h h' (.osl v T 1 true (G_a B_0 ks).length (strs (G_a B_0 ks))):=by
 cases ks with
 |nil=>exact⟨_,_,rfl,Same.refl h,⟨rfl,.inl ⟨rfl,rfl⟩⟩,λb hb=>by cases hb⟩
 | cons x xs =>
  have hl:(G_a B_0 (x::xs)).length=xs.length+1:=(E_8 B_0 (x::xs)).length_eq
  refine⟨.slice (some ⟨h.nx,0,none⟩) (xs.length+1) (xs.length+1),Gev.newRow h T 1 (strs (G_a B_0 (x::xs))),rfl,⟨⟨Nat.le_succ _,λb hb=>by rw[B_2,if_neg (by omega)]⟩,rfl⟩,?_,λb hb=>?_⟩
  ·refine⟨by rw[List.length_map,Nat.mul_one],.inr ⟨h.nx,xs.length+1,ofList (strs (G_a B_0 (x::xs))),(strs (G_a B_0 (x::xs))).length,true,by rw[hl],by omega,?_,λ_=>rfl,Nat.le_refl _,λi _=>A_0 _ i⟩⟩
   rw[B_2,if_pos rfl,q_r]
  ·have:h.nx=b:=by injection hb
   subst this
   exact⟨Nat.le_refl _,Nat.lt_succ_self _⟩
theorem i_v(T:TypeId)(h:Hs)(ks:List Int):WP (F_f encZ Gev.leI T h (some ks)) λv h'=>New h h' (.osl v T 1 true (G_a Gev.leI ks).length ((G_a Gev.leI ks).map (Value.int .i64))):=by
 have fl:∀l:List Int,B_5 (l.map (Value.int .i64))=true:=λl=>by
  induction l with
  |nil=>rfl
  |cons x l ih=>exact ih
 cases ks with
 |nil=>exact⟨_,_,rfl,Same.refl h,⟨rfl,.inl ⟨rfl,rfl⟩⟩,λb hb=>by cases hb⟩
 | cons x xs =>
  have hl:(G_a Gev.leI (x::xs)).length=xs.length+1:=(E_8 Gev.leI (x::xs)).length_eq
  refine⟨.slice (some ⟨h.nx,0,none⟩) (xs.length+1) (xs.length+1),Gev.newRow h T 1 ((G_a Gev.leI (x::xs)).map (Value.int .i64)),rfl,⟨⟨Nat.le_succ _,λb hb=>by rw[B_2,if_neg (by omega)]⟩,rfl⟩,?_,λb hb=>?_⟩
  ·refine⟨by rw[List.length_map,Nat.mul_one],.inr ⟨h.nx,xs.length+1,ofList ((G_a Gev.leI (x::xs)).map (Value.int .i64)),((G_a Gev.leI (x::xs)).map (Value.int .i64)).length,true,by rw[hl],by omega,?_,λ_=>rfl,Nat.le_refl _,λi _=>A_0 _ i⟩⟩
   rw[B_2,if_pos rfl,fl]
  ·have:h.nx=b:=by injection hb
   subst this
   exact⟨Nat.le_refl _,Nat.lt_succ_self _⟩
theorem w_d{B:Option Blk}{e u i:Nat}{rw_ fl:Bool}{L:List Value}(h:Holds B (.row e u rw_ fl L)):blkCell i B=L[i]?:=by
 obtain⟨c,f,rfl,_,hc⟩:=h
 exact hc i
theorem d_o{t:TS}{n B:Nat}{x:Itm}{es:List MapEntry}{cl:Nat}(W:WF t.T t.most)(hB:B≤50000)(hx:t.T n=some x)(M:MapC sV (λs=>(x.names s).map kI) x.cnt B es cl) :
 ∃ks,L_v keyS F_d es cl=some ks∧ks.Nodup∧ks.length=x.cnt∧∀s,s∈ks↔x.names s≠none:=by
 obtain⟨l,el,hl,nd,hc⟩:=M.ex
 have mem:∀s,s∈E_f l↔x.names s≠none:=λs=>by
  constructor
  ·intro q e
   exact absurd q (H_j.1 (by rw[hl,e];rfl))
  ·intro q
   refine Classical.byContradiction λq2=>?_
   have:=H_j.2 q2
   rw[hl] at this
   cases e:x.names s with
   |none=>exact q e
   |some m=>rw[e] at this;cases this
 have ll:(E_f l).length=x.cnt:=by unfold E_f;rw[List.length_map,hc]
 refine⟨E_f l,d_f M ?_ e_5 nd ?_,nd,ll,mem⟩
 ·rw[el]
  refine t_i λs hs=>?_
  cases e:x.names s with
  |none=>exact absurd e ((mem s).1 hs)
  |some m=>
   have:=W.nl n x s m hx e
   omega
 ·have:=M.cc
  have:=M.cl
  omega
theorem V_w{h:Hs}{t:TS}{n:Nat}{x:Itm}(A:TrAt h t)(W:WF t.T t.most)(hB:t.B≤50000)(hx:t.T n=some x)(hk:x.k=2):WP (R_8 9 [pV t.p,kI n] h) λv h'=>∃l,IsNames x n l∧NewS h h' v l:=by
 obtain⟨rw',fl,tr⟩:=A.tr
 obtain⟨es,cl,mp,M⟩:=A.mp
 have mp:h.hp.get t.mb=some (.mp es cl):=mp
 obtain⟨fl2,r⟩:=(A.it n x hx).row
 obtain⟨_,_,es2,cl2,nm,M2⟩:=(A.it n x hx).nm hk
 have nm:h.hp.get (t.L.nb n)=some (.mp es2 cl2):=nm
 obtain⟨ks,k1,k2,k3,k4⟩:=d_o W hB hx M2
 obtain⟨l,el,hl,nd,hc⟩:=M.ex
 obtain⟨r2,f1,f2,_⟩:=I_z g_q n l 0
 have e1:R_8 9 [pV t.p,kI n] h=P_x 9 h (.ofNat n) (some ks):=by
  show n_o 9 h (.ofNat n) (blkCell 1 (h.hp.get t.p))=_
  rw[w_d tr]
  show n_r 9 h (.ofNat n) (h.hp.get t.mb)=_
  rw[mp]
  show n_q 9 h (.ofNat n) (findM (kI n) es 0)=_
  rw[el,f1]
  rw[hl,hx] at f2
  cases r2 with
  |none=>cases f2
  |some p=>
   have:p.2=pV (t.L.q n):=by injection f2
   show n_p 9 h (.ofNat n) (addrOf p.2)=_
   rw[this]
   show P_x 9 h (.ofNat n) (R_p h (blkCell 2 (h.hp.get (t.L.q n))))=_
   rw[w_d r]
   show P_x 9 h (.ofNat n) (R_p h (some (nmV t.L n x)))=_
   unfold nmV
   rw[if_pos hk]
   show P_x 9 h (.ofNat n) (d_g (h.hp.get (t.L.nb n)))=_
   rw[nm]
   show P_x 9 h (.ofNat n) (L_v keyS F_d es2 cl2)=_
   rw[k1]
 rw[e1]
 have fin:∀ks':List Str,ks'.Nodup→(∀s,s∈ks'↔(x.names s≠none∨(n=1∧s=J_2)))→WP (F_f Go.Proofs.encStr B_0 9 h (some ks')) λv h'=>∃l,IsNames x n l∧NewS h h' v l:=λks' a b=>by
  refine WP.mono (U_u _ h ks') λv h' nw=>⟨_,⟨λs=>?_,(E_8 B_0 ks').nodup_iff.2 a,J_q Ag7 Ag6 ks'⟩,nw⟩
  rw[(E_8 B_0 ks').mem_iff];exact b s
 show WP (match Gev.eqI (.ofNat n) 1 with|true=>F_f Go.Proofs.encStr B_0 9 h (some (ks ++ [M_8]))|false=>F_f Go.Proofs.encStr B_0 9 h (some ks)) _
 have e2:Gev.eqI (.ofNat n) 1=decide (n=1):=by
  rw[eqI_eq]
  by_cases q:n=1
  ·subst q;rfl
  ·rw[decide_eq_false q]
   exact decide_eq_false λz=>q (by injection z)
 rw[e2]
 by_cases q:n=1
 ·rw[decide_eq_true q]
  refine fin _ (List.nodup_append.2 ⟨k2,List.nodup_cons.2 ⟨(λz=>by cases z),List.nodup_nil⟩,λa ha b hb=>?_⟩) λs=>?_
  ·rw[List.mem_singleton.1 hb]
   intro z
   subst q
   have:x.names J_2=none:=W.ls x hx
   exact(k4 a).1 ha (by rw[z];exact this)
  ·rw[List.mem_append,k4,List.mem_singleton]
   exact⟨λz=>z.imp (λa=>a) λa=>⟨q,a⟩,λz=>z.imp (λa=>a) λa=>a.2⟩
 ·rw[decide_eq_false q]
  exact fin _ k2 λs=>by rw[k4];exact⟨λz=>.inl z,λz=>z.elim (λa=>a) λa=>absurd a.1 q⟩
def FnBox(f t:Nat)(h h':Hs)(v x:Value):Prop:=v=.func (.func f) #[] #[pV h.nx]∧Same h h'∧Holds (h'.hp.get h.nx) (.row t 0 true false [x])∧h.nx<h'.nx
theorem Ag9{src:Tr Blk}{n0:Nat}{m:Mv}{f:Nat}{cs:Array Value}:G_r src n0 m (.func (.func f) #[] cs)=none:=rfl
def CKeysI(R:RnK):Prop:=∀(h:Hs)(b:Nat),WP (R 29 [.map (some b)] h) λv h'=>FnBox 50 43 h h' v (.map (some b))
def CKeysS(R:RnK):Prop:=∀(h:Hs)(m:Option Nat),WP (R 31 [.map m] h) λv h'=>FnBox 53 47 h h' v (.map m)
theorem t_h{R:RnK}{N:Nat}{h:Hs}{b:Nat}:WP (r29 R N [.map (some b)] h) λv h'=>FnBox 50 43 h h' v (.map (some b)):=by
 have H:=Sto.enter h
 unfold r29
 refine D_c ?_
 refine D_p ?_
 refine w_j H rfl rfl λu1 H1 hu1=>?_
 refine w_n ?_
 refine w_k H1 Ag9 ?_
 have hu1:u1.nx=h.nx+1:=hu1
 exact⟨rfl,⟨⟨by show h.nx≤u1.nx;omega,λb' hb=>H1.fr b' hb (λq=>by cases q)⟩,rfl⟩,H1.ok _ List.mem_cons_self,by show h.nx<u1.nx;omega⟩
theorem t_j{R:RnK}{N:Nat}{h:Hs}{b:Option Nat}:WP (r31 R N [.map b] h) λv h'=>FnBox 53 47 h h' v (.map b):=by
 have H:=Sto.enter h
 unfold r31
 refine D_c ?_
 refine D_p ?_
 refine w_j H rfl rfl λu1 H1 hu1=>?_
 refine w_n ?_
 refine w_k H1 Ag9 ?_
 have hu1:u1.nx=h.nx+1:=hu1
 exact⟨rfl,⟨⟨by show h.nx≤u1.nx;omega,λb' hb=>H1.fr b' hb (λq=>by cases q)⟩,rfl⟩,H1.ok _ List.mem_cons_self,by show h.nx<u1.nx;omega⟩
theorem v_o{h:Hs}{f t k:Nat}{x:Value}(hb:Holds (h.hp.get k) (.row t 0 true false [x])):N_s f h [.func (.func f) #[] #[pV k]]=some x:=by
 obtain⟨c,f',hg,_,hc⟩:=hb
 show (match Nat.beq f f with|true=>w_y h (some (k,0))|false=>none)=_
 rw[Nat.beq_refl]
 show Z_h (h.hp.get k)=_
 rw[hg]
 show c.get 0=_
 rw[hc 0];rfl
def FlX(h:Hs)(v:Value)(L:List Value):Prop:=∀b,vId v=some b→∃c sz e u r,h.hp.get b=some (.row c sz e u r (B_5 L))
theorem FlX.congr{h h':Hs}{v:Value}{L:List Value}(X:FlX h v L)(hg:∀b,vId v=some b→h'.hp.get b=h.hp.get b):FlX h' v L:=λb hb=>by rw[hg b hb];exact X b hb
theorem r_t(a b:Bool):andB a b=(a&&b):=by cases a<;>rfl
theorem r_w{h h':Hs}{v v':Value}{e u by_ n k:Nat}{fl:Bool}{L news:List Value}(o:OwnSl h v e u fl n L)(X:FlX h v L)(hk:news.length=k*u)(e2:app2 h e u by_ k news v=some (v',h')):FlX h' v' (L++news):=by
 obtain⟨hl,o⟩:=o
 rcases o with⟨rfl,rfl⟩|⟨id,c,cs,sz,f,rfl,hn,hg,hf,hsz,hc⟩
 ·have hL:L = []:=List.eq_nil_of_length_eq_zero (by rw[hl,Nat.zero_mul])
  subst hL
  unfold app2 at e2
  dsimp only at e2
  split at e2
  ·cases e2
  ·cases k with
   |zero=>injection e2 with e2;injection e2 with e3 e4;subst e3;intro b hb;cases hb
   |succ k=>
    injection e2 with e2;injection e2 with e3 e4;subst e3 e4
    intro b hb
    have:h.nx=b:=by injection hb
    subst this
    exact⟨_,_,_,_,_,by rw[B_2,if_pos rfl];rfl⟩
 ·have ld:D_2 cs (Nat.mul n u) 0 []=some L:=by
   have:=F_p (n*u) 0 cs L [] hl (λj hj=>by rw[Nat.zero_add];exact hc j (by omega))
   simpa using this
  have ff:f=B_5 L:=by
   obtain⟨_,_,_,_,_,q⟩:=X id rfl
   rw[hg] at q
   injection q with q;injection q
  have e2:(match Nat.ble (Nat.mul (Nat.add n k) by_) 70368744177664 with|false=>none|true=>app3 h e u id n k news (h.hp.get id))=some (v',h'):=e2
  cases hq:Nat.ble (Nat.mul (Nat.add n k) by_) 70368744177664 with
  |false=>rw[hq] at e2;cases e2
  | true =>
   rw[hq,hg] at e2
   have e2:(match Nat.beq u u with|false=>none|true=>match Nat.beq e e with|false=>none|true=>app4 h e u id n k cs sz f news (frcB cs (Nat.beq (Nat.mul n u) sz)) (D_2 cs (Nat.mul n u) 0 []))=some (v',h'):=e2
   rw[Nat.beq_refl,Nat.beq_refl,V_k,ld] at e2
   have fin:∀(c':Tr Value)(sz':Nat),some (Value.slice (some ⟨h.nx,0,none⟩) (Nat.add n k) (Nat.add n k),(⟨(h.hp.set id none).set h.nx (some (.row c' sz' e u true (andB f (B_5 news)))),Nat.succ h.nx,minN h.lo id⟩:Hs))=some (v',h')→FlX h' v' (L++news):=λc' sz' q=>by
    injection q with q;injection q with q1 q2
    subst q1 q2
    intro b hb
    have:h.nx=b:=by injection hb
    subst this
    refine⟨c',sz',e,u,true,?_⟩
    show ((h.hp.set id none).set h.nx _).get h.nx=_
    rw[Tr.get_set,if_pos rfl,X_u,r_t,ff]
   cases hq2:Nat.beq (Nat.mul n u) sz with
   |true=>rw[hq2] at e2;exact fin _ _ e2
   |false=>rw[hq2] at e2;exact fin _ _ e2
theorem w_t{w:Hs}{o:Value}{L news:List Value}{e u by_ n b2 c t v:Nat}{rw_ fl2:Bool}(O:OwnSl w o e u false n L)(X:FlX w o L)(hr:Holds (w.hp.get b2) (.row t v rw_ fl2 news))(hl:news.length=1*u)(h1:D_a news=true)(hb:(n+1)*by_≤70368744177664) :
 ∃o' w',app0 e u by_ w o (.slice (some ⟨b2,0,none⟩) 1 c)=some (o',w')∧OwnSl w' o' e u false (n+1) (L++news)∧FlX w' o' (L++news)∧w.nx≤w'.nx∧(∀b,b<w.nx→vId o≠some b→w'.hp.get b=w.hp.get b)∧(∀x,x≤w.lo→x≤w.nx→(∀b,vId o=some b→x≤b)→x≤w'.lo)∧(∀b,vId o'=some b→w.nx≤b∧b<w'.nx):=by
 have e1:rowOf w u 1 (some ⟨b2,0,none⟩)=some news:=by
  obtain⟨c',f,hbk,_,hc'⟩:=hr
  show C_c (Nat.mul (Nat.succ 0) u) 0 (w.hp.get b2)=_
  rw[hbk]
  show D_2 c' (Nat.mul (Nat.succ 0) u) 0 []=_
  have:=F_p (1*u) 0 c' news [] hl (λj _=>by rw[Nat.zero_add];exact hc' j)
  simpa using this
 obtain⟨v',h',a1,a2,a3,a4,a5,a6,a7,a8⟩:=M_j (by_:=by_) O hl hb
 refine⟨v',h',?_,a2,r_w O X hl a1,a3,a4,a5,a6⟩
 show app1 w e u by_ 1 o (rowOf w u 1 (some ⟨b2,0,none⟩))=_
 rw[e1]
 show (match D_a news with|true=>app2 w e u by_ 1 news o|false=>none)=_
 rw[h1];exact a1
theorem _root_.Go.Gev.OwnSl.rdN{h:Hs}{v:Value}{e u n:Nat}{fl:Bool}{Ls:List (List Value)}(o:OwnSl h v e u fl n Ls.flatten)(hu:∀l∈Ls,l.length=u)(hn:Ls.length=n)(hb:∀b,vId v=some b→b<h.nx):Rd h v u Ls:=by
 refine⟨⟨hu,?_⟩,λb hi=>?_⟩
 ·obtain⟨_,o⟩:=o
  rcases o with⟨rfl,q⟩|⟨id,c,cs,sz,f,rfl,hc,hg,hf,hsz,hcs⟩
  ·exact .inl ⟨_,_,rfl,List.length_eq_zero_iff.1 (hn.trans q)⟩
  ·refine .inr ⟨id,0,c,cs,sz,e,u,true,f,by rw[hn],by omega,hg,.inr rfl,λi j l hi hj=>?_⟩
   have il:=(List.getElem?_eq_some_iff.1 hi).1
   have:=I_7 hu i j hj
   rw[hi] at this
   rw[show 0+i*u+j=i*u+j from by omega,hcs _ ?_]
   ·exact this
   ·rw[I_9 hu]
    calc i*u+j<i*u+u:=by omega
     _=(i+1)*u:=by rw[Nat.succ_mul]
     _≤Ls.length*u:=Nat.mul_le_mul_right _ il
 ·cases Ls with
  |nil=>cases hi
  |cons l Ls=>exact hb b hi
theorem _root_.Go.Gev.Sto.read{h0 h:Hs}{S:List Nat}{m:List Th}(k:Nat){t t':Th}(H:Sto h0 S h m)(hk:m[k]?=some t)(he:t'.ex=false)(hb:t'.body h)(hi:∀b,t'.id=some b→t.id=some b)(ht:t.ex=true):Sto h0 S h (m.set k t'):=by
 have hkl:=(List.getElem?_eq_some_iff.1 hk).1
 have get:∀i s,(m.set k t')[i]?=some s→(i=k∧s=t')∨(i≠k∧m[i]?=some s):=λi s hs=>by
  by_cases q:i=k
  ·subst q
   rw[List.getElem?_set_self hkl] at hs
   injection hs with hs
   exact .inl ⟨rfl,hs.symm⟩
  ·rw[List.getElem?_set_ne (λz=>q z.symm)] at hs
   exact .inr ⟨q,hs⟩
 refine⟨H.nx,H.fr,H.lo,λs hs=>?_,λs hs b hb'=>?_,H.chg,λi j s s' hs hs' hij hx b hb' hb2=>?_⟩
 ·obtain⟨i,hs⟩:=List.mem_iff_getElem?.1 hs
  rcases get i s hs with⟨_,rfl⟩|⟨_,q⟩
  ·exact hb
  ·exact H.ok _ (mgE q)
 ·obtain⟨i,hs⟩:=List.mem_iff_getElem?.1 hs
  rcases get i s hs with⟨_,rfl⟩|⟨_,q⟩
  ·exact⟨(H.ids _ (mgE hk) b (hi b hb')).1,λz=>by rw[he] at z;cases z⟩
  ·exact H.ids _ (mgE q) b hb'
 ·rcases get i s hs with⟨_,rfl⟩|⟨q1,q⟩
  ·rw[he] at hx;cases hx
  ·rcases get j s' hs' with⟨rfl,rfl⟩|⟨_,q3⟩
   ·exact H.dj i j s t q hk hij hx b hb' (hi b hb2)
   ·exact H.dj i j s s' q q3 hij hx b hb' hb2
structure Prt where
 n:Nat
 k:Nat
 data:Str
 nm:List (Str × Nat)
def rwN(l:List (Str × Nat)):List (List Value):=l.map λe=>[sV e.1,kI e.2]
def PartAt(h:Hs)(l:List Value)(p:Prt):Prop:=∃dv nv,l = [kI p.n,kI p.k,dv,nv]∧Rd h dv 1 (ones (A_s p.data))∧Rd h nv 2 (rwN p.nm)
def PartsAt(h:Hs)(v:Value)(ps:List Prt):Prop:=∃L:List (List Value × Prt),ps=L.map (·.2)∧Rd h v 4 (L.map (·.1))∧∀e∈L,PartAt h e.1 e.2
theorem _root_.Go.Gev.Rd.ext{h h':Hs}{v:Value}{u:Nat}{L:List (List Value)}(r:Rd h v u L)(hn:h.nx≤h'.nx)(hg:∀b,Th.id (.rsl v u L)=some b→h'.hp.get b=h.hp.get b):Rd h' v u L:=⟨r.1.congr hg,λb hb=>llN (r.2 b hb) hn⟩
structure IsPrt (T:Tm) (p:Prt):Prop where
 at_:∃x,T p.n=some x∧p.k=x.k∧p.data=x.data∧(∀s,s∈p.nm.map (·.1)↔x.names s≠none)∧(∀e∈p.nm,x.names e.1=some e.2)
 nd:(p.nm.map (·.1)).Nodup
 so:(p.nm.map (·.1)).Pairwise λa b=>B_0 a b=true
structure IsPrts (T:Tm) (ps:List Prt):Prop where
 mem:∀n,n∈ps.map (·.n)↔T n≠none
 nd:(ps.map (·.n)).Nodup
 so:(ps.map (·.n)).Pairwise (· ≤ ·)
 pt:∀p∈ps,IsPrt T p
theorem c_n{α:Type}{le:α→α→Prop}(an:∀a b,le a b→le b a→a=b){l l':List α}(nd:l.Nodup)(nd':l'.Nodup)(so:l.Pairwise le)(so':l'.Pairwise le)(h:∀a,a∈l↔a∈l'):l=l':=
 List.Perm.eq_of_pairwise (le:=le) (λa b _ _ h1 h2=>an a b h1 h2) so so' ((List.perm_ext_iff_of_nodup nd nd').2 h)
theorem Av2{f:Str→Option Nat}{l l':List (Str × Nat)}(h:l.map (·.1)=l'.map (·.1))(h1:∀e∈l,f e.1=some e.2)(h2:∀e∈l',f e.1=some e.2):l=l':=by
 induction l generalizing l' with
 |nil=>
  cases l' with
  |nil=>rfl
  |cons e l'=>cases h
 | cons e l ih =>
  cases l' with
  |nil=>cases h
  |cons e' l'=>
   injection h with q1 q2
   have a:=h1 e List.mem_cons_self
   have b:=h2 e' List.mem_cons_self
   have q1:e.1=e'.1:=q1
   rw[q1,b] at a
   injection a with a
   rw[ih q2 (λz hz=>h1 z (List.mem_cons_of_mem _ hz)) λz hz=>h2 z (List.mem_cons_of_mem _ hz)]
   congr 1
   exact Prod.ext q1 a.symm
theorem Ai7{T:Tm}{p p':Prt}(h:IsPrt T p)(h':IsPrt T p')(hn:p.n=p'.n):p=p':=by
 obtain⟨x,a1,a2,a3,a4,a5⟩:=h.at_
 obtain⟨y,b1,b2,b3,b4,b5⟩:=h'.at_
 rw[hn,b1] at a1
 injection a1 with a1
 subst a1
 have e:p.nm=p'.nm:=Av2 (c_n (le:=λa b=>B_0 a b=true) Au5 h.nd h'.nd h.so h'.so λa=>by rw[a4,b4]) a5 b5
 cases p;cases p'
 dsimp only at *
 subst hn a2 a3 e
 rw[b2,b3]
theorem o_y{T:Tm}{ps ps':List Prt}(h:IsPrts T ps)(h':IsPrts T ps'):ps=ps':=by
 have e:ps.map (·.n)=ps'.map (·.n):=c_n (le:=(· ≤ ·)) (λa b=>Nat.le_antisymm) h.nd h'.nd h.so h'.so λa=>by rw[h.mem,h'.mem]
 have hp:=h.pt
 have hp':=h'.pt
 clear h h'
 induction ps generalizing ps' with
 |nil=>
  cases ps' with
  |nil=>rfl
  |cons=>cases e
 | cons p ps ih =>
  cases ps' with
  |nil=>cases e
  |cons p' ps'=>
   injection e with e1 e2
   rw[Ai7 (hp p List.mem_cons_self) (hp' p' List.mem_cons_self) e1,ih e2 (λz hz=>hp z (List.mem_cons_of_mem _ hz)) λz hz=>hp' z (List.mem_cons_of_mem _ hz)]
theorem Al9{Q:Value→Hs→Prop}{h0 h:Hs}{o:Value}{L:List (List Value × Prt)}{e:Nat}(he:Ext h0 h)(hl:h0.nx≤h.lo)(O:OwnSl h o e 4 false L.length (L.map (·.1)).flatten)(X:FlX h o (L.map (·.1)).flatten)(hid:∀b,vId o=some b→h0.nx≤b∧b<h.nx)(P:∀q∈L,PartAt h q.1 q.2)
 (q:∀v' h',Same h0 h'→PartsAt h' v' (L.map (·.2))→Q v' h'):WP (clrK h0 o h) Q:=by
 have l4:∀l∈L.map (·.1),l.length=4:=λl hl=>by
  obtain⟨z,hz,rfl⟩:=List.mem_map.1 hl
  obtain⟨_,_,e,_⟩:=P z hz
  rw[e];rfl
 have rd:Rd h o 4 (L.map (·.1)):=OwnSl.rdN O l4 (List.length_map _) λb hb=>(hid b hb).2
 have e1:clrK h0 o h=clear2 h0 o h (G_r h.hp h0.nx ⟨h0.hp,h0.nx,[]⟩ o):=by
  rw[I_5,show Nat.blt h.lo h0.nx=false from by rw[blt_eq];simpa using hl];rfl
 have bad:G_r h.hp h0.nx ⟨h0.hp,h0.nx,[]⟩ o=none→WP (clrK h0 o h) Q:=λz=>by
  rw[e1,z]
  refine⟨o,_,rfl,q _ _ ⟨⟨he.1,λb hb=>he.2 b hb⟩,rfl⟩ ⟨L,rfl,rd.lo _,λe he=>?_⟩⟩
  obtain⟨dv,nv,a,b,c⟩:=P e he
  exact⟨dv,nv,a,b.lo _,c.lo _⟩
 cases ff:B_5 (L.map (·.1)).flatten with
 | false =>
  refine bad ?_
  obtain⟨_,oo⟩:=O
  rcases oo with⟨rfl,q0⟩|⟨id,c,cs,sz,f,rfl,hn,hg,hf,hsz,hc⟩
  ·have:L = []:=List.length_eq_zero_iff.1 q0
   subst this
   cases ff
  ·obtain⟨_,_,_,_,_,q1⟩:=X id rfl
   rw[ff] at q1
   have hlt:=(hid id rfl).1
   have e2:mvId h.hp h0.nx ⟨h0.hp,h0.nx,[]⟩ id=none:=by
    unfold mvId
    rw[show Nat.blt id h0.nx=false from by rw[blt_eq];exact decide_eq_false (by omega)]
    show S_7 _ id (h.hp.get id)=none
    rw[q1];rfl
   simp only[G_r,H_m,E_l,O_v,e2,Q_b]
 | true =>
  obtain⟨ρ,h',e2,x1,x2,x3,x4,x5⟩:=V_c (h0:=h0) (h:=h) o hl he (λb hb=>(hid b (O.blk (by
   obtain⟨a,c,rfl⟩:=O.form
   exact hb))).2)
  have hr:=a_0 (h':=h') (ρ:=ρ) O (λb hb=>(hid b hb).1) λb hb=>by
   have:=q_6 hb
   exact x4 b (by obtain⟨a,c,rfl⟩:=O.form;exact this) (hid b hb).1
  have rn:renV ρ o=renC ρ o:=by obtain⟨a,c,rfl⟩:=O.form;rfl
  have fm:∀l:List Value,B_5 l=true→∀v∈l,flat1 v=true:=λl=>by
   induction l with
   |nil=>intro _ v hv;cases hv
   | cons x l ih =>
    intro z v hv
    have z:(match flat1 x with|true=>B_5 l|false=>false)=true:=z
    cases z1:flat1 x with
    |false=>rw[z1] at z;cases z
    |true=>
     rw[z1] at z
     rcases List.mem_cons.1 hv with rfl|hv
     ·exact z1
     ·exact ih z v hv
  have rf:∀(v:Value)(u:Nat)(M:List (List Value)),flat1 v=true→Rd h v u M→Rd h' v u M:=λv u M fv r=>by
   obtain⟨⟨hu,r1⟩,r2⟩:=r
   rcases r1 with⟨a,c,rfl,rfl⟩|⟨id,o,c,cs,sz,e,u',rw_,f,rfl,_⟩
   ·exact⟨⟨hu,.inl ⟨a,c,rfl,rfl⟩⟩,λb hb=>by cases hb⟩
   ·cases fv
  refine⟨_,_,e2,q _ _ ⟨x1,x2⟩ ⟨L,rfl,?_,λe he=>?_⟩⟩
  ·rw[rn]
   exact OwnSl.rdN hr.1 l4 (List.length_map _) λb hb=>(hr.2 b hb).2
  ·obtain⟨dv,nv,a,b,c⟩:=P e he
   have fa:∀v∈e.1,flat1 v=true:=λv hv=>fm _ ff v (List.mem_flatten.2 ⟨e.1,List.mem_map.2 ⟨e,he,rfl⟩,hv⟩)
   exact⟨dv,nv,a,rf _ _ _ (fa dv (by rw[a];simp)) b,rf _ _ _ (fa nv (by rw[a];simp)) c⟩
def MapKs(h:Hs)(m:Option Nat)(ks:List Str):Prop:=(m=none∧ks = [])∨∃b es cl,m=some b∧h.hp.get b=some (.mp es cl)∧L_v keyS F_d es cl=some ks
def CSortS(R:RnK):Prop:=∀(h:Hs)(k:Nat)(m:Option Nat)(ks:List Str),Holds (h.hp.get k) (.row 47 0 true false [.map m])→MapKs h m ks→WP (R 30 [.func (.func 53) #[] #[pV k]] h) λv h'=>NewS h h' v (G_a B_0 ks)
theorem u_x{h:Hs}{k:Nat}{m:Option Nat}{ks:List Str}(hb:Holds (h.hp.get k) (.row 47 0 true false [.map m]))(M:MapKs h m ks):WP (M_c keyS F_d Go.Proofs.encStr B_0 53 9 [.func (.func 53) #[] #[pV k]] h) λv h'=>NewS h h' v (G_a B_0 ks):=by
 show WP (b_h keyS F_d Go.Proofs.encStr B_0 9 h (N_s 53 h _)) _
 rw[v_o hb]
 rcases M with⟨rfl,rfl⟩|⟨b,es,cl,rfl,e1,e2⟩
 ·exact⟨_,_,rfl,Same.refl h,⟨rfl,.inl ⟨rfl,rfl⟩⟩,λb hb=>by cases hb⟩
 ·show WP (W_c keyS F_d Go.Proofs.encStr B_0 9 h (h.hp.get b)) _
  rw[e1]
  show WP (F_f Go.Proofs.encStr B_0 9 h (L_v keyS F_d es cl)) _
  rw[e2]
  exact U_u _ h ks
def CSortI(R:RnK):Prop:=∀(h:Hs)(k b:Nat)(es:List MapEntry)(cl:Nat)(ks:List Int),Holds (h.hp.get k) (.row 43 0 true false [.map (some b)])→h.hp.get b=some (.mp es cl)→L_v keyI Gev.eqI es cl=some ks →
 WP (R 28 [.func (.func 50) #[] #[pV k]] h) λv h'=>New h h' (.osl v 3 1 true (G_a Gev.leI ks).length ((G_a Gev.leI ks).map (Value.int .i64)))
theorem u_w{h:Hs}{k b:Nat}{es:List MapEntry}{cl:Nat}{ks:List Int}(hb:Holds (h.hp.get k) (.row 43 0 true false [.map (some b)]))(e1:h.hp.get b=some (.mp es cl))(e2:L_v keyI Gev.eqI es cl=some ks) :
 WP (M_c keyI Gev.eqI encZ Gev.leI 50 3 [.func (.func 50) #[] #[pV k]] h) λv h'=>New h h' (.osl v 3 1 true (G_a Gev.leI ks).length ((G_a Gev.leI ks).map (Value.int .i64))):=by
 show WP (b_h keyI Gev.eqI encZ Gev.leI 3 h (N_s 50 h _)) _
 rw[v_o hb]
 show WP (W_c keyI Gev.eqI encZ Gev.leI 3 h (h.hp.get b)) _
 rw[e1]
 show WP (F_f encZ Gev.leI 3 h (L_v keyI Gev.eqI es cl)) _
 rw[e2]
 exact i_v _ h ks
theorem Ag5(a b c:Int)(h1:Gev.leI a b=true)(h2:Gev.leI b c=true):Gev.leI a c=true:=by rw[H_f] at *;simp only[decide_eq_true_eq] at *;omega
theorem Ag4(a b:Int):(Gev.leI a b||Gev.leI b a)=true:=by rw[H_f,H_f];simp only[Bool.or_eq_true,decide_eq_true_eq];omega
theorem z_0{h:Hs}{t:TS}(A:TrAt h t)(W:WF t.T t.most)(hB:t.B≤50000):∃(ns:List Nat) (es:List MapEntry) (cl:Nat) (ks:List Int),(∀n,n∈ns↔t.T n≠none)∧ns.Nodup∧ns.Pairwise (· ≤ ·)∧ns.length=t.c∧ns.length≤50000∧h.hp.get t.mb=some (.mp es cl)∧L_v keyI Gev.eqI es cl=some ks∧G_a Gev.leI ks=ns.map Int.ofNat:=by
 obtain⟨es,cl,mp,M⟩:=A.mp
 obtain⟨l,el,hl,nd,hc⟩:=M.ex
 have cc:=M.cc
 have clB:=M.cl
 have mem:∀n,n∈E_f l↔t.T n≠none:=λn=>by
  constructor
  ·intro q e
   exact absurd q (H_j.1 (by rw[hl,e];rfl))
  ·intro q
   refine Classical.byContradiction λq2=>?_
   have:=H_j.2 q2
   rw[hl] at this
   cases e:t.T n with
   |none=>exact q e
   |some m=>rw[e] at this;cases this
 have ks:=d_d (l:=l) (λn hn=>by
  cases e:t.T n with
  |none=>exact absurd e ((mem n).1 hn)
  |some x=>
   have:=(W.lo n x e).2
   have:=W.mo
   omega)
 have ndI:((E_f l).map Int.ofNat).Nodup:=(List.pairwise_map).2 (nd.imp λ{a b} hab e=>hab (by injection e))
 have ll:(E_f l).length=t.c:=by unfold E_f;rw[List.length_map,hc]
 have pm:=E_8 Gev.leI ((E_f l).map Int.ofNat)
 have so:=J_q Ag5 Ag4 ((E_f l).map Int.ofNat)
 have ei:G_a Gev.leI ((E_f l).map Int.ofNat)=((G_a Gev.leI ((E_f l).map Int.ofNat)).map Int.toNat).map Int.ofNat:=by
  rw[List.map_map]
  have:∀m:List Int,(∀z∈m,∃n:Nat,z=Int.ofNat n)→m=m.map (Int.ofNat ∘ Int.toNat):=λm=>by
   induction m with
   |nil=>intro _;rfl
   |cons z m ih=>
    intro h
    obtain⟨n,rfl⟩:=h z List.mem_cons_self
    rw[List.map_cons,←ih λz hz=>h z (List.mem_cons_of_mem _ hz)];rfl
  exact this _ λz hz=>by
   obtain⟨n,_,rfl⟩:=List.mem_map.1 (pm.mem_iff.1 hz)
   exact⟨n,rfl⟩
 have mem2:∀n:Nat,n∈(G_a Gev.leI ((E_f l).map Int.ofNat)).map Int.toNat↔t.T n≠none:=λn=>by
  rw[←mem]
  constructor
  ·intro q
   obtain⟨z,hz,rfl⟩:=List.mem_map.1 q
   obtain⟨n,hn,rfl⟩:=List.mem_map.1 (pm.mem_iff.1 hz)
   exact hn
  ·intro q
   exact List.mem_map.2 ⟨Int.ofNat n,pm.mem_iff.2 (List.mem_map.2 ⟨n,q,rfl⟩),rfl⟩
 refine⟨_,es,cl,_,mem2,?_,?_,?_,?_,mp,d_f M (by rw[el];exact ks) (λa b q=>by rw[eqI_eq] at q;simpa using q) ndI (by rw[List.length_map,ll];omega),ei⟩
 ·have:=pm.nodup_iff.2 ndI
  rw[ei] at this
  exact((List.pairwise_map).1 this).imp λ{a b} hab e=>hab (by rw[e])
 ·have:=so
  rw[ei] at this
  exact((List.pairwise_map).1 this).imp λ{a b} hab=>by rw[H_f] at hab;have:=of_decide_eq_true hab;simpa using this
 ·rw[List.length_map,pm.length_eq,List.length_map,ll]
 ·rw[List.length_map,pm.length_eq,List.length_map,ll];omega
abbrev L11:=Value→Value→Value→Value→Value→Value→Value→Value→Value→Value→Value→Hs→An
abbrev L3:=Value→Value→Value→Hs→An
def PtA(P:Nat→Prop)(h:Hs)(l:List Value)(p:Prt):Prop:=∃dv nv,l = [kI p.n,kI p.k,dv,nv]∧Rd h dv 1 (ones (A_s p.data))∧Rd h nv 2 (rwN p.nm)∧∀b,(Th.id (.rsl dv 1 (ones (A_s p.data)))=some b∨Th.id (.rsl nv 2 (rwN p.nm))=some b)→P b
theorem PtA.at_{P:Nat→Prop}{h:Hs}{l:List Value}{p:Prt}(A:PtA P h l p):PartAt h l p:=by
 obtain⟨dv,nv,a,b,c,_⟩:=A
 exact⟨dv,nv,a,b,c⟩
theorem PtA.ext{P P':Nat→Prop}{h h':Hs}{l:List Value}{p:Prt}(A:PtA P h l p)(hn:h.nx≤h'.nx)(hg:∀b,P b→b<h.nx→h'.hp.get b=h.hp.get b)(hP:∀b,P b→b<h.nx→P' b):PtA P' h' l p:=by
 obtain⟨dv,nv,a,b,c,d⟩:=A
 exact⟨dv,nv,a,b.ext hn λi hi=>hg i (d i (.inl hi)) (b.2 i hi),c.ext hn λi hi=>hg i (d i (.inr hi)) (c.2 i hi),λi hi=>hP i (d i hi) (hi.elim (b.2 i) (c.2 i))⟩
theorem PtA.len{P:Nat→Prop}{h:Hs}{l:List Value}{p:Prt}(A:PtA P h l p):l.length=4:=by
 obtain⟨dv,nv,rfl,_⟩:=A
 rfl
structure PI (h:Hs) (t:TS) (kv:Value) (ns:List Nat) (u:Hs) (o:Value) (i:Nat) (L:List (List Value × Prt)):Prop where
 tr:TrAt u t
 ex:Ext h u
 lo:h.nx≤u.lo
 hn:h.nx<u.nx
 bx:Holds (u.hp.get h.nx) (.row 43 0 true false [.map (some t.mb)])
 kr:Rd u kv 1 (ones (ns.map kI))
 ki:∀b,Th.id (.rsl kv 1 (ones (ns.map kI)))=some b→h.nx<b
 ow:OwnSl u o 57 4 false i (L.map (·.1)).flatten
 fx:FlX u o (L.map (·.1)).flatten
 oi:∀b,vId o=some b→h.nx<b∧b<u.nx∧Th.id (.rsl kv 1 (ones (ns.map kI)))≠some b
 ll:L.length=i
 nn:L.map (λq=>q.2.n)=ns.take i
 pt:∀q∈L,PtA (λb=>h.nx<b∧vId o≠some b) u q.1 q.2∧IsPrt t.T q.2∧q.2.nm.length≤50000
theorem z_m(l:List (Str × Nat))(e:Str × Nat):(rwN (l ++ [e])).flatten=(rwN l).flatten ++ [sV e.1,kI e.2]:=by
 unfold rwN
 rw[List.map_append,List.flatten_append];rfl
def PartsQ(h:Hs)(t:TS)(v:Value)(h':Hs):Prop:=Gev.Same h h'∧∃ps,IsPrts t.T ps∧PartsAt h' v ps∧ps.length≤50000∧∀p∈ps,p.nm.length≤50000
def CPartsT(R:RnK):Prop:=∀(h:Hs)(t:TS),TrAt h t→WF t.T t.most→t.B≤50000→WP (R 12 [pV t.p] h) (PartsQ h t)
theorem o_w{R:RnK}{N:Nat}(hN:100000<N)(cki:CKeysI R)(cks:CKeysS R)(csi:CSortI R)(css:CSortS R)(cbc:CBClone R){h:Hs}{t:TS}(A:TrAt h t)(W:WF t.T t.most)(hB:t.B≤50000):WP (r12 R N [pV t.p] h) (PartsQ h t):=by
 have H0:=Sto.enter h
 have A0:=A.st H0
 have r0:t.L.ro h.nx=none:=A.fr _ (Nat.le_refl _)
 unfold r12
 repeat' (first|(with_reducible first|refine D_c ?_|refine D_p ?_|refine A_c ?_|refine C_g ?_))
 refine t_mp A0 rfl ?_
 refine C_n (cki _ _) λv1 u1 b1=>?_
 obtain⟨rfl,s1,x1,n1⟩:=b1
 have A1:=A0.ext s1.1.1 λb hb _=>s1.1.2 b hb
 obtain⟨ns,es,cl,ks,k1,k2,k3,k4,k5,k6,k7,k8⟩:=z_0 A1 W hB
 refine C_n (csi u1 _ _ es cl ks x1 k6 k7) λkv u2 nw=>?_
 rw[k8] at nw
 have ek:(ns.map Int.ofNat).map (Value.int .i64)=ns.map kI:=by rw[List.map_map];rfl
 rw[ek,List.length_map] at nw
 obtain⟨s2,kb,kid⟩:=nw
 have kb:OwnSl u2 kv 3 1 true ns.length (ns.map kI):=kb
 have kid:∀b,vId kv=some b→u1.nx≤b∧b<u2.nx:=kid
 have krd:=OwnSl.rd1 kb
 have n1:h.nx<u1.nx:=n1
 have s11:h.nx≤u1.nx:=s1.1.1
 have I0:PI h t kv ns u2 (.slice none 0 0) 0 []:=by
  refine⟨A1.ext s2.1.1 λb hb _=>s2.1.2 b hb,⟨Nat.le_trans s11 s2.1.1,λb hb=>(s2.1.2 b (llN hb s11)).trans (s1.1.2 b hb)⟩,?_,llN n1 s2.1.1,?_,⟨krd.1,λb hb=>(kid b (krd.2 b hb)).2⟩,λb hb=>?_,⟨rfl,.inl ⟨rfl,rfl⟩⟩,λb hb=>(by cases hb),λb hb=>(by cases hb),rfl,rfl,λq hq=>by cases hq⟩
  ·rw[s2.2,s1.2];exact Nat.le_refl _
  ·rw[s2.1.2 _ n1];exact x1
  ·have:=(kid b (krd.2 b hb)).1
   omega
 obtain⟨ka,kc,kf⟩:=kb.form
 rw[kf]
 refine K_s ?_
 rw[←kf]
 clear kb krd kid
 repeat' (first|(with_reducible refine w_jn ?_))
 refine L_6 (Good:=λr (self:L11)=>∀(i:Nat)(y2 y3 y4 y5 y6 y7 y8 y9 y10 o:Value)(u:Hs)(L:List (List Value × Prt)),i+r=ns.length→PI h t kv ns u o i L→WP (self (kI i) y2 y3 y4 y5 y6 y7 y8 y9 y10 o u) (PartsQ h t))
  (λr self ih i y2 y3 y4 y5 y6 y7 y8 y9 y10 o ub L hi I=>?_) N ns.length (by omega) 0 _ _ _ _ _ _ _ _ _ _ u2 [] (by omega) I0
 clear I0 s1 s2 x1 n1 A1 H0 A0
 have H:Sto ub [h.nx] ub [.blk h.nx (.row 43 0 true false [.map (some t.mb)]),.rsl kv 1 (ones (ns.map kI))]:=by
  refine⟨Nat.le_refl _,λ_ _ _=>rfl,λk _ hk=>Nat.le_trans (hk h.nx (by simp)) I.lo,λt ht=>?_,λt ht b hb=>?_,λ_ _ _=>rfl,λi j s s' hi hj hij hx b hb hb2=>?_⟩
  ·rcases List.mem_cons.1 ht with rfl|ht
   ·exact I.bx
   ·rw[List.mem_singleton.1 ht];exact I.kr.1
  ·rcases List.mem_cons.1 ht with rfl|ht
   ·injection hb with hb
    subst hb
    exact⟨I.hn,λ_=>.inr (by simp)⟩
   ·rw[List.mem_singleton.1 ht] at hb ⊢
    exact⟨I.kr.2 b hb,λz=>by cases z⟩
  ·match i,j,hi,hj with
   |0,0,_,_=>exact absurd rfl hij
   |0,1,hi,hj=>
    injection hi with hi;injection hj with hj
    subst hi hj
    injection hb with hb
    have:=I.ki b hb2
    omega
   |0,j+2,_,hj=>simp at hj
   |1,_,hi,_=>
    injection hi with hi
    subst hi
    cases hx
   |i+2,_,hi,_=>simp at hi
 repeat' (first|(with_reducible first|refine w_jn ?_|refine C_j ?_|refine B_p ?_)|((with_reducible refine D_7 (λ_=>?_) (λ_=>?_))<;>first|(exfalso;omega)|skip))
 ·have il : i < ns.length := by omega
  have ro:∀s ∈ [h.nx],t.L.ro s=none:=λs q=>by rw[List.mem_singleton.1 q];exact r0
  obtain⟨n,hnq⟩:∃n,n=ns[i]:=⟨_,rfl⟩
  have hg:(ones (ns.map kI))[i]?=some [kI n]:=by unfold ones;rw[List.getElem?_map,List.getElem?_map,gqG il,hnq];rfl
  refine z_5 1 H rfl hg rfl rfl ?_
  clear hg
  have hx0:t.T n≠none:=(k1 n).1 (by rw[hnq];exact List.getElem_mem il)
  obtain⟨x,hx⟩:∃x,t.T n=some x:=by
   cases e:t.T n with
   |none=>exact absurd e hx0
   |some x=>exact⟨x,rfl⟩
  have A1:=I.tr
  repeat' (first|(with_reducible first|refine A_c ?_|refine C_g ?_))
  refine t_mp A1 rfl ?_
  refine t_lk A1 hx ?_
  repeat' (first|(with_reducible first|refine A_c ?_|refine C_g ?_))
  refine t_k A1 hx rfl ?_
  repeat' (first|(with_reducible first|refine A_c ?_|refine C_g ?_))
  refine t_dv A1 hx rfl ?_
  have dl:=(W.da n x hx).1
  refine C_n (cbc _ x.data ⟨ub.hp,ub.nx,ub.nx⟩ (by omega) ((A1.it n x hx).rdd.lo ub.nx)) λv3 u3 n3=>?_
  refine b_z n3 λu4 n4=>?_
  have H4:=H.call n4
  clear H
  have H:=H4
  clear H4
  have d4:∀b,vId v3=some b→ub.nx≤b:=λb hb=>(n4.2.2 b hb).1
  obtain⟨da,dc,df⟩:∃a c,v3=.slice a x.data.length c:=OwnSl.form n4.2.1
  have A4:=A1.sto H ro
  subst df
  repeat' (first|(with_reducible first|refine A_c ?_|refine C_g ?_|refine J_6 ?_)|((with_reducible apply D_w) ;rfl;(try dsimp only[splice,ev,A_p,rep,List.cons_append,List.nil_append]))|((with_reducible refine N_5 ?_ ?_) ;omega)|((with_reducible refine e_p H ?_) ;(clear H;intro u H hu))|((with_reducible apply B_w 0 H) ;rfl;rfl;rfl;omega;rfl;(clear H;intro u H hu;(try dsimp only[List.set_cons_zero,List.set_cons_succ,A_p,List.toList_toArray,splice,ev,rep,List.cons_append,List.nil_append] at H))))
  have A5:=I.tr.sto H ro
  refine t_it A5 hx 2 rfl rfl ?_
  obtain⟨mo,hmo⟩:∃mo,mo=(if x.k=2 then some (t.L.nb n) else none):=⟨_,rfl⟩
  have em:nmV t.L n x=.map mo:=by rw[hmo];rfl
  rw[em]
  refine C_n (cks u mo) λv6 u6 b6=>?_
  obtain⟨rfl,s6,x6,n6⟩:=b6
  have A6:=A5.ext s6.1.1 λb hb _=>s6.1.2 b hb
  have H6:=H.same s6
  clear H
  obtain⟨ks2,mk,m1,m2,m3⟩:∃ks2,MapKs u6 mo ks2∧ks2.Nodup∧(∀s,s∈ks2↔x.names s≠none)∧ks2.length≤50000:=by
   by_cases q2:x.k=2
   ·obtain⟨_,_,es2,cl2,nm,M2⟩:=(A6.it n x hx).nm q2
    obtain⟨ks2,q3,q4,q5,q6⟩:=d_o W hB hx M2
    refine⟨ks2,.inr ⟨_,_,_,by rw[hmo,if_pos q2],nm,q3⟩,q4,q6,?_⟩
    rw[q5]
    have:=M2.cc
    have:=M2.cl
    omega
   ·refine⟨[],.inl ⟨by rw[hmo,if_neg q2],rfl⟩,List.nodup_nil,λs=>⟨λq=>(by cases q),λq=>?_⟩,by simp⟩
    cases e:x.names s with
    |none=>exact absurd e q
    |some m=>exact absurd (W.nm n x s m hx e).1 q2
  refine C_n (css u6 _ _ ks2 x6 mk) λv7 u7 n7=>?_
  obtain⟨l,hl⟩:∃l,l=G_a B_0 ks2:=⟨_,rfl⟩
  rw[←hl] at n7
  have H7:=H6.call n7
  clear H6
  have rd7:=OwnSl.rd1 n7.2.1
  have H8:=H7.read 0 (t':=.rsl v7 1 (ones (strs l))) rfl rfl rd7.1 rd7.2 rfl
  clear H7
  have H:=H8.cons (.osl (.slice none 0 0) 61 2 true 0 []) ⟨rfl,.inl ⟨rfl,rfl⟩⟩ (λb hb=>by cases hb) (λs hs _ b hb=>by cases hb)
  clear H8
  dsimp only[List.set_cons_zero] at H
  obtain⟨sa,sc,sf⟩:∃a c,v7=.slice a l.length c:=OwnSl.form n7.2.1
  have l1:∀s,s∈l↔x.names s≠none:=λs=>by rw[hl,(E_8 B_0 ks2).mem_iff];exact m2 s
  have l2:l.Nodup:=by rw[hl];exact(E_8 B_0 ks2).nodup_iff.2 m1
  have l3:l.Pairwise (λa b=>B_0 a b=true):=by rw[hl];exact J_q Ag7 Ag6 ks2
  have l4:l.length≤50000:=by rw[hl,(E_8 B_0 ks2).length_eq];exact m3
  clear hl rd7 n7 mk m1 m2 m3 x6 s6 A6 A5 n6
  subst sf
  obtain⟨g,hgg⟩:∃g:Str→Str × Nat,g=λs=>(s,(x.names s).getD 0):=⟨_,rfl⟩
  have un4:ub.nx≤u4.nx:=n4.1.1.1
  have hpn:u4.nx<u7.nx:=H.lt 2 rfl
  repeat' (first|(with_reducible first|refine w_jn ?_|refine K_s ?_))
  refine L_6 (Good:=λr2 (self2:L3)=>∀(j:Nat)(fl flp:Bool)(z y2 y3:Value)(w:Hs),j+r2=l.length→Sto ub [h.nx] w [.osl z 61 2 fl j (rwN ((l.take j).map g)).flatten,.rsl (.slice sa l.length sc) 1 (ones (strs l)),.blk u4.nx (.row 57 0 true flp [kI n,kI x.k,.slice da x.data.length dc,z]),.osl (.slice da x.data.length dc) 5 1 true x.data.length (A_s x.data),.blk h.nx (.row 43 0 true false [.map (some t.mb)]),.rsl kv 1 (ones (ns.map kI))]→WP (self2 (kI j) y2 y3 w) (PartsQ h t))
   (λr2 self2 ih2 j fl flp z y2 y3 w hj H1=>?_) N l.length (by omega) 0 true _ _ _ _ u7 (by omega) H
  clear H
  have H:=H1
  clear H1
  repeat' (first|(with_reducible first|refine w_jn ?_|refine C_j ?_|refine B_p ?_)|((with_reducible apply S_z H) ;rfl;(clear H;intro u H hu;(try dsimp only[List.set_cons_zero,List.set_cons_succ,A_p,List.toList_toArray,splice,ev,rep,List.cons_append,List.nil_append] at H)))|((with_reducible refine D_7 (λ_=>?_) (λ_=>?_))<;>first|(exfalso;omega)|skip)|((with_reducible apply L_m 2 H) ;rfl;rfl;rfl))
  ·rename_i jl
   obtain⟨s,hs⟩:∃s,s=l[j]:=⟨_,rfl⟩
   have hg:(ones (strs l))[j]?=some [sV s]:=by unfold ones strs;rw[List.getElem?_map,List.getElem?_map,gqG jl,hs];rfl
   refine z_5 1 H rfl hg rfl rfl ?_
   clear hg
   have sx:x.names s≠none:=(l1 s).1 (by rw[hs];exact List.getElem_mem jl)
   obtain⟨m,hm⟩:∃m,x.names s=some m:=by
    cases e:x.names s with
    |none=>exact absurd e sx
    |some m=>exact⟨m,rfl⟩
   have q2:x.k=2:=(W.nm n x s m hx hm).1
   have A8:=I.tr.sto H ro
   repeat' (first|(with_reducible first|refine A_c ?_|refine C_g ?_)|((with_reducible apply D_g 2 H) ;rfl;rfl;rfl))
   refine t_nm A8 hx q2 rfl ?_
   refine Al0 (A8.en w.nx) hx q2 hm ?_
   repeat' (first|(with_reducible first|refine Q_r ?_|refine J_6 ?_)|((with_reducible apply D_w) ;rfl;(try dsimp only[splice,ev,A_p,rep,List.cons_append,List.nil_append])))
   refine v_i H rfl λu8 H8 hu8=>?_
   clear H
   have H:=H8
   clear H8
   refine S_t 1 0 H rfl rfl rfl rfl (by decide) (by omega) λz' u9 H9 hn9=>?_
   have eT:(rwN ((l.take j).map g)).flatten ++ [sV s,kI m]=(rwN ((l.take (j+1)).map g)).flatten:=by
    rw[List.take_add_one,gqG jl,←hs]
    show _=(rwN (List.map g (List.take j l ++ [s]))).flatten
    rw[List.map_append]
    show _=(rwN (List.map g (List.take j l) ++ [g s])).flatten
    rw[z_m,hgg]
    dsimp only
    rw[hm];rfl
   have H2:Sto ub [h.nx] u9 [.osl z' 61 2 (fl&&B_5 [sV s,kI m]) (j+1) (rwN ((l.take (j+1)).map g)).flatten,.rsl (.slice sa l.length sc) 1 (ones (strs l)),.blk u4.nx (.row 57 0 true flp [kI n,kI x.k,.slice da x.data.length dc,z]),.osl (.slice da x.data.length dc) 5 1 true x.data.length (A_s x.data),.blk h.nx (.row 43 0 true false [.map (some t.mb)]),.rsl kv 1 (ones (ns.map kI))]:=by
    have:=H9.tail
    rw[←eT]
    exact this
   clear H9 H
   have H:=H2
   clear H2
   refine N_5 (by omega) ?_
   obtain⟨za,zc,zf⟩:∃a c,z'=.slice a (j+1) c:=OwnSl.form (H.ok _ (mgE (i:=0) rfl))
   subst zf
   repeat' (first|(with_reducible refine A_c ?_)|((with_reducible first|refine N_5 ?_ ?_|refine D_b ?_ ?_) ;omega)|((with_reducible apply O_5 2 H) ;rfl;(simp only[List.length_cons,List.length_nil];omega);rfl;(clear H;intro u H hu;(try dsimp only[List.set_cons_zero,List.set_cons_succ,A_p,List.toList_toArray,splice,ev,rep,List.cons_append,List.nil_append] at H))))
   exact ih2 (r2-1) (by omega) (j+1) _ _ _ _ _ _ (by omega) H
  ·have je:j=l.length:=by omega
   subst je
   rw[List.take_length] at H
   obtain⟨za,zc,zf⟩:∃a c,z=.slice a l.length c:=OwnSl.form (H.ok _ (mgE (i:=1) rfl))
   subst zf
   have rowH:=H.holds 0 rfl
   have un:ub.nx≤u.nx:=H.nx
   have og:∀b,vId o=some b→u.hp.get b=ub.hp.get b:=λb hb=>H.fr b (I.oi b hb).2.1 λq=>by
    have:=(I.oi b hb).1
    rw[List.mem_singleton.1 q] at this
    omega
   obtain⟨o',w',e1,e2,e3,e4,e5,e6,e7⟩:=w_t (by_:=64) (c:=1) (I.ow.congr og) (I.fx.congr og) rowH rfl rfl (by omega)
   rw[e1]
   refine b_w ?_
   repeat' (first|((with_reducible refine D_b ?_ ?_) ;omega))
   have oi:=I.oi
   have hn0:=I.hn
   have wn:w.nx<u.nx:=H.lt 0 rfl
   have kr:=H.rd 6 rfl
   have hne:∀b,b≠h.nx→b ∉ [h.nx]:=λb q z=>q (List.mem_singleton.1 z)
   have lg:(l.map g).map (·.1)=l:=by
    rw[hgg,List.map_map]
    exact List.map_id' l
   have zb:∀b,vId (.slice za l.length zc)=some b→ub.nx≤b∧b<u.nx:=λb hb=>by
    have q:=H.ids _ (mgE (i:=1) rfl) b hb
    refine⟨(q.2 rfl).elim id λz=>?_,q.1⟩
    rw[List.mem_singleton.1 z] at hb
    exact absurd rfl (H.dj 1 5 _ _ rfl rfl (by decide) rfl h.nx hb)
   have db:∀b,vId (.slice da x.data.length dc)=some b→ub.nx≤b∧b<u.nx:=λb hb=>⟨d4 b hb,(H.ids _ (mgE (i:=4) rfl) b hb).1⟩
   have rdD:=H.rdO 4 rfl
   have idD:=(OwnSl.rd1 (H.ok _ (mgE (i:=4) rfl))).2
   have l2z:∀q∈rwN (l.map g),q.length=2:=λq hq=>by
    obtain⟨_,_,rfl⟩:=List.mem_map.1 hq
    rfl
   have rdZ:Rd u (.slice za l.length zc) 2 (rwN (l.map g)):=OwnSl.rdN (H.ok _ (mgE (i:=1) rfl)) l2z (by unfold rwN;rw[List.length_map,List.length_map]) λb hb=>(zb b hb).2
   have idZ:∀b,Th.id (.rsl (.slice za l.length zc) 2 (rwN (l.map g)))=some b→vId (.slice za l.length zc)=some b:=λb hb=>by
    cases hq:rwN (l.map g) with
    |nil=>rw[hq] at hb;cases hb
    |cons a b'=>rw[hq] at hb;exact hb
   have keep:∀b,ub.nx≤b→b<u.nx→w'.hp.get b=u.hp.get b:=λb q1 q2=>e5 b q2 λz=>by
    have:=(oi b z).2.1
    omega
   have efl:((L ++ [([kI n,kI x.k,.slice da x.data.length dc,.slice za l.length zc],(⟨n,x.k,x.data,l.map g⟩:Prt))]).map (·.1)).flatten=(L.map (·.1)).flatten ++ [kI n,kI x.k,.slice da x.data.length dc,.slice za l.length zc]:=by
    rw[List.map_append,List.flatten_append];rfl
   refine ih (r-1) (by omega) (i+1) _ _ _ _ _ _ _ _ _ o' w' (L ++ [([kI n,kI x.k,.slice da x.data.length dc,.slice za l.length zc],⟨n,x.k,x.data,l.map g⟩)]) (by omega) ⟨?_,?_,?_,by omega,?_,?_,I.ki,?_,?_,λb hb=>?_,?_,?_,λq hq=>?_⟩
   ·refine(I.tr.sto H ro).ext e4 λb hb hr=>e5 b hb λz=>hr (A.fr b (Nat.le_of_lt (oi b z).1))
   ·have:=I.ex.1
    exact⟨by omega,λb hb=>(e5 b (by omega) λz=>by have:=(oi b z).1;omega).trans ((H.fr b (by omega) (hne b (by omega))).trans (I.ex.2 b hb))⟩
   ·refine e6 h.nx (H.lo h.nx (by omega) λs q=>by rw[List.mem_singleton.1 q];exact Nat.le_refl _) (by omega) λb hb=>Nat.le_of_lt (oi b hb).1
   ·rw[e5 h.nx (by omega) λz=>by have:=(oi _ z).1;omega]
    exact H.holds 5 rfl
   ·exact kr.ext e4 λb hb=>e5 b (kr.2 b hb) λz=>(oi b z).2.2 hb
   ·rw[efl];exact e2
   ·rw[efl];exact e3
   ·have:=e7 b hb
    exact⟨by omega,this.2,λz=>by have:=kr.2 b z;omega⟩
   ·rw[List.length_append,I.ll];rfl
   ·rw[List.map_append,I.nn,List.take_add_one,gqG il,←hnq];rfl
   ·rcases List.mem_append.1 hq with hq|hq
    ·refine⟨(I.pt q hq).1.ext (by omega) (λb pb hb=>(e5 b (by omega) pb.2).trans (H.fr b hb (hne b (by have:=pb.1;omega)))) λb pb hb=>⟨pb.1,λz=>by have:=e7 b z;omega⟩,(I.pt q hq).2⟩
    ·rw[List.mem_singleton.1 hq]
     refine⟨⟨_,_,rfl,rdD.ext e4 λb hb=>keep b (db b (idD b hb)).1 (db b (idD b hb)).2,rdZ.ext e4 λb hb=>keep b (zb b (idZ b hb)).1 (zb b (idZ b hb)).2,λb hb=>?_⟩,⟨⟨x,hx,rfl,rfl,λs=>?_,λe he=>?_⟩,?_,?_⟩,by show (l.map g).length≤50000;rw[List.length_map];exact l4⟩
     ·have q:ub.nx≤b∧b<u.nx:=hb.elim (λz=>db b (idD b z)) λz=>zb b (idZ b z)
      exact⟨by omega,λz=>by have:=e7 b z;omega⟩
     ·show s∈(l.map g).map (·.1)↔_
      rw[lg];exact l1 s
     ·obtain⟨s,hs,rfl⟩:=List.mem_map.1 he
      cases e:x.names s with
      |none=>exact absurd e ((l1 s).1 hs)
      |some m=>
       rw[hgg]
       dsimp only
       rw[e];rfl
     ·show ((l.map g).map (·.1)).Nodup
      rw[lg];exact l2
     ·show ((l.map g).map (·.1)).Pairwise _
      rw[lg];exact l3
 ·have il:i=ns.length:=by omega
  refine Al9 (e:=57) I.ex I.lo (by rw[I.ll];exact I.ow) I.fx (λb hb=>⟨Nat.le_of_lt (I.oi b hb).1,(I.oi b hb).2.1⟩) (λq hq=>(I.pt q hq).1.at_) λv' h' s p=>⟨s,_,⟨?_,?_,?_,λp hp=>?_⟩,p,by rw[List.length_map,I.ll];omega,λp hp=>?_⟩
  ·have e:(L.map (·.2)).map (·.n)=ns:=by
    rw[List.map_map]
    have:=I.nn
    rw[il,List.take_length] at this
    exact this
   intro n
   rw[e];exact k1 n
  ·have e:(L.map (·.2)).map (·.n)=ns:=by
    rw[List.map_map]
    have:=I.nn
    rw[il,List.take_length] at this
    exact this
   rw[e];exact k2
  ·have e:(L.map (·.2)).map (·.n)=ns:=by
    rw[List.map_map]
    have:=I.nn
    rw[il,List.take_length] at this
    exact this
   rw[e];exact k3
  ·obtain⟨q,hq,rfl⟩:=List.mem_map.1 hp
   exact(I.pt q hq).2.1
  ·obtain⟨q,hq,rfl⟩:=List.mem_map.1 hp
   exact(I.pt q hq).2.2
abbrev yesQ(h:Hs):Value→Hs→Prop:=λv h'=>v=.bool true∧h'=h
def CBEq(R:RnK):Prop:=∀(h:Hs)(a b:Value)(D:Str),Rd h a 1 (ones (A_s D))→Rd h b 1 (ones (A_s D))→WP (R 26 [a,b] h) (yesQ h)
theorem Ac1{R:RnK}{N:Nat}{h:Hs}{a b:Value}{D:Str}(r:Rd h a 1 (ones (A_s D)))(r2:Rd h b 1 (ones (A_s D))):WP (r26 R N [a,b] h) (yesQ h):=by
 have H:=Sto.enter2 r r2
 unfold r26
 repeat' (first|(with_reducible first|refine D_c ?_|refine D_p ?_))
 refine W_v 0 H rfl ?_
 refine W_v 1 H rfl ?_
 refine Aw7 rfl rfl (λ_=>?_) (λq=>absurd rfl q)
 exact B_z H rfl ⟨rfl,rfl⟩
theorem s_h(s:Str)(n:Nat):e2 true (qA [.s,.i]) (.agg #[sV s,kI n]) (.agg #[sV s,kI n])=some (.bool false):=by
 have e1:L_y .s (sV s) (sV s)=some true:=by
  show some (eqL s s)=_
  rw[l_a,decide_eq_true rfl]
 have e2':L_y .i (kI n) (kI n)=some true:=by
  show eqI2 .i64 (.ofNat n) (.int .i64 (.ofNat n))=_
  rw[c_j,decide_eq_true rfl]
 show e_4 true (match L_y .s (sV s) (sV s) with|some t=>(match t with|true=>(match L_y .i (kI n) (kI n) with|some t=>(match t with|true=>some true|false=>some false)|none=>none)|false=>some false)|none=>none)=_
 rw[e1,e2'];rfl
abbrev L5e:=Value→Value→Value→Value→Value→Hs→An
def CNEq(R:RnK):Prop:=∀(h:Hs)(a b:Value)(l:List (Str × Nat)),l.length≤90000→Rd h a 2 (rwN l)→Rd h b 2 (rwN l)→WP (R 27 [a,b] h) (yesQ h)
theorem Ah3{R:RnK}{N:Nat}(hN:100000<N){h:Hs}{a b:Value}{l:List (Str × Nat)}(hl:l.length≤90000)(r:Rd h a 2 (rwN l))(r2:Rd h b 2 (rwN l)):WP (r27 R N [a,b] h) (yesQ h):=by
 have H:=Sto.enter2 r r2
 have ll:(rwN l).length=l.length:=by unfold rwN;rw[List.length_map]
 obtain⟨a1,c1,f1⟩:=r.1.formN ll
 obtain⟨a2,c2,f2⟩:=r2.1.formN ll
 subst f1 f2
 clear r r2
 unfold r27
 repeat' (first|(with_reducible first|refine w_jn ?_|refine B_p ?_|refine D_c ?_|refine D_p ?_|refine K_s ?_)|((with_reducible refine B_h (λ_=>?_) (λ_=>?_))<;>first|(exfalso;omega)|skip))
 refine L_6 (Good:=λr (self:L5e)=>∀(i:Nat)(y2 y3 y4 y5:Value),i+r=l.length→WP (self (kI i) y2 y3 y4 y5 ⟨h.hp,h.nx,h.nx⟩) (yesQ h))
  (λr self ih i y2 y3 y4 y5 hi=>?_) N l.length (by omega) 0 _ _ _ _ (by omega)
 repeat' (first|(with_reducible first|refine w_jn ?_|refine C_j ?_|refine B_p ?_)|((with_reducible refine D_7 (λ_=>?_) (λ_=>?_))<;>first|(exfalso;omega)|skip))
 ·have il:i<l.length:=by omega
  have hg:(rwN l)[i]?=some [sV l[i].1,kI l[i].2]:=by unfold rwN;rw[List.getElem?_map,gqG il];rfl
  refine w_at 0 H rfl hg rfl rfl ?_
  refine w_at 1 H rfl hg rfl rfl ?_
  refine w_ob (s_h _ _) ?_
  repeat' (first|(with_reducible first|refine w_jn ?_|refine B_p ?_)|((with_reducible refine D_b ?_ ?_) ;omega))
  exact ih (r-1) (by omega) (i+1) _ _ _ _ (by omega)
 ·exact B_z H rfl ⟨rfl,rfl⟩
def CSm1(R:RnK):Prop:=∀(h:Hs)(p:Prt)(d1 n1 d2 n2:Value),p.nm.length≤90000→Rd h d1 1 (ones (A_s p.data))→Rd h d2 1 (ones (A_s p.data))→Rd h n1 2 (rwN p.nm)→Rd h n2 2 (rwN p.nm)→WP (R 25 [.agg #[kI p.n,kI p.k,d1,n1],.agg #[kI p.n,kI p.k,d2,n2]] h) (yesQ h)
theorem Aj4{R:RnK}{N:Nat}(cb:CBEq R)(cn:CNEq R){h:Hs}{p:Prt}{d1 n1 d2 n2:Value}(hl:p.nm.length≤90000)(r1:Rd h d1 1 (ones (A_s p.data)))(r2:Rd h d2 1 (ones (A_s p.data)))(q1:Rd h n1 2 (rwN p.nm))(q2:Rd h n2 2 (rwN p.nm)) :
 WP (r25 R N [.agg #[kI p.n,kI p.k,d1,n1],.agg #[kI p.n,kI p.k,d2,n2]] h) (yesQ h):=by
 have H:=Sto.enter h
 unfold r25
 repeat' (first|(with_reducible first|refine G_k ?_|refine C_9 ?_|refine D_c ?_|refine D_p ?_|refine A_c ?_)|((with_reducible refine G_e H ?_) ;(clear H;intro u H hu))|((with_reducible refine C_u (λ_=>?_) (λ_=>?_))<;>first|(exfalso;omega)|skip)|((with_reducible apply D_g 0 H) ;rfl;rfl;rfl)|((with_reducible apply D_g 1 H) ;rfl;rfl;rfl))
 ·have e:=H.ext0
  refine C_n (cb _ _ _ p.data (r1.ext e.1 λb hb=>e.2 b (r1.2 b hb)) (r2.ext e.1 λb hb=>e.2 b (r2.2 b hb))) λv u hq=>?_
  obtain⟨rfl,rfl⟩:=hq
  repeat' (first|(with_reducible first|refine G_k ?_|refine C_9 ?_|refine A_c ?_)|((with_reducible apply D_g 0 H) ;rfl;rfl;rfl)|((with_reducible apply D_g 1 H) ;rfl;rfl;rfl))
  refine C_n (cn _ _ _ p.nm hl (q1.ext e.1 λb hb=>e.2 b (q1.2 b hb)) (q2.ext e.1 λb hb=>e.2 b (q2.2 b hb))) λv u hq=>?_
  obtain⟨rfl,rfl⟩:=hq
  repeat' (first|(with_reducible refine C_9 ?_))
  exact B_z H rfl ⟨rfl,rfl⟩
abbrev L7e:=Value→Value→Value→Value→Value→Value→Value→Hs→An
def CEqF(R:RnK):Prop:=∀(h:Hs)(a b:Value)(ps:List Prt),ps.length≤90000→(∀p∈ps,p.nm.length≤90000)→PartsAt h a ps→PartsAt h b ps→WP (R 24 [a,b,.func (.func 25) #[] #[]] h) (yesQ h)
theorem Ae0{R:RnK}{N:Nat}(hN:100000<N)(cs:CSm1 R){h:Hs}{a b:Value}{ps:List Prt}(hl:ps.length≤90000)(hnm:∀p∈ps,p.nm.length≤90000)(r:PartsAt h a ps)(r2:PartsAt h b ps) :
 WP (r24 R N [a,b,.func (.func 25) #[] #[]] h) (yesQ h):=by
 obtain⟨L,e1,r1,p1⟩:=r
 obtain⟨L2,e2,r2,p2⟩:=r2
 have H:=Sto.enter2 r1 r2
 have ll:(L.map (·.1)).length=ps.length:=by rw[e1,List.length_map,List.length_map]
 have ll2:(L2.map (·.1)).length=ps.length:=by rw[e2,List.length_map,List.length_map]
 obtain⟨a1,c1,f1⟩:=r1.1.formN ll
 obtain⟨a2,c2,f2⟩:=r2.1.formN ll2
 subst f1 f2
 clear r1 r2
 unfold r24
 repeat' (first|(with_reducible first|refine w_jn ?_|refine B_p ?_|refine D_c ?_|refine D_p ?_|refine K_s ?_)|((with_reducible refine B_h (λ_=>?_) (λ_=>?_))<;>first|(exfalso;omega)|skip))
 obtain⟨u0,hu0,H0⟩:∃u0,u0=(⟨h.hp,h.nx,h.nx⟩:Hs)∧Sto h [] u0 [.rsl (.slice a1 ps.length c1) 4 (L.map (·.1)),.rsl (.slice a2 ps.length c2) 4 (L2.map (·.1))]:=⟨_,rfl,H⟩
 rw[←hu0]
 clear H hu0
 refine L_6 (Good:=λr (self:L7e)=>∀(i:Nat)(y2 y3 y4 y5 y6 y7:Value)(u:Hs),i+r=ps.length→Sto h [] u [.rsl (.slice a1 ps.length c1) 4 (L.map (·.1)),.rsl (.slice a2 ps.length c2) 4 (L2.map (·.1))]→WP (self (kI i) y2 y3 y4 y5 y6 y7 u) (yesQ h))
  (λr self ih i y2 y3 y4 y5 y6 y7 ub hi H=>?_) N ps.length (by omega) 0 _ _ _ _ _ _ u0 (by omega) H0
 repeat' (first|(with_reducible first|refine w_jn ?_|refine C_j ?_|refine B_p ?_)|((with_reducible refine D_7 (λ_=>?_) (λ_=>?_))<;>first|(exfalso;omega)|skip))
 ·have il:i<ps.length:=by omega
  have i1:i<L.length:=by rw[e1,List.length_map] at il;exact il
  have i2:i<L2.length:=by rw[e2,List.length_map] at il;exact il
  obtain⟨d1,n1,q1,q2,q3⟩:=p1 L[i] (List.getElem_mem i1)
  obtain⟨d2,n2,q4,q5,q6⟩:=p2 L2[i] (List.getElem_mem i2)
  obtain⟨p,hp⟩:∃p,p=ps[i]:=⟨_,rfl⟩
  have s1:L[i].2=p:=by
   rw[hp]
   have:ps[i]?=(L.map (·.2))[i]?:=by rw[←e1]
   rw[List.getElem?_map,gqG i1,gqG il] at this
   injection this with this
   exact this.symm
  have s2:L2[i].2=p:=by
   rw[hp]
   have:ps[i]?=(L2.map (·.2))[i]?:=by rw[←e2]
   rw[List.getElem?_map,gqG i2,gqG il] at this
   injection this with this
   exact this.symm
  rw[s1] at q1 q2 q3
  rw[s2] at q4 q5 q6
  have hg:(L.map (·.1))[i]?=some [kI p.n,kI p.k,d1,n1]:=by rw[List.getElem?_map,gqG i1,←q1];rfl
  have hg2:(L2.map (·.1))[i]?=some [kI p.n,kI p.k,d2,n2]:=by rw[List.getElem?_map,gqG i2,←q4];rfl
  obtain⟨x1,x2,rfl⟩:=q2.1.form
  obtain⟨x3,x4,rfl⟩:=q3.1.form
  obtain⟨x5,x6,rfl⟩:=q5.1.form
  obtain⟨x7,x8,rfl⟩:=q6.1.form
  have pl:=hnm p (by rw[hp];exact List.getElem_mem il)
  refine w_at 0 H rfl hg rfl rfl ?_
  repeat' (first|((with_reducible refine F_n H ?_) ;(clear H;intro u H hu))|((with_reducible apply B_w 0 H) ;rfl;rfl;rfl;omega;rfl;(clear H;intro u H hu;(try dsimp only[List.set_cons_zero,List.set_cons_succ,A_p,List.toList_toArray,splice,ev,rep,List.cons_append,List.nil_append] at H))))
  refine w_at 2 H rfl hg2 rfl rfl ?_
  repeat' (first|((with_reducible refine F_n H ?_) ;(clear H;intro u H hu))|((with_reducible apply B_w 0 H) ;rfl;rfl;rfl;omega;rfl;(clear H;intro u H hu;(try dsimp only[List.set_cons_zero,List.set_cons_succ,A_p,List.toList_toArray,splice,ev,rep,List.cons_append,List.nil_append] at H)))|((with_reducible apply L_m 0 H) ;rfl;rfl;rfl)|((with_reducible apply L_m 1 H) ;rfl;rfl;rfl))
  have e:=H.ext0
  refine z_6 (cap:=[]) ?_
  refine C_n (cs _ p _ _ _ _ pl (q2.ext e.1 λb hb=>e.2 b (q2.2 b hb)) (q5.ext e.1 λb hb=>e.2 b (q5.2 b hb)) (q3.ext e.1 λb hb=>e.2 b (q3.2 b hb)) (q6.ext e.1 λb hb=>e.2 b (q6.2 b hb))) λv w hq=>?_
  obtain⟨rfl,rfl⟩:=hq
  repeat' (first|(with_reducible first|refine w_jn ?_|refine B_p ?_|refine P_9 ?_)|((with_reducible refine D_b ?_ ?_) ;omega))
  exact ih (r-1) (by omega) (i+1) _ _ _ _ _ _ _ (by omega) (H.pick [2,3] (by decide) rfl)
 ·exact B_z H rfl ⟨rfl,rfl⟩
theorem PartsAt.ext{h h':Hs}{v:Value}{ps:List Prt}(p:PartsAt h v ps)(s:Gev.Same h h'):PartsAt h' v ps:=by
 obtain⟨L,a,b,c⟩:=p
 refine⟨L,a,b.ext s.1.1 λi hi=>s.1.2 i (b.2 i hi),λe he=>?_⟩
 obtain⟨dv,nv,q1,q2,q3⟩:=c e he
 exact⟨dv,nv,q1,q2.ext s.1.1 λi hi=>s.1.2 i (q2.2 i hi),q3.ext s.1.1 λi hi=>s.1.2 i (q3.2 i hi)⟩
def CSame(R:RnK):Prop:=∀(h:Hs)(t t':TS),TrAt h t→TrAt h t'→WF t.T t.most→t.B≤50000→t'.B≤50000→t'.T=t.T→t'.most=t.most→WP (R 11 [pV t.p,pV t'.p] h) (yesQ h)
theorem z_o{R:RnK}{N:Nat}(cp:CPartsT R)(ce:CEqF R){h:Hs}{t t':TS}(A:TrAt h t)(A':TrAt h t')(W:WF t.T t.most)(hB:t.B≤50000)(hB':t'.B≤50000)(eT:t'.T=t.T)(em:t'.most=t.most):WP (r11 R N [pV t.p,pV t'.p] h) (yesQ h):=by
 have H:=Sto.enter h
 have A1:=A.st H
 have A2:=A'.st H
 unfold r11
 repeat' (first|(with_reducible first|refine D_c ?_|refine D_p ?_|refine A_c ?_|refine C_g ?_))
 refine q_s A1 rfl ?_
 repeat' (first|(with_reducible first|refine A_c ?_|refine C_g ?_))
 refine q_s A2 rfl ?_
 rw[em]
 repeat' (first|(with_reducible refine G_k ?_)|((with_reducible refine C_u (λ_=>?_) (λ_=>?_))<;>first|(exfalso;omega)|skip))
 refine C_n (cp _ t A1 W hB) λv1 u1 q1=>?_
 obtain⟨s1,ps,i1,p1,l1,l2⟩:=q1
 refine N_5 s1.1.1 ?_
 have H1:=H.same s1
 have A3:=A'.st H1
 repeat' (first|(with_reducible refine G_k ?_))
 refine C_n (cp _ t' A3 (by rw[eT,em];exact W) hB') λv2 u2 q2=>?_
 obtain⟨s2,ps2,i2,p2,_,_⟩:=q2
 rw[eT] at i2
 have ep:=o_y i1 i2
 subst ep
 refine N_5 s2.1.1 ?_
 have H2:=H1.same s2
 clear H H1
 have H:=H2
 clear H2
 repeat' (first|(with_reducible refine G_k ?_))
 refine C_n (ce _ _ _ ps (by omega) (λp hp=>by have:=l2 p hp;omega) (p1.ext s2) p2) λv3 u3 q3=>?_
 obtain⟨rfl,rfl⟩:=q3
 repeat' (first|(with_reducible first|refine C_9 ?_|refine J_6 ?_)|((with_reducible refine N_5 ?_ ?_) ;omega))
 exact B_z H rfl ⟨rfl,rfl⟩
def OpAt(h:Hs)(l:List Value)(o:OpA):Prop:=∃dv,l = [.int .i64 o.k,sV o.a,sV o.b,.int .i64 o.at_,.int .i64 o.n,dv]∧Rd h dv 1 (ones (A_s o.X))∧In64 o.at_∧In64 o.n
structure OpsAt (h:Hs) (v:Value) (L:List (List Value × OpA)):Prop where
 rd:Rd h v 6 (L.map (·.1))
 op:∀e∈L,OpAt h e.1 e.2
def Light(o:OpA):Prop:=o.a.length≤500∧o.b.length≤500∧o.X.length≤5000
def CHeavy(R:RnK):Prop:=∀(h:Hs)(o:OpA)(dv:Value),Rd h dv 1 (ones (A_s o.X))→WP (R 8 [opO o dv] h) λv h'=>h'=h∧((v=.bool true)∨(v=.bool false∧Light o))
theorem s_4{R:RnK}{N:Nat}{h:Hs}{o:OpA}{dv:Value}(r:Rd h dv 1 (ones (A_s o.X))):WP (r8 R N [opO o dv] h) λv h'=>h'=h∧((v=.bool true)∨(v=.bool false∧Light o)):=by
 have H:=Sto.enter h
 have lx:(ones (A_s o.X)).length=o.X.length:=by rw[E_r,H_5]
 obtain⟨a,c,rfl⟩:=r.1.formN lx
 unfold r8
 repeat' (first|(with_reducible first|refine b_x ?_|refine L_i ?_|refine C_9 ?_|refine C_4 ?_|refine D_c ?_|refine D_p ?_|refine A_c ?_|refine K_s ?_|refine w_m ?_)|((with_reducible refine G_e H ?_) ;(clear H;intro u H hu))|((with_reducible refine H_3 (λ_=>?_) (λ_=>?_))<;>first|(exfalso;omega)|skip)|((with_reducible apply D_g 0 H) ;rfl;rfl;rfl))
 ·exact B_z H rfl ⟨rfl,.inl rfl⟩
 ·exact B_z H rfl ⟨rfl,.inl rfl⟩
 ·exact B_z H rfl ⟨rfl,.inl rfl⟩
 ·rename_i q1 q2 q3
  have q1:¬500<o.a.length:=q1
  have q2:¬500<o.b.length:=q2
  exact B_z H rfl ⟨rfl,.inr ⟨rfl,by omega,by omega,by omega⟩⟩
abbrev L7:=Value→Value→Value→Value→Value→Value→Value→Hs→An
def DoV(r:Rs')(v:Value)(t t':TS):Prop:=match r with
 |.er e=>v=X_o e∧t'=t
 |.up n sz T'=>v=resA 0 n 0 0 sz (.slice none 0 0) (.slice none 0 0)∧t'.T=T'
 |.rd P=>(∃r d nm,P r∧v=resA 0 r.n r.ty r.ln r.sz d nm∧(∃a c,d=.slice a r.data.length c)∧∃a c,nm=.slice a r.nm.length c)∧t'=t
theorem w_do{R:RnK}(cdo:CDo R){Q:Value→Hs→Prop}{h u:Hs}{m:List Th}{t:TS}{o:OpA}{dv:Value}{K:KV}(H:Sto h [] u m)(A:TrAt u t)(W:WF t.T t.most)(hB:t.B≤50000)(hro:∀b,t.L.ro b≠none→h.nx≤b)(hm:∀y∈m,∀b,y.id=some b→b<h.nx)(lt:Light o)(q3:In64 o.at_)(q4:In64 o.n)(q2:Rd h dv 1 (ones (A_s o.X)))
 (kk:∀v u' t',Sto h [] u' m→TrAt u' t'→t'.p=t.p→t'.most=t.most→WF t'.T t'.most→t'.B≤t.B+4→(∀b,t'.L.ro b≠none→h.nx≤b)→(∀x,TrAt u x→(∀b,t.L.ro b≠none→x.L.ro b=none)→TrAt u' x∧∀b,t'.L.ro b≠none→x.L.ro b=none)→DoV (doF t.T t.most o) v t t'→WP (K v u') Q):WP (B_s R 10 [pV t.p,opO o dv] u K) Q:=by
 have rdv:Rd u dv 1 (ones (A_s o.X)):=q2.ext H.ext0.1 λb hb=>H.ext0.2 b (q2.2 b hb)
 refine C_n (cdo u t o dv A W (by omega) (by have:=lt.1;omega) (by have:=lt.2.1;omega) (by have:=lt.2.2;omega) q3 q4 rdv (λb hb=>?_)) λv4 u4 q=>?_
 ·refine Classical.byContradiction λz=>?_
  have:=hro b z
  have:=q2.2 b hb
  omega
 ·cases e:doF t.T t.most o with
  |er e1=>
   rw[e] at q
   obtain⟨rfl,rfl⟩:=q
   exact kk _ _ t H A rfl rfl W (by omega) hro (λx X hx=>⟨X,hx⟩) (by rw[e];exact⟨rfl,rfl⟩)
  | up n1 sz T' =>
   rw[e] at q
   obtain⟨rfl,TQ⟩:=q
   obtain⟨t',A',rfl,e2,e3,e4,e5,e6⟩:=TQ.tr
   have un:h.nx≤u.nx:=H.nx
   have H4:=H.mutS TQ.mu (λs hs=>by
    obtain⟨_,x,hx,_⟩:=D_0.1 hs
    exact .inl (hro s (by rw[hx];simp))) (λy hy b hb hbs=>by
    obtain⟨_,x,hx,_⟩:=D_0.1 hbs
    have:=hro b (by rw[hx];simp)
    have:=hm y hy b hb
    omega)
   have W':WF t'.T t'.most:=by rw[e4];exact Ad9 W (λn y hy hk hc=>(A.cnt0 hy hk).1 hc) (by have:=lt.1;omega) (by have:=lt.2.1;omega) e
   have hro':∀b,t'.L.ro b≠none→h.nx≤b:=λb hb=>by
    rcases Nat.lt_or_ge b u.nx with g|g
    ·exact hro b (by rw[←e5 b g];exact hb)
    ·omega
   refine kk _ _ t' H4 A' e2 e4 W' e6 hro' (λx X hx=>⟨X.mutS TQ.mu λs hs=>?_,λb hb=>?_⟩) (by rw[e];exact⟨rfl,rfl⟩)
   ·obtain⟨_,r,hr,_⟩:=D_0.1 hs
    exact hx s (by rw[hr];simp)
   ·rcases Nat.lt_or_ge b u.nx with g|g
    ·exact hx b (by rw[←e5 b g];exact hb)
    ·exact X.fr b g
  |rd P=>
   rw[e] at q
   obtain⟨r1,d,nm,hP,rfl,n1,n2⟩:=q
   have A4:=A.ext n1.1.1.1 λb hb _=>n1.1.1.2 b hb
   have H4:=H.same n1.1
   exact kk _ _ t H4 A4 rfl rfl W (by omega) hro (λx X hx=>⟨X.ext n1.1.1.1 λb hb _=>n1.1.1.2 b hb,hx⟩) (by rw[e];exact⟨⟨r1,d,nm,hP,rfl,OwnSl.form n1.2.1,OwnSl.form n2.2.1⟩,rfl⟩)
theorem OpsAt.get{h:Hs}{v:Value}{L:List (List Value × OpA)}(ra:OpsAt h v L){i:Nat}(il:i<L.length):∃(dv:Value) (o:OpA),(L.map (·.1))[i]?=some [.int .i64 o.k,sV o.a,sV o.b,.int .i64 o.at_,.int .i64 o.n,dv]∧Rd h dv 1 (ones (A_s o.X))∧In64 o.at_∧In64 o.n:=by
 obtain⟨dv,q1,q2,q3,q4⟩:=ra.op L[i] (List.getElem_mem il)
 exact⟨dv,L[i].2,by rw[List.getElem?_map,gqG il,←q1];rfl,q2,q3,q4⟩
abbrev L4a:=Value→Value→Value→Value→Hs→An
theorem r_u{R:RnK}{N:Nat}(hN:1000<N)(cnew:CNew R)(chv:CHeavy R)(ccl:CCloneT R)(cdo:CDo R)(csm:CSame R)(cpt:CPartsT R){h:Hs}{v w:Value}{L M:List (List Value × OpA)}(ra:OpsAt h v L)(rb:OpsAt h w M)
 (aw:WP (R 6 [] ⟨h.hp,h.nx,h.nx⟩) λv u=>v=.bool true∧Gev.Same ⟨h.hp,h.nx,h.nx⟩ u):WP (r4 R N [v,w] h) (yesQ h):=by
 have H:=Sto.enter2 ra.rd rb.rd
 obtain⟨a1,c1,f1⟩:=ra.rd.1.formN (List.length_map _)
 obtain⟨a2,c2,f2⟩:=rb.rd.1.formN (List.length_map _)
 subst f1 f2
 have hm:∀y ∈ [Th.rsl (.slice a1 L.length c1) 6 (L.map (·.1)),Th.rsl (.slice a2 M.length c2) 6 (M.map (·.1))],∀b,y.id=some b→b<h.nx:=λy hy b hb=>by
  rcases List.mem_cons.1 hy with rfl|hy
  ·exact ra.rd.2 b hb
  ·rw[List.mem_singleton.1 hy] at hb
   exact rb.rd.2 b hb
 unfold r4
 repeat' (first|(with_reducible first|refine D_c ?_|refine D_p ?_))
 refine C_n aw λv0 u0 q0=>?_
 obtain⟨rfl,sa⟩:=q0
 have H0:=H.same sa
 have un0:h.nx≤u0.nx:=sa.1.1
 clear H
 have H:=H0
 clear H0 sa
 repeat' (first|(with_reducible first|refine w_jn ?_|refine C_j ?_|refine B_p ?_|refine b_x ?_|refine L_i ?_|refine C_9 ?_|refine C_4 ?_|refine P_9 ?_|refine K_s ?_)|((with_reducible refine H_3 (λ_=>?_) (λ_=>?_))<;>first|(exfalso;omega)|skip))
 ·exact B_z H rfl ⟨rfl,rfl⟩
 ·exact B_z H rfl ⟨rfl,rfl⟩
 ·rename_i l1 l2
  refine C_n (cnew 12 _ (by unfold In64;omega)) λv1 u1 q=>?_
  obtain⟨t0,rfl,⟨A0,s0,ro0⟩,T0,m0,B0⟩:=q
  have H1:=H.same s0
  clear H
  refine w_ob (v:=.bool false) rfl ?_
  have ll1:L.length≤20:=by omega
  have ll2:M.length≤20:=by omega
  have W0:WF t0.T t0.most:=by rw[T0,m0];exact Ah5 12
  obtain⟨p,hp⟩:∃p,p=t0.p:=⟨_,rfl⟩
  rw[←hp]
  repeat' (first|(with_reducible first|refine w_jn ?_|refine B_p ?_))
  refine L_6 (Good:=λr (self:L4a)=>∀(i:Nat)(y2 y3 y4:Value)(u:Hs)(t:TS),i+r=L.length→Sto h [] u [.rsl (.slice a1 L.length c1) 6 (L.map (·.1)),.rsl (.slice a2 M.length c2) 6 (M.map (·.1))]→TrAt u t→t.p=p→WF t.T t.most→t.B≤2+4*i→(∀b,t.L.ro b≠none→h.nx≤b)→WP (self (kI i) y2 y3 y4 u) (yesQ h))
   (λr self ih i y2 y3 y4 u t hi H A ep W hB hro=>?_) N L.length (by omega) 0 _ _ _ u1 t0 (by omega) H1 A0 hp.symm W0 (by omega) (λb hb=>Nat.le_trans un0 (ro0 b hb))
  clear H1 A0 s0 ro0 T0 m0 B0 W0 hp
  subst ep
  repeat' (first|(with_reducible first|refine w_jn ?_|refine C_j ?_|refine B_p ?_|refine K_s ?_)|((with_reducible refine D_7 (λ_=>?_) (λ_=>?_))<;>first|(exfalso;omega)|skip))
  ·have il:i<L.length:=by omega
   obtain⟨dv,o,hg,q2,q3,q4⟩:=ra.get il
   refine w_at 0 H rfl hg rfl rfl ?_
   refine C_n (chv u o dv (q2.ext H.ext0.1 λb hb=>H.ext0.2 b (q2.2 b hb))) λv2 u2 q=>?_
   obtain⟨rfl,rfl|⟨rfl,lt⟩⟩:=q
   ·repeat' (first|(with_reducible first|refine w_jn ?_|refine C_j ?_))
    exact B_z H rfl ⟨rfl,rfl⟩
   ·repeat' (first|(with_reducible first|refine w_jn ?_|refine B_p ?_))
    refine w_at 0 H rfl hg rfl rfl ?_
    refine w_do cdo H A W (by omega) hro hm lt q3 q4 q2 λv4 u4 t' H4 A' e1 e2 W' e3 hro' keep dq=>?_
    repeat' (first|((with_reducible refine D_b ?_ ?_) ;omega))
    exact ih (r-1) (by omega) (i+1) _ _ _ u4 t' (by omega) H4 A' e1 W' (by omega) hro'
  ·refine C_n (ccl u t A W (by omega)) λv3 u3 q=>?_
   obtain⟨t2,rfl,⟨A2,s2,ro2⟩,T2,m2,B2⟩:=q
   have A3:=A.ext s2.1.1 λb hb _=>s2.1.2 b hb
   have H3:=H.same s2
   refine C_n (ccl u3 t A3 W (by omega)) λv4 u4 q=>?_
   obtain⟨t3,rfl,⟨A4,s3,ro3⟩,T3,m3,B3⟩:=q
   have A5:=A3.ext s3.1.1 λb hb _=>s3.1.2 b hb
   have A6:=A2.ext s3.1.1 λb hb _=>s3.1.2 b hb
   have H5:=H3.same s3
   have d1:∀b,t2.L.ro b≠none→t.L.ro b=none:=λb hb=>A.fr b (ro2 b hb)
   have d2:∀b,t2.L.ro b≠none→t3.L.ro b=none:=λb hb=>by
    refine Classical.byContradiction λz=>hb (A2.fr b (ro3 b z))
   have hro2:∀b,t2.L.ro b≠none→h.nx≤b:=λb hb=>by
    have:=ro2 b hb
    have:=H.nx
    omega
   have W2:WF t2.T t2.most:=by rw[T2,m2];exact W
   have bB:t2.B≤82:=by omega
   clear H H3
   obtain⟨p2,hp2⟩:∃p,p=t2.p:=⟨_,rfl⟩
   rw[←hp2]
   repeat' (first|(with_reducible refine w_jn ?_))
   refine L_6 (Good:=λr2 (self2:L4a)=>∀(j:Nat)(z2 z3 z4:Value)(u:Hs)(t2:TS),j+r2=M.length→Sto h [] u [.rsl (.slice a1 L.length c1) 6 (L.map (·.1)),.rsl (.slice a2 M.length c2) 6 (M.map (·.1))]→TrAt u t2→t2.p=p2→WF t2.T t2.most→t2.B≤82+4*j→(∀b,t2.L.ro b≠none→h.nx≤b)→TrAt u t→TrAt u t3→(∀b,t2.L.ro b≠none→t.L.ro b=none)→(∀b,t2.L.ro b≠none→t3.L.ro b=none)→WP (self2 (kI j) z2 z3 z4 u) (yesQ h))
    (λr2 self2 ih2 j z2 z3 z4 u t2 hj H A2 ep2 W2 hB2 hro2 A A3 d1 d2=>?_) N M.length (by omega) 0 _ _ _ u4 t2 (by omega) H5 A6 hp2.symm W2 (by omega) hro2 A5 A4 d1 d2
   clear H5 A6 hp2 
   subst ep2
   repeat' (first|(with_reducible first|refine w_jn ?_|refine C_j ?_|refine B_p ?_|refine K_s ?_)|((with_reducible refine D_7 (λ_=>?_) (λ_=>?_))<;>first|(exfalso;omega)|skip))
   ·have jl:j<M.length:=by omega
    obtain⟨dv,o,hg,q2,q3,q4⟩:=rb.get jl
    refine w_at 1 H rfl hg rfl rfl ?_
    refine C_n (chv u o dv (q2.ext H.ext0.1 λb hb=>H.ext0.2 b (q2.2 b hb))) λv2 u2 q=>?_
    obtain⟨rfl,rfl|⟨rfl,lt⟩⟩:=q
    ·repeat' (first|(with_reducible first|refine w_jn ?_|refine C_j ?_))
     exact B_z H rfl ⟨rfl,rfl⟩
    ·repeat' (first|(with_reducible first|refine w_jn ?_|refine B_p ?_))
     refine w_at 1 H rfl hg rfl rfl ?_
     refine w_do cdo H A2 W2 (by omega) hro2 hm lt q3 q4 q2 λv4 u4 t' H4 A' e1 e2 W' e3 hro' keep dq=>?_
     repeat' (first|((with_reducible refine D_b ?_ ?_) ;omega))
     exact ih2 (r2-1) (by omega) (j+1) _ _ _ u4 t' (by omega) H4 A' e1 W' (by omega) hro' (keep t A d1).1 (keep t3 A3 d2).1 (keep t A d1).2 (keep t3 A3 d2).2
   ·refine C_n (csm u t t3 A A3 W (by omega) (by omega) T3 m3) λv6 u6 q=>?_
    obtain⟨rfl,rfl⟩:=q
    repeat' (first|(with_reducible refine G_k ?_))
    refine C_n (cpt _ t A W (by omega)) λv7 u7 q=>?_
    obtain⟨s7,ps,i7,⟨L7,e7,r7,_⟩,_,_⟩:=q
    have H7:=H.same s7
    clear H
    have H:=H7
    clear H7
    have A8:=A3.ext s7.1.1 λb hb _=>s7.1.2 b hb
    obtain⟨a7,c7,f7⟩:=r7.1.formN (n:=ps.length) (by rw[e7,List.length_map,List.length_map])
    subst f7
    repeat' (first|(with_reducible first|refine G_k ?_|refine K_s ?_))
    refine C_n (cpt _ t3 A8 (by rw[T3,m3];exact W) (by omega)) λv8 u8 q=>?_
    obtain⟨s8,ps2,i8,⟨L8,e8,r8,_⟩,_,_⟩:=q
    have H8:=H.same s8
    clear H
    have H:=H8
    clear H8
    rw[T3] at i8
    have ep:=o_y i7 i8
    subst ep
    obtain⟨a8,c8,f8⟩:=r8.1.formN (n:=ps.length) (by rw[e8,List.length_map,List.length_map])
    subst f8
    repeat' (first|(with_reducible first|refine G_k ?_|refine C_9 ?_|refine K_s ?_)|((with_reducible refine C_u (λ_=>?_) (λ_=>?_))<;>first|(exfalso;omega)|skip))
    exact B_z H rfl ⟨rfl,rfl⟩
end Go.Proofs.YtnbnmojckhcdeaaGreatDoor.treeApart
