import Derived.Test.YtnbnmojckhcdeaaGreatDoorMoE
namespace Go.Proofs.YtnbnmojckhcdeaaGreatDoor.treeMoves
open Go Go.Gev
set_option linter.unusedVariables false
theorem u_y:∀a b:Str,K_p a b=true→a=b:=by
 intro a
 induction a with
 |nil=>
  intro b h
  cases b with
  |nil=>rfl
  |cons y ys=>cases h
 | cons x xs ih =>
  intro b h
  cases b with
  |nil=>cases h
  | cons y ys =>
   simp only[K_p] at h
   cases q:Nat.beq x.toNat y.toNat with
   |true=>
    rw[q] at h
    rw[Bq1 (ebT q),ih ys h]
   |false=>rw[q] at h;cases h
theorem Bl1(a b c:Str)(h1:E_0 a b=true)(h2:E_0 b c=true):E_0 a c=true:=by rw[K_6] at *;simp only[decide_eq_true_eq] at *;exact List.le_trans h1 h2
theorem Bl0(a b:Str):(E_0 a b||E_0 b a)=true:=by rw[K_6,K_6];simp only[Bool.or_eq_true,decide_eq_true_eq];exact List.le_total a b
theorem Bz5(a b:Str)(h1:E_0 a b=true)(h2:E_0 b a=true):a=b:=by rw[K_6] at *;simp only[decide_eq_true_eq] at *;exact List.le_antisymm h1 h2
theorem AF7:∀{l:List (Str × Value × Nat)},(∀s∈J_d l,s.length≤1000000)→R_6 keyS (mkE sV l)=some (J_d l):=by
 intro l
 induction l with
 |nil=>intro _;rfl
 | cons e l ih =>
  intro h
  have e1:keyS (sV e.1)=some e.1:=by
   show (match Nat.ble e.1.length 1000000 with|true=>some e.1|false=>none)=_
   rw[btL (h e.1 mcS)]
  have e2:mkE sV (e::l)=⟨sV e.1,e.2.1,e.2.2⟩::mkE sV l:=rfl
  rw[e2]
  unfold R_6
  dsimp only
  rw[e1]
  dsimp only
  rw[ih λn hn=>h n (mcM _ hn)];rfl
theorem s_9{α:Type}[DecidableEq α]{K:α→Value}{β:Type}{g:Value→Option β}{eq:β→β→Bool}{f:α→Option Value}{c n cl:Nat}{es:List MapEntry}{ks:List β}(M:MapC K f c n es cl)(hk:R_6 g es=some ks)(heq:∀a b,eq a b=true→a=b)(nd:ks.Nodup)(hl:ks.length≤100000):U_f g eq es cl=some ks:=by
 unfold U_f
 rw[hk]
 dsimp only
 rw[M.good,Y_g heq nd,btL hl];rfl
theorem g_g(T:TypeId)(h:Hs)(ks:List Str):WP (K_x Go.Proofs.encStr E_0 T h (some ks)) λv h'=>New h h' (.osl v T 1 true (L_7 E_0 ks).length (strs (L_7 E_0 ks))):=by
 cases ks with
 |nil=>exact⟨_,_,rfl,Same.refl h,⟨rfl,.inl ⟨rfl,rfl⟩⟩,λb hb=>by cases hb⟩
 | cons x xs =>
  have hl:(L_7 E_0 (x::xs)).length=xs.length+1:=(K_o E_0 (x::xs)).length_eq
  refine⟨.slice (some ⟨h.nx,0,none⟩) (xs.length+1) (xs.length+1),Gev.newRow h T 1 (strs (L_7 E_0 (x::xs))),rfl,⟨⟨Nat.le_succ _,λb hb=>by rw[E_6,if_neg (by omega)]⟩,rfl⟩,?_,λb hb=>?_⟩
  ·refine⟨by rw[lmQ,Nat.mul_one],.inr ⟨h.nx,xs.length+1,ofList (strs (L_7 E_0 (x::xs))),(strs (L_7 E_0 (x::xs))).length,true,by rw[hl],by omega,?_,λ_=>rfl,lR _,λi _=>C_q _ i⟩⟩
   rw[E_6,if_pos rfl,Aw3]
  ·have:h.nx=b:=by injection hb
   subst this
   exact⟨lR _,Nat.lt_succ_self _⟩
theorem y_o(T:TypeId)(h:Hs)(ks:List Int):WP (K_x encZ Gev.leI T h (some ks)) λv h'=>New h h' (.osl v T 1 true (L_7 Gev.leI ks).length ((L_7 Gev.leI ks).map (Value.int .i64))):=by
 have fl:∀l:List Int,F_e (l.map (Value.int .i64))=true:=λl=>by
  induction l with
  |nil=>rfl
  |cons x l ih=>exact ih
 cases ks with
 |nil=>exact⟨_,_,rfl,Same.refl h,⟨rfl,.inl ⟨rfl,rfl⟩⟩,λb hb=>by cases hb⟩
 | cons x xs =>
  have hl:(L_7 Gev.leI (x::xs)).length=xs.length+1:=(K_o Gev.leI (x::xs)).length_eq
  refine⟨.slice (some ⟨h.nx,0,none⟩) (xs.length+1) (xs.length+1),Gev.newRow h T 1 ((L_7 Gev.leI (x::xs)).map (Value.int .i64)),rfl,⟨⟨Nat.le_succ _,λb hb=>by rw[E_6,if_neg (by omega)]⟩,rfl⟩,?_,λb hb=>?_⟩
  ·refine⟨by rw[lmQ,Nat.mul_one],.inr ⟨h.nx,xs.length+1,ofList ((L_7 Gev.leI (x::xs)).map (Value.int .i64)),((L_7 Gev.leI (x::xs)).map (Value.int .i64)).length,true,by rw[hl],by omega,?_,λ_=>rfl,lR _,λi _=>C_q _ i⟩⟩
   rw[E_6,if_pos rfl,fl]
  ·have:h.nx=b:=by injection hb
   subst this
   exact⟨lR _,Nat.lt_succ_self _⟩
theorem AP8{B:Option Blk}{e u i:Nat}{rw_ fl:Bool}{L:List Value}(h:Holds B (.row e u rw_ fl L)):blkCell i B=L[i]?:=by
 obtain⟨c,f,rfl,_,hc⟩:=h
 exact hc i
theorem t_l{t:TS}{n B:Nat}{x:Itm}{es:List MapEntry}{cl:Nat}(W:WF t.T t.most)(hB:B≤50000)(hx:t.T n=some x)(M:MapC sV (λs=>(x.names s).map kI) x.cnt B es cl) :
 ∃ks,U_f keyS K_p es cl=some ks∧ks.Nodup∧ks.length=x.cnt∧∀s,s∈ks↔x.names s≠none:=by
 obtain⟨l,el,hl,nd,hc⟩:=M.ex
 have mem:∀s,s∈J_d l↔x.names s≠none:=λs=>by
  constructor
  ·intro q e
   exact absurd q (N_0.1 (by rw[hl,e];rfl))
  ·intro q
   refine Classical.byContradiction λq2=>?_
   have:=N_0.2 q2
   rw[hl] at this
   cases e:x.names s with
   |none=>exact q e
   |some m=>rw[e] at this;cases this
 have ll:(J_d l).length=x.cnt:=by unfold J_d;rw[lmQ,hc]
 refine⟨J_d l,s_9 M ?_ u_y nd ?_,nd,ll,mem⟩
 ·rw[el]
  refine AF7 λs hs=>?_
  cases e:x.names s with
  |none=>exact absurd e ((mem s).1 hs)
  |some m=>
   have:=W.nl n x s m hx e
   omega
 ·have:=M.cc
  have:=M.cl
  omega
theorem i_m{h:Hs}{t:TS}{n:Nat}{x:Itm}(A:TrAt h t)(W:WF t.T t.most)(hB:t.B≤50000)(hx:t.T n=some x)(hk:x.k=2):WP (c_i 9 [pV t.p,kI n] h) λv h'=>∃l,IsNames x n l∧NewS h h' v l:=by
 obtain⟨rw',fl,tr⟩:=A.tr
 obtain⟨es,cl,mp,M⟩:=A.mp
 have mp:h.hp.get t.mb=some (.mp es cl):=mp
 obtain⟨fl2,r⟩:=(A.it n x hx).row
 obtain⟨_,_,es2,cl2,nm,M2⟩:=(A.it n x hx).nm hk
 have nm:h.hp.get (t.L.nb n)=some (.mp es2 cl2):=nm
 obtain⟨ks,k1,k2,k3,k4⟩:=t_l W hB hx M2
 obtain⟨l,el,hl,nd,hc⟩:=M.ex
 obtain⟨r2,f1,f2,_⟩:=P_0 w_w n l 0
 have e1:c_i 9 [pV t.p,kI n] h=Z_i 9 h (.ofNat n) (some ks):=by
  show Ak7 9 h (.ofNat n) (blkCell 1 (h.hp.get t.p))=_
  rw[AP8 tr]
  show Al4 9 h (.ofNat n) (h.hp.get t.mb)=_
  rw[mp]
  show Al3 9 h (.ofNat n) (findM (kI n) es 0)=_
  rw[el,f1]
  rw[hl,hx] at f2
  cases r2 with
  |none=>cases f2
  |some p=>
   have:p.2=pV (t.L.q n):=by injection f2
   show Ak9 9 h (.ofNat n) (addrOf p.2)=_
   rw[this]
   show Z_i 9 h (.ofNat n) (b_n h (blkCell 2 (h.hp.get (t.L.q n))))=_
   rw[AP8 r]
   show Z_i 9 h (.ofNat n) (b_n h (some (nmV t.L n x)))=_
   unfold nmV
   rw[if_pos hk]
   show Z_i 9 h (.ofNat n) (t_a (h.hp.get (t.L.nb n)))=_
   rw[nm]
   show Z_i 9 h (.ofNat n) (U_f keyS K_p es2 cl2)=_
   rw[k1]
 rw[e1]
 have fin:∀ks':List Str,ks'.Nodup→(∀s,s∈ks'↔(x.names s≠none∨(n=1∧s=O_2)))→WP (K_x Go.Proofs.encStr E_0 9 h (some ks')) λv h'=>∃l,IsNames x n l∧NewS h h' v l:=λks' a b=>by
  refine WP.mono (g_g _ h ks') λv h' nw=>⟨_,⟨λs=>?_,(K_o E_0 ks').nodup_iff.2 a,Q_4 Bl1 Bl0 ks'⟩,nw⟩
  rw[(K_o E_0 ks').mem_iff];exact b s
 show WP (match Gev.eqI (.ofNat n) 1 with|true=>K_x Go.Proofs.encStr E_0 9 h (some (ks ++ [V_y]))|false=>K_x Go.Proofs.encStr E_0 9 h (some ks)) _
 have e2:Gev.eqI (.ofNat n) 1=decide (n=1):=by
  rw[eqI_eq]
  by_cases q:n=1
  ·subst q;rfl
  ·rw[decide_eq_false q]
   exact decide_eq_false λz=>q (by injection z)
 rw[e2]
 by_cases q:n=1
 ·rw[decide_eq_true q]
  refine fin _ (List.nodup_append.2 ⟨k2,List.nodup_cons.2 ⟨(λz=>by cases z),List.nodup_nil⟩,λa ha b hb=>?_⟩) λs=>?_
  ·rw[msQ.1 hb]
   intro z
   subst q
   have:x.names O_2=none:=W.ls x hx
   exact(k4 a).1 ha (by rw[z];exact this)
  ·rw[List.mem_append,k4,msQ]
   exact⟨λz=>z.imp (λa=>a) λa=>⟨q,a⟩,λz=>z.imp (λa=>a) λa=>a.2⟩
 ·rw[decide_eq_false q]
  exact fin _ k2 λs=>by rw[k4];exact⟨λz=>.inl z,λz=>z.elim (λa=>a) λa=>absurd a.1 q⟩
def FnBox(f t:Nat)(h h':Hs)(v x:Value):Prop:=v=.func (.func f) #[] #[pV h.nx]∧Same h h'∧Holds (h'.hp.get h.nx) (.row t 0 true false [x])∧h.nx<h'.nx
theorem Bl4{src:Tr Blk}{n0:Nat}{m:Mv}{f:Nat}{cs:Array Value}:M_r src n0 m (.func (.func f) #[] cs)=none:=rfl
def CKeysI(R:RnK):Prop:=∀(h:Hs)(b:Nat),WP (R 29 [.map (some b)] h) λv h'=>FnBox 50 43 h h' v (.map (some b))
def CKeysS(R:RnK):Prop:=∀(h:Hs)(m:Option Nat),WP (R 31 [.map m] h) λv h'=>FnBox 53 47 h h' v (.map m)
theorem AF6{R:RnK}{N:Nat}{h:Hs}{b:Nat}:WP (r29 R N [.map (some b)] h) λv h'=>FnBox 50 43 h h' v (.map (some b)):=by
 have H:=Sto.enter h
 unfold r29
 refine H_i ?_
 refine H_1 ?_
 refine AQ4 H rfl rfl λu1 H1 hu1=>?_
 refine AQ7 ?_
 refine AQ5 H1 Bl4 ?_
 have hu1:u1.nx=h.nx+1:=hu1
 exact⟨rfl,⟨⟨by show h.nx≤u1.nx;omega,λb' hb=>H1.fr b' hb (λq=>by cases q)⟩,rfl⟩,H1.ok _ mcS,by show h.nx<u1.nx;omega⟩
theorem AF8{R:RnK}{N:Nat}{h:Hs}{b:Option Nat}:WP (r31 R N [.map b] h) λv h'=>FnBox 53 47 h h' v (.map b):=by
 have H:=Sto.enter h
 unfold r31
 refine H_i ?_
 refine H_1 ?_
 refine AQ4 H rfl rfl λu1 H1 hu1=>?_
 refine AQ7 ?_
 refine AQ5 H1 Bl4 ?_
 have hu1:u1.nx=h.nx+1:=hu1
 exact⟨rfl,⟨⟨by show h.nx≤u1.nx;omega,λb' hb=>H1.fr b' hb (λq=>by cases q)⟩,rfl⟩,H1.ok _ mcS,by show h.nx<u1.nx;omega⟩
theorem AN4{h:Hs}{f t k:Nat}{x:Value}(hb:Holds (h.hp.get k) (.row t 0 true false [x])):W_m f h [.func (.func f) #[] #[pV k]]=some x:=by
 obtain⟨c,f',hg,_,hc⟩:=hb
 show (match Nat.beq f f with|true=>AR9 h (some (k,0))|false=>none)=_
 rw[Nat.beq_refl]
 show o_d (h.hp.get k)=_
 rw[hg]
 show c.get 0=_
 rw[hc 0];rfl
def FlX(h:Hs)(v:Value)(L:List Value):Prop:=∀b,vId v=some b→∃c sz e u r,h.hp.get b=some (.row c sz e u r (F_e L))
theorem FlX.congr{h h':Hs}{v:Value}{L:List Value}(X:FlX h v L)(hg:∀b,vId v=some b→h'.hp.get b=h.hp.get b):FlX h' v L:=λb hb=>by rw[hg b hb];exact X b hb
theorem AA1(a b:Bool):andB a b=(a&&b):=by cases a<;>rfl
theorem AA3{h h':Hs}{v v':Value}{e u by_ n k:Nat}{fl:Bool}{L news:List Value}(o:OwnSl h v e u fl n L)(X:FlX h v L)(hk:news.length=k*u)(e2:app2 h e u by_ k news v=some (v',h')):FlX h' v' (L++news):=by
 obtain⟨hl,o⟩:=o
 rcases o with⟨rfl,rfl⟩|⟨id,c,cs,sz,f,rfl,hn,hg,hf,hsz,hc⟩
 ·have hL:L = []:=enZ (by rw[hl,Nat.zero_mul])
  subst hL
  unfold app2 at e2
  dsimp only at e2
  split at e2
  ·cases e2
  ·cases k with
   |zero=>injection e2 with e2;injection e2 with e3 e4;subst e3;intro b hb;cases hb
   |succ k=>
    injection e2 with e2;injection e2 with e3 e4;subst e3 e4
    intro b hb
    have:h.nx=b:=by injection hb
    subst this
    exact⟨_,_,_,_,_,by rw[E_6,if_pos rfl];rfl⟩
 ·have ld:I_y cs (Nat.mul n u) 0 []=some L:=by
   have:=K_4 (n*u) 0 cs L [] hl (λj hj=>by rw[zaQ];exact hc j (by omega))
   simpa using this
  have ff:f=F_e L:=by
   obtain⟨_,_,_,_,_,q⟩:=X id rfl
   rw[hg] at q
   injection q with q;injection q
  have e2:(match Nat.ble (Nat.mul (Nat.add n k) by_) 70368744177664 with|false=>none|true=>app3 h e u id n k news (h.hp.get id))=some (v',h'):=e2
  cases hq:Nat.ble (Nat.mul (Nat.add n k) by_) 70368744177664 with
  |false=>rw[hq] at e2;cases e2
  | true =>
   rw[hq,hg] at e2
   have e2:(match Nat.beq u u with|false=>none|true=>match Nat.beq e e with|false=>none|true=>app4 h e u id n k cs sz f news (frcB cs (Nat.beq (Nat.mul n u) sz)) (I_y cs (Nat.mul n u) 0 []))=some (v',h'):=e2
   rw[Nat.beq_refl,Nat.beq_refl,h_z,ld] at e2
   have fin:∀(c':Tr Value)(sz':Nat),some (Value.slice (some ⟨h.nx,0,none⟩) (Nat.add n k) (Nat.add n k),(⟨(h.hp.set id none).set h.nx (some (.row c' sz' e u true (andB f (F_e news)))),Nat.succ h.nx,minN h.lo id⟩:Hs))=some (v',h')→FlX h' v' (L++news):=λc' sz' q=>by
    injection q with q;injection q with q1 q2
    subst q1 q2
    intro b hb
    have:h.nx=b:=by injection hb
    subst this
    refine⟨c',sz',e,u,true,?_⟩
    show ((h.hp.set id none).set h.nx _).get h.nx=_
    rw[tgS,if_pos rfl,l_y,AA1,ff]
   cases hq2:Nat.beq (Nat.mul n u) sz with
   |true=>rw[hq2] at e2;exact fin _ _ e2
   |false=>rw[hq2] at e2;exact fin _ _ e2
theorem AR3{w:Hs}{o:Value}{L news:List Value}{e u by_ n b2 c t v:Nat}{rw_ fl2:Bool}(O:OwnSl w o e u false n L)(X:FlX w o L)(hr:Holds (w.hp.get b2) (.row t v rw_ fl2 news))(hl:news.length=1*u)(h1:G_8 news=true)(hb:(n+1)*by_≤70368744177664) :
 ∃o' w',app0 e u by_ w o (.slice (some ⟨b2,0,none⟩) 1 c)=some (o',w')∧OwnSl w' o' e u false (n+1) (L++news)∧FlX w' o' (L++news)∧w.nx≤w'.nx∧(∀b,b<w.nx→vId o≠some b→w'.hp.get b=w.hp.get b)∧(∀x,x≤w.lo→x≤w.nx→(∀b,vId o=some b→x≤b)→x≤w'.lo)∧(∀b,vId o'=some b→w.nx≤b∧b<w'.nx):=by
 have e1:rowOf w u 1 (some ⟨b2,0,none⟩)=some news:=by
  obtain⟨c',f,hbk,_,hc'⟩:=hr
  show F_q (Nat.mul (Nat.succ 0) u) 0 (w.hp.get b2)=_
  rw[hbk]
  show I_y c' (Nat.mul (Nat.succ 0) u) 0 []=_
  have:=K_4 (1*u) 0 c' news [] hl (λj _=>by rw[zaQ];exact hc' j)
  simpa using this
 obtain⟨v',h',a1,a2,a3,a4,a5,a6,a7,a8⟩:=U_9 (by_:=by_) O hl hb
 refine⟨v',h',?_,a2,AA3 O X hl a1,a3,a4,a5,a6⟩
 show app1 w e u by_ 1 o (rowOf w u 1 (some ⟨b2,0,none⟩))=_
 rw[e1]
 show (match G_8 news with|true=>app2 w e u by_ 1 news o|false=>none)=_
 rw[h1];exact a1
theorem _root_.Go.Gev.OwnSl.rdN{h:Hs}{v:Value}{e u n:Nat}{fl:Bool}{Ls:List (List Value)}(o:OwnSl h v e u fl n Ls.flatten)(hu:∀l∈Ls,l.length=u)(hn:Ls.length=n)(hb:∀b,vId v=some b→b<h.nx):Rd h v u Ls:=by
 refine⟨⟨hu,?_⟩,λb hi=>?_⟩
 ·obtain⟨_,o⟩:=o
  rcases o with⟨rfl,q⟩|⟨id,c,cs,sz,f,rfl,hc,hg,hf,hsz,hcs⟩
  ·exact .inl ⟨_,_,rfl,List.length_eq_zero_iff.1 (hn.trans q)⟩
  ·refine .inr ⟨id,0,c,cs,sz,e,u,true,f,by rw[hn],by omega,hg,.inr rfl,λi j l hi hj=>?_⟩
   have il:=(geI.1 hi).1
   have:=Q_g hu i j hj
   rw[hi] at this
   rw[show 0+i*u+j=i*u+j from by omega,hcs _ ?_]
   ·exact this
   ·rw[Q_j hu]
    calc i*u+j<i*u+u:=by omega
     _=(i+1)*u:=by rw[Nat.succ_mul]
     _≤Ls.length*u:=Nat.mul_le_mul_right _ il
 ·cases Ls with
  |nil=>cases hi
  |cons l Ls=>exact hb b hi
theorem _root_.Go.Gev.Sto.read{h0 h:Hs}{S:List Nat}{m:List Th}(k:Nat){t t':Th}(H:Sto h0 S h m)(hk:m[k]?=some t)(he:t'.ex=false)(hb:t'.body h)(hi:∀b,t'.id=some b→t.id=some b)(ht:t.ex=true):Sto h0 S h (m.set k t'):=by
 have hkl:=(geI.1 hk).1
 have get:∀i s,(m.set k t')[i]?=some s→(i=k∧s=t')∨(i≠k∧m[i]?=some s):=λi s hs=>by
  by_cases q:i=k
  ·subst q
   rw[List.getElem?_set_self hkl] at hs
   injection hs with hs
   exact .inl ⟨rfl,hs.symm⟩
  ·rw[List.getElem?_set_ne (λz=>q z.symm)] at hs
   exact .inr ⟨q,hs⟩
 refine⟨H.nx,H.fr,H.lo,λs hs=>?_,λs hs b hb'=>?_,H.chg,λi j s s' hs hs' hij hx b hb' hb2=>?_⟩
 ·obtain⟨i,hs⟩:=List.mem_iff_getElem?.1 hs
  rcases get i s hs with⟨_,rfl⟩|⟨_,q⟩
  ·exact hb
  ·exact H.ok _ (mgE q)
 ·obtain⟨i,hs⟩:=List.mem_iff_getElem?.1 hs
  rcases get i s hs with⟨_,rfl⟩|⟨_,q⟩
  ·exact⟨(H.ids _ (mgE hk) b (hi b hb')).1,λz=>by rw[he] at z;cases z⟩
  ·exact H.ids _ (mgE q) b hb'
 ·rcases get i s hs with⟨_,rfl⟩|⟨q1,q⟩
  ·rw[he] at hx;cases hx
  ·rcases get j s' hs' with⟨rfl,rfl⟩|⟨_,q3⟩
   ·exact H.dj i j s t q hk hij hx b hb' (hi b hb2)
   ·exact H.dj i j s s' q q3 hij hx b hb' hb2
structure Prt where
 n:Nat
 k:Nat
 data:Str
 nm:List (Str × Nat)
def rwN(l:List (Str × Nat)):List (List Value):=l.map λe=>[sV e.1,kI e.2]
def PartAt(h:Hs)(l:List Value)(p:Prt):Prop:=∃dv nv,l = [kI p.n,kI p.k,dv,nv]∧Rd h dv 1 (ones (B_9 p.data))∧Rd h nv 2 (rwN p.nm)
def PartsAt(h:Hs)(v:Value)(ps:List Prt):Prop:=∃L:List (List Value × Prt),ps=L.map (·.2)∧Rd h v 4 (L.map (·.1))∧∀e∈L,PartAt h e.1 e.2
theorem _root_.Go.Gev.Rd.ext{h h':Hs}{v:Value}{u:Nat}{L:List (List Value)}(r:Rd h v u L)(hn:h.nx≤h'.nx)(hg:∀b,Th.id (.rsl v u L)=some b→h'.hp.get b=h.hp.get b):Rd h' v u L:=⟨r.1.congr hg,λb hb=>llN (r.2 b hb) hn⟩
structure IsPrt (T:Tm) (p:Prt):Prop where
 at_:∃x,T p.n=some x∧p.k=x.k∧p.data=x.data∧(∀s,s∈p.nm.map (·.1)↔x.names s≠none)∧(∀e∈p.nm,x.names e.1=some e.2)
 nd:(p.nm.map (·.1)).Nodup
 so:(p.nm.map (·.1)).Pairwise λa b=>E_0 a b=true
structure IsPrts (T:Tm) (ps:List Prt):Prop where
 mem:∀n,n∈ps.map (·.n)↔T n≠none
 nd:(ps.map (·.n)).Nodup
 so:(ps.map (·.n)).Pairwise (· ≤ ·)
 pt:∀p∈ps,IsPrt T p
theorem s_j{α:Type}{le:α→α→Prop}(an:∀a b,le a b→le b a→a=b){l l':List α}(nd:l.Nodup)(nd':l'.Nodup)(so:l.Pairwise le)(so':l'.Pairwise le)(h:∀a,a∈l↔a∈l'):l=l':=
 List.Perm.eq_of_pairwise (le:=le) (λa b _ _ h1 h2=>an a b h1 h2) so so' ((List.perm_ext_iff_of_nodup nd nd').2 h)
theorem BA2{f:Str→Option Nat}{l l':List (Str × Nat)}(h:l.map (·.1)=l'.map (·.1))(h1:∀e∈l,f e.1=some e.2)(h2:∀e∈l',f e.1=some e.2):l=l':=by
 induction l generalizing l' with
 |nil=>
  cases l' with
  |nil=>rfl
  |cons e l'=>cases h
 | cons e l ih =>
  cases l' with
  |nil=>cases h
  |cons e' l'=>
   injection h with q1 q2
   have a:=h1 e mcS
   have b:=h2 e' mcS
   have q1:e.1=e'.1:=q1
   rw[q1,b] at a
   injection a with a
   rw[ih q2 (λz hz=>h1 z (mcM _ hz)) λz hz=>h2 z (mcM _ hz)]
   congr 1
   exact Prod.ext q1 a.symm
theorem Bn6{T:Tm}{p p':Prt}(h:IsPrt T p)(h':IsPrt T p')(hn:p.n=p'.n):p=p':=by
 obtain⟨x,a1,a2,a3,a4,a5⟩:=h.at_
 obtain⟨y,b1,b2,b3,b4,b5⟩:=h'.at_
 rw[hn,b1] at a1
 injection a1 with a1
 subst a1
 have e:p.nm=p'.nm:=BA2 (s_j (le:=λa b=>E_0 a b=true) Bz5 h.nd h'.nd h.so h'.so λa=>by rw[a4,b4]) a5 b5
 cases p;cases p'
 dsimp only at *
 subst hn a2 a3 e
 rw[b2,b3]
theorem Bb2{T:Tm}{ps ps':List Prt}(h:IsPrts T ps)(h':IsPrts T ps'):ps=ps':=by
 have e:ps.map (·.n)=ps'.map (·.n):=s_j (le:=(· ≤ ·)) (λa b=>Nat.le_antisymm) h.nd h'.nd h.so h'.so λa=>by rw[h.mem,h'.mem]
 have hp:=h.pt
 have hp':=h'.pt
 clear h h'
 induction ps generalizing ps' with
 |nil=>
  cases ps' with
  |nil=>rfl
  |cons=>cases e
 | cons p ps ih =>
  cases ps' with
  |nil=>cases e
  |cons p' ps'=>
   injection e with e1 e2
   rw[Bn6 (hp p mcS) (hp' p' mcS) e1,ih e2 (λz hz=>hp z (mcM _ hz)) λz hz=>hp' z (mcM _ hz)]
theorem Bq9{Q:Value→Hs→Prop}{h0 h:Hs}{o:Value}{L:List (List Value × Prt)}{e:Nat}(he:Ext h0 h)(hl:h0.nx≤h.lo)(O:OwnSl h o e 4 false L.length (L.map (·.1)).flatten)(X:FlX h o (L.map (·.1)).flatten)(hid:∀b,vId o=some b→h0.nx≤b∧b<h.nx)(P:∀q∈L,PartAt h q.1 q.2)
 (q:∀v' h',Same h0 h'→PartsAt h' v' (L.map (·.2))→Q v' h'):WP (clrK h0 o h) Q:=by
 have l4:∀l∈L.map (·.1),l.length=4:=λl hl=>by
  obtain⟨z,hz,rfl⟩:=List.mem_map.1 hl
  obtain⟨_,_,e,_⟩:=P z hz
  rw[e];rfl
 have rd:Rd h o 4 (L.map (·.1)):=OwnSl.rdN O l4 (lmQ _) λb hb=>(hid b hb).2
 have e1:clrK h0 o h=clear2 h0 o h (M_r h.hp h0.nx ⟨h0.hp,h0.nx,[]⟩ o):=by
  rw[Q_c,show Nat.blt h.lo h0.nx=false from by rw[blt_eq];simpa using hl];rfl
 have bad:M_r h.hp h0.nx ⟨h0.hp,h0.nx,[]⟩ o=none→WP (clrK h0 o h) Q:=λz=>by
  rw[e1,z]
  refine⟨o,_,rfl,q _ _ ⟨⟨he.1,λb hb=>he.2 b hb⟩,rfl⟩ ⟨L,rfl,rd.lo _,λe he=>?_⟩⟩
  obtain⟨dv,nv,a,b,c⟩:=P e he
  exact⟨dv,nv,a,b.lo _,c.lo _⟩
 cases ff:F_e (L.map (·.1)).flatten with
 | false =>
  refine bad ?_
  obtain⟨_,oo⟩:=O
  rcases oo with⟨rfl,q0⟩|⟨id,c,cs,sz,f,rfl,hn,hg,hf,hsz,hc⟩
  ·have:L = []:=List.length_eq_zero_iff.1 q0
   subst this
   cases ff
  ·obtain⟨_,_,_,_,_,q1⟩:=X id rfl
   rw[ff] at q1
   have hlt:=(hid id rfl).1
   have e2:mvId h.hp h0.nx ⟨h0.hp,h0.nx,[]⟩ id=none:=by
    unfold mvId
    rw[show Nat.blt id h0.nx=false from by rw[blt_eq];exact decide_eq_false (by omega)]
    show e_a _ id (h.hp.get id)=none
    rw[q1];rfl
   simp only[M_r,O_b,J_o,X_3,e2,Z_s]
 | true =>
  obtain⟨ρ,h',e2,x1,x2,x3,x4,x5⟩:=h_m (h0:=h0) (h:=h) o hl he (λb hb=>(hid b (O.blk (by
   obtain⟨a,c,rfl⟩:=O.form
   exact hb))).2)
  have hr:=q_i (h':=h') (ρ:=ρ) O (λb hb=>(hid b hb).1) λb hb=>by
   have:=Ay1 hb
   exact x4 b (by obtain⟨a,c,rfl⟩:=O.form;exact this) (hid b hb).1
  have rn:renV ρ o=renC ρ o:=by obtain⟨a,c,rfl⟩:=O.form;rfl
  have fm:∀l:List Value,F_e l=true→∀v∈l,flat1 v=true:=λl=>by
   induction l with
   |nil=>intro _ v hv;cases hv
   | cons x l ih =>
    intro z v hv
    have z:(match flat1 x with|true=>F_e l|false=>false)=true:=z
    cases z1:flat1 x with
    |false=>rw[z1] at z;cases z
    |true=>
     rw[z1] at z
     rcases mcQ.1 hv with rfl|hv
     ·exact z1
     ·exact ih z v hv
  have rf:∀(v:Value)(u:Nat)(M:List (List Value)),flat1 v=true→Rd h v u M→Rd h' v u M:=λv u M fv r=>by
   obtain⟨⟨hu,r1⟩,r2⟩:=r
   rcases r1 with⟨a,c,rfl,rfl⟩|⟨id,o,c,cs,sz,e,u',rw_,f,rfl,_⟩
   ·exact⟨⟨hu,.inl ⟨a,c,rfl,rfl⟩⟩,λb hb=>by cases hb⟩
   ·cases fv
  refine⟨_,_,e2,q _ _ ⟨x1,x2⟩ ⟨L,rfl,?_,λe he=>?_⟩⟩
  ·rw[rn]
   exact OwnSl.rdN hr.1 l4 (lmQ _) λb hb=>(hr.2 b hb).2
  ·obtain⟨dv,nv,a,b,c⟩:=P e he
   have fa:∀v∈e.1,flat1 v=true:=λv hv=>fm _ ff v (List.mem_flatten.2 ⟨e.1,List.mem_map.2 ⟨e,he,rfl⟩,hv⟩)
   exact⟨dv,nv,a,rf _ _ _ (fa dv (by rw[a];simp)) b,rf _ _ _ (fa nv (by rw[a];simp)) c⟩
def MapKs(h:Hs)(m:Option Nat)(ks:List Str):Prop:=(m=none∧ks = [])∨∃b es cl,m=some b∧h.hp.get b=some (.mp es cl)∧U_f keyS K_p es cl=some ks
def CSortS(R:RnK):Prop:=∀(h:Hs)(k:Nat)(m:Option Nat)(ks:List Str),Holds (h.hp.get k) (.row 47 0 true false [.map m])→MapKs h m ks→WP (R 30 [.func (.func 53) #[] #[pV k]] h) λv h'=>NewS h h' v (L_7 E_0 ks)
theorem AK9{h:Hs}{k:Nat}{m:Option Nat}{ks:List Str}(hb:Holds (h.hp.get k) (.row 47 0 true false [.map m]))(M:MapKs h m ks):WP (U_z keyS K_p Go.Proofs.encStr E_0 53 9 [.func (.func 53) #[] #[pV k]] h) λv h'=>NewS h h' v (L_7 E_0 ks):=by
 show WP (q_9 keyS K_p Go.Proofs.encStr E_0 9 h (W_m 53 h _)) _
 rw[AN4 hb]
 rcases M with⟨rfl,rfl⟩|⟨b,es,cl,rfl,e1,e2⟩
 ·exact⟨_,_,rfl,Same.refl h,⟨rfl,.inl ⟨rfl,rfl⟩⟩,λb hb=>by cases hb⟩
 ·show WP (j_c keyS K_p Go.Proofs.encStr E_0 9 h (h.hp.get b)) _
  rw[e1]
  show WP (K_x Go.Proofs.encStr E_0 9 h (U_f keyS K_p es cl)) _
  rw[e2]
  exact g_g _ h ks
def CSortI(R:RnK):Prop:=∀(h:Hs)(k b:Nat)(es:List MapEntry)(cl:Nat)(ks:List Int),Holds (h.hp.get k) (.row 43 0 true false [.map (some b)])→h.hp.get b=some (.mp es cl)→U_f keyI Gev.eqI es cl=some ks →
 WP (R 28 [.func (.func 50) #[] #[pV k]] h) λv h'=>New h h' (.osl v 3 1 true (L_7 Gev.leI ks).length ((L_7 Gev.leI ks).map (Value.int .i64)))
theorem AK8{h:Hs}{k b:Nat}{es:List MapEntry}{cl:Nat}{ks:List Int}(hb:Holds (h.hp.get k) (.row 43 0 true false [.map (some b)]))(e1:h.hp.get b=some (.mp es cl))(e2:U_f keyI Gev.eqI es cl=some ks) :
 WP (U_z keyI Gev.eqI encZ Gev.leI 50 3 [.func (.func 50) #[] #[pV k]] h) λv h'=>New h h' (.osl v 3 1 true (L_7 Gev.leI ks).length ((L_7 Gev.leI ks).map (Value.int .i64))):=by
 show WP (q_9 keyI Gev.eqI encZ Gev.leI 3 h (W_m 50 h _)) _
 rw[AN4 hb]
 show WP (j_c keyI Gev.eqI encZ Gev.leI 3 h (h.hp.get b)) _
 rw[e1]
 show WP (K_x encZ Gev.leI 3 h (U_f keyI Gev.eqI es cl)) _
 rw[e2]
 exact y_o _ h ks
theorem Bk9(a b c:Int)(h1:Gev.leI a b=true)(h2:Gev.leI b c=true):Gev.leI a c=true:=by rw[N_v] at *;simp only[decide_eq_true_eq] at *;omega
theorem Bk8(a b:Int):(Gev.leI a b||Gev.leI b a)=true:=by rw[N_v,N_v];simp only[Bool.or_eq_true,decide_eq_true_eq];omega
theorem Bd1{h:Hs}{t:TS}(A:TrAt h t)(W:WF t.T t.most)(hB:t.B≤50000):∃(ns:List Nat) (es:List MapEntry) (cl:Nat) (ks:List Int),(∀n,n∈ns↔t.T n≠none)∧ns.Nodup∧ns.Pairwise (· ≤ ·)∧ns.length=t.c∧ns.length≤50000∧h.hp.get t.mb=some (.mp es cl)∧U_f keyI Gev.eqI es cl=some ks∧L_7 Gev.leI ks=ns.map Int.ofNat:=by
 obtain⟨es,cl,mp,M⟩:=A.mp
 obtain⟨l,el,hl,nd,hc⟩:=M.ex
 have cc:=M.cc
 have clB:=M.cl
 have mem:∀n,n∈J_d l↔t.T n≠none:=λn=>by
  constructor
  ·intro q e
   exact absurd q (N_0.1 (by rw[hl,e];rfl))
  ·intro q
   refine Classical.byContradiction λq2=>?_
   have:=N_0.2 q2
   rw[hl] at this
   cases e:t.T n with
   |none=>exact q e
   |some m=>rw[e] at this;cases this
 have ks:=s_6 (l:=l) (λn hn=>by
  cases e:t.T n with
  |none=>exact absurd e ((mem n).1 hn)
  |some x=>
   have:=(W.lo n x e).2
   have:=W.mo
   omega)
 have ndI:((J_d l).map Int.ofNat).Nodup:=(List.pairwise_map).2 (nd.imp λ{a b} hab e=>hab (by injection e))
 have ll:(J_d l).length=t.c:=by unfold J_d;rw[lmQ,hc]
 have pm:=K_o Gev.leI ((J_d l).map Int.ofNat)
 have so:=Q_4 Bk9 Bk8 ((J_d l).map Int.ofNat)
 have ei:L_7 Gev.leI ((J_d l).map Int.ofNat)=((L_7 Gev.leI ((J_d l).map Int.ofNat)).map Int.toNat).map Int.ofNat:=by
  rw[List.map_map]
  have:∀m:List Int,(∀z∈m,∃n:Nat,z=Int.ofNat n)→m=m.map (Int.ofNat ∘ Int.toNat):=λm=>by
   induction m with
   |nil=>intro _;rfl
   |cons z m ih=>
    intro h
    obtain⟨n,rfl⟩:=h z mcS
    rw[List.map_cons,←ih λz hz=>h z (mcM _ hz)];rfl
  exact this _ λz hz=>by
   obtain⟨n,_,rfl⟩:=List.mem_map.1 (pm.mem_iff.1 hz)
   exact⟨n,rfl⟩
 have mem2:∀n:Nat,n∈(L_7 Gev.leI ((J_d l).map Int.ofNat)).map Int.toNat↔t.T n≠none:=λn=>by
  rw[←mem]
  constructor
  ·intro q
   obtain⟨z,hz,rfl⟩:=List.mem_map.1 q
   obtain⟨n,hn,rfl⟩:=List.mem_map.1 (pm.mem_iff.1 hz)
   exact hn
  ·intro q
   exact List.mem_map.2 ⟨Int.ofNat n,pm.mem_iff.2 (List.mem_map.2 ⟨n,q,rfl⟩),rfl⟩
 refine⟨_,es,cl,_,mem2,?_,?_,?_,?_,mp,s_9 M (by rw[el];exact ks) (λa b q=>by rw[eqI_eq] at q;simpa using q) ndI (by rw[lmQ,ll];omega),ei⟩
 ·have:=pm.nodup_iff.2 ndI
  rw[ei] at this
  exact((List.pairwise_map).1 this).imp λ{a b} hab e=>hab (by rw[e])
 ·have:=so
  rw[ei] at this
  exact((List.pairwise_map).1 this).imp λ{a b} hab=>by rw[N_v] at hab;have:=of_decide_eq_true hab;simpa using this
 ·rw[lmQ,pm.length_eq,lmQ,ll]
 ·rw[lmQ,pm.length_eq,lmQ,ll];omega
abbrev L11:=Value→Value→Value→Value→Value→Value→Value→Value→Value→Value→Value→Hs→An
abbrev L3:=Value→Value→Value→Hs→An
def PtA(P:Nat→Prop)(h:Hs)(l:List Value)(p:Prt):Prop:=∃dv nv,l = [kI p.n,kI p.k,dv,nv]∧Rd h dv 1 (ones (B_9 p.data))∧Rd h nv 2 (rwN p.nm)∧∀b,(Th.id (.rsl dv 1 (ones (B_9 p.data)))=some b∨Th.id (.rsl nv 2 (rwN p.nm))=some b)→P b
theorem PtA.at_{P:Nat→Prop}{h:Hs}{l:List Value}{p:Prt}(A:PtA P h l p):PartAt h l p:=by
 obtain⟨dv,nv,a,b,c,_⟩:=A
 exact⟨dv,nv,a,b,c⟩
theorem PtA.ext{P P':Nat→Prop}{h h':Hs}{l:List Value}{p:Prt}(A:PtA P h l p)(hn:h.nx≤h'.nx)(hg:∀b,P b→b<h.nx→h'.hp.get b=h.hp.get b)(hP:∀b,P b→b<h.nx→P' b):PtA P' h' l p:=by
 obtain⟨dv,nv,a,b,c,d⟩:=A
 exact⟨dv,nv,a,b.ext hn λi hi=>hg i (d i (.inl hi)) (b.2 i hi),c.ext hn λi hi=>hg i (d i (.inr hi)) (c.2 i hi),λi hi=>hP i (d i hi) (hi.elim (b.2 i) (c.2 i))⟩
theorem PtA.len{P:Nat→Prop}{h:Hs}{l:List Value}{p:Prt}(A:PtA P h l p):l.length=4:=by
 obtain⟨dv,nv,rfl,_⟩:=A
 rfl
structure PI (h:Hs) (t:TS) (kv:Value) (ns:List Nat) (u:Hs) (o:Value) (i:Nat) (L:List (List Value × Prt)):Prop where
 tr:TrAt u t
 ex:Ext h u
 lo:h.nx≤u.lo
 hn:h.nx<u.nx
 bx:Holds (u.hp.get h.nx) (.row 43 0 true false [.map (some t.mb)])
 kr:Rd u kv 1 (ones (ns.map kI))
 ki:∀b,Th.id (.rsl kv 1 (ones (ns.map kI)))=some b→h.nx<b
 ow:OwnSl u o 57 4 false i (L.map (·.1)).flatten
 fx:FlX u o (L.map (·.1)).flatten
 oi:∀b,vId o=some b→h.nx<b∧b<u.nx∧Th.id (.rsl kv 1 (ones (ns.map kI)))≠some b
 ll:L.length=i
 nn:L.map (λq=>q.2.n)=ns.take i
 pt:∀q∈L,PtA (λb=>h.nx<b∧vId o≠some b) u q.1 q.2∧IsPrt t.T q.2∧q.2.nm.length≤50000
theorem Bb8(l:List (Str × Nat))(e:Str × Nat):(rwN (l ++ [e])).flatten=(rwN l).flatten ++ [sV e.1,kI e.2]:=by
 unfold rwN
 rw[List.map_append,List.flatten_append];rfl
def PartsQ(h:Hs)(t:TS)(v:Value)(h':Hs):Prop:=Gev.Same h h'∧∃ps,IsPrts t.T ps∧PartsAt h' v ps∧ps.length≤50000∧∀p∈ps,p.nm.length≤50000
def CPartsT(R:RnK):Prop:=∀(h:Hs)(t:TS),TrAt h t→WF t.T t.most→t.B≤50000→WP (R 12 [pV t.p] h) (PartsQ h t)
theorem Ap1{R:RnK}{N:Nat}(hN:100000<N)(cki:CKeysI R)(cks:CKeysS R)(csi:CSortI R)(css:CSortS R)(cbc:CBClone R){h:Hs}{t:TS}(A:TrAt h t)(W:WF t.T t.most)(hB:t.B≤50000):WP (r12 R N [pV t.p] h) (PartsQ h t):=by
 have H0:=Sto.enter h
 have A0:=A.st H0
 have r0:t.L.ro h.nx=none:=A.fr _ (lR _)
 unfold r12
 repeat' (first|(with_reducible first|refine H_i ?_|refine H_1 ?_|refine A_g ?_|refine F_w ?_))
 refine t_mp A0 rfl ?_
 refine G_b (cki _ _) λv1 u1 b1=>?_
 obtain⟨rfl,s1,x1,n1⟩:=b1
 have A1:=A0.ext s1.1.1 λb hb _=>s1.1.2 b hb
 obtain⟨ns,es,cl,ks,k1,k2,k3,k4,k5,k6,k7,k8⟩:=Bd1 A1 W hB
 refine G_b (csi u1 _ _ es cl ks x1 k6 k7) λkv u2 nw=>?_
 rw[k8] at nw
 have ek:(ns.map Int.ofNat).map (Value.int .i64)=ns.map kI:=by rw[List.map_map];rfl
 rw[ek,lmQ] at nw
 obtain⟨s2,kb,kid⟩:=nw
 have kb:OwnSl u2 kv 3 1 true ns.length (ns.map kI):=kb
 have kid:∀b,vId kv=some b→u1.nx≤b∧b<u2.nx:=kid
 have krd:=OwnSl.rd1 kb
 have n1:h.nx<u1.nx:=n1
 have s11:h.nx≤u1.nx:=s1.1.1
 have I0:PI h t kv ns u2 (.slice none 0 0) 0 []:=by
  refine⟨A1.ext s2.1.1 λb hb _=>s2.1.2 b hb,⟨lTr s11 s2.1.1,λb hb=>(s2.1.2 b (llN hb s11)).trans (s1.1.2 b hb)⟩,?_,llN n1 s2.1.1,?_,⟨krd.1,λb hb=>(kid b (krd.2 b hb)).2⟩,λb hb=>?_,⟨rfl,.inl ⟨rfl,rfl⟩⟩,λb hb=>(by cases hb),λb hb=>(by cases hb),rfl,rfl,λq hq=>by cases hq⟩
  ·rw[s2.2,s1.2];exact lR _
  ·rw[s2.1.2 _ n1];exact x1
  ·have:=(kid b (krd.2 b hb)).1
   omega
 obtain⟨ka,kc,kf⟩:=kb.form
 rw[kf]
 refine V_5 ?_
 rw[←kf]
 clear kb krd kid
 repeat' (first|(with_reducible refine w_jn ?_))
 refine V_1 (Good:=λr (self:L11)=>∀(i:Nat)(y2 y3 y4 y5 y6 y7 y8 y9 y10 o:Value)(u:Hs)(L:List (List Value × Prt)),i+r=ns.length→PI h t kv ns u o i L→WP (self (kI i) y2 y3 y4 y5 y6 y7 y8 y9 y10 o u) (PartsQ h t))
  (λr self ih i y2 y3 y4 y5 y6 y7 y8 y9 y10 o ub L hi I=>?_) N ns.length (by omega) 0 _ _ _ _ _ _ _ _ _ _ u2 [] (by omega) I0
 clear I0 s1 s2 x1 n1 A1 H0 A0
 have H:Sto ub [h.nx] ub [.blk h.nx (.row 43 0 true false [.map (some t.mb)]),.rsl kv 1 (ones (ns.map kI))]:=by
  refine⟨lR _,λ_ _ _=>rfl,λk _ hk=>lTr (hk h.nx (by simp)) I.lo,λt ht=>?_,λt ht b hb=>?_,λ_ _ _=>rfl,λi j s s' hi hj hij hx b hb hb2=>?_⟩
  ·rcases mcQ.1 ht with rfl|ht
   ·exact I.bx
   ·rw[msQ.1 ht];exact I.kr.1
  ·rcases mcQ.1 ht with rfl|ht
   ·injection hb with hb
    subst hb
    exact⟨I.hn,λ_=>.inr (by simp)⟩
   ·rw[msQ.1 ht] at hb ⊢
    exact⟨I.kr.2 b hb,λz=>by cases z⟩
  ·match i,j,hi,hj with
   |0,0,_,_=>exact absurd rfl hij
   |0,1,hi,hj=>
    injection hi with hi;injection hj with hj
    subst hi hj
    injection hb with hb
    have:=I.ki b hb2
    omega
   |0,j+2,_,hj=>simp at hj
   |1,_,hi,_=>
    injection hi with hi
    subst hi
    cases hx
   |i+2,_,hi,_=>simp at hi
 repeat' (first|(with_reducible first|refine w_jn ?_|refine F_2 ?_|refine E_k ?_)|((with_reducible refine J_c (λ_=>?_) (λ_=>?_))<;>first|(exfalso;omega)|skip))
 ·have il : i < ns.length := by omega
  have ro:∀s ∈ [h.nx],t.L.ro s=none:=λs q=>by rw[msQ.1 q];exact r0
  obtain⟨n,hnq⟩:∃n,n=ns[i]:=⟨_,rfl⟩
  have hg:(ones (ns.map kI))[i]?=some [kI n]:=by unfold ones;rw[List.getElem?_map,List.getElem?_map,gqG il,hnq];rfl
  refine Bd6 1 H rfl hg rfl rfl ?_
  clear hg
  have hx0:t.T n≠none:=(k1 n).1 (by rw[hnq];exact List.getElem_mem il)
  obtain⟨x,hx⟩:∃x,t.T n=some x:=by
   cases e:t.T n with
   |none=>exact absurd e hx0
   |some x=>exact⟨x,rfl⟩
  have A1:=I.tr
  repeat' (first|(with_reducible first|refine A_g ?_|refine F_w ?_))
  refine t_mp A1 rfl ?_
  refine t_lk A1 hx ?_
  repeat' (first|(with_reducible first|refine A_g ?_|refine F_w ?_))
  refine t_k A1 hx rfl ?_
  repeat' (first|(with_reducible first|refine A_g ?_|refine F_w ?_))
  refine t_dv A1 hx rfl ?_
  have dl:=(W.da n x hx).1
  refine G_b (cbc _ x.data ⟨ub.hp,ub.nx,ub.nx⟩ (by omega) ((A1.it n x hx).rdd.lo ub.nx)) λv3 u3 n3=>?_
  refine r_z n3 λu4 n4=>?_
  have H4:=H.call n4
  clear H
  have H:=H4
  clear H4
  have d4:∀b,vId v3=some b→ub.nx≤b:=λb hb=>(n4.2.2 b hb).1
  obtain⟨da,dc,df⟩:∃a c,v3=.slice a x.data.length c:=OwnSl.form n4.2.1
  have A4:=A1.sto H ro
  subst df
  repeat' (first|(with_reducible first|refine A_g ?_|refine F_w ?_|refine R_h ?_)|((with_reducible apply H_e) ;rfl;(try dsimp only[splice,ev,A_4,rep,caQ,naQ]))|((with_reducible refine W_0 ?_ ?_) ;omega)|((with_reducible refine u_i H ?_) ;(clear H;intro u H hu))|((with_reducible apply E_s 0 H) ;rfl;rfl;rfl;omega;rfl;(clear H;intro u H hu;(try dsimp only[scZ,scS,A_4,ttA,splice,ev,rep,caQ,naQ] at H))))
  have A5:=I.tr.sto H ro
  refine t_it A5 hx 2 rfl rfl ?_
  obtain⟨mo,hmo⟩:∃mo,mo=(if x.k=2 then some (t.L.nb n) else none):=⟨_,rfl⟩
  have em:nmV t.L n x=.map mo:=by rw[hmo];rfl
  rw[em]
  refine G_b (cks u mo) λv6 u6 b6=>?_
  obtain⟨rfl,s6,x6,n6⟩:=b6
  have A6:=A5.ext s6.1.1 λb hb _=>s6.1.2 b hb
  have H6:=H.same s6
  clear H
  obtain⟨ks2,mk,m1,m2,m3⟩:∃ks2,MapKs u6 mo ks2∧ks2.Nodup∧(∀s,s∈ks2↔x.names s≠none)∧ks2.length≤50000:=by
   by_cases q2:x.k=2
   ·obtain⟨_,_,es2,cl2,nm,M2⟩:=(A6.it n x hx).nm q2
    obtain⟨ks2,q3,q4,q5,q6⟩:=t_l W hB hx M2
    refine⟨ks2,.inr ⟨_,_,_,by rw[hmo,if_pos q2],nm,q3⟩,q4,q6,?_⟩
    rw[q5]
    have:=M2.cc
    have:=M2.cl
    omega
   ·refine⟨[],.inl ⟨by rw[hmo,if_neg q2],rfl⟩,List.nodup_nil,λs=>⟨λq=>(by cases q),λq=>?_⟩,by simp⟩
    cases e:x.names s with
    |none=>exact absurd e q
    |some m=>exact absurd (W.nm n x s m hx e).1 q2
  refine G_b (css u6 _ _ ks2 x6 mk) λv7 u7 n7=>?_
  obtain⟨l,hl⟩:∃l,l=L_7 E_0 ks2:=⟨_,rfl⟩
  rw[←hl] at n7
  have H7:=H6.call n7
  clear H6
  have rd7:=OwnSl.rd1 n7.2.1
  have H8:=H7.read 0 (t':=.rsl v7 1 (ones (strs l))) rfl rfl rd7.1 rd7.2 rfl
  clear H7
  have H:=H8.cons (.osl (.slice none 0 0) 61 2 true 0 []) ⟨rfl,.inl ⟨rfl,rfl⟩⟩ (λb hb=>by cases hb) (λs hs _ b hb=>by cases hb)
  clear H8
  dsimp only[scZ] at H
  obtain⟨sa,sc,sf⟩:∃a c,v7=.slice a l.length c:=OwnSl.form n7.2.1
  have l1:∀s,s∈l↔x.names s≠none:=λs=>by rw[hl,(K_o E_0 ks2).mem_iff];exact m2 s
  have l2:l.Nodup:=by rw[hl];exact(K_o E_0 ks2).nodup_iff.2 m1
  have l3:l.Pairwise (λa b=>E_0 a b=true):=by rw[hl];exact Q_4 Bl1 Bl0 ks2
  have l4:l.length≤50000:=by rw[hl,(K_o E_0 ks2).length_eq];exact m3
  clear hl rd7 n7 mk m1 m2 m3 x6 s6 A6 A5 n6
  subst sf
  obtain⟨g,hgg⟩:∃g:Str→Str × Nat,g=λs=>(s,(x.names s).getD 0):=⟨_,rfl⟩
  have un4:ub.nx≤u4.nx:=n4.1.1.1
  have hpn:u4.nx<u7.nx:=H.lt 2 rfl
  repeat' (first|(with_reducible first|refine w_jn ?_|refine V_5 ?_))
  refine V_1 (Good:=λr2 (self2:L3)=>∀(j:Nat)(fl flp:Bool)(z y2 y3:Value)(w:Hs),j+r2=l.length→Sto ub [h.nx] w [.osl z 61 2 fl j (rwN ((l.take j).map g)).flatten,.rsl (.slice sa l.length sc) 1 (ones (strs l)),.blk u4.nx (.row 57 0 true flp [kI n,kI x.k,.slice da x.data.length dc,z]),.osl (.slice da x.data.length dc) 5 1 true x.data.length (B_9 x.data),.blk h.nx (.row 43 0 true false [.map (some t.mb)]),.rsl kv 1 (ones (ns.map kI))]→WP (self2 (kI j) y2 y3 w) (PartsQ h t))
   (λr2 self2 ih2 j fl flp z y2 y3 w hj H1=>?_) N l.length (by omega) 0 true _ _ _ _ u7 (by omega) H
  clear H
  have H:=H1
  clear H1
  repeat' (first|(with_reducible first|refine w_jn ?_|refine F_2 ?_|refine E_k ?_)|((with_reducible apply d_s H) ;rfl;(clear H;intro u H hu;(try dsimp only[scZ,scS,A_4,ttA,splice,ev,rep,caQ,naQ] at H)))|((with_reducible refine J_c (λ_=>?_) (λ_=>?_))<;>first|(exfalso;omega)|skip)|((with_reducible apply T_9 2 H) ;rfl;rfl;rfl))
  ·rename_i jl
   obtain⟨s,hs⟩:∃s,s=l[j]:=⟨_,rfl⟩
   have hg:(ones (strs l))[j]?=some [sV s]:=by unfold ones strs;rw[List.getElem?_map,List.getElem?_map,gqG jl,hs];rfl
   refine Bd6 1 H rfl hg rfl rfl ?_
   clear hg
   have sx:x.names s≠none:=(l1 s).1 (by rw[hs];exact List.getElem_mem jl)
   obtain⟨m,hm⟩:∃m,x.names s=some m:=by
    cases e:x.names s with
    |none=>exact absurd e sx
    |some m=>exact⟨m,rfl⟩
   have q2:x.k=2:=(W.nm n x s m hx hm).1
   have A8:=I.tr.sto H ro
   repeat' (first|(with_reducible first|refine A_g ?_|refine F_w ?_)|((with_reducible apply H_c 2 H) ;rfl;rfl;rfl))
   refine t_nm A8 hx q2 rfl ?_
   refine Bp9 (A8.en w.nx) hx q2 hm ?_
   repeat' (first|(with_reducible first|refine a_b ?_|refine R_h ?_)|((with_reducible apply H_e) ;rfl;(try dsimp only[splice,ev,A_4,rep,caQ,naQ])))
   refine AM9 H rfl λu8 H8 hu8=>?_
   clear H
   have H:=H8
   clear H8
   refine d_k 1 0 H rfl rfl rfl rfl (by decide) (by omega) λz' u9 H9 hn9=>?_
   have eT:(rwN ((l.take j).map g)).flatten ++ [sV s,kI m]=(rwN ((l.take (j+1)).map g)).flatten:=by
    rw[List.take_add_one,gqG jl,←hs]
    show _=(rwN (List.map g (List.take j l ++ [s]))).flatten
    rw[List.map_append]
    show _=(rwN (List.map g (List.take j l) ++ [g s])).flatten
    rw[Bb8,hgg]
    dsimp only
    rw[hm];rfl
   have H2:Sto ub [h.nx] u9 [.osl z' 61 2 (fl&&F_e [sV s,kI m]) (j+1) (rwN ((l.take (j+1)).map g)).flatten,.rsl (.slice sa l.length sc) 1 (ones (strs l)),.blk u4.nx (.row 57 0 true flp [kI n,kI x.k,.slice da x.data.length dc,z]),.osl (.slice da x.data.length dc) 5 1 true x.data.length (B_9 x.data),.blk h.nx (.row 43 0 true false [.map (some t.mb)]),.rsl kv 1 (ones (ns.map kI))]:=by
    have:=H9.tail
    rw[←eT]
    exact this
   clear H9 H
   have H:=H2
   clear H2
   refine W_0 (by omega) ?_
   obtain⟨za,zc,zf⟩:∃a c,z'=.slice a (j+1) c:=OwnSl.form (H.ok _ (mgE (i:=0) rfl))
   subst zf
   repeat' (first|(with_reducible refine A_g ?_)|((with_reducible first|refine W_0 ?_ ?_|refine H_6 ?_ ?_) ;omega)|((with_reducible apply Y_b 2 H) ;rfl;(simp only[lcQ,List.length_nil];omega);rfl;(clear H;intro u H hu;(try dsimp only[scZ,scS,A_4,ttA,splice,ev,rep,caQ,naQ] at H))))
   exact ih2 (r2-1) (by omega) (j+1) _ _ _ _ _ _ (by omega) H
  ·have je:j=l.length:=by omega
   subst je
   rw[List.take_length] at H
   obtain⟨za,zc,zf⟩:∃a c,z=.slice a l.length c:=OwnSl.form (H.ok _ (mgE (i:=1) rfl))
   subst zf
   have rowH:=H.holds 0 rfl
   have un:ub.nx≤u.nx:=H.nx
   have og:∀b,vId o=some b→u.hp.get b=ub.hp.get b:=λb hb=>H.fr b (I.oi b hb).2.1 λq=>by
    have:=(I.oi b hb).1
    rw[msQ.1 q] at this
    omega
   obtain⟨o',w',e1,e2,e3,e4,e5,e6,e7⟩:=AR3 (by_:=64) (c:=1) (I.ow.congr og) (I.fx.congr og) rowH rfl rfl (by omega)
   rw[e1]
   refine r_v ?_
   repeat' (first|((with_reducible refine H_6 ?_ ?_) ;omega))
   have oi:=I.oi
   have hn0:=I.hn
   have wn:w.nx<u.nx:=H.lt 0 rfl
   have kr:=H.rd 6 rfl
   have hne:∀b,b≠h.nx→b ∉ [h.nx]:=λb q z=>q (msQ.1 z)
   have lg:(l.map g).map (·.1)=l:=by
    rw[hgg,List.map_map]
    exact List.map_id' l
   have zb:∀b,vId (.slice za l.length zc)=some b→ub.nx≤b∧b<u.nx:=λb hb=>by
    have q:=H.ids _ (mgE (i:=1) rfl) b hb
    refine⟨(q.2 rfl).elim id λz=>?_,q.1⟩
    rw[msQ.1 z] at hb
    exact absurd rfl (H.dj 1 5 _ _ rfl rfl (by decide) rfl h.nx hb)
   have db:∀b,vId (.slice da x.data.length dc)=some b→ub.nx≤b∧b<u.nx:=λb hb=>⟨d4 b hb,(H.ids _ (mgE (i:=4) rfl) b hb).1⟩
   have rdD:=H.rdO 4 rfl
   have idD:=(OwnSl.rd1 (H.ok _ (mgE (i:=4) rfl))).2
   have l2z:∀q∈rwN (l.map g),q.length=2:=λq hq=>by
    obtain⟨_,_,rfl⟩:=List.mem_map.1 hq
    rfl
   have rdZ:Rd u (.slice za l.length zc) 2 (rwN (l.map g)):=OwnSl.rdN (H.ok _ (mgE (i:=1) rfl)) l2z (by unfold rwN;rw[lmQ,lmQ]) λb hb=>(zb b hb).2
   have idZ:∀b,Th.id (.rsl (.slice za l.length zc) 2 (rwN (l.map g)))=some b→vId (.slice za l.length zc)=some b:=λb hb=>by
    cases hq:rwN (l.map g) with
    |nil=>rw[hq] at hb;cases hb
    |cons a b'=>rw[hq] at hb;exact hb
   have keep:∀b,ub.nx≤b→b<u.nx→w'.hp.get b=u.hp.get b:=λb q1 q2=>e5 b q2 λz=>by
    have:=(oi b z).2.1
    omega
   have efl:((L ++ [([kI n,kI x.k,.slice da x.data.length dc,.slice za l.length zc],(⟨n,x.k,x.data,l.map g⟩:Prt))]).map (·.1)).flatten=(L.map (·.1)).flatten ++ [kI n,kI x.k,.slice da x.data.length dc,.slice za l.length zc]:=by
    rw[List.map_append,List.flatten_append];rfl
   refine ih (r-1) (by omega) (i+1) _ _ _ _ _ _ _ _ _ o' w' (L ++ [([kI n,kI x.k,.slice da x.data.length dc,.slice za l.length zc],⟨n,x.k,x.data,l.map g⟩)]) (by omega) ⟨?_,?_,?_,by omega,?_,?_,I.ki,?_,?_,λb hb=>?_,?_,?_,λq hq=>?_⟩
   ·refine(I.tr.sto H ro).ext e4 λb hb hr=>e5 b hb λz=>hr (A.fr b (Nat.le_of_lt (oi b z).1))
   ·have:=I.ex.1
    exact⟨by omega,λb hb=>(e5 b (by omega) λz=>by have:=(oi b z).1;omega).trans ((H.fr b (by omega) (hne b (by omega))).trans (I.ex.2 b hb))⟩
   ·refine e6 h.nx (H.lo h.nx (by omega) λs q=>by rw[msQ.1 q];exact lR _) (by omega) λb hb=>Nat.le_of_lt (oi b hb).1
   ·rw[e5 h.nx (by omega) λz=>by have:=(oi _ z).1;omega]
    exact H.holds 5 rfl
   ·exact kr.ext e4 λb hb=>e5 b (kr.2 b hb) λz=>(oi b z).2.2 hb
   ·rw[efl];exact e2
   ·rw[efl];exact e3
   ·have:=e7 b hb
    exact⟨by omega,this.2,λz=>by have:=kr.2 b z;omega⟩
   ·rw[List.length_append,I.ll];rfl
   ·rw[List.map_append,I.nn,List.take_add_one,gqG il,←hnq];rfl
   ·rcases List.mem_append.1 hq with hq|hq
    ·refine⟨(I.pt q hq).1.ext (by omega) (λb pb hb=>(e5 b (by omega) pb.2).trans (H.fr b hb (hne b (by have:=pb.1;omega)))) λb pb hb=>⟨pb.1,λz=>by have:=e7 b z;omega⟩,(I.pt q hq).2⟩
    ·rw[msQ.1 hq]
     refine⟨⟨_,_,rfl,rdD.ext e4 λb hb=>keep b (db b (idD b hb)).1 (db b (idD b hb)).2,rdZ.ext e4 λb hb=>keep b (zb b (idZ b hb)).1 (zb b (idZ b hb)).2,λb hb=>?_⟩,⟨⟨x,hx,rfl,rfl,λs=>?_,λe he=>?_⟩,?_,?_⟩,by show (l.map g).length≤50000;rw[lmQ];exact l4⟩
     ·have q:ub.nx≤b∧b<u.nx:=hb.elim (λz=>db b (idD b z)) λz=>zb b (idZ b z)
      exact⟨by omega,λz=>by have:=e7 b z;omega⟩
     ·show s∈(l.map g).map (·.1)↔_
      rw[lg];exact l1 s
     ·obtain⟨s,hs,rfl⟩:=List.mem_map.1 he
      cases e:x.names s with
      |none=>exact absurd e ((l1 s).1 hs)
      |some m=>
       rw[hgg]
       dsimp only
       rw[e];rfl
     ·show ((l.map g).map (·.1)).Nodup
      rw[lg];exact l2
     ·show ((l.map g).map (·.1)).Pairwise _
      rw[lg];exact l3
 ·have il:i=ns.length:=by omega
  refine Bq9 (e:=57) I.ex I.lo (by rw[I.ll];exact I.ow) I.fx (λb hb=>⟨Nat.le_of_lt (I.oi b hb).1,(I.oi b hb).2.1⟩) (λq hq=>(I.pt q hq).1.at_) λv' h' s p=>⟨s,_,⟨?_,?_,?_,λp hp=>?_⟩,p,by rw[lmQ,I.ll];omega,λp hp=>?_⟩
  ·have e:(L.map (·.2)).map (·.n)=ns:=by
    rw[List.map_map]
    have:=I.nn
    rw[il,List.take_length] at this
    exact this
   intro n
   rw[e];exact k1 n
  ·have e:(L.map (·.2)).map (·.n)=ns:=by
    rw[List.map_map]
    have:=I.nn
    rw[il,List.take_length] at this
    exact this
   rw[e];exact k2
  ·have e:(L.map (·.2)).map (·.n)=ns:=by
    rw[List.map_map]
    have:=I.nn
    rw[il,List.take_length] at this
    exact this
   rw[e];exact k3
  ·obtain⟨q,hq,rfl⟩:=List.mem_map.1 hp
   exact(I.pt q hq).2.1
  ·obtain⟨q,hq,rfl⟩:=List.mem_map.1 hp
   exact(I.pt q hq).2.2
abbrev yesQ(h:Hs):Value→Hs→Prop:=λv h'=>v=.bool true∧h'=h
def CBEq(R:RnK):Prop:=∀(h:Hs)(a b:Value)(D:Str),Rd h a 1 (ones (B_9 D))→Rd h b 1 (ones (B_9 D))→WP (R 26 [a,b] h) (yesQ h)
theorem Bg4{R:RnK}{N:Nat}{h:Hs}{a b:Value}{D:Str}(r:Rd h a 1 (ones (B_9 D)))(r2:Rd h b 1 (ones (B_9 D))):WP (r26 R N [a,b] h) (yesQ h):=by
 have H:=Sto.enter2 r r2
 unfold r26
 repeat' (first|(with_reducible first|refine H_i ?_|refine H_1 ?_))
 refine j_0 0 H rfl ?_
 refine j_0 1 H rfl ?_
 refine BB8 rfl rfl (λ_=>?_) (λq=>absurd rfl q)
 exact E_z H rfl ⟨rfl,rfl⟩
theorem AC4(s:Str)(n:Nat):e2 true (qA [.s,.i]) (.agg #[sV s,kI n]) (.agg #[sV s,kI n])=some (.bool false):=by
 have e1:U_i .s (sV s) (sV s)=some true:=by
  show some (eqL s s)=_
  rw[Ad7,decide_eq_true rfl]
 have e2':U_i .i (kI n) (kI n)=some true:=by
  show eqI2 .i64 (.ofNat n) (.int .i64 (.ofNat n))=_
  rw[s_e,decide_eq_true rfl]
 show u_v true (match U_i .s (sV s) (sV s) with|some t=>(match t with|true=>(match U_i .i (kI n) (kI n) with|some t=>(match t with|true=>some true|false=>some false)|none=>none)|false=>some false)|none=>none)=_
 rw[e1,e2'];rfl
abbrev L5e:=Value→Value→Value→Value→Value→Hs→An
def CNEq(R:RnK):Prop:=∀(h:Hs)(a b:Value)(l:List (Str × Nat)),l.length≤90000→Rd h a 2 (rwN l)→Rd h b 2 (rwN l)→WP (R 27 [a,b] h) (yesQ h)
theorem Bl9{R:RnK}{N:Nat}(hN:100000<N){h:Hs}{a b:Value}{l:List (Str × Nat)}(hl:l.length≤90000)(r:Rd h a 2 (rwN l))(r2:Rd h b 2 (rwN l)):WP (r27 R N [a,b] h) (yesQ h):=by
 have H:=Sto.enter2 r r2
 have ll:(rwN l).length=l.length:=by unfold rwN;rw[lmQ]
 obtain⟨a1,c1,f1⟩:=r.1.formN ll
 obtain⟨a2,c2,f2⟩:=r2.1.formN ll
 subst f1 f2
 clear r r2
 unfold r27
 repeat' (first|(with_reducible first|refine w_jn ?_|refine E_k ?_|refine H_i ?_|refine H_1 ?_|refine V_5 ?_)|((with_reducible refine D_v (λ_=>?_) (λ_=>?_))<;>first|(exfalso;omega)|skip))
 refine V_1 (Good:=λr (self:L5e)=>∀(i:Nat)(y2 y3 y4 y5:Value),i+r=l.length→WP (self (kI i) y2 y3 y4 y5 ⟨h.hp,h.nx,h.nx⟩) (yesQ h))
  (λr self ih i y2 y3 y4 y5 hi=>?_) N l.length (by omega) 0 _ _ _ _ (by omega)
 repeat' (first|(with_reducible first|refine w_jn ?_|refine F_2 ?_|refine E_k ?_)|((with_reducible refine J_c (λ_=>?_) (λ_=>?_))<;>first|(exfalso;omega)|skip))
 ·have il:i<l.length:=by omega
  have hg:(rwN l)[i]?=some [sV l[i].1,kI l[i].2]:=by unfold rwN;rw[List.getElem?_map,gqG il];rfl
  refine w_at 0 H rfl hg rfl rfl ?_
  refine w_at 1 H rfl hg rfl rfl ?_
  refine w_ob (AC4 _ _) ?_
  repeat' (first|(with_reducible first|refine w_jn ?_|refine E_k ?_)|((with_reducible refine H_6 ?_ ?_) ;omega))
  exact ih (r-1) (by omega) (i+1) _ _ _ _ (by omega)
 ·exact E_z H rfl ⟨rfl,rfl⟩
def CSm1(R:RnK):Prop:=∀(h:Hs)(p:Prt)(d1 n1 d2 n2:Value),p.nm.length≤90000→Rd h d1 1 (ones (B_9 p.data))→Rd h d2 1 (ones (B_9 p.data))→Rd h n1 2 (rwN p.nm)→Rd h n2 2 (rwN p.nm)→WP (R 25 [.agg #[kI p.n,kI p.k,d1,n1],.agg #[kI p.n,kI p.k,d2,n2]] h) (yesQ h)
theorem Bo3{R:RnK}{N:Nat}(cb:CBEq R)(cn:CNEq R){h:Hs}{p:Prt}{d1 n1 d2 n2:Value}(hl:p.nm.length≤90000)(r1:Rd h d1 1 (ones (B_9 p.data)))(r2:Rd h d2 1 (ones (B_9 p.data)))(q1:Rd h n1 2 (rwN p.nm))(q2:Rd h n2 2 (rwN p.nm)) :
 WP (r25 R N [.agg #[kI p.n,kI p.k,d1,n1],.agg #[kI p.n,kI p.k,d2,n2]] h) (yesQ h):=by
 have H:=Sto.enter h
 unfold r25
 repeat' (first|(with_reducible first|refine N_k ?_|refine G_7 ?_|refine H_i ?_|refine H_1 ?_|refine A_g ?_)|((with_reducible refine M_f H ?_) ;(clear H;intro u H hu))|((with_reducible refine G_h (λ_=>?_) (λ_=>?_))<;>first|(exfalso;omega)|skip)|((with_reducible apply H_c 0 H) ;rfl;rfl;rfl)|((with_reducible apply H_c 1 H) ;rfl;rfl;rfl))
 ·have e:=H.ext0
  refine G_b (cb _ _ _ p.data (r1.ext e.1 λb hb=>e.2 b (r1.2 b hb)) (r2.ext e.1 λb hb=>e.2 b (r2.2 b hb))) λv u hq=>?_
  obtain⟨rfl,rfl⟩:=hq
  repeat' (first|(with_reducible first|refine N_k ?_|refine G_7 ?_|refine A_g ?_)|((with_reducible apply H_c 0 H) ;rfl;rfl;rfl)|((with_reducible apply H_c 1 H) ;rfl;rfl;rfl))
  refine G_b (cn _ _ _ p.nm hl (q1.ext e.1 λb hb=>e.2 b (q1.2 b hb)) (q2.ext e.1 λb hb=>e.2 b (q2.2 b hb))) λv u hq=>?_
  obtain⟨rfl,rfl⟩:=hq
  repeat' (first|(with_reducible refine G_7 ?_))
  exact E_z H rfl ⟨rfl,rfl⟩
abbrev L7e:=Value→Value→Value→Value→Value→Value→Value→Hs→An
def CEqF(R:RnK):Prop:=∀(h:Hs)(a b:Value)(ps:List Prt),ps.length≤90000→(∀p∈ps,p.nm.length≤90000)→PartsAt h a ps→PartsAt h b ps→WP (R 24 [a,b,.func (.func 25) #[] #[]] h) (yesQ h)
theorem Bi4{R:RnK}{N:Nat}(hN:100000<N)(cs:CSm1 R){h:Hs}{a b:Value}{ps:List Prt}(hl:ps.length≤90000)(hnm:∀p∈ps,p.nm.length≤90000)(r:PartsAt h a ps)(r2:PartsAt h b ps) :
 WP (r24 R N [a,b,.func (.func 25) #[] #[]] h) (yesQ h):=by
 obtain⟨L,e1,r1,p1⟩:=r
 obtain⟨L2,e2,r2,p2⟩:=r2
 have H:=Sto.enter2 r1 r2
 have ll:(L.map (·.1)).length=ps.length:=by rw[e1,lmQ,lmQ]
 have ll2:(L2.map (·.1)).length=ps.length:=by rw[e2,lmQ,lmQ]
 obtain⟨a1,c1,f1⟩:=r1.1.formN ll
 obtain⟨a2,c2,f2⟩:=r2.1.formN ll2
 subst f1 f2
 clear r1 r2
 unfold r24
 repeat' (first|(with_reducible first|refine w_jn ?_|refine E_k ?_|refine H_i ?_|refine H_1 ?_|refine V_5 ?_)|((with_reducible refine D_v (λ_=>?_) (λ_=>?_))<;>first|(exfalso;omega)|skip))
 obtain⟨u0,hu0,H0⟩:∃u0,u0=(⟨h.hp,h.nx,h.nx⟩:Hs)∧Sto h [] u0 [.rsl (.slice a1 ps.length c1) 4 (L.map (·.1)),.rsl (.slice a2 ps.length c2) 4 (L2.map (·.1))]:=⟨_,rfl,H⟩
 rw[←hu0]
 clear H hu0
 refine V_1 (Good:=λr (self:L7e)=>∀(i:Nat)(y2 y3 y4 y5 y6 y7:Value)(u:Hs),i+r=ps.length→Sto h [] u [.rsl (.slice a1 ps.length c1) 4 (L.map (·.1)),.rsl (.slice a2 ps.length c2) 4 (L2.map (·.1))]→WP (self (kI i) y2 y3 y4 y5 y6 y7 u) (yesQ h))
  (λr self ih i y2 y3 y4 y5 y6 y7 ub hi H=>?_) N ps.length (by omega) 0 _ _ _ _ _ _ u0 (by omega) H0
 repeat' (first|(with_reducible first|refine w_jn ?_|refine F_2 ?_|refine E_k ?_)|((with_reducible refine J_c (λ_=>?_) (λ_=>?_))<;>first|(exfalso;omega)|skip))
 ·have il:i<ps.length:=by omega
  have i1:i<L.length:=by rw[e1,lmQ] at il;exact il
  have i2:i<L2.length:=by rw[e2,lmQ] at il;exact il
  obtain⟨d1,n1,q1,q2,q3⟩:=p1 L[i] (List.getElem_mem i1)
  obtain⟨d2,n2,q4,q5,q6⟩:=p2 L2[i] (List.getElem_mem i2)
  obtain⟨p,hp⟩:∃p,p=ps[i]:=⟨_,rfl⟩
  have s1:L[i].2=p:=by
   rw[hp]
   have:ps[i]?=(L.map (·.2))[i]?:=by rw[←e1]
   rw[List.getElem?_map,gqG i1,gqG il] at this
   injection this with this
   exact this.symm
  have s2:L2[i].2=p:=by
   rw[hp]
   have:ps[i]?=(L2.map (·.2))[i]?:=by rw[←e2]
   rw[List.getElem?_map,gqG i2,gqG il] at this
   injection this with this
   exact this.symm
  rw[s1] at q1 q2 q3
  rw[s2] at q4 q5 q6
  have hg:(L.map (·.1))[i]?=some [kI p.n,kI p.k,d1,n1]:=by rw[List.getElem?_map,gqG i1,←q1];rfl
  have hg2:(L2.map (·.1))[i]?=some [kI p.n,kI p.k,d2,n2]:=by rw[List.getElem?_map,gqG i2,←q4];rfl
  obtain⟨x1,x2,rfl⟩:=q2.1.form
  obtain⟨x3,x4,rfl⟩:=q3.1.form
  obtain⟨x5,x6,rfl⟩:=q5.1.form
  obtain⟨x7,x8,rfl⟩:=q6.1.form
  have pl:=hnm p (by rw[hp];exact List.getElem_mem il)
  refine w_at 0 H rfl hg rfl rfl ?_
  repeat' (first|((with_reducible refine K_z H ?_) ;(clear H;intro u H hu))|((with_reducible apply E_s 0 H) ;rfl;rfl;rfl;omega;rfl;(clear H;intro u H hu;(try dsimp only[scZ,scS,A_4,ttA,splice,ev,rep,caQ,naQ] at H))))
  refine w_at 2 H rfl hg2 rfl rfl ?_
  repeat' (first|((with_reducible refine K_z H ?_) ;(clear H;intro u H hu))|((with_reducible apply E_s 0 H) ;rfl;rfl;rfl;omega;rfl;(clear H;intro u H hu;(try dsimp only[scZ,scS,A_4,ttA,splice,ev,rep,caQ,naQ] at H)))|((with_reducible apply T_9 0 H) ;rfl;rfl;rfl)|((with_reducible apply T_9 1 H) ;rfl;rfl;rfl))
  have e:=H.ext0
  refine Bd7 (cap:=[]) ?_
  refine G_b (cs _ p _ _ _ _ pl (q2.ext e.1 λb hb=>e.2 b (q2.2 b hb)) (q5.ext e.1 λb hb=>e.2 b (q5.2 b hb)) (q3.ext e.1 λb hb=>e.2 b (q3.2 b hb)) (q6.ext e.1 λb hb=>e.2 b (q6.2 b hb))) λv w hq=>?_
  obtain⟨rfl,rfl⟩:=hq
  repeat' (first|(with_reducible first|refine w_jn ?_|refine E_k ?_|refine Z_q ?_)|((with_reducible refine H_6 ?_ ?_) ;omega))
  exact ih (r-1) (by omega) (i+1) _ _ _ _ _ _ _ (by omega) (H.pick [2,3] (by decide) rfl)
 ·exact E_z H rfl ⟨rfl,rfl⟩
theorem PartsAt.ext{h h':Hs}{v:Value}{ps:List Prt}(p:PartsAt h v ps)(s:Gev.Same h h'):PartsAt h' v ps:=by
 obtain⟨L,a,b,c⟩:=p
 refine⟨L,a,b.ext s.1.1 λi hi=>s.1.2 i (b.2 i hi),λe he=>?_⟩
 obtain⟨dv,nv,q1,q2,q3⟩:=c e he
 exact⟨dv,nv,q1,q2.ext s.1.1 λi hi=>s.1.2 i (q2.2 i hi),q3.ext s.1.1 λi hi=>s.1.2 i (q3.2 i hi)⟩
def CSame(R:RnK):Prop:=∀(h:Hs)(t t':TS),TrAt h t→TrAt h t'→WF t.T t.most→t.B≤50000→t'.B≤50000→t'.T=t.T→t'.most=t.most→WP (R 11 [pV t.p,pV t'.p] h) (yesQ h)
theorem Bc0{R:RnK}{N:Nat}(cp:CPartsT R)(ce:CEqF R){h:Hs}{t t':TS}(A:TrAt h t)(A':TrAt h t')(W:WF t.T t.most)(hB:t.B≤50000)(hB':t'.B≤50000)(eT:t'.T=t.T)(em:t'.most=t.most):WP (r11 R N [pV t.p,pV t'.p] h) (yesQ h):=by
 have H:=Sto.enter h
 have A1:=A.st H
 have A2:=A'.st H
 unfold r11
 repeat' (first|(with_reducible first|refine H_i ?_|refine H_1 ?_|refine A_g ?_|refine F_w ?_))
 refine Aw4 A1 rfl ?_
 repeat' (first|(with_reducible first|refine A_g ?_|refine F_w ?_))
 refine Aw4 A2 rfl ?_
 rw[em]
 repeat' (first|(with_reducible refine N_k ?_)|((with_reducible refine G_h (λ_=>?_) (λ_=>?_))<;>first|(exfalso;omega)|skip))
 refine G_b (cp _ t A1 W hB) λv1 u1 q1=>?_
 obtain⟨s1,ps,i1,p1,l1,l2⟩:=q1
 refine W_0 s1.1.1 ?_
 have H1:=H.same s1
 have A3:=A'.st H1
 repeat' (first|(with_reducible refine N_k ?_))
 refine G_b (cp _ t' A3 (by rw[eT,em];exact W) hB') λv2 u2 q2=>?_
 obtain⟨s2,ps2,i2,p2,_,_⟩:=q2
 rw[eT] at i2
 have ep:=Bb2 i1 i2
 subst ep
 refine W_0 s2.1.1 ?_
 have H2:=H1.same s2
 clear H H1
 have H:=H2
 clear H2
 repeat' (first|(with_reducible refine N_k ?_))
 refine G_b (ce _ _ _ ps (by omega) (λp hp=>by have:=l2 p hp;omega) (p1.ext s2) p2) λv3 u3 q3=>?_
 obtain⟨rfl,rfl⟩:=q3
 repeat' (first|(with_reducible first|refine G_7 ?_|refine R_h ?_)|((with_reducible refine W_0 ?_ ?_) ;omega))
 exact E_z H rfl ⟨rfl,rfl⟩
def OpAt(h:Hs)(l:List Value)(o:OpA):Prop:=∃dv,l = [.int .i64 o.k,sV o.a,sV o.b,.int .i64 o.at_,.int .i64 o.n,dv]∧Rd h dv 1 (ones (B_9 o.X))∧In64 o.at_∧In64 o.n
structure OpsAt (h:Hs) (v:Value) (L:List (List Value × OpA)):Prop where
 rd:Rd h v 6 (L.map (·.1))
 op:∀e∈L,OpAt h e.1 e.2
def Light(o:OpA):Prop:=o.a.length≤500∧o.b.length≤500∧o.X.length≤5000
def CHeavy(R:RnK):Prop:=∀(h:Hs)(o:OpA)(dv:Value),Rd h dv 1 (ones (B_9 o.X))→WP (R 8 [opO o dv] h) λv h'=>h'=h∧((v=.bool true)∨(v=.bool false∧Light o))
theorem AE3{R:RnK}{N:Nat}{h:Hs}{o:OpA}{dv:Value}(r:Rd h dv 1 (ones (B_9 o.X))):WP (r8 R N [opO o dv] h) λv h'=>h'=h∧((v=.bool true)∨(v=.bool false∧Light o)):=by
 have H:=Sto.enter h
 have lx:(ones (B_9 o.X)).length=o.X.length:=by rw[J_t,O_y]
 obtain⟨a,c,rfl⟩:=r.1.formN lx
 unfold r8
 repeat' (first|(with_reducible first|refine j_j ?_|refine R_m ?_|refine G_7 ?_|refine G_t ?_|refine H_i ?_|refine H_1 ?_|refine A_g ?_|refine V_5 ?_|refine Az0 ?_)|((with_reducible refine M_f H ?_) ;(clear H;intro u H hu))|((with_reducible refine O_n (λ_=>?_) (λ_=>?_))<;>first|(exfalso;omega)|skip)|((with_reducible apply H_c 0 H) ;rfl;rfl;rfl))
 ·exact E_z H rfl ⟨rfl,.inl rfl⟩
 ·exact E_z H rfl ⟨rfl,.inl rfl⟩
 ·exact E_z H rfl ⟨rfl,.inl rfl⟩
 ·rename_i q1 q2 q3
  have q1:¬500<o.a.length:=q1
  have q2:¬500<o.b.length:=q2
  exact E_z H rfl ⟨rfl,.inr ⟨rfl,by omega,by omega,by omega⟩⟩
theorem r_y{Q:Value→Hs→Prop}{h u:Hs}{m:List Th}{cs z:List Value}{e:Nat}{en:En}{F:Value→Value→Hs→An}(H:Sto h [] u m)(hc:cs.length=7)(hz:z.length=7)(h1:G_8 cs=true)
 (kk:∀u5 fl,Sto h [] u5 (.blk u.nx (.row e 0 true fl cs)::m)→(∀t,TrAt u t→TrAt u5 t)→WP (F (pV u.nx) undef' u5) Q):WP (after (λp h1=>after (λx h2=>F p x h2) (store1 7 h1 (A_4 (.agg cs.toArray)) (addrOf p))) (L_0 e z en u)) Q:=by
 refine w_rs (v:=pV u.nx) (h:=Gev.newRow u e 0 z) rfl ?_
 have H1:=H.row e 0 z
 refine O_o 0 H1 rfl hc hz (by decide) h1 λu5 H5 M5 n5=>?_
 dsimp only[scZ] at H5
 refine kk u5 _ H5 λt A=>?_
 have A1:TrAt (Gev.newRow u e 0 z) t:=A.ext (Nat.le_succ _) λb hb _=>by rw[E_6,if_neg (by omega)]
 exact A1.mutS M5 λs hs=>by rw[msQ.1 hs];exact A.fr _ (lR _)
def DoV(r:Rs')(v:Value)(t t':TS):Prop:=match r with
 |.er e=>v=l_e e∧t'=t
 |.up n sz T'=>v=resA 0 n 0 0 sz (.slice none 0 0) (.slice none 0 0)∧t'.T=T'
 |.rd P=>(∃r d nm,P r∧v=resA 0 r.n r.ty r.ln r.sz d nm∧(∃a c,d=.slice a r.data.length c)∧∃a c,nm=.slice a r.nm.length c)∧t'=t
theorem OpsAt.get{h:Hs}{v:Value}{L:List (List Value × OpA)}(ra:OpsAt h v L){i:Nat}(il:i<L.length):∃(dv:Value) (o:OpA),(L.map (·.1))[i]?=some [.int .i64 o.k,sV o.a,sV o.b,.int .i64 o.at_,.int .i64 o.n,dv]∧Rd h dv 1 (ones (B_9 o.X))∧In64 o.at_∧In64 o.n:=by
 obtain⟨dv,q1,q2,q3,q4⟩:=ra.op L[i] (List.getElem_mem il)
 exact⟨dv,L[i].2,by rw[List.getElem?_map,gqG il,←q1];rfl,q2,q3,q4⟩
abbrev L4a:=Value→Value→Value→Value→Hs→An
def Alike(T T1:Tm):Prop:=∀j,(T j=none∧T1 j=none)∨∃x y,T j=some x∧T1 j=some y∧y.k=x.k∧y.data=x.data
structure Mv (T T1:Tm) (Ou:Nat→Prop):Prop where
 al:Alike T T1
 o1:Ou 1
 up:∀d x y,Ou d→T d=some x→T1 d=some y→x.k=2→y.up=x.up∧Ou x.up
 fd:∀d s m,Ou d→findF T d s=some m→findF T1 d s=none∨(findF T1 d s=some m∧Ou m)
theorem AI2{T T1:Tm}{Ou:Nat→Prop}(M:Mv T T1 Ou){d n:Nat}{s:Str}(hd:Ou d)(h:P_d T d s=.ok n):(∃e,P_d T1 d s=.error e)∨(P_d T1 d s=.ok n∧Ou n):=by
 unfold P_d at h ⊢
 rcases M.al d with⟨a,b⟩|⟨x,y,a,b,c,_⟩
 ·rw[a] at h;cases h
 ·rw [a] at h
  rw[b]
  dsimp only at h ⊢
  rw[c]
  by_cases k:x.k=2
  ·rw[if_pos k] at h ⊢
   by_cases e:s = [46,46]
   ·rw[if_pos e] at h ⊢
    injection h with h
    obtain⟨u1,u2⟩:=M.up d x y hd a b k
    rw[u1,h]
    exact .inr ⟨rfl,by rw[←h];exact u2⟩
   ·rw[if_neg e] at h ⊢
    cases f:findF T d s with
    |none=>rw[f] at h;cases h
    |some m=>
     rw[f] at h
     injection h with h
     subst h
     rcases M.fd d s m hd f with q|⟨q1,q2⟩
     ·rw[q];exact .inl ⟨_,rfl⟩
     ·rw[q1];exact .inr ⟨rfl,q2⟩
  ·rw[if_neg k] at h;cases h
theorem m_x {T T1 : Tm} {Ou : Nat → Prop} (M : Mv T T1 Ou) {wy wy1 : Nat → Str → Nat → Wr} (hw : ∀ d s k r, Ou d → wy d s k = .ok r → (∃ e, wy1 d s k = .error e) ∨ (wy1 d s k = .ok r ∧ Ou r.1)) {fol : Bool} : ∀ (l : List Str) (d k : Nat) (r : Nat × Nat), Ou d → I_s T wy fol l d k = .ok r → (∃ e, I_s T1 wy1 fol l d k = .error e) ∨ (I_s T1 wy1 fol l d k = .ok r ∧ Ou r.1) := by
 intro l
 induction l with
 |nil=>
  intro d k r hd h
  injection h with h
  subst h
  exact .inr ⟨rfl,hd⟩
 | cons p l ih =>
  intro d k r hd h
  rw[I_4] at h ⊢
  cases e:P_d T d p with
  |error e1=>rw[e] at h;cases h
  | ok n =>
   rw[e] at h
   rcases AI2 M hd e with⟨e1,q⟩|⟨q,hn⟩
   ·rw[q];exact .inl ⟨_,rfl⟩
   ·rw [q]
    dsimp only at h ⊢
    rcases M.al n with⟨a,b⟩|⟨x,y,a,b,c,c2⟩
    ·rw[a] at h;cases h
    ·rw [a] at h
     rw[b]
     dsimp only at h ⊢
     rw[c,c2]
     by_cases k3:x.k=3∧(fol=true∨l ≠ [])
     ·rw[if_pos k3] at h ⊢
      cases k with
      |zero=>cases h
      | succ k =>
       dsimp only at h ⊢
       cases e2:wy d x.data k with
       |error e3=>rw[e2] at h;cases h
       |ok r2=>
        rw[e2] at h
        dsimp only at h
        rcases hw d x.data k r2 hd e2 with⟨e3,q3⟩|⟨q3,h3⟩
        ·rw[q3];exact .inl ⟨_,rfl⟩
        ·rw[q3];exact ih _ _ _ h3 h
     ·rw[if_neg k3] at h ⊢
      exact ih _ _ _ hn h
theorem Be6{T T1:Tm}{Ou:Nat→Prop}(M:Mv T T1 Ou):∀(g:Nat)(fol:Bool)(d:Nat)(s:Str)(k:Nat)(r:Nat × Nat),Ou d→wayF T g fol d s k=.ok r→(∃e,wayF T1 g fol d s k=.error e)∨(wayF T1 g fol d s k=.ok r∧Ou r.1):=by
 intro g
 induction g with
 |zero=>intro fol d s k r _ h;cases h
 | succ g ih =>
  intro fol d s k r hd h
  unfold wayF at h ⊢
  cases e:M_x s with
  |error e1=>rw[e] at h;cases h
  |ok l=>
   rw[e] at h
   dsimp only at h ⊢
   refine m_x M (λd s k r hd h=>ih true d s k r hd h) l _ k r ?_ h
   split
   ·exact M.o1
   ·exact hd
theorem Ab3{T T1:Tm}{Ou:Nat→Prop}(M:Mv T T1 Ou){l:List Str}{d d1:Nat}(h:dirT T l=.ok d)(h1:dirT T1 l=.ok d1):d1=d:=by
 unfold dirT at h h1
 cases e:I_s T (wayF T 9 true) true l 1 8 with
 |error e1=>rw[e] at h;cases h
 | ok r =>
  rw[e] at h
  have hr:r.1=d:=by
   dsimp only at h
   cases q:T r.1 with
   |none=>rw[q] at h;cases h
   |some x=>
    rw[q] at h
    dsimp only at h
    split at h
    ·injection h
    ·cases h
  rcases m_x M (λd s k r hd h=>Be6 M 9 true d s k r hd h) l 1 8 r M.o1 e with⟨e1,q⟩|⟨q,_⟩
  ·rw[q] at h1;cases h1
  ·rw[q] at h1
   dsimp only at h1
   cases q2:T1 r.1 with
   |none=>rw[q2] at h1;cases h1
   | some x =>
    rw[q2] at h1
    dsimp only at h1
    split at h1
    ·injection h1 with h1
     rw[←h1,hr]
    ·cases h1
theorem Ap2{T:Tm}{wy:Nat→Str→Nat→Wr}{fol:Bool}(hw:∀d s k r,wy d s k=.ok r→r.2≤k):∀(l:List Str)(d k:Nat)(r:Nat × Nat),I_s T wy fol l d k=.ok r→r.2≤k:=by
 intro l
 induction l with
 |nil=>
  intro d k r h
  injection h with h
  subst h
  exact lR _
 | cons p l ih =>
  intro d k r h
  rw[I_4] at h
  split at h
  ·cases h
  ·split at h
   ·cases h
   ·split at h
    ·cases k with
     |zero=>cases h
     | succ k =>
      dsimp only at h
      split at h
      ·cases h
      ·rename_i r2 e
       have:=hw _ _ _ _ e
       have:=ih _ _ _ h
       omega
    ·exact ih _ _ _ h
theorem Az3{T:Tm}:∀(g:Nat){fol:Bool}{d:Nat}{s:Str}{k:Nat}{r:Nat × Nat},wayF T g fol d s k=.ok r→r.2≤k:=by
 intro g
 induction g with
 |zero=>intro _ _ _ _ _ h;cases h
 |succ g ih=>
  intro fol d s k r h
  unfold wayF at h
  split at h
  ·cases h
  ·exact Ap2 (λd s k r h=>ih h) _ _ _ _ h
theorem Be9 {T : Tm} : ∀ (g : Nat) (fol : Bool) (d : Nat) (s : Str) (k : Nat), k < g → wayF T (g + 1) fol d s k = wayF T g fol d s k := by
 intro g
 induction g with
 |zero=>intro _ _ _ _ h;omega
 | succ g ih =>
  intro fol d s k hk
  have pf : ∀ (l : List Str) (d k : Nat), k ≤ g → I_s T (wayF T (g + 1) true) fol l d k = I_s T (wayF T g true) fol l d k := by
   intro l
   induction l with
   |nil=>intro _ _ _;rfl
   | cons p l ih2 =>
    intro d k hk
    rw[I_4,I_4]
    cases P_d T d p with
    |error e=>rfl
    | ok n =>
     dsimp only
     cases T n with
     |none=>rfl
     | some x =>
      dsimp only
      split
      ·cases k with
       |zero=>rfl
       | succ k =>
        dsimp only
        rw[ih true d x.data k (by omega)]
        cases e:wayF T g true d x.data k with
        |error e1=>rfl
        | ok r =>
         dsimp only
         exact ih2 _ _ (by
          have:=Az3 g e
          omega)
      ·exact ih2 _ _ hk
  rw[wayF,wayF]
  cases M_x s with
  |error e=>rfl
  |ok l=>
   dsimp only
   exact pf _ _ _ (by omega)
theorem x_s {T : Tm} {g : Nat} {fol : Bool} : ∀ (l : List Str) (d k : Nat), k ≤ g → I_s T (wayF T (g + 1) true) fol l d k = I_s T (wayF T g true) fol l d k := by
 intro l
 induction l with
 |nil=>intro _ _ _;rfl
 | cons p l ih2 =>
  intro d k hk
  rw[I_4,I_4]
  cases P_d T d p with
  |error e=>rfl
  | ok n =>
   dsimp only
   cases T n with
   |none=>rfl
   | some x =>
    dsimp only
    split
    ·cases k with
     |zero=>rfl
     | succ k =>
      dsimp only
      rw[Be9 g true d x.data k (by omega)]
      cases e:wayF T g true d x.data k with
      |error e1=>rfl
      | ok r =>
       dsimp only
       exact ih2 _ _ (by
        have:=Az3 g e
        omega)
    ·exact ih2 _ _ hk
theorem Ap4{T:Tm}{wy:Nat→Str→Nat→Wr}{s:Str}:∀(l:List Str)(d k:Nat),I_s T wy false (l ++ [s]) d k=match I_s T wy true l d k with | .error e=>.error e | .ok r=>I_s T wy false [s] r.1 r.2:=by
 intro l
 induction l with
 |nil=>intro d k;rfl
 | cons p l ih =>
  intro d k
  rw[caQ,I_4,I_4]
  cases P_d T d p with
  |error e=>rfl
  | ok n =>
   dsimp only
   cases T n with
   |none=>rfl
   | some x =>
    dsimp only
    by_cases k3:x.k=3
    ·rw[if_pos ⟨k3,.inr (by simp)⟩,if_pos ⟨k3,.inl rfl⟩]
     cases k with
     |zero=>rfl
     |succ k=>
      dsimp only
      cases wy d x.data k with
      |error e=>rfl
      |ok r=>exact ih _ _
    ·rw[if_neg (λq=>k3 q.1),if_neg (λq=>k3 q.1)]
     exact ih _ _
theorem o_o{T:Tm}{l:List Str}{d:Nat}(h:dirT T l=.ok d):(∃k,I_s T (wayF T 9 true) true l 1 8=.ok (d,k))∧∃x,T d=some x∧x.k=2:=by
 unfold dirT at h
 cases e:I_s T (wayF T 9 true) true l 1 8 with
 |error e1=>rw[e] at h;cases h
 | ok r =>
  rw[e] at h
  dsimp only at h
  cases q:T r.1 with
  |none=>rw[q] at h;cases h
  | some x =>
   rw[q] at h
   dsimp only at h
   by_cases k:x.k=2
   ·rw[if_pos k] at h
    injection h with h
    subst h
    exact⟨⟨r.2,rfl⟩,x,q,k⟩
   ·rw[if_neg k] at h;cases h
theorem Av4{T:Tm}{most:Nat}(W:WF T most){b:Str}{lb:List Str × Str}{to:Nat}(hp:N_3 b=.ok lb)(hd:dirT T lb.1=.ok to)(hs:wayT T false b=.error 2):findF T to lb.2=none:=by
 cases f:findF T to lb.2 with
 |none=>rfl
 | some m =>
  exfalso
  unfold N_3 at hp
  cases e:M_x b with
  |error e1=>rw[e] at hp;cases hp
  | ok l =>
   rw[e] at hp
   dsimp only at hp
   cases e2:l.getLast? with
   |none=>rw[e2] at hp;cases hp
   | some x =>
    rw[e2] at hp
    dsimp only at hp
    split at hp
    ·cases hp
    ·rename_i ne
     injection hp with hp
     subst hp
     dsimp only at hd f
     obtain⟨ys,rfl⟩:=List.getLast?_eq_some_iff.1 e2
     rw[List.dropLast_concat] at hd
     obtain⟨⟨k,hk⟩,xt,ht,kt⟩:=o_o hd
     have hk2:I_s T (wayF T 8 true) true ys 1 8=.ok (to,k):=by rw[←x_s (g:=8) ys 1 8 (lR _)];exact hk
     have pf:P_d T to x=.ok m:=by
      unfold P_d
      rw[ht]
      dsimp only
      rw[if_pos kt,if_neg (λq=>ne (.inl q)),f]
     obtain⟨z,hz⟩:=i_0 W pf
     have hw:wayF T 9 false 1 b 8=.ok (m,k):=by
      rw[wayF,e]
      dsimp only
      rw[show (if b.head?=some 47 then 1 else 1)=1 from by split<;>rfl,Ap4,hk2]
      dsimp only
      rw[I_4,pf]
      dsimp only
      rw[hz]
      dsimp only
      rw[if_neg (λq=>by rcases q.2 with q|q;cases q;exact q rfl)]
      rfl
     unfold wayT at hs
     rw[hw] at hs
     cases hs
theorem Bq2{T:Tm}{most:Nat}(W:WF T most):∀j,upN T j 1=1:=by
 intro j
 obtain⟨x,hx,_,u⟩:=W.r1
 induction j with
 |zero=>rfl
 |succ j ih=>
  show upN T j (match T 1 with|some x=>x.up|none=>1)=1
  rw[hx]
  dsimp only
  rw[u];exact ih
theorem BB0{T:Tm}{most:Nat}(W:WF T most):∀j,upN T j 2=2∨upN T j 2=1:=by
 intro j
 obtain⟨x,hx,_,u⟩:=W.r2
 cases j with
 |zero=>exact .inl rfl
 |succ j=>
  right
  show upN T j (match T 2 with|some x=>x.up|none=>2)=1
  rw[hx]
  dsimp only
  rw[u];exact Bq2 W j
def mvU(T:Tm)(d:Nat)(was:Str)(to:Nat)(s:Str)(n:Nat):Tm:=updI (updI T to (R_n s n)) d (K_8 was)
theorem S_6{T:Tm}{d to n j:Nat}{was s:Str}(hd:n≠d)(hj:j≠n):P_c T d was to s n j=mvU T d was to s n j:=by
 unfold P_c mvU putT
 rw[H_d hj]
 unfold updI
 by_cases e:j=d
 ·rw[if_pos e,if_pos e,if_neg (λq=>hd q.symm)]
 ·rw[if_neg e,if_neg e,if_neg hj]
theorem i_k{T:Tm}{d to n:Nat}{was s:Str}{y:Itm}(hd:n≠d)(ht:n≠to)(hy:T n=some y):P_c T d was to s n n=some (if y.k=2 then x_3 to y else O_7 y.links y):=by
 unfold P_c putT
 have e1:updI T to (R_n s n) n=some y:=by rw[H_d ht];exact hy
 have e2:updI (updI T to (R_n s n)) n (I_e to) n=some (I_e to y):=K_f e1
 have e3:updI (updI (updI T to (R_n s n)) n (I_e to)) d (K_8 was) n=some (I_e to y):=by rw[H_d hd];exact e2
 rw[K_f e3]
 unfold I_e
 by_cases k:y.k=2
 ·rw[if_pos k,if_pos k]
  have:(x_3 to y).k=2:=k
  rw[if_pos this]
 ·rw[if_neg k,if_neg k]
  have:¬(O_7 (y.links+1) y).k=2:=k
  rw[if_neg this]
  unfold O_7
  dsimp only
  rw[show y.links+1-1=y.links from by omega]
theorem p_d{x y:Itm}(a:x.k=y.k)(b:x.data=y.data)(c:∀s,x.names s=y.names s)(d:x.cnt=y.cnt)(e:x.up=y.up)(f:x.links=y.links):x=y:=by
 cases x;cases y
 dsimp only at *
 subst a b d e f
 congr 1
 exact funext c
theorem Z_f{T:Tm}{d to n:Nat}{was s:Str}(j:Nat):(T j=none∧mvU T d was to s n j=none)∨∃x y,T j=some x∧mvU T d was to s n j=some y∧y.k=x.k∧y.data=x.data∧y.up=x.up∧∀z,y.names z=if j=d∧z=was then none else if j=to∧z=s then some n else x.names z:=by
 cases hx:T j with
 | none =>
  refine .inl ⟨rfl,?_⟩
  unfold mvU updI
  by_cases e:j=d
  ·subst e
   rw[if_pos rfl]
   by_cases e2:j=to
   ·subst e2;rw[if_pos rfl,hx];rfl
   ·rw[if_neg e2,hx];rfl
  ·rw[if_neg e]
   by_cases e2:j=to
   ·subst e2;rw[if_pos rfl,hx];rfl
   ·rw[if_neg e2,hx]
 | some x =>
  right
  unfold mvU updI
  by_cases e:j=d
  ·subst e
   rw[if_pos rfl]
   by_cases e2:j=to
   ·subst e2
    rw[if_pos rfl,hx]
    refine⟨x,_,rfl,rfl,rfl,rfl,rfl,λz=>?_⟩
    show (if z=was then none else if z=s then some n else x.names z)=_
    simp
   ·rw[if_neg e2,hx]
    refine⟨x,_,rfl,rfl,rfl,rfl,rfl,λz=>?_⟩
    show (if z=was then none else x.names z)=_
    simp[e2]
  ·rw[if_neg e]
   by_cases e2:j=to
   ·subst e2
    rw[if_pos rfl,hx]
    refine⟨x,_,rfl,rfl,rfl,rfl,rfl,λz=>?_⟩
    show (if z=s then some n else x.names z)=_
    simp[e]
   ·rw[if_neg e2,hx]
    exact⟨x,_,rfl,rfl,rfl,rfl,rfl,λz=>by rw[if_neg (λr=>e r.1),if_neg (λr=>e2 r.1)]⟩
structure Mvd (T:Tm) (a b:Str) (d:Nat) (was:Str) (to:Nat) (s:Str) (n:Nat) (la lb:List Str) (y:Itm):Prop where
 pa:N_3 a=.ok (la,was)
 pb:N_3 b=.ok (lb,s)
 da:dirT T la=.ok d
 db:dirT T lb=.ok to
 fa:findF T d was=some n
 fb:findF T to s=none
 n2:n≠2
 hy:T n=some y
 ni:¬(y.k=2∧inside T n to)
theorem Bl5 {T T1 : Tm} {most n : Nat} {a b : Str} (W : WF T most) (h : L_3 T a b = .ok (n, T1)) (hs : wayT T false b = .error 2) : ∃ d was to s la lb y, Mvd T a b d was to s n la lb y ∧ T1 = P_c T d was to s n := by
 unfold L_3 at h
 cases e1:N_3 a with
 |error e=>rw[e1] at h;cases h
 | ok ra =>
  rw[e1] at h
  dsimp only at h
  cases e2:N_3 b with
  |error e=>rw[e2] at h;cases h
  | ok rb =>
   rw[e2] at h
   dsimp only at h
   have eo:oldF T a=match dirT T ra.1 with | .error e=>.error e | .ok d=>match findF T d ra.2 with|some n=>.ok (d,ra.2,n)|none=>.error 2:=by unfold oldF;rw[e1]<;>rfl
   cases e3:dirT T ra.1 with
   |error e=>rw[eo,e3] at h;cases h
   | ok d =>
    rw[e3] at eo
    dsimp only at eo
    cases e4:findF T d ra.2 with
    |none=>rw[eo,e4] at h;cases h
    | some m =>
     rw[e4] at eo
     rw[eo] at h
     dsimp only at h
     split at h
     ·cases h
     ·rename_i n2
      cases e5:dirT T rb.1 with
      |error e=>rw[e5] at h;cases h
      | ok to =>
       rw[e5] at h
       dsimp only at h
       split at h
       ·cases h
       ·rename_i t2
        cases e6:T m with
        |none=>rw[e6] at h;cases h
        | some y =>
         rw[e6] at h
         dsimp only at h
         split at h
         ·cases h
         ·rename_i ni
          have fb:=Av4 W e2 e5 hs
          rw[fb] at h
          dsimp only at h
          injection h with h
          injection h with h1 h2
          subst h1
          exact⟨d,ra.2,to,rb.2,ra.1,rb.1,y,⟨e1,e2,e3,e5,e4,fb,n2,e6,ni⟩,h2.symm⟩
section
variable {T:Tm} {most n d to:Nat} {a b was s:Str} {la lb:List Str} {y:Itm}
theorem Mvd.nd(M:Mvd T a b d was to s n la lb y)(W:WF T most):(∃xf,T d=some xf∧xf.k=2∧xf.names was=some n)∧(∃xt,T to=some xt∧xt.k=2∧xt.names s=none)∧¬(d=1∧was=O_2)∧¬(to=1∧s=O_2)∧3≤n∧n≠d∧n≠to∧(y.k=2→y.up=d∧∀d' s',(∃z,T d'=some z∧z.names s'=some n)→d'=d∧s'=was):=by
 obtain⟨_,xf,hf,kf⟩:=o_o M.da
 obtain⟨_,xt,ht,kt⟩:=o_o M.db
 have fa:=M.fa
 have fb:=M.fb
 unfold findF at fa fb
 have l1:¬(d=1∧was=O_2):=λq=>by
  rw[if_pos q] at fa
  injection fa with fa
  exact M.n2 fa.symm
 have l2:¬(to=1∧s=O_2):=λq=>by rw[if_pos q] at fb;cases fb
 rw[if_neg l1,hf] at fa
 rw[if_neg l2,ht] at fb
 have fa:xf.names was=some n:=fa
 have fb:xt.names s=none:=fb
 have n3:=(W.nm d xf was n hf fa).2.1
 have up:y.k=2→y.up=d∧∀d' s',(∃z,T d'=some z∧z.names s'=some n)→d'=d∧s'=was:=λk=>by
  obtain⟨l,_,l3,_,l4⟩:=W.rf n y M.hy n3
  obtain⟨s0,rfl⟩:=l4 k
  have h1:=(l3 d was).1 ⟨xf,hf,fa⟩
  injection msQ.1 h1 with h2 h3
  refine⟨h2.symm,λd' s' hz=>?_⟩
  have h4:=(l3 d' s').1 hz
  injection msQ.1 h4 with h5 h6
  exact⟨h5.trans h2.symm,h6.trans h3.symm⟩
 refine⟨⟨xf,hf,kf,fa⟩,⟨xt,ht,kt,fb⟩,l1,l2,n3,λe=>?_,λe=>?_,up⟩
 ·have hy:=M.hy
  rw[e,hf] at hy
  injection hy with hy
  subst hy
  have u:=(up kf).1
  obtain⟨j,hj⟩:=W.ac n xf (by rw[e];exact hf) kf
  have:∀j,upN T j n=n:=λj=>by
   induction j with
   |zero=>rfl
   |succ j ih=>
    show upN T j (match T n with|some x=>x.up|none=>n)=n
    rw[e,hf]
    dsimp only
    rw[u,←e];exact ih
  rw[this] at hj
  omega
 ·have hy:=M.hy
  rw[e,ht] at hy
  injection hy with hy
  subst hy
  exact M.ni ⟨kt,0,e.symm⟩
theorem Mvd.mv (M : Mvd T a b d was to s n la lb y) (W : WF T most) : Mv T (P_c T d was to s n) (fun j => y.k = 2 → ∀ x, T j = some x → x.k = 2 → ¬ inside T n j) := by
 obtain⟨⟨xf,hf,kf,nf⟩,⟨xt,ht,kt,nt⟩,l1,l2,n3,nd,nt2,up⟩:=M.nd W
 refine⟨λj=>?_,λk x hx kx=>?_,λj x x1 hj hx hx1 kx=>?_,λj z m hj hz=>?_⟩
 ·by_cases e:j=n
  ·subst e
   right
   refine⟨y,_,M.hy,i_k nd nt2 M.hy,?_,?_⟩
   ·split<;>rfl
   ·split<;>rfl
  ·rw[S_6 nd e]
   rcases Z_f (T:=T) (d:=d) (to:=to) (n:=n) (was:=was) (s:=s) j with q|⟨x,x1,q1,q2,q3,q4,_⟩
   ·exact .inl q
   ·exact .inr ⟨x,x1,q1,q2,q3,q4⟩
 ·rintro⟨j,hj⟩
  rw[Bq2 W] at hj
  omega
 ·have en:j=n→y.k=2→False:=λe k=>hj k x hx kx ⟨0,e⟩
  have e:j≠n:=λe=>by
   have hy:=M.hy
   rw[←e,hx] at hy
   injection hy with hy
   exact en e (by rw[←hy];exact kx)
  rw[S_6 nd e] at hx1
  rcases Z_f (T:=T) (d:=d) (to:=to) (n:=n) (was:=was) (s:=s) j with⟨q,_⟩|⟨x',x1',q1,q2,q3,q4,q5,_⟩
  ·rw[hx] at q;cases q
  ·rw[hx] at q1
   rw[hx1] at q2
   injection q1 with q1;injection q2 with q2
   subst q1 q2
   refine⟨q5,λk z hz kz=>?_⟩
   rintro⟨i,hi⟩
   refine hj k x hx kx ⟨i+1,?_⟩
   show upN T i (match T j with|some x=>x.up|none=>j)=n
   rw[hx];exact hi
 ·unfold findF at hz ⊢
  by_cases q:j=1∧z=O_2
  ·rw[if_pos q] at hz ⊢
   injection hz with hz
   subst hz
   refine .inr ⟨rfl,λk x hx kx=>?_⟩
   rintro⟨i,hi⟩
   rcases BB0 W i with q|q<;>omega
  ·rw [if_neg q] at hz ⊢
   cases hx:T j with
   |none=>rw[hx] at hz;cases hz
   | some x =>
    rw[hx] at hz
    have hz:x.names z=some m:=hz
    obtain⟨kx,m3,w,hw⟩:=W.nm j x z m hx hz
    have e:j≠n:=λe=>by
     have hy:=M.hy
     rw[←e,hx] at hy
     injection hy with hy
     exact hj (by rw[←hy];exact kx) x hx kx ⟨0,e⟩
    rw[S_6 nd e]
    rcases Z_f (T:=T) (d:=d) (to:=to) (n:=n) (was:=was) (s:=s) j with⟨q,_⟩|⟨x',x1',q1,q2,q3,q4,q5,q6⟩
    ·rw[hx] at q;cases q
    ·rw [hx] at q1
     injection q1 with q1
     subst q1
     rw[q2]
     show x1'.names z=none∨(x1'.names z=some m∧_)
     rw[q6 z]
     by_cases c1:j=d∧z=was
     ·rw[if_pos c1];exact .inl rfl
     ·rw[if_neg c1]
      by_cases c2:j=to∧z=s
      ·exfalso
       obtain⟨rfl,rfl⟩:=c2
       rw[ht] at hx
       injection hx with hx
       subst hx
       rw[nt] at hz
       cases hz
      ·rw[if_neg c2]
       refine .inr ⟨hz,λk v hv kv=>?_⟩
       rintro⟨i,hi⟩
       cases i with
       |zero=>
        have hi:m=n:=hi
        subst hi
        exact c1 ((up k).2 j z ⟨x,hx,hz⟩)
       |succ i=>
        obtain⟨l,_,l3,_,l4⟩:=W.rf m v hv m3
        obtain⟨s0,rfl⟩:=l4 kv
        have h1:=(l3 j z).1 ⟨x,hx,hz⟩
        injection msQ.1 h1 with h2 h3
        have hi:upN T i (match T m with|some x=>x.up|none=>m)=n:=hi
        rw[hv] at hi
        dsimp only at hi
        rw[←h2] at hi
        exact hj k x hx kx ⟨i,hi⟩
end
theorem AO5{T:Tm}{d to n:Nat}{was s:Str}{j:Nat}{x y:Itm}(hx:T j=some x)(hy:mvU T d was to s n j=some y):y.links=x.links∧y.cnt=x.cnt+(if j=to then 1 else 0)-(if j=d then 1 else 0):=by
 unfold mvU updI at hy
 by_cases e:j=d
 ·subst e
  rw[if_pos rfl] at hy
  by_cases e2:j=to
  ·subst e2
   rw[if_pos rfl,hx] at hy
   injection hy with hy
   subst hy
   exact⟨rfl,by rw[if_pos rfl]<;>rfl⟩
  ·rw[if_neg e2,hx] at hy
   injection hy with hy
   subst hy
   exact⟨rfl,by rw[if_neg e2,if_pos rfl];rfl⟩
 ·rw[if_neg e] at hy
  by_cases e2:j=to
  ·subst e2
   rw[if_pos rfl,hx] at hy
   injection hy with hy
   subst hy
   exact⟨rfl,by rw[if_pos rfl,if_neg e];rfl⟩
  ·rw[if_neg e2,hx] at hy
   injection hy with hy
   subst hy
   exact⟨rfl,by rw[if_neg e2,if_neg e];rfl⟩
theorem x_d{T:Tm}{most n d to:Nat}{a b was s:Str}{la lb:List Str}{y:Itm}(M:Mvd T a b d was to s n la lb y)(W:WF T most)(hc:CntOk T):P_c (P_c T d was to s n) to s d was n=T:=by
 obtain⟨⟨xf,hf,kf,nf⟩,⟨xt,ht,kt,nt⟩,l1,l2,n3,nd,nt2,up⟩:=M.nd W
 funext j
 by_cases e:j=n
 ·subst e
  rw[i_k nt2 nd (i_k nd nt2 M.hy),M.hy]
  congr 1
  by_cases k:y.k=2
  ·rw[if_pos k]
   have:(x_3 to y).k=2:=k
   rw[if_pos this]
   exact p_d rfl rfl (λ_=>rfl) rfl (up k).1.symm rfl
  ·rw[if_neg k]
   have:¬(O_7 y.links y).k=2:=k
   rw[if_neg this]
   exact p_d rfl rfl (λ_=>rfl) rfl rfl rfl
 ·rw [S_6 nt2 e]
  have e1:=S_6 (T:=T) (d:=d) (to:=to) (was:=was) (s:=s) nd e
  rcases Z_f (T:=T) (d:=d) (to:=to) (n:=n) (was:=was) (s:=s) j with⟨q1,q2⟩|⟨x,x1,q1,q2,q3,q4,q5,q6⟩
  ·rw[q2] at e1
   rcases Z_f (T:=P_c T d was to s n) (d:=to) (to:=d) (n:=n) (was:=s) (s:=was) j with⟨p1,p2⟩|⟨x,x1,p1,_⟩
   ·rw[p2,q1]
   ·rw[e1] at p1;cases p1
  ·rw [q2] at e1
   obtain⟨c1,c2⟩:=AO5 q1 q2
   rcases Z_f (T:=P_c T d was to s n) (d:=to) (to:=d) (n:=n) (was:=s) (s:=was) j with⟨p1,_⟩|⟨x1',x2,p1,p2,p3,p4,p5,p6⟩
   ·rw[e1] at p1;cases p1
   ·rw [e1] at p1
    injection p1 with p1
    subst p1
    obtain⟨c3,c4⟩:=AO5 e1 p2
    rw[p2,q1]
    congr 1
    refine p_d (p3.trans q3) (p4.trans q4) (λz=>?_) ?_ (p5.trans q5) (c3.trans c1)
    ·rw[p6,q6]
     by_cases a1:j=to∧z=s
     ·rw[if_pos a1]
      obtain⟨rfl,rfl⟩:=a1
      rw[ht] at q1
      injection q1 with q1
      rw[←q1];exact nt.symm
     ·rw[if_neg a1]
      by_cases a2:j=d∧z=was
      ·rw[if_pos a2]
       obtain⟨rfl,rfl⟩:=a2
       rw[hf] at q1
       injection q1 with q1
       rw[←q1];exact nf.symm
      ·rw[if_neg a2,if_neg a2,if_neg a1]
    ·rw[c4,c2]
     by_cases a1:j=d
     ·have:x.cnt≠0:=λq=>by
       subst a1
       rw[hf] at q1
       injection q1 with q1
       subst q1
       have:=hc j xf hf kf q was
       rw[nf] at this
       cases this
      rw[if_pos a1]
      split<;>omega
     ·rw[if_neg a1]
      split<;>omega
theorem y_z{T T1 T2:Tm}{most n n2:Nat}{a b:Str}(W:WF T most)(hc:CntOk T)(h:L_3 T a b=.ok (n,T1))(hs:wayT T false b=.error 2)(h2:L_3 T1 b a=.ok (n2,T2)):T2=T:=by
 obtain⟨d,was,to,s,la,lb,y,M,rfl⟩:=Bl5 W h hs
 obtain⟨⟨xf,hf,kf,nf⟩,⟨xt,ht,kt,nt⟩,l1,l2,n3,nd,nt2,up⟩:=M.nd W
 have mv:=M.mv W
 have ne:¬(to=d∧s=was):=λq=>by
  obtain⟨rfl,rfl⟩:=q
  rw[ht] at hf
  injection hf with hf
  subst hf
  rw[nt] at nf
  cases nf
 have f1:findF (P_c T d was to s n) to s=some n:=by
  unfold findF
  rw[if_neg l2,S_6 nd (λq=>nt2 q.symm)]
  rcases Z_f (T:=T) (d:=d) (to:=to) (n:=n) (was:=was) (s:=s) to with⟨q1,_⟩|⟨x,x1,_,q2,_,_,_,q6⟩
  ·rw[ht] at q1;cases q1
  ·rw[q2]
   show x1.names s=_
   rw[q6,if_neg ne,if_pos ⟨rfl,rfl⟩]
 have f2:findF (P_c T d was to s n) d was=none:=by
  unfold findF
  rw[if_neg l1,S_6 nd (λq=>nd q.symm)]
  rcases Z_f (T:=T) (d:=d) (to:=to) (n:=n) (was:=was) (s:=s) d with⟨q1,_⟩|⟨x,x1,_,q2,_,_,_,q6⟩
  ·rw[hf] at q1;cases q1
  ·rw[q2]
   show x1.names was=_
   rw[q6,if_pos ⟨rfl,rfl⟩]
 have back:=x_d M W hc
 generalize P_c T d was to s n=T1 at mv f1 f2 back h2
 unfold L_3 at h2
 rw[M.pb,M.pa] at h2
 dsimp only at h2
 have eo:oldF T1 b=match dirT T1 lb with | .error e=>.error e | .ok d=>match findF T1 d s with|some n=>.ok (d,s,n)|none=>.error 2:=by unfold oldF;rw[M.pb]<;>rfl
 cases e3:dirT T1 lb with
 |error e=>rw[eo,e3] at h2;cases h2
 | ok to' =>
  have:=Ab3 mv M.db e3
  subst this
  rw[e3] at eo
  dsimp only at eo
  rw[f1] at eo
  rw[eo] at h2
  dsimp only at h2
  rw[if_neg M.n2] at h2
  cases e5:dirT T1 la with
  |error e=>rw[e5] at h2;cases h2
  | ok d' =>
   have:=Ab3 mv M.da e5
   subst this
   rw[e5] at h2
   dsimp only at h2
   split at h2
   ·cases h2
   ·split at h2
    ·cases h2
    ·split at h2
     ·cases h2
     ·rw[f2] at h2
      injection h2 with h2
      injection h2 with h3 h4
      rw[←h4];exact back
theorem g_b {T : Tm} {most : Nat} {a b : Str} {e : Nat} (W : WF T most) (h : L_3 T a b = .error e) : e ≠ 0 := by
 unfold L_3 at h
 split at h
 ·rename_i e1 q
  injection h with h
  subst h
  exact P_w q
 ·split at h
  ·rename_i e1 q
   injection h with h
   subst h
   exact P_w q
  ·split at h
   ·rename_i e1 q
    injection h with h
    subst h
    exact i_x W q
   ·split at h
    ·injection h with h;omega
    ·split at h
     ·rename_i e1 q
      injection h with h
      subst h
      exact Y_f W q
     ·split at h
      ·injection h with h;omega
      ·split at h
       ·injection h with h;omega
       ·split at h
        ·injection h with h;omega
        ·split at h
         ·cases h
         ·split at h
          ·cases h
          ·split at h
           ·cases h
           ·rename_i q
            injection h with h
            subst h
            exact q
def AU9:Rs'→Nat
 |.er e=>e
 |_=>0
theorem DoV.row{r:Rs'}{v:Value}{t t':TS}(q:DoV r v t t'):∃rest:List Value,v=.agg (kI (AU9 r)::rest).toArray∧rest.length=6∧G_8 (kI (AU9 r)::rest)=true:=by
 cases r with
 |er e=>obtain⟨rfl,_⟩:=q;exact⟨_,rfl,rfl,rfl⟩
 |up n sz T'=>obtain⟨rfl,_⟩:=q;exact⟨_,rfl,rfl,rfl⟩
 |rd P=>
  obtain⟨⟨r1,d,nm,_,rfl,⟨a1,c1,rfl⟩,a2,c2,rfl⟩,_⟩:=q
  exact⟨_,rfl,rfl,rfl⟩
theorem AM2{R:RnK}(cdo:CDo R){Q:Value→Hs→Prop}{h u:Hs}{m:List Th}{t:TS}{o:OpA}{dv:Value}{K:KV}(H:Sto h [] u m)(A:TrAt u t)(W:WF t.T t.most)(hB:t.B≤50000)(hro:∀b,t.L.ro b≠none→h.nx≤b)(hm:∀y∈m,∀b,y.id=some b→t.L.ro b=none)(lt:Light o)(q3:In64 o.at_)(q4:In64 o.n)(q2:Rd h dv 1 (ones (B_9 o.X)))
 (kk:∀v u' t',Sto h [] u' m→TrAt u' t'→t'.p=t.p→t'.most=t.most→WF t'.T t'.most→t'.B≤t.B+4→(∀b,t'.L.ro b≠none→h.nx≤b)→(∀x,TrAt u x→(∀b,t.L.ro b≠none→x.L.ro b=none)→TrAt u' x∧∀b,t'.L.ro b≠none→x.L.ro b=none)→(∀b,b<u.nx→t.L.ro b=none→t'.L.ro b=none)→DoV (doF t.T t.most o) v t t'→WP (K v u') Q):WP (E_d R 10 [pV t.p,opO o dv] u K) Q:=by
 have rdv:Rd u dv 1 (ones (B_9 o.X)):=q2.ext H.ext0.1 λb hb=>H.ext0.2 b (q2.2 b hb)
 refine G_b (cdo u t o dv A W (by omega) (by have:=lt.1;omega) (by have:=lt.2.1;omega) (by have:=lt.2.2;omega) q3 q4 rdv (λb hb=>?_)) λv4 u4 q=>?_
 ·refine Classical.byContradiction λz=>?_
  have:=hro b z
  have:=q2.2 b hb
  omega
 ·cases e:doF t.T t.most o with
  |er e1=>
   rw[e] at q
   obtain⟨rfl,rfl⟩:=q
   exact kk _ _ t H A rfl rfl W (by omega) hro (λx X hx=>⟨X,hx⟩) (λ_ _ z=>z) (by rw[e];exact⟨rfl,rfl⟩)
  | up n1 sz T' =>
   rw[e] at q
   obtain⟨rfl,TQ⟩:=q
   obtain⟨t',A',rfl,e2,e3,e4,e5,e6⟩:=TQ.tr
   have un:h.nx≤u.nx:=H.nx
   have H4:=H.mutS TQ.mu (λs hs=>by
    obtain⟨_,x,hx,_⟩:=H_w.1 hs
    exact .inl (hro s (by rw[hx];simp))) (λy hy b hb hbs=>by
    obtain⟨_,x,hx,_⟩:=H_w.1 hbs
    rw[hm y hy b hb] at hx
    cases hx)
   have W':WF t'.T t'.most:=by rw[e4];exact AN8 W (λn y hy hk hc=>(A.cnt0 hy hk).1 hc) (by have:=lt.1;omega) (by have:=lt.2.1;omega) e
   have hro':∀b,t'.L.ro b≠none→h.nx≤b:=λb hb=>by
    rcases logQ b u.nx with g|g
    ·exact hro b (by rw[←e5 b g];exact hb)
    ·omega
   refine kk _ _ t' H4 A' e2 e4 W' e6 hro' (λx X hx=>⟨X.mutS TQ.mu λs hs=>?_,λb hb=>?_⟩) (λb hb z=>by rw[e5 b hb];exact z) (by rw[e];exact⟨rfl,rfl⟩)
   ·obtain⟨_,r,hr,_⟩:=H_w.1 hs
    exact hx s (by rw[hr];simp)
   ·rcases logQ b u.nx with g|g
    ·exact hx b (by rw[←e5 b g];exact hb)
    ·exact X.fr b g
  |rd P=>
   rw[e] at q
   obtain⟨r1,d,nm,hP,rfl,n1,n2⟩:=q
   have A4:=A.ext n1.1.1.1 λb hb _=>n1.1.1.2 b hb
   have H4:=H.same n1.1
   exact kk _ _ t H4 A4 rfl rfl W (by omega) hro (λx X hx=>⟨X.ext n1.1.1.1 λb hb _=>n1.1.1.2 b hb,hx⟩) (λ_ _ z=>z) (by rw[e];exact⟨⟨r1,d,nm,hP,rfl,OwnSl.form n1.2.1,OwnSl.form n2.2.1⟩,rfl⟩)
theorem Bi2{T:Tm}{most:Nat}{b:Str}:doF T most ⟨12,b,[],0,0,[]⟩=ofR (Y_n T 12 b):=by unfold doF;simp
theorem Bi3{T:Tm}{most:Nat}{a b:Str}:doF T most ⟨6,a,b,0,0,[]⟩=ofU (L_3 T a b):=by unfold doF;simp
theorem Bl3{T:Tm}{b:Str}(h:AU9 (ofR (Y_n T 12 b))=2):wayT T false b=.error 2:=by
 unfold Y_n at h
 rw[show decide (12=13)=false from rfl] at h
 cases e:wayT T false b with
 |error e1=>
  rw[e] at h
  have h:e1=2:=h
  rw[h]
 | ok n =>
  rw[e] at h
  dsimp only at h
  cases q:T n with
  |none=>rw[q] at h;cases h
  |some x=>
   rw[q] at h
   dsimp only at h
   rw[if_neg (by decide),if_neg (by decide)] at h
   cases h
theorem AY8(h:Hs):Rd h (.slice none 0 0) 1 (ones (B_9 [])):=⟨⟨λl hl=>(by cases hl),.inl ⟨_,_,rfl,rfl⟩⟩,λb hb=>by cases hb⟩
theorem AH0 {R : RnK} {N : Nat} (hN : 1000 < N) (cnew : CNew R) (chv : CHeavy R) (ccl : CCloneT R) (cdo : CDo R) (csm : CSame R) {h : Hs} {v : Value} {a b : Str} {L : List (List Value × OpA)} (ra : OpsAt h v L)
 (aw:WP (R 6 [] ⟨h.hp,h.nx,h.nx⟩) λv u=>v=.bool true∧Gev.Same ⟨h.hp,h.nx,h.nx⟩ u):WP (r5 R N [v,sV a,sV b] h) (yesQ h):=by
 have H:=Sto.enter1 ra.rd
 obtain⟨a1,c1,f1⟩:=ra.rd.1.formN (lmQ _)
 subst f1
 unfold r5
 repeat' (first|(with_reducible first|refine H_i ?_|refine H_1 ?_))
 refine G_b aw λv0 u0 q0=>?_
 obtain⟨rfl,sa⟩:=q0
 have H0:=H.same sa
 have un0:h.nx≤u0.nx:=sa.1.1
 clear H
 have H:=H0
 clear H0 sa
 repeat' (first|(with_reducible first|refine w_jn ?_|refine F_2 ?_|refine E_k ?_|refine j_j ?_|refine R_m ?_|refine G_7 ?_|refine G_t ?_|refine Z_q ?_|refine V_5 ?_|refine Az0 ?_)|((with_reducible refine O_n (λ_=>?_) (λ_=>?_))<;>first|(exfalso;omega)|skip))
 ·exact E_z H rfl ⟨rfl,rfl⟩
 ·exact E_z H rfl ⟨rfl,rfl⟩
 ·exact E_z H rfl ⟨rfl,rfl⟩
 ·rename_i l1 l2 l3
  have l2:¬450<a.length:=l2
  have l3:¬450<b.length:=l3
  refine G_b (cnew 10 _ (by unfold In64;omega)) λv1 u1 q=>?_
  obtain⟨t0,rfl,⟨A0,s0,ro0⟩,T0,m0,B0⟩:=q
  have H1:=H.same s0
  clear H
  have ll1:L.length≤25:=by omega
  have W0:WF t0.T t0.most:=by rw[T0,m0];exact Bm1 10
  obtain⟨p,hp⟩:∃p,p=t0.p:=⟨_,rfl⟩
  rw[←hp]
  repeat' (first|(with_reducible refine w_jn ?_))
  refine V_1 (Good:=λr (self:L4a)=>∀(i:Nat)(y2 y3 y4:Value)(u:Hs)(t:TS),i+r=L.length→Sto h [] u [.rsl (.slice a1 L.length c1) 6 (L.map (·.1))]→TrAt u t→t.p=p→WF t.T t.most→t.B≤2+4*i→(∀b,t.L.ro b≠none→h.nx≤b)→WP (self (kI i) y2 y3 y4 u) (yesQ h))
   (λr self ih i y2 y3 y4 u t hi H A ep W hB hro=>?_) N L.length (by omega) 0 _ _ _ u1 t0 (by omega) H1 A0 hp.symm W0 (by omega) (λb hb=>lTr un0 (ro0 b hb))
  clear H1 A0 s0 ro0 T0 m0 B0 W0 hp
  subst ep
  have hmr:∀b,b<h.nx→t.L.ro b=none:=λb hb=>by
   refine Classical.byContradiction λz=>?_
   have:=hro b z
   omega
  have hm:∀y ∈ [Th.rsl (.slice a1 L.length c1) 6 (L.map (·.1))],∀b,y.id=some b→t.L.ro b=none:=λy hy b hb=>by
   rw[msQ.1 hy] at hb
   exact hmr b (ra.rd.2 b hb)
  repeat' (first|(with_reducible first|refine w_jn ?_|refine F_2 ?_|refine E_k ?_|refine V_5 ?_)|((with_reducible refine J_c (λ_=>?_) (λ_=>?_))<;>first|(exfalso;omega)|skip))
  ·have il:i<L.length:=by omega
   obtain⟨dv,o,hg,q2,q3,q4⟩:=ra.get il
   refine w_at 0 H rfl hg rfl rfl ?_
   refine G_b (chv u o dv (q2.ext H.ext0.1 λb hb=>H.ext0.2 b (q2.2 b hb))) λv2 u2 q=>?_
   obtain⟨rfl,rfl|⟨rfl,lt⟩⟩:=q
   ·repeat' (first|(with_reducible first|refine w_jn ?_|refine F_2 ?_))
    exact E_z H rfl ⟨rfl,rfl⟩
   ·repeat' (first|(with_reducible first|refine w_jn ?_|refine E_k ?_))
    refine w_at 0 H rfl hg rfl rfl ?_
    refine AM2 cdo H A W (by omega) hro hm lt q3 q4 q2 λv4 u4 t' H4 A' e1 e2 W' e3 hro' keep old dq=>?_
    repeat' (first|((with_reducible refine H_6 ?_ ?_) ;omega))
    exact ih (r-1) (by omega) (i+1) _ _ _ u4 t' (by omega) H4 A' e1 W' (by omega) hro'
  ·refine G_b (ccl u t A W (by omega)) λv3 u3 q=>?_
   obtain⟨t2,rfl,⟨A2,s2,ro2⟩,T2,m2,B2⟩:=q
   have A3:=A.ext s2.1.1 λb hb _=>s2.1.2 b hb
   have H3:=H.same s2
   have d2:∀b,t.L.ro b≠none→t2.L.ro b=none:=λb hb=>by
    refine Classical.byContradiction λz=>hb (A.fr b (ro2 b z))
   clear H
   have H:=H3
   clear H3
   repeat' (first|((with_reducible apply H_e) ;rfl;(try dsimp only[splice,ev,A_4,rep,caQ,naQ])))
   have z64:In64 0:=by unfold In64;omega
   refine AM2 (o:=⟨12,b,[],0,0,[]⟩) (dv:=.slice none 0 0) cdo H A3 W (by omega) hro hm ⟨by show b.length≤500;omega,Nat.zero_le _,Nat.zero_le _⟩ z64 z64 (AY8 h) λv4 u4 t4 H4 A4 e1 e2 W4 e3 ro4 keep4 old4 dq4=>?_
   obtain⟨k4,_⟩:=keep4 t2 A2 d2
   rw[Bi2] at dq4
   have te:t4=t:=by
    cases e:Y_n t.T 12 b with
    |error e0=>rw[e] at dq4;exact dq4.2
    |ok P=>rw[e] at dq4;exact dq4.2
   subst te
   obtain⟨rs4,rfl,rl4,ra4⟩:=dq4.row
   refine r_y H4 (by rw[lcQ,rl4]) rfl ra4 λu5 fl5 H5 kp5=>?_
   have A5:=kp5 _ A4
   have k5:=kp5 t2 k4
   have r4:t4.L.ro u4.nx=none:=A4.fr _ (lR _)
   have l45:u4.nx<u5.nx:=H5.lt 0 rfl
   clear H H4
   have H:=H5
   clear H5
   repeat' (first|((with_reducible apply H_e) ;rfl;(try dsimp only[splice,ev,A_4,rep,caQ,naQ])))
   refine AM2 (o:=⟨6,a,b,0,0,[]⟩) (dv:=.slice none 0 0) cdo H A5 W (by omega) hro (λy hy c hc=>?_) ⟨by show a.length≤500;omega,by show b.length≤500;omega,Nat.zero_le _⟩ z64 z64 (AY8 h) λv6 u6 t6 H6 A6 f1 f2 W6 f3 ro6 keep6 old6 dq6=>?_
   ·rcases mcQ.1 hy with rfl|hy
    ·injection hc with hc
     rw[←hc];exact r4
    ·exact hm y hy c hc
   ·obtain⟨k6,d6⟩:=keep6 t2 k5 d2
    rw[Bi3] at dq6
    obtain⟨rs6,rfl,rl6,ra6⟩:=dq6.row
    refine r_y H6 (by rw[lcQ,rl6]) rfl ra6 λu7 fl7 H7 kp7=>?_
    have A7:=kp7 _ A6
    have k7:=kp7 t2 k6
    have r46:t6.L.ro u4.nx=none:=old6 _ l45 r4
    have r6:t6.L.ro u6.nx=none:=A6.fr _ (lR _)
    clear H H6
    have H:=H7
    clear H7
    have sm:∀(u:Hs)(t':TS),TrAt u t2→TrAt u t'→t'.T=t4.T→t'.most=t4.most→t'.B≤50000→WP (R 11 [pV t2.p,pV t'.p] u) (yesQ u):=λu t' x1 x2 x3 x4 x5=>csm u t2 t' x1 x2 (by rw[T2,m2];exact W) (by omega) x5 (x3.trans T2.symm) (x4.trans m2.symm)
    rw[←f1]
    repeat' (first|(with_reducible first|refine w_jn ?_|refine F_2 ?_|refine E_k ?_|refine j_j ?_|refine R_m ?_|refine G_7 ?_|refine G_t ?_|refine A_g ?_)|((with_reducible apply H_e) ;rfl;(try dsimp only[splice,ev,A_4,rep,caQ,naQ]))|((with_reducible first|refine G_h (λ_=>?_) (λ_=>?_)|refine D_v (λ_=>?_) (λ_=>?_))<;>first|(exfalso;omega)|skip)|((with_reducible apply H_c 0 H) ;rfl;rfl;rfl)|((with_reducible apply H_c 1 H) ;rfl;rfl;rfl))
    ·rename_i x6 x4
     cases er:L_3 t4.T a b with
     |error e0=>
      rw[er] at x6
      exact absurd x6 (g_b W er)
     | ok r6' =>
      rw[er] at dq6
      have T6:t6.T=r6'.2:=dq6.2
      refine AM2 (o:=⟨6,b,a,0,0,[]⟩) (dv:=.slice none 0 0) cdo H A7 W6 (by omega) ro6 (λy hy c hc=>?_) ⟨by show b.length≤500;omega,by show a.length≤500;omega,Nat.zero_le _⟩ z64 z64 (AY8 h) λv8 u8 t8 H8 A8 g1 g2 W8 g3 ro8 keep8 old8 dq8=>?_
      ·rcases mcQ.1 hy with rfl|hy
       ·injection hc with hc
        rw[←hc];exact r6
       ·rcases mcQ.1 hy with rfl|hy
        ·injection hc with hc
         rw[←hc];exact r46
        ·rw[msQ.1 hy] at hc
         refine Classical.byContradiction λz=>?_
         have:=ro6 c z
         have:=ra.rd.2 c hc
         omega
      ·obtain⟨k8,_⟩:=keep8 t2 k7 d6
       rw[Bi3] at dq8
       obtain⟨rs8,rfl,rl8,ra8⟩:=dq8.row
       refine r_y H8 (by rw[lcQ,rl8]) rfl ra8 λu9 fl9 H9 kp9=>?_
       have A9:=kp9 _ A8
       have k9:=kp9 t2 k8
       clear H H8
       have H:=H9
       clear H9
       rw[←g1]
       repeat' (first|(with_reducible first|refine j_j ?_|refine R_m ?_|refine G_7 ?_|refine A_g ?_)|((with_reducible refine D_v (λ_=>?_) (λ_=>?_))<;>first|(exfalso;omega)|skip)|((with_reducible apply H_c 0 H) ;rfl;rfl;rfl))
       ·rename_i x8
        cases er8:L_3 t6.T b a with
        |error e0=>
         rw[er8] at x8
         exact absurd x8 (g_b W6 er8)
        |ok r8'=>
         rw[er8] at dq8
         have T8:t8.T=r8'.2:=dq8.2
         rw[T6] at er8
         have hb:=y_z W (λn y hy hk hc=>(A3.cnt0 hy hk).1 hc) (n:=r6'.1) (T1:=r6'.2) er (Bl3 x4) (n2:=r8'.1) (T2:=r8'.2) er8
         refine G_b (sm u9 t8 k9 A9 (T8.trans hb) (g2.trans f2) (by omega)) λv7 w7 q=>?_
         obtain⟨rfl,rfl⟩:=q
         repeat' (first|(with_reducible refine G_t ?_))
         exact E_z H rfl ⟨rfl,rfl⟩
       ·exact E_z H rfl ⟨rfl,rfl⟩
    ·exact E_z H rfl ⟨rfl,rfl⟩
    ·rename_i x6
     have te6:t6=t4:=by
      cases er:L_3 t4.T a b with
      |error e0=>rw[er] at dq6;exact dq6.2
      |ok r6'=>rw[er] at x6;exact absurd rfl x6
     refine G_b (sm u7 t6 k7 A7 (by rw[te6]) (by rw[te6]) (by omega)) λv7 w7 q=>?_
     obtain⟨rfl,rfl⟩:=q
     repeat' (first|(with_reducible refine G_t ?_))
     exact E_z H rfl ⟨rfl,rfl⟩
end Go.Proofs.YtnbnmojckhcdeaaGreatDoor.treeMoves
