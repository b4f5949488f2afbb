import Derived.Test.YtnbnmojckhcdeaaGreatDoorMoD
namespace Go.Proofs.YtnbnmojckhcdeaaGreatDoor.treeMoves
open Go Go.Gev
set_option linter.unusedVariables false
def ref(T:Tm)(d:Nat)(s:Str)(m:Nat):Prop:=∃y,T d=some y∧y.names s=some m
def Rl(T:Tm)(m:Nat)(l:List (Nat × Str)):Prop:=l.Nodup∧∀d s,ref T d s m↔(d,s)∈l
def Cnt(x:Itm)(l:List (Nat × Str)):Prop:=(x.k≠2→(l.length:Int)=x.links)∧(x.k=2→∃s,l = [(x.up,s)])
theorem WF.rl{T:Tm}{most m:Nat}{x:Itm}(W:WF T most)(hx:T m=some x)(h3:3≤m):∃l,Rl T m l∧Cnt x l:=by
 obtain⟨l,h1,h2,h4,h5⟩:=W.rf m x hx h3
 exact⟨l,⟨h1,h2⟩,h4,h5⟩
theorem q_q{T:Tm}{n d:Nat}{f:Itm→Itm}{x:Itm}{s:Str}{m:Nat}(hx:T n=some x):ref (updI T n f) d s m↔(if d=n then (f x).names s=some m else ref T d s m):=by
 unfold ref
 rw[G_x hx]
 by_cases e:d=n
 ·rw[if_pos e,if_pos e]
  exact⟨λ⟨y,h1,h2⟩=>by injection h1 with h1;rw[h1];exact h2,λh=>⟨_,rfl,h⟩⟩
 ·rw[if_neg e,if_neg e]
theorem X_6{T:Tm}{d:Nat}{x:Itm}{s:Str}{m:Nat}(hx:T d=some x):ref T d s m↔x.names s=some m:=
 ⟨λ⟨y,h1,h2⟩=>by rw[hx] at h1;injection h1 with h1;rw[h1];exact h2,λh=>⟨x,hx,h⟩⟩
theorem t_z{T:Tm}{n d:Nat}{f:Itm→Itm}{x:Itm}{s:Str}{m:Nat}(hx:T n=some x)(hf:(f x).names=x.names):ref (updI T n f) d s m↔ref T d s m:=by
 rw[q_q hx]
 by_cases e:d=n
 ·rw[if_pos e,hf,e,X_6 hx]
 ·rw[if_neg e]
theorem Bb3{T:Tm}{d n d' m:Nat}{s s':Str}{x:Itm}(hx:T d=some x)(hs:x.names s=none):ref (updI T d (R_n s n)) d' s' m↔(ref T d' s' m∨(d'=d∧s'=s∧m=n)):=by
 rw[q_q hx]
 by_cases e:d'=d
 ·rw[if_pos e,e,X_6 hx]
  show (if s'=s then some n else x.names s')=some m↔_
  by_cases e2:s'=s
  ·rw[if_pos e2,e2,hs]
   exact⟨λh=>.inr ⟨rfl,rfl,by injection h with h;exact h.symm⟩,λh=>(by rcases h with h|h;cases h;rw[h.2.2])⟩
  ·rw[if_neg e2]
   exact⟨λh=>.inl h,λh=>(by rcases h with h|h;exact h;exact absurd h.2.1 e2)⟩
 ·rw[if_neg e]
  exact⟨λh=>.inl h,λh=>(by rcases h with h|h;exact h;exact absurd h.1 e)⟩
theorem q_n{T:Tm}{d d' m:Nat}{s s':Str}{x:Itm}(hx:T d=some x):ref (updI T d (K_8 s)) d' s' m↔(ref T d' s' m∧¬(d'=d∧s'=s)):=by
 rw[q_q hx]
 by_cases e:d'=d
 ·rw[if_pos e,e,X_6 hx]
  show (if s'=s then none else x.names s')=some m↔_
  by_cases e2:s'=s
  ·rw[if_pos e2]
   exact⟨λh=>(by cases h),λh=>absurd ⟨rfl,e2⟩ h.2⟩
  ·rw[if_neg e2]
   exact⟨λh=>⟨h,λq=>e2 q.2⟩,λh=>h.1⟩
 ·rw[if_neg e]
  exact⟨λh=>⟨h,λq=>e q.1⟩,λh=>h.1⟩
theorem AI6{T:Tm}{n d m:Nat}{s:Str}:ref (delN T n) d s m↔(ref T d s m∧d≠n):=by
 unfold ref delN
 by_cases e:d=n
 ·rw[if_pos e];exact⟨λ⟨_,h,_⟩=>(by cases h),λh=>absurd e h.2⟩
 ·rw[if_neg e];exact⟨λh=>⟨h,e⟩,λh=>h.1⟩
theorem Ap9{T:Tm}{n d m:Nat}{s:Str}{x:Itm}(hn:T n=none)(hx:x.names=λ_=>none):ref (O_i T n x) d s m↔ref T d s m:=by
 unfold ref O_i
 by_cases e:d=n
 ·rw[if_pos e,e,hn]
  exact⟨λ⟨y,h1,h2⟩=>(by injection h1 with h1;rw[←h1,hx] at h2;cases h2),λ⟨_,h,_⟩=>(by cases h)⟩
 ·rw[if_neg e]
theorem Rl.cg{T T':Tm}{m:Nat}{l:List (Nat × Str)}(r:Rl T m l)(h:∀d s,ref T' d s m↔ref T d s m):Rl T' m l:=⟨r.1,λd s=>(h d s).trans (r.2 d s)⟩
theorem Rl.add{T T':Tm}{m d:Nat}{s:Str}{l:List (Nat × Str)}(r:Rl T m l)(hn:¬ref T d s m)(h:∀d' s',ref T' d' s' m↔(ref T d' s' m∨(d'=d∧s'=s))):Rl T' m ((d,s)::l):=by
 refine⟨List.nodup_cons.2 ⟨λq=>hn ((r.2 d s).2 q),r.1⟩,λd' s'=>?_⟩
 rw[h,r.2,mcQ,Prod.mk.injEq]
 exact⟨λq=>q.symm,λq=>q.symm⟩
theorem Rl.del{T T':Tm}{m d:Nat}{s:Str}{l:List (Nat × Str)}(r:Rl T m l)(h:∀d' s',ref T' d' s' m↔(ref T d' s' m∧¬(d'=d∧s'=s))):Rl T' m (l.erase (d,s)):=by
 refine⟨r.1.erase _,λd' s'=>?_⟩
 rw[h,r.2,r.1.mem_erase_iff]
 refine⟨λ⟨a,b⟩=>⟨λe=>b (by injection e with e1 e2;exact⟨e1,e2⟩),a⟩,λ⟨a,b⟩=>⟨b,λe=>a (by rw[e.1,e.2])⟩⟩
def upOf(T:Tm)(n:Nat):Nat:=match T n with
 |some x=>x.up
 |none=>n
theorem AL9(T:Tm)(j n:Nat):upN T (j+1) n=upN T j (upOf T n):=rfl
theorem Y_a(T:Tm)(j n:Nat):upN T (j+1) n=upOf T (upN T j n):=by rw[j_f];rfl
theorem T_5{T T':Tm}{m:Nat}:∀j,(∀i,i<j→upOf T' (upN T i m)=upOf T (upN T i m))→upN T' j m=upN T j m:=by
 intro j
 induction j with
 |zero=>intro _;rfl
 |succ j ih=>
  intro h
  rw[Y_a,Y_a,ih λi hi=>h i (by omega),h j (by omega)]
theorem WF.above{T:Tm}{most m:Nat}{x:Itm}(W:WF T most)(hx:T m=some x)(hk:x.k=2)(h3:3≤m):∃s,ref T x.up s m∧∀d' s',ref T d' s' m→d'=x.up∧s'=s:=by
 obtain⟨l,h1,h2⟩:=W.rl hx h3
 obtain⟨s,hl⟩:=h2.2 hk
 subst hl
 refine⟨s,(h1.2 _ _).2 (by simp),λd' s' hr=>?_⟩
 have:=(h1.2 _ _).1 hr
 rw[msQ] at this
 injection this with a b
 exact⟨a,b⟩
theorem WF.n12{T:Tm}{most m:Nat}{x:Itm}(W:WF T most)(hx:T m=some x)(h:m<3):x.k=2∧x.up=1:=by
 have:=(W.lo m x hx).1
 rcases (show m=1∨m=2 by omega) with rfl|rfl
 ·obtain⟨y,h1,h2⟩:=W.r1;rw[hx] at h1;injection h1 with h1;rw[h1];exact h2
 ·obtain⟨y,h1,h2⟩:=W.r2;rw[hx] at h1;injection h1 with h1;rw[h1];exact h2
theorem WF.data{T:Tm}{most n:Nat}{x:Itm}{D:Str}(W:WF T most)(hx:T n=some x)(hD:D.length≤4096∧(x.k=3→1≤D.length∧D.length≤400)):WF (updI T n (P_e D)) most:=by
 have ev:∀j y,updI T n (P_e D) j=some y→∃y0,T j=some y0∧y.k=y0.k∧y.names=y0.names∧y.up=y0.up∧y.links=y0.links:=λj y hy=>by
  rw[G_x hx] at hy
  by_cases e:j=n
  ·rw[if_pos e] at hy;injection hy with hy;subst hy;exact⟨x,by rw[e];exact hx,rfl,rfl,rfl,rfl⟩
  ·rw[if_neg e] at hy;exact⟨y,hy,rfl,rfl,rfl,rfl⟩
 have ex:∀j y,T j=some y→∃y',updI T n (P_e D) j=some y'∧y'.k=y.k∧y'.up=y.up:=λj y hy=>by
  rw[G_x hx]
  by_cases e:j=n
  ·rw[e,hx] at hy;injection hy with hy;subst hy;exact⟨_,if_pos e,rfl,rfl⟩
  ·exact⟨y,by rw[if_neg e];exact hy,rfl,rfl⟩
 have uo:∀j,upOf (updI T n (P_e D)) j=upOf T j:=λj=>by
  unfold upOf
  rw[G_x hx]
  by_cases e:j=n
  ·rw[if_pos e,e,hx];rfl
  ·rw[if_neg e]
 refine⟨?_,?_,λj y hy=>?_,W.mo,λj y hy=>?_,λj y hy hk=>?_,λj y s m hy hs=>?_,λm y hy h3=>?_,λj y hy=>?_,λj y hy hk=>?_,λj y hy=>?_,λj y hy hk=>?_,λy hy=>?_,λj y s m hy hs=>?_⟩
 ·obtain⟨y,h1,h2,h3⟩:=W.r1
  obtain⟨y',a,b,c⟩:=ex 1 y h1
  exact⟨y',a,by rw[b];exact h2,by rw[c];exact h3⟩
 ·obtain⟨y,h1,h2,h3⟩:=W.r2
  obtain⟨y',a,b,c⟩:=ex 2 y h1
  exact⟨y',a,by rw[b];exact h2,by rw[c];exact h3⟩
 ·obtain⟨y0,h,_⟩:=ev j y hy;exact W.lo j y0 h
 ·obtain⟨y0,h,e1,_⟩:=ev j y hy;rw[e1];exact W.kd j y0 h
 ·obtain⟨y0,h,e1,_,e3,_⟩:=ev j y hy
  obtain⟨z,z1,z2⟩:=W.up j y0 h (by rw[←e1];exact hk)
  obtain⟨z',a,b,_⟩:=ex _ z z1
  exact⟨z',by rw[e3];exact a,by rw[b];exact z2⟩
 ·obtain⟨y0,h,e1,e2,_⟩:=ev j y hy
  obtain⟨a,b,z,hz⟩:=W.nm j y0 s m h (by rw[←e2];exact hs)
  obtain⟨z',c,_⟩:=ex _ z hz
  exact⟨by rw[e1];exact a,b,z',c⟩
 ·obtain⟨y0,h,e1,e2,e3,e4⟩:=ev m y hy
  obtain⟨l,h1,h2,h4,h5⟩:=W.rf m y0 h h3
  exact⟨l,h1,λd s=>(t_z hx rfl).trans (h2 d s),λq=>by rw[e4];exact h4 (by rw[←e1];exact q),λq=>by rw[e3];exact h5 (by rw[←e1];exact q)⟩
 ·obtain⟨y0,h,_,_,_,e4⟩:=ev j y hy;rw[e4];exact W.lk j y0 h
 ·obtain⟨y0,h,e1,_,_,e4⟩:=ev j y hy;rw[e4];exact W.l2 j y0 h (by rw[←e1];exact hk)
 ·rw[G_x hx] at hy
  by_cases e:j=n
  ·rw[if_pos e] at hy;injection hy with hy;subst hy;exact hD
  ·rw[if_neg e] at hy;exact W.da j y hy
 ·obtain⟨y0,h,e1,_⟩:=ev j y hy
  obtain⟨i,hi⟩:=W.ac j y0 h (by rw[←e1];exact hk)
  exact⟨i,by rw[T_5 i λa _=>uo _];exact hi⟩
 ·obtain⟨y0,h,_,e2,_⟩:=ev 1 y hy;rw[e2];exact W.ls y0 h
 ·obtain⟨y0,h,_,e2,_⟩:=ev j y hy;exact W.nl j y0 s m h (by rw[←e2];exact hs)
structure PW (T:Tm) (most n:Nat):Prop where
 r1:∃x,T 1=some x∧x.k=2∧x.up=1
 r2:∃x,T 2=some x∧x.k=2∧x.up=1
 mo:most≤64
 lo:∀j x,T j=some x→1≤j∧j≤most
 kd:∀j x,T j=some x→x.k=1∨x.k=2∨x.k=3
 lk:∀j x,T j=some x→0≤x.links∧x.links≤200
 l2:∀j x,T j=some x→x.k=2→x.links=0
 da:∀j x,T j=some x→x.data.length≤4096∧(x.k=3→1≤x.data.length∧x.data.length≤400)
 up:∀j x,j≠n→T j=some x→x.k=2→∃y,T x.up=some y∧y.k=2
 nm:∀j x s m,T j=some x→x.names s=some m→x.k=2∧3≤m∧(∃y,T m=some y)∧s.length≤400∧¬(j=1∧s=O_2)
 rf:∀m x,m≠n→T m=some x→3≤m→∃l,Rl T m l∧Cnt x l
 ac:∀j x,j≠n→T j=some x→x.k=2→∃i,(upN T i j=1∨upN T i j=n)∧∀i',i'<i→upN T i' j≠n
 rn:∀y,T n=some y→∃l,Rl T n l∧(y.k≠2→(l.length:Int)=y.links)∧(y.k=2→l = [])
theorem PW.chain{T:Tm}{most n j:Nat}(P:PW T most n)(hj:∃x,T j=some x∧x.k=2):∀i,(∀i',i'<i→upN T i' j≠n)→∃z,T (upN T i j)=some z∧z.k=2:=by
 intro i
 induction i with
 |zero=>intro _;exact hj
 |succ i ih=>
  intro h
  obtain⟨z,z1,z2⟩:=ih λi' hi'=>h i' (by omega)
  obtain⟨w,w1,w2⟩:=P.up _ z (h i (by omega)) z1 z2
  refine⟨w,?_,w2⟩
  rw[Y_a]
  unfold upOf
  rw[z1];exact w1
theorem Ap7{T:Tm}{most n d:Nat}{s:Str}{x y:Itm}(P:PW T most n)(hx:T d=some x)(hk:x.k=2)(hs:x.names s=none)(hsl:s.length≤400)(hl:¬(d=1∧s=O_2))(hy:T n=some y)(n3:3≤n)(nd:n≠d)(lk:y.k≠2→y.links+1≤200)(hd:∃i,upN T i d=1∧∀i',i'≤i→upN T i' d≠n):WF (putT T d s n) most:=by
 have hT:∀j,putT T d s n j=if j=n then some (I_e d y) else if j=d then some (R_n s n x) else T j:=λj=>by
  unfold putT
  rw[G_x (by rw[H_d nd];exact hy),G_x hx]
 have lup:y.k=2→I_e d y=x_3 d y:=λk=>by unfold I_e;rw[if_pos k]
 have lln:y.k≠2→I_e d y=O_7 (y.links+1) y:=λk=>by unfold I_e;rw[if_neg k]
 have ldt:(I_e d y).data=y.data∧(I_e d y).names=y.names:=by unfold I_e;split<;>exact⟨rfl,rfl⟩
 have ev:∀j y',putT T d s n j=some y'→∃y0,T j=some y0∧y'.k=y0.k∧y'.data=y0.data∧(j≠n→y'.up=y0.up∧y'.links=y0.links):=λj y' h=>by
  rw[hT] at h
  by_cases e:j=n
  ·rw[if_pos e] at h;injection h with h;subst h;exact⟨y,by rw[e];exact hy,N_x,ldt.1,λq=>absurd e q⟩
  ·rw[if_neg e] at h
   by_cases e2:j=d
   ·rw[if_pos e2] at h;injection h with h;subst h;exact⟨x,by rw[e2];exact hx,rfl,rfl,λ_=>⟨rfl,rfl⟩⟩
   ·rw[if_neg e2] at h;exact⟨y',h,rfl,rfl,λ_=>⟨rfl,rfl⟩⟩
 have ex:∀j y0,T j=some y0→∃y',putT T d s n j=some y'∧y'.k=y0.k∧(j≠n→y'.up=y0.up):=λj y0 h=>by
  rw[hT]
  by_cases e:j=n
  ·rw[e,hy] at h;injection h with h;subst h;exact⟨_,if_pos e,N_x,λq=>absurd e q⟩
  ·rw[if_neg e]
   by_cases e2:j=d
   ·rw[e2,hx] at h;injection h with h;subst h;exact⟨_,if_pos e2,rfl,λ_=>rfl⟩
   ·exact⟨y0,by rw[if_neg e2];exact h,rfl,λ_=>rfl⟩
 have rf:∀d' s' m,ref (putT T d s n) d' s' m↔(ref T d' s' m∨(d'=d∧s'=s∧m=n)):=λd' s' m=>by
  unfold putT
  rw[t_z (by rw[H_d nd];exact hy) ldt.2,Bb3 hx hs]
 have uo:∀j,j≠n→upOf (putT T d s n) j=upOf T j:=λj e=>by
  unfold upOf
  rw[hT,if_neg e]
  by_cases e2:j=d
  ·rw[if_pos e2,e2,hx];rfl
  ·rw[if_neg e2]
 have us:∀i j,(∀i',i'<i→upN T i' j≠n)→upN (putT T d s n) i j=upN T i j:=λi j h=>T_5 i λi' hi'=>uo _ (h i' hi')
 obtain⟨id,id1,id2⟩:=hd
 have acn:y.k=2→∃i,upN (putT T d s n) i n=1:=λk=>by
  refine⟨id+1,?_⟩
  rw[AL9]
  have:upOf (putT T d s n) n=d:=by
   unfold upOf
   rw[hT,if_pos rfl]
   show (I_e d y).up=d
   rw[lup k];rfl
  rw[this,us id d λi' hi'=>id2 i' (by omega)]
  exact id1
 refine⟨?_,?_,λj y' h=>?_,P.mo,λj y' h=>?_,λj y' h k=>?_,λj y' s' m h hs'=>?_,λm y' h h3=>?_,λj y' h=>?_,λj y' h k=>?_,λj y' h=>?_,λj y' h k=>?_,λy' h=>?_,λj y' s' m h hs'=>?_⟩
 ·obtain⟨z,h1,h2,h3⟩:=P.r1
  obtain⟨z',a,b,c⟩:=ex 1 z h1
  exact⟨z',a,by rw[b];exact h2,by rw[c (by omega)];exact h3⟩
 ·obtain⟨z,h1,h2,h3⟩:=P.r2
  obtain⟨z',a,b,c⟩:=ex 2 z h1
  exact⟨z',a,by rw[b];exact h2,by rw[c (by omega)];exact h3⟩
 ·obtain⟨y0,h0,_⟩:=ev j y' h;exact P.lo j y0 h0
 ·obtain⟨y0,h0,e1,_⟩:=ev j y' h;rw[e1];exact P.kd j y0 h0
 ·by_cases e:j=n
  ·rw[hT,if_pos e] at h
   injection h with h;subst h
   rw[N_x] at k
   obtain⟨z',a,b,_⟩:=ex d x hx
   refine⟨z',?_,by rw[b];exact hk⟩
   rw[lup k];exact a
  ·obtain⟨y0,h0,e1,_,e3⟩:=ev j y' h
   obtain⟨z,z1,z2⟩:=P.up j y0 e h0 (by rw[←e1];exact k)
   obtain⟨z',a,b,_⟩:=ex _ z z1
   exact⟨z',by rw[(e3 e).1];exact a,by rw[b];exact z2⟩
 ·have hr:ref (putT T d s n) j s' m:=⟨y',h,hs'⟩
  rcases (rf j s' m).1 hr with⟨y0,q1,q2⟩|⟨q1,q2,q3⟩
  ·obtain⟨y1,h0,e1,_⟩:=ev j y' h
   rw[q1] at h0;injection h0 with h0;subst h0
   obtain⟨a,b,⟨z,hz⟩,_⟩:=P.nm j y0 s' m q1 q2
   obtain⟨z',c,_⟩:=ex _ z hz
   exact⟨by rw[e1];exact a,b,z',c⟩
  ·subst q1 q3
   obtain⟨y1,h0,e1,_⟩:=ev j y' h
   rw[hx] at h0;injection h0 with h0;subst h0
   obtain⟨z',c,_⟩:=ex _ y hy
   exact⟨by rw[e1];exact hk,n3,z',c⟩
 ·by_cases e:m=n
  ·subst e
   rw[hT,if_pos rfl] at h
   injection h with h;subst h
   obtain⟨l,rl,c1,c2⟩:=P.rn y hy
   have nr:¬ref T d s m:=λq=>by rw[X_6 hx,hs] at q;cases q
   have r2:=rl.add (T':=putT T d s m) nr λd' s'=>by rw[rf];exact⟨λq=>by rcases q with q|q;exact .inl q;exact .inr ⟨q.1,q.2.1⟩,λq=>by rcases q with q|q;exact .inl q;exact .inr ⟨q.1,q.2,rfl⟩⟩
   refine⟨_,r2.1,r2.2,λk=>?_,λk=>?_⟩
   ·rw[N_x] at k
    rw[lln k]
    show (((d,s)::l).length:Int)=y.links+1
    rw[lcQ,←c1 k];rfl
   ·rw[N_x] at k
    rw[lup k,c2 k]
    exact⟨s,rfl⟩
  ·obtain⟨y0,h0,e1,_,e3⟩:=ev m y' h
   obtain⟨l,rl,c1,c2⟩:=P.rf m y0 e h0 h3
   have r2:=rl.cg (T':=putT T d s n) λd' s'=>by rw[rf];exact⟨λq=>by rcases q with q|q;exact q;exact absurd q.2.2 e,λq=>.inl q⟩
   refine⟨l,r2.1,r2.2,λk=>?_,λk=>?_⟩
   ·rw[(e3 e).2];exact c1 (by rw[←e1];exact k)
   ·rw[(e3 e).1];exact c2 (by rw[←e1];exact k)
 ·by_cases e:j=n
  ·rw[hT,if_pos e] at h
   injection h with h;subst h
   have:=P.lk n y hy
   by_cases k:y.k=2
   ·rw[lup k];exact this
   ·rw[lln k]
    have:=lk k
    show 0≤y.links+1∧y.links+1≤200
    omega
  ·obtain⟨y0,h0,_,_,e3⟩:=ev j y' h
   rw[(e3 e).2];exact P.lk j y0 h0
 ·by_cases e:j=n
  ·rw[hT,if_pos e] at h
   injection h with h;subst h
   rw[N_x] at k
   rw[lup k];exact P.l2 n y hy k
  ·obtain⟨y0,h0,e1,_,e3⟩:=ev j y' h
   rw[(e3 e).2];exact P.l2 j y0 h0 (by rw[←e1];exact k)
 ·obtain⟨y0,h0,e1,e2,_⟩:=ev j y' h
  rw[e2,e1];exact P.da j y0 h0
 ·by_cases e:j=n
  ·subst e
   rw[hT,if_pos rfl] at h
   injection h with h;subst h
   rw[N_x] at k
   exact acn k
  ·obtain⟨y0,h0,e1,_⟩:=ev j y' h
   obtain⟨i,hi,hi2⟩:=P.ac j y0 e h0 (by rw[←e1];exact k)
   rcases hi with hi|hi
   ·exact⟨i,by rw[us i j hi2];exact hi⟩
   ·obtain⟨z,z1,z2⟩:=P.chain ⟨y0,h0,by rw[←e1];exact k⟩ i hi2
    rw[hi,hy] at z1
    injection z1 with z1
    obtain⟨i2,hi3⟩:=acn (by rw[z1];exact z2)
    exact⟨i+i2,by rw[j_f,us i j hi2,hi];exact hi3⟩
 ·cases e:y'.names O_2 with
  |none=>rfl
  |some m=>
   exfalso
   rcases (rf 1 O_2 m).1 ⟨y',h,e⟩ with⟨y0,q1,q2⟩|⟨q1,q2,_⟩
   ·exact(P.nm 1 y0 O_2 m q1 q2).2.2.2.2 ⟨rfl,rfl⟩
   ·exact hl ⟨q1.symm,q2.symm⟩
 ·rcases (rf j s' m).1 ⟨y',h,hs'⟩ with⟨y0,q1,q2⟩|⟨_,q2,_⟩
  ·exact(P.nm j y0 s' m q1 q2).2.2.2.1
  ·rw[q2];exact hsl
def eqm(x y:Itm):Prop:=x.k=y.k∧x.data=y.data∧x.names=y.names∧x.up=y.up∧x.links=y.links
def eqT(T T':Tm):Prop:=∀j,(T j=none∧T' j=none)∨∃x y,T j=some x∧T' j=some y∧eqm x y
theorem eqT.ev{T T':Tm}(E:eqT T T'){j:Nat}{y:Itm}(h:T' j=some y):∃x,T j=some x∧eqm x y:=by
 rcases E j with⟨_,q⟩|⟨x,y',h1,h2,h3⟩
 ·rw[h] at q;cases q
 ·rw[h] at h2;injection h2 with h2;subst h2;exact⟨x,h1,h3⟩
theorem eqT.ex{T T':Tm}(E:eqT T T'){j:Nat}{x:Itm}(h:T j=some x):∃y,T' j=some y∧eqm x y:=by
 rcases E j with⟨q,_⟩|⟨x',y',h1,h2,h3⟩
 ·rw[h] at q;cases q
 ·rw[h] at h1;injection h1 with h1;subst h1;exact⟨y',h2,h3⟩
theorem eqT.wf{T T':Tm}{most:Nat}(E:eqT T T')(W:WF T most):WF T' most:=by
 have rf:∀d s m,ref T' d s m↔ref T d s m:=λd s m=>by
  constructor
  ·rintro⟨y,h1,h2⟩
   obtain⟨x,a,b⟩:=E.ev h1
   exact⟨x,a,by rw[b.2.2.1];exact h2⟩
  ·rintro⟨x,h1,h2⟩
   obtain⟨y,a,b⟩:=E.ex h1
   exact⟨y,a,by rw[←b.2.2.1];exact h2⟩
 have uo:∀j,upOf T' j=upOf T j:=λj=>by
  unfold upOf
  rcases E j with⟨q1,q2⟩|⟨x,y,h1,h2,h3⟩
  ·rw[q1,q2]
  ·rw[h1,h2];exact h3.2.2.2.1.symm
 refine⟨?_,?_,λj y h=>?_,W.mo,λj y h=>?_,λj y h k=>?_,λj y s m h hs=>?_,λm y h h3=>?_,λj y h=>?_,λj y h k=>?_,λj y h=>?_,λj y h k=>?_,λy h=>?_,λj y s m h hs=>?_⟩
 ·obtain⟨x,h1,h2,h3⟩:=W.r1
  obtain⟨y,a,b⟩:=E.ex h1
  exact⟨y,a,b.1.symm.trans h2,b.2.2.2.1.symm.trans h3⟩
 ·obtain⟨x,h1,h2,h3⟩:=W.r2
  obtain⟨y,a,b⟩:=E.ex h1
  exact⟨y,a,b.1.symm.trans h2,b.2.2.2.1.symm.trans h3⟩
 ·obtain⟨x,a,b⟩:=E.ev h;exact W.lo j x a
 ·obtain⟨x,a,b⟩:=E.ev h;rw[←b.1];exact W.kd j x a
 ·obtain⟨x,a,b⟩:=E.ev h
  obtain⟨z,z1,z2⟩:=W.up j x a (by rw[b.1];exact k)
  obtain⟨z',c,d⟩:=E.ex z1
  exact⟨z',by rw[←b.2.2.2.1];exact c,d.1.symm.trans z2⟩
 ·obtain⟨x,a,b⟩:=E.ev h
  obtain⟨q1,q2,z,hz⟩:=W.nm j x s m a (by rw[b.2.2.1];exact hs)
  obtain⟨z',c,_⟩:=E.ex hz
  exact⟨by rw[←b.1];exact q1,q2,z',c⟩
 ·obtain⟨x,a,b⟩:=E.ev h
  obtain⟨l,r,c⟩:=W.rl a h3
  have r2:=r.cg (T':=T') λd s=>rf d s m
  exact⟨l,r2.1,r2.2,λk=>by rw[←b.2.2.2.2];exact c.1 (by rw[b.1];exact k),λk=>by rw[←b.2.2.2.1];exact c.2 (by rw[b.1];exact k)⟩
 ·obtain⟨x,a,b⟩:=E.ev h;rw[←b.2.2.2.2];exact W.lk j x a
 ·obtain⟨x,a,b⟩:=E.ev h;rw[←b.2.2.2.2];exact W.l2 j x a (by rw[b.1];exact k)
 ·obtain⟨x,a,b⟩:=E.ev h;rw[←b.2.1,←b.1];exact W.da j x a
 ·obtain⟨x,a,b⟩:=E.ev h
  obtain⟨i,hi⟩:=W.ac j x a (by rw[b.1];exact k)
  exact⟨i,by rw[T_5 i λa _=>uo _];exact hi⟩
 ·obtain⟨x,a,b⟩:=E.ev h;rw[←b.2.2.1];exact W.ls x a
 ·obtain⟨x,a,b⟩:=E.ev h;exact W.nl j x s m a (by rw[b.2.2.1];exact hs)
theorem WF.noFile{T:Tm}{most n d:Nat}{y:Itm}(W:WF T most)(hy:T n=some y)(hk:y.k≠2)(hd:∃x,T d=some x∧x.k=2)(i:Nat):upN T i d≠n:=λe=>by
 obtain⟨z,z1,z2⟩:=Z_p W i d hd
 rw[e,hy] at z1
 injection z1 with z1
 exact hk (by rw[z1];exact z2)
theorem WF.nm5{T:Tm}{most j m:Nat}{x:Itm}{s:Str}(W:WF T most)(h:T j=some x)(hs:x.names s=some m):x.k=2∧3≤m∧(∃y,T m=some y)∧s.length≤400∧¬(j=1∧s=O_2):=by
 obtain⟨a,b,c⟩:=W.nm j x s m h hs
 refine⟨a,b,c,W.nl j x s m h hs,λq=>?_⟩
 obtain⟨q1,q2⟩:=q
 subst q1 q2
 rw[W.ls x h] at hs;cases hs
theorem WF.pw{T:Tm}{most n:Nat}{y:Itm}(W:WF T most)(hy:T n=some y)(hk:y.k≠2)(h3:3≤n):PW T most n:=
 ⟨W.r1,W.r2,W.mo,W.lo,W.kd,W.lk,W.l2,W.da,λj x _=>W.up j x,λj x s m h hs=>W.nm5 h hs,λm x _ h h3=>W.rl h h3,λj x _ h k=>by
  obtain⟨i,hi⟩:=W.ac j x h k
  exact⟨i,.inl hi,λi' _=>W.noFile hy hk ⟨x,h,k⟩ i'⟩,λy' h=>by
  rw[hy] at h;injection h with h;subst h
  obtain⟨l,r,c⟩:=W.rl hy h3
  exact⟨l,r,c.1,λq=>absurd q hk⟩⟩
theorem WF.f3{T:Tm}{most n:Nat}{y:Itm}(W:WF T most)(hy:T n=some y)(hk:y.k≠2):3≤n:=by
 rcases logQ n 3 with g|g
 ·exact absurd (W.n12 hy g).1 hk
 ·exact g
theorem AX8{T:Tm}{most n d:Nat}{s:Str}{x y:Itm}(W:WF T most)(hx:T d=some x)(hk:x.k=2)(hs:x.names s=none)(hsl:s.length≤400)(hl:¬(d=1∧s=O_2))(hy:T n=some y)(hyk:y.k≠2)(lk:y.links<200):WF (putT T d s n) most:=by
 have nd:n≠d:=WF.kne hx hy (by omega)
 obtain⟨i,hi⟩:=W.ac d x hx hk
 exact Ap7 (W.pw hy hyk (W.f3 hy hyk)) hx hk hs hsl hl hy (W.f3 hy hyk) nd (λ_=>by omega) ⟨i,hi,λi' _=>W.noFile hy hyk ⟨x,hx,hk⟩ i'⟩
theorem Ab0{T:Tm}{most n d:Nat}{s:Str}{x y:Itm}(W:WF T most)(hx:T d=some x)(hk:x.k=2)(hs:x.names s=none)(hsl:s.length≤400)(hl:¬(d=1∧s=O_2))(hn:T n=none)(n1:1≤n∧n≤most)
 (k3:y.k=1∨y.k=2∨y.k=3) (ynn:y.names=λ_=>none) (yl:y.links=0) (yd:y.data.length≤4096∧(y.k=3→1≤y.data.length∧y.data.length≤400)):WF (putT (O_i T n y) d s n) most:=by
 have n3:3≤n:=by
  rcases logQ n 3 with g|g
  ·obtain⟨a,ha,_⟩:=W.r1
   obtain⟨b,hb,_⟩:=W.r2
   rcases (show n=1∨n=2 by omega) with rfl|rfl
   ·rw[ha] at hn;cases hn
   ·rw[hb] at hn;cases hn
  ·exact g
 have ne:∀{j z},T j=some z→j≠n:=λh e=>by rw[e,hn] at h;cases h
 have ad:∀{j z},T j=some z→O_i T n y j=some z:=λh=>by rw[P_s (ne h)];exact h
 have bk:∀{j z},O_i T n y j=some z→(j=n∧z=y)∨(j≠n∧T j=some z):=λ{j z} h=>by
  by_cases e:j=n
  ·rw[e,Q_w] at h;injection h with h;exact .inl ⟨e,h.symm⟩
  ·rw[P_s e] at h;exact .inr ⟨e,h⟩
 have uo:∀j,j≠n→upOf (O_i T n y) j=upOf T j:=λj e=>by unfold upOf;rw[P_s e]
 have us:∀i j,(∃x,T j=some x∧x.k=2)→upN (O_i T n y) i j=upN T i j∧upN T i j≠n:=λi j hj=>by
  have nn:∀i,upN T i j≠n:=λi=>by
   obtain⟨z,z1,_⟩:=Z_p W i j hj
   exact ne z1
  exact⟨T_5 i λi' _=>uo _ (nn i'),nn i⟩
 have rf:∀d s m,ref (O_i T n y) d s m↔ref T d s m:=λd s m=>Ap9 hn ynn
 have P:PW (O_i T n y) most n:=by
  refine⟨?_,?_,W.mo,λj z h=>?_,λj z h=>?_,λj z h=>?_,λj z h k=>?_,λj z h=>?_,λj z e h k=>?_,λj z s m h hs=>?_,λm z e h h3=>?_,λj z e h k=>?_,λz h=>?_⟩
  ·obtain⟨z,h1,h2⟩:=W.r1;exact⟨z,ad h1,h2⟩
  ·obtain⟨z,h1,h2⟩:=W.r2;exact⟨z,ad h1,h2⟩
  ·rcases bk h with⟨e,_⟩|⟨_,h⟩
   ·rw[e];exact n1
   ·exact W.lo j z h
  ·rcases bk h with⟨_,e⟩|⟨_,h⟩
   ·rw[e];exact k3
   ·exact W.kd j z h
  ·rcases bk h with⟨_,e⟩|⟨_,h⟩
   ·rw[e,yl];omega
   ·exact W.lk j z h
  ·rcases bk h with⟨_,e⟩|⟨_,h⟩
   ·rw[e];exact yl
   ·exact W.l2 j z h k
  ·rcases bk h with⟨_,e⟩|⟨_,h⟩
   ·rw[e];exact yd
   ·exact W.da j z h
  ·rcases bk h with⟨e2,_⟩|⟨_,h⟩
   ·exact absurd e2 e
   ·obtain⟨w,w1,w2⟩:=W.up j z h k;exact⟨w,ad w1,w2⟩
  ·rcases bk h with⟨_,e⟩|⟨_,h⟩
   ·rw[e,ynn] at hs;cases hs
   ·obtain⟨a,b,⟨w,hw⟩,c⟩:=W.nm5 h hs;exact⟨a,b,⟨w,ad hw⟩,c⟩
  ·rcases bk h with⟨e2,_⟩|⟨_,h⟩
   ·exact absurd e2 e
   ·obtain⟨l,r,c⟩:=W.rl h h3;exact⟨l,r.cg λd s=>rf d s m,c⟩
  ·rcases bk h with⟨e2,_⟩|⟨_,h⟩
   ·exact absurd e2 e
   ·obtain⟨i,hi⟩:=W.ac j z h k
    exact⟨i,.inl (by rw[(us i j ⟨z,h,k⟩).1];exact hi),λi' _=>by rw[(us i' j ⟨z,h,k⟩).1];exact(us i' j ⟨z,h,k⟩).2⟩
  ·rcases bk h with⟨_,e⟩|⟨e2,_⟩
   ·refine⟨[],⟨List.nodup_nil,λd s=>?_⟩,λ_=>by rw[e,yl];rfl,λ_=>rfl⟩
    rw[rf]
    exact⟨λ⟨w,h1,h2⟩=>by obtain⟨v,hv⟩:=(W.nm d w s n h1 h2).2.2;exact absurd rfl (ne hv),λq=>by cases q⟩
   ·exact absurd rfl e2
 obtain⟨i,hi⟩:=W.ac d x hx hk
 exact Ap7 P (ad hx) hk hs hsl hl Q_w n3 (ne hx).symm (λ_=>by rw[yl];decide) ⟨i,by rw[(us i d ⟨x,hx,hk⟩).1];exact hi,λi' _=>by rw[(us i' d ⟨x,hx,hk⟩).1];exact(us i' d ⟨x,hx,hk⟩).2⟩
theorem o_7{T:Tm}{most n d:Nat}{s:Str}{x y:Itm}(W:WF T most)(hx:T d=some x)(hs:x.names s=some n)(hy:T n=some y)(hn:y.k=2→∀s,y.names s=none):WF (N_e T d s n) most:=by
 have nd:=W.nself hx hs
 obtain⟨hk,n3,_,_,_⟩:=W.nm5 hx hs
 have yn:∀s,y.names s=none:=λs=>by
  cases e:y.names s with
  |none=>rfl
  |some m=>exact absurd ((hn (W.nm n y s m hy e).1) s) (by rw[e];simp)
 have hT:∀j,N_e T d s n j=if j=n then (if y.links≤1 then none else some (O_7 (y.links-1) y)) else if j=d then some (K_8 s x) else T j:=λj=>by
  unfold N_e
  rw[hy]
  dsimp only
  by_cases l:y.links≤1
  ·rw[if_pos l,if_pos l]
   unfold delN
   by_cases e:j=n
   ·rw[if_pos e,if_pos e]
   ·rw[if_neg e,if_neg e,G_x hx]
  ·rw[if_neg l,if_neg l,G_x (by rw[H_d nd];exact hy),G_x hx]
 obtain⟨l,rl,c1,c2⟩:=W.rl hy n3
 have dsl:(d,s)∈l:=(rl.2 d s).1 ⟨x,hx,hs⟩
 have y2:y.k=2→y.links≤1:=λk=>by rw[W.l2 n y hy k];decide
 have ev:∀j y',N_e T d s n j=some y'→∃y0,T j=some y0∧y'.k=y0.k∧y'.data=y0.data∧y'.up=y0.up∧(j≠n→y'.links=y0.links)∧(j=n→¬y.links≤1):=λj y' h=>by
  rw[hT] at h
  by_cases e:j=n
  ·rw[if_pos e] at h
   by_cases q:y.links≤1
   ·rw[if_pos q] at h;cases h
   ·rw[if_neg q] at h;injection h with h;subst h;exact⟨y,by rw[e];exact hy,rfl,rfl,rfl,λz=>absurd e z,λ_=>q⟩
  ·rw[if_neg e] at h
   by_cases e2:j=d
   ·rw[if_pos e2] at h;injection h with h;subst h;exact⟨x,by rw[e2];exact hx,rfl,rfl,rfl,λ_=>rfl,λz=>absurd z e⟩
   ·rw[if_neg e2] at h;exact⟨y',h,rfl,rfl,rfl,λ_=>rfl,λz=>absurd z e⟩
 have ex:∀j y0,T j=some y0→(j=n→¬y.links≤1)→∃y',N_e T d s n j=some y'∧y'.k=y0.k∧y'.up=y0.up:=λj y0 h hj=>by
  rw[hT]
  by_cases e:j=n
  ·rw[e,hy] at h;injection h with h;subst h;rw[if_pos e,if_neg (hj e)];exact⟨_,rfl,rfl,rfl⟩
  ·rw[if_neg e]
   by_cases e2:j=d
   ·rw[e2,hx] at h;injection h with h;subst h;exact⟨_,if_pos e2,rfl,rfl⟩
   ·exact⟨y0,by rw[if_neg e2];exact h,rfl,rfl⟩
 have rf:∀d' s' m,ref (N_e T d s n) d' s' m↔(ref T d' s' m∧¬(d'=d∧s'=s)):=λd' s' m=>by
  have hn0:∀s' m,¬ref T n s' m:=λs' m q=>by rw[X_6 hy,yn] at q;cases q
  unfold N_e
  rw[hy]
  dsimp only
  by_cases l:y.links≤1
  ·rw[if_pos l,AI6,q_n hx]
   exact⟨λq=>q.1,λq=>⟨q,λe=>hn0 s' m (by rw[←e];exact q.1)⟩⟩
  ·rw[if_neg l,t_z (by rw[H_d nd];exact hy) rfl,q_n hx]
 have noUp:∀j y0,T j=some y0→y0.k=2→y0.up≠n:=λj y0 h k e=>by
  rcases logQ j 3 with g|g
  ·have:=(W.n12 h g).2;omega
  ·obtain⟨s',hr,_⟩:=W.above h k g
   rw[e,X_6 hy,yn] at hr;cases hr
 have uo:∀j,j≠n→upOf (N_e T d s n) j=upOf T j:=λj e=>by
  unfold upOf
  rw[hT,if_neg e]
  by_cases e2:j=d
  ·rw[if_pos e2,e2,hx];rfl
  ·rw[if_neg e2]
 have av:∀i j,(∃z,T j=some z∧z.k=2)→j≠n→upN T i j≠n:=λi j hj e=>by
  cases i with
  |zero=>exact e
  |succ i=>
   obtain⟨z,z1,z2⟩:=Z_p W i j hj
   rw[Y_a]
   unfold upOf
   rw[z1]
   exact noUp _ z z1 z2
 have n12:∀j,j<3→(j=n→¬y.links≤1):=λj h e=>by omega
 refine⟨?_,?_,λj y' h=>?_,W.mo,λj y' h=>?_,λj y' h k=>?_,λj y' s' m h hs'=>?_,λm y' h h3=>?_,λj y' h=>?_,λj y' h k=>?_,λj y' h=>?_,λj y' h k=>?_,λy' h=>?_,λj y' s' m h hs'=>?_⟩
 ·obtain⟨z,h1,h2,h3⟩:=W.r1
  obtain⟨z',a,b,c⟩:=ex 1 z h1 (n12 1 (by decide))
  exact⟨z',a,by rw[b];exact h2,by rw[c];exact h3⟩
 ·obtain⟨z,h1,h2,h3⟩:=W.r2
  obtain⟨z',a,b,c⟩:=ex 2 z h1 (n12 2 (by decide))
  exact⟨z',a,by rw[b];exact h2,by rw[c];exact h3⟩
 ·obtain⟨y0,h0,_⟩:=ev j y' h;exact W.lo j y0 h0
 ·obtain⟨y0,h0,e1,_⟩:=ev j y' h;rw[e1];exact W.kd j y0 h0
 ·obtain⟨y0,h0,e1,_,e3,_⟩:=ev j y' h
  obtain⟨z,z1,z2⟩:=W.up j y0 h0 (by rw[←e1];exact k)
  obtain⟨z',a,b,_⟩:=ex _ z z1 (λe=>absurd e (noUp j y0 h0 (by rw[←e1];exact k)))
  exact⟨z',by rw[e3];exact a,by rw[b];exact z2⟩
 ·obtain⟨⟨y0,q1,q2⟩,q3⟩:=(rf j s' m).1 ⟨y',h,hs'⟩
  obtain⟨a,b,z,hz⟩:=W.nm j y0 s' m q1 q2
  obtain⟨y1,h0,e1,_⟩:=ev j y' h
  rw[q1] at h0;injection h0 with h0;subst h0
  obtain⟨z',c,_⟩:=ex m z hz (λe q=>by
   subst e
   have hm:(j,s')∈l:=(rl.2 j s').1 ⟨y0,q1,q2⟩
   have two:2≤l.length:=by
    match l,dsl,hm with
    |[p],h1,h2=>
     rw[msQ] at h1 h2
     rw[←h1] at h2
     injection h2 with h2 h4
     exact absurd ⟨h2,h4⟩ q3
    |a::b::l,_,_=>simp
   by_cases k:y.k=2
   ·obtain⟨s0,hl⟩:=c2 k
    rw[hl] at two;simp at two
   ·have:=c1 k;omega)
  exact⟨by rw[e1];exact a,b,z',c⟩
 ·obtain⟨y0,h0,e1,_,e3,e4,e5⟩:=ev m y' h
  by_cases e:m=n
  ·subst e
   have nl:=e5 rfl
   have k:y.k≠2:=λk=>nl (y2 k)
   rw[hy] at h0;injection h0 with h0;subst h0
   rw[hT,if_pos rfl,if_neg nl] at h
   injection h with h;subst h
   have r2:=rl.del (T':=N_e T d s m) λd' s'=>rf d' s' m
   refine⟨_,r2.1,r2.2,λ_=>?_,λq=>absurd q k⟩
   have:=c1 k
   rw[List.length_erase_of_mem dsl]
   show ((l.length-1:Nat):Int)=y.links-1
   have:1≤l.length:=List.length_pos_of_mem dsl
   omega
  ·obtain⟨l',r,c⟩:=W.rl h0 h3
   have r2:=r.cg (T':=N_e T d s n) λd' s'=>by
    rw[rf]
    refine⟨λq=>q.1,λq=>⟨q,λz=>e ?_⟩⟩
    rw[z.1,z.2,X_6 hx,hs] at q
    injection q with q;exact q.symm
   exact⟨l',r2.1,r2.2,λk=>by rw[e4 e];exact c.1 (by rw[←e1];exact k),λk=>by rw[e3];exact c.2 (by rw[←e1];exact k)⟩
 ·by_cases e:j=n
  ·obtain⟨y0,h0,e1,_,e3,e4,e5⟩:=ev j y' h
   have nl:=e5 e
   rw[hT,if_pos e,if_neg nl] at h
   injection h with h;subst h
   have:=W.lk n y hy
   show 0≤y.links-1∧y.links-1≤200
   omega
  ·obtain⟨y0,h0,_,_,_,e4,_⟩:=ev j y' h
   rw[e4 e];exact W.lk j y0 h0
 ·by_cases e:j=n
  ·obtain⟨y0,h0,e1,_,e3,e4,e5⟩:=ev j y' h
   rw[e,hy] at h0;injection h0 with h0;subst h0
   exact absurd (y2 (by rw[←e1];exact k)) (e5 e)
  ·obtain⟨y0,h0,e1,_,_,e4,_⟩:=ev j y' h
   rw[e4 e];exact W.l2 j y0 h0 (by rw[←e1];exact k)
 ·obtain⟨y0,h0,e1,e2,_⟩:=ev j y' h
  rw[e2,e1];exact W.da j y0 h0
 ·obtain⟨y0,h0,e1,_,_,_,e5⟩:=ev j y' h
  have jn:j≠n:=λe=>by
   have h0:=h0
   rw[e,hy] at h0;injection h0 with h0
   exact e5 e (y2 (by rw[h0,←e1];exact k))
  obtain⟨i,hi⟩:=W.ac j y0 h0 (by rw[←e1];exact k)
  exact⟨i,by rw[T_5 i λi' _=>uo _ (av i' j ⟨y0,h0,by rw[←e1];exact k⟩ jn)];exact hi⟩
 ·cases e:y'.names O_2 with
  |none=>rfl
  |some m=>
   exfalso
   obtain⟨⟨y0,q1,q2⟩,_⟩:=(rf 1 O_2 m).1 ⟨y',h,e⟩
   exact(W.nm5 q1 q2).2.2.2.2 ⟨rfl,rfl⟩
 ·obtain⟨⟨y0,q1,q2⟩,_⟩:=(rf j s' m).1 ⟨y',h,hs'⟩
  exact W.nl j y0 s' m q1 q2
def decL(y:Itm):Itm:=if y.k=2 then y else O_7 (y.links-1) y
def detT(T:Tm)(d:Nat)(was:Str)(n:Nat):Tm:=updI (updI T d (K_8 was)) n decL
theorem Ab2(y:Itm):(decL y).k=y.k∧(decL y).data=y.data∧(decL y).names=y.names∧(decL y).up=y.up:=by unfold decL;split<;>exact⟨rfl,rfl,rfl,rfl⟩
theorem Ae7{T:Tm}{n j:Nat}:∀i,(∃i',upN T i' j=n∧∀a,a<i'→upN T a j≠n)∨(∀a,a<i→upN T a j≠n):=by
 intro i
 induction i with
 |zero=>exact .inr λa h=>by omega
 | succ i ih =>
  rcases ih with h|h
  ·exact .inl h
  ·by_cases e:upN T i j=n
   ·exact .inl ⟨i,e,h⟩
   ·exact .inr λa ha=>by
     rcases (show a<i∨a=i by omega) with q|q
     ·exact h a q
     ·rw[q];exact e
theorem Ak4{T:Tm}{most d to n:Nat}{was s:Str}{x y z:Itm}(W:WF T most)(hx:T d=some x)(hs:x.names was=some n)(hy:T n=some y)(hz:T to=some z)(hzk:z.k=2)(hzs:z.names s=none)(hsl:s.length≤400)(hl:¬(to=1∧s=O_2))(nto:n≠to)(ni:y.k=2→¬inside T n to):WF (P_c T d was to s n) most:=by
 have nd:=W.nself hx hs
 obtain⟨hk,n3,_⟩:=W.nm5 hx hs
 obtain⟨d1,d2,d3,d4⟩:=Ab2 y
 have hT:∀j,detT T d was n j=if j=n then some (decL y) else if j=d then some (K_8 was x) else T j:=λj=>by
  unfold detT
  rw[G_x (by rw[H_d nd];exact hy),G_x hx]
 obtain⟨l,rl,c1,c2⟩:=W.rl hy n3
 have dsl:(d,was)∈l:=(rl.2 d was).1 ⟨x,hx,hs⟩
 have ev:∀j y',detT T d was n j=some y'→∃y0,T j=some y0∧y'.k=y0.k∧y'.data=y0.data∧y'.up=y0.up∧(j≠n→y'.links=y0.links):=λj y' h=>by
  rw[hT] at h
  by_cases e:j=n
  ·rw[if_pos e] at h;injection h with h;subst h;exact⟨y,by rw[e];exact hy,d1,d2,d4,λq=>absurd e q⟩
  ·rw[if_neg e] at h
   by_cases e2:j=d
   ·rw[if_pos e2] at h;injection h with h;subst h;exact⟨x,by rw[e2];exact hx,rfl,rfl,rfl,λ_=>rfl⟩
   ·rw[if_neg e2] at h;exact⟨y',h,rfl,rfl,rfl,λ_=>rfl⟩
 have ex:∀j y0,T j=some y0→∃y',detT T d was n j=some y'∧y'.k=y0.k∧y'.up=y0.up:=λj y0 h=>by
  rw[hT]
  by_cases e:j=n
  ·rw[e,hy] at h;injection h with h;subst h;exact⟨_,if_pos e,d1,d4⟩
  ·rw[if_neg e]
   by_cases e2:j=d
   ·rw[e2,hx] at h;injection h with h;subst h;exact⟨_,if_pos e2,rfl,rfl⟩
   ·exact⟨y0,by rw[if_neg e2];exact h,rfl,rfl⟩
 have rf:∀d' s' m,ref (detT T d was n) d' s' m↔(ref T d' s' m∧¬(d'=d∧s'=was)):=λd' s' m=>by
  unfold detT
  rw[t_z (by rw[H_d nd];exact hy) d3,q_n hx]
 have uo:∀j,upOf (detT T d was n) j=upOf T j:=λj=>by
  unfold upOf
  rw[hT]
  by_cases e:j=n
  ·rw[if_pos e,e,hy];exact d4
  ·rw[if_neg e]
   by_cases e2:j=d
   ·rw[if_pos e2,e2,hx];rfl
   ·rw[if_neg e2]
 have us:∀i j,upN (detT T d was n) i j=upN T i j:=λi j=>T_5 i λa _=>uo _
 have lkn:(decL y).k≠2→(decL y).links=y.links-1:=λk=>by
  rw[d1] at k
  unfold decL;rw[if_neg k];rfl
 have P:PW (detT T d was n) most n:=by
  refine⟨?_,?_,W.mo,λj y' h=>?_,λj y' h=>?_,λj y' h=>?_,λj y' h k=>?_,λj y' h=>?_,λj y' e h k=>?_,λj y' s m h hs'=>?_,λm y' e h h3=>?_,λj y' e h k=>?_,λy' h=>?_⟩
  ·obtain⟨w,h1,h2,h3⟩:=W.r1
   obtain⟨w',a,b,c⟩:=ex 1 w h1
   exact⟨w',a,by rw[b];exact h2,by rw[c];exact h3⟩
  ·obtain⟨w,h1,h2,h3⟩:=W.r2
   obtain⟨w',a,b,c⟩:=ex 2 w h1
   exact⟨w',a,by rw[b];exact h2,by rw[c];exact h3⟩
  ·obtain⟨y0,h0,_⟩:=ev j y' h;exact W.lo j y0 h0
  ·obtain⟨y0,h0,e1,_⟩:=ev j y' h;rw[e1];exact W.kd j y0 h0
  ·by_cases e:j=n
   ·rw[hT,if_pos e] at h
    injection h with h;subst h
    have:=W.lk n y hy
    by_cases k:(decL y).k=2
    ·have:decL y=y:=by rw[d1] at k;unfold decL;rw[if_pos k]
     rw[this];omega
    ·rw[lkn k]
     rw[d1] at k
     have:=c1 k
     have:1≤l.length:=List.length_pos_of_mem dsl
     omega
   ·obtain⟨y0,h0,_,_,_,e4⟩:=ev j y' h;rw[e4 e];exact W.lk j y0 h0
  ·by_cases e:j=n
   ·rw[hT,if_pos e] at h
    injection h with h;subst h
    rw[d1] at k
    have:decL y=y:=by unfold decL;rw[if_pos k]
    rw[this];exact W.l2 n y hy k
   ·obtain⟨y0,h0,e1,_,_,e4⟩:=ev j y' h;rw[e4 e];exact W.l2 j y0 h0 (by rw[←e1];exact k)
  ·obtain⟨y0,h0,e1,e2,_⟩:=ev j y' h;rw[e1,e2];exact W.da j y0 h0
  ·obtain⟨y0,h0,e1,_,e3,_⟩:=ev j y' h
   obtain⟨w,w1,w2⟩:=W.up j y0 h0 (by rw[←e1];exact k)
   obtain⟨w',a,b,_⟩:=ex _ w w1
   exact⟨w',by rw[e3];exact a,by rw[b];exact w2⟩
  ·obtain⟨⟨y0,q1,q2⟩,_⟩:=(rf j s m).1 ⟨y',h,hs'⟩
   obtain⟨a,b,⟨w,hw⟩,c⟩:=W.nm5 q1 q2
   obtain⟨w',hw',_⟩:=ex m w hw
   obtain⟨y1,h0,e1,_⟩:=ev j y' h
   rw[q1] at h0;injection h0 with h0;subst h0
   exact⟨by rw[e1];exact a,b,⟨w',hw'⟩,c⟩
  ·obtain⟨y0,h0,e1,_,e3,e4⟩:=ev m y' h
   obtain⟨l',r,c⟩:=W.rl h0 h3
   have r2:=r.cg (T':=detT T d was n) λd' s'=>by
    rw[rf]
    refine⟨λq=>q.1,λq=>⟨q,λz=>e ?_⟩⟩
    rw[z.1,z.2,X_6 hx,hs] at q
    injection q with q;exact q.symm
   exact⟨l',r2,λk=>by rw[e4 e];exact c.1 (by rw[←e1];exact k),λk=>by rw[e3];exact c.2 (by rw[←e1];exact k)⟩
  ·obtain⟨y0,h0,e1,_⟩:=ev j y' h
   obtain⟨i,hi⟩:=W.ac j y0 h0 (by rw[←e1];exact k)
   rcases Ae7 (T:=T) (n:=n) (j:=j) i with⟨i',h1,h2⟩|h1
   ·exact⟨i',.inr (by rw[us];exact h1),λa ha=>by rw[us];exact h2 a ha⟩
   ·exact⟨i,.inl (by rw[us];exact hi),λa ha=>by rw[us];exact h1 a ha⟩
  ·rw[hT,if_pos rfl] at h
   injection h with h;subst h
   have r2:=rl.del (T':=detT T d was n) λd' s'=>rf d' s' n
   refine⟨_,r2,λk=>?_,λk=>?_⟩
   ·rw[lkn k]
    rw[d1] at k
    have:=c1 k
    rw[List.length_erase_of_mem dsl]
    have:1≤l.length:=List.length_pos_of_mem dsl
    omega
   ·rw[d1] at k
    obtain⟨s0,hl⟩:=c2 k
    rw[hl,msQ] at dsl
    rw[hl,←dsl]
    simp
 obtain⟨z1,hz1,hz2,hz3⟩:∃z1,detT T d was n to=some z1∧z1.k=2∧z1.names s=none:=by
  rw[hT,if_neg (λe=>nto e.symm)]
  by_cases e:to=d
  ·rw[e,hx] at hz;injection hz with hz;subst hz
   refine⟨_,if_pos e,hzk,?_⟩
   show (if s=was then none else x.names s)=none
   split
   ·rfl
   ·exact hzs
  ·exact⟨z,by rw[if_neg e];exact hz,hzk,hzs⟩
 obtain⟨i,hi⟩:=W.ac to z hz hzk
 have avoid:∀i',upN T i' to≠n:=λi' e=>by
  by_cases k:y.k=2
  ·exact ni k ⟨i',e⟩
  ·exact W.noFile hy k ⟨z,hz,hzk⟩ i' e
 have Wp:=Ap7 P hz1 hz2 hz3 hsl hl (y:=decL y) (by rw[hT,if_pos rfl]) n3 nto (λk=>by rw[lkn k];have:=W.lk n y hy;omega) ⟨i,by rw[us];exact hi,λi' _=>by rw[us];exact avoid i'⟩
 refine eqT.wf (T:=putT (detT T d was n) to s n) ?_ Wp
 have sw:s≠was∨to≠d:=by
  by_cases e:to=d
  ·left;intro e2
   rw[e,hx] at hz;injection hz with hz;subst hz
   rw[e2,hs] at hzs;cases hzs
  ·exact .inr e
 have lp:∀w,(I_e to w).k=w.k:=λw=>N_x
 intro j
 have pl:putT (detT T d was n) to s n j=if j=n then some (I_e to (decL y)) else if j=to then some (R_n s n z1) else detT T d was n j:=by
  unfold putT
  rw[G_x (by rw[H_d nto,hT,if_pos rfl]),G_x hz1]
 obtain⟨x3,hx3⟩:∃x3,putT T to s n d=some x3:=by
  unfold putT
  rw[H_d (λq=>nd q.symm)]
  by_cases e:d=to
  ·rw[e,K_f hz];exact⟨_,rfl⟩
  ·rw[H_d e];exact⟨x,hx⟩
 have pq:∀j,putT T to s n j=if j=n then some (I_e to y) else if j=to then some (R_n s n z) else T j:=λj=>by
  unfold putT
  rw[G_x (by rw[H_d nto];exact hy),G_x hz]
 have mv:P_c T d was to s n j=if j=n then some (if (I_e to y).k=2 then I_e to y else O_7 ((I_e to y).links-1) (I_e to y)) else if j=d then some (K_8 was x3) else putT T to s n j:=by
  unfold P_c
  rw[G_x (by rw[H_d nd,pq,if_pos rfl]),G_x hx3]
 rw[pl,mv]
 by_cases e:j=n
 ·rw[if_pos e,if_pos e]
  refine .inr ⟨_,_,rfl,rfl,?_⟩
  by_cases k:y.k=2
  ·have a1:decL y=y:=by unfold decL;rw[if_pos k]
   rw[a1,if_pos (by rw[lp];exact k)]
   exact⟨rfl,rfl,rfl,rfl,rfl⟩
  ·have a1:decL y=O_7 (y.links-1) y:=by unfold decL;rw[if_neg k]
   have a2:I_e to (O_7 (y.links-1) y)=O_7 (y.links-1+1) (O_7 (y.links-1) y):=by unfold I_e;rw[if_neg (show ¬(O_7 (y.links-1) y).k=2 from k)];rfl
   have a3:I_e to y=O_7 (y.links+1) y:=by unfold I_e;rw[if_neg k]
   rw[a1,if_neg (by rw[lp];exact k),a2,a3]
   refine⟨rfl,rfl,rfl,rfl,?_⟩
   show y.links-1+1=y.links+1-1
   omega
 ·rw [if_neg e, if_neg e]
  by_cases e2:j=to
  ·rw[if_pos e2]
   by_cases e3:j=d
   ·rw[if_pos e3]
    refine .inr ⟨_,_,rfl,rfl,?_⟩
    have td:to=d:=e2.symm.trans e3
    have q1:x3=R_n s n z:=by
     rw[pq,if_neg (λq=>nd q.symm),if_pos td.symm] at hx3
     injection hx3 with hx3;exact hx3.symm
    have q2:z=x:=by rw[td,hx] at hz;injection hz with hz;exact hz.symm
    have q3:z1=K_8 was x:=by
     rw[hT,if_neg (λq=>nto q.symm),if_pos td] at hz1
     injection hz1 with hz1;exact hz1.symm
    rw[q1,q2,q3]
    refine⟨rfl,rfl,?_,rfl,rfl⟩
    funext c
    show (if c=s then some n else if c=was then none else x.names c)=if c=was then none else if c=s then some n else x.names c
    by_cases f1:c=s
    ·rw[if_pos f1,if_pos f1,if_neg]
     intro f2
     rcases sw with q|q
     ·exact q (f1.symm.trans f2)
     ·exact q td
    ·rw[if_neg f1,if_neg f1]
   ·rw[if_neg e3,pq,if_neg e,if_pos e2]
    refine .inr ⟨_,_,rfl,rfl,?_⟩
    have q3:z1=z:=by
     rw[hT,if_neg (λq=>nto q.symm),if_neg (λq=>e3 (e2.trans q)),hz] at hz1
     injection hz1 with hz1;exact hz1.symm
    rw[q3]
    exact⟨rfl,rfl,rfl,rfl,rfl⟩
  ·rw[if_neg e2,hT,if_neg e]
   by_cases e3:j=d
   ·rw[if_pos e3,if_pos e3]
    refine .inr ⟨_,_,rfl,rfl,?_⟩
    have q1:x3=x:=by
     rw[pq,if_neg (λq=>nd q.symm),if_neg (λq=>e2 (e3.trans q)),hx] at hx3
     injection hx3 with hx3;exact hx3.symm
    rw[q1]
    exact⟨rfl,rfl,rfl,rfl,rfl⟩
   ·rw[if_neg e3,if_neg e3,pq,if_neg e,if_neg e2]
    cases hj:T j with
    |none=>exact .inl ⟨rfl,rfl⟩
    |some w=>exact .inr ⟨w,w,rfl,rfl,rfl,rfl,rfl,rfl,rfl⟩
def NoLk(T:Tm)(n:Nat):Prop:=∀x,T n=some x→x.k≠3
theorem Ap3{T:Tm}{wy:Nat→Str→Nat→Wr}(hw:∀d s k r,NoLk T d→wy d s k=.ok r→NoLk T r.1):∀(l:List Str)(d k:Nat)(r:Nat × Nat),NoLk T d→I_s T wy true l d k=.ok r→NoLk T r.1:=by
 intro l
 induction l with
 |nil=>intro d k r hd h;injection h with h;subst h;exact hd
 | cons p l ih =>
  intro d k r hd h
  rw[I_4] at h
  cases e:P_d T d p with
  |error e1=>rw[e] at h;cases h
  | ok n =>
   rw[e] at h
   dsimp only at h
   cases hx:T n with
   |none=>rw[hx] at h;cases h
   | some x =>
    rw[hx] at h
    dsimp only at h
    split at h
    ·cases k with
     |zero=>cases h
     | succ k =>
      dsimp only at h
      cases e2:wy d x.data k with
      |error e3=>rw[e2] at h;cases h
      |ok r2=>
       rw[e2] at h
       exact ih _ _ _ (hw _ _ _ _ hd e2) h
    ·rename_i q
     refine ih _ _ _ ?_ h
     intro y hy k3
     rw[hx] at hy
     injection hy with hy
     exact q ⟨by rw[hy];exact k3,.inl rfl⟩
theorem Be7{T:Tm}{most:Nat}(W:WF T most):∀(g d:Nat)(s:Str)(k:Nat)(r:Nat × Nat),NoLk T d→wayF T g true d s k=.ok r→NoLk T r.1:=by
 intro g
 induction g with
 |zero=>intro d s k r _ h;cases h
 | succ g ih =>
  intro d s k r hd h
  unfold wayF at h
  cases e:M_x s with
  |error e1=>rw[e] at h;cases h
  | ok l =>
   rw[e] at h
   refine Ap3 (λd s k r=>ih d s k r) l _ k r ?_ h
   split
   ·intro x hx q
    obtain⟨y,h1,h2,_⟩:=W.r1
    rw[hx] at h1;injection h1 with h1;subst h1;omega
   ·exact hd
theorem Az4{T:Tm}{most:Nat}(W:WF T most){s:Str}{n:Nat}(h:wayT T true s=.ok n):NoLk T n:=by
 unfold wayT at h
 cases e:wayF T 9 true 1 s 8 with
 |error e1=>rw[e] at h;cases h
 | ok r =>
  rw[e] at h
  injection h with h
  subst h
  exact Be7 W 9 1 s 8 r (λx hx q=>by
   obtain⟨y,h1,h2,_⟩:=W.r1
   rw[hx] at h1;injection h1 with h1;subst h1;omega) e
theorem e_7{T:Tm}{s:Str}{r:Nat × Str}(hs:s.length≤50000)(h:Q_n T s=.ok r):r.2.length≤400:=by
 unfold Q_n at h
 split at h
 ·cases h
 ·rename_i l hl
  split at h
  ·cases h
  ·split at h
   ·cases h
   ·split at h
    ·cases h
    ·injection h with h;subst h;exact(U_x hs hl).2
def CntOk(T:Tm):Prop:=∀n y,T n=some y→y.k=2→y.cnt=0→∀s,y.names s=none
theorem AN8 {T T' : Tm} {most n : Nat} {sz : Int} {o : OpA} (W : WF T most) (hc : CntOk T) (ha : o.a.length ≤ 50000) (hb : o.b.length ≤ 50000) (h : doF T most o = .up n sz T') : WF T' most := by
 have cre:∀x:Itm,(x.k=1∨x.k=2∨x.k=3)→(x.names=λ_=>none)→x.links=0→(x.data.length≤4096∧(x.k=3→1≤x.data.length∧x.data.length≤400))→ofU (S_o T most o.a x)=.up n sz T'→WF T' most:=λx k1 k2 k3 k4 h=>by
  unfold S_o at h
  cases e:Q_n T o.a with
  |error e1=>rw[e] at h;cases h
  | ok r =>
   rw[e] at h
   dsimp only at h
   cases e2:h_0 T most with
   |none=>rw[e2] at h;cases h
   |some m=>
    rw[e2] at h
    injection h with _ _ h
    subst h
    obtain⟨y,h1,h2,h3,h4,h5⟩:=X_l e
    obtain⟨f1,f2,f3⟩:=s_s e2
    exact Ab0 W h1 h2 h3 (e_7 ha e) h5 f3 ⟨f1,f2⟩ k1 k2 k3 k4
 unfold doF at h
 by_cases q1:o.k=1
 ·rw[if_pos q1] at h
  exact cre dirI (.inr (.inl rfl)) rfl rfl ⟨by decide,λq=>by cases q⟩ h
 rw[if_neg q1] at h
 by_cases q2:o.k=2
 ·rw[if_pos q2] at h
  exact cre filI (.inl rfl) rfl rfl ⟨by decide,λq=>by cases q⟩ h
 rw[if_neg q2] at h
 by_cases q3:o.k=7
 ·rw[if_pos q3] at h
  by_cases q:o.X.length<1∨400<o.X.length
  ·rw[if_pos q] at h;cases h
  ·rw[if_neg q] at h
   exact cre (lnkI o.X) (.inr (.inr rfl)) rfl rfl ⟨show o.X.length≤4096 by omega,λ_=>⟨show 1≤o.X.length by omega,show o.X.length≤400 by omega⟩⟩ h
 rw[if_neg q3] at h
 by_cases q4:o.k=3
 ·rw [if_pos q4] at h
  unfold w_6 at h
  cases e:wayT T false o.a with
  |error e1=>rw[e] at h;cases h
  | ok m =>
   rw[e] at h
   dsimp only at h
   cases hy:T m with
   |none=>rw[hy] at h;cases h
   | some y =>
    rw[hy] at h
    dsimp only at h
    by_cases k:y.k=2
    ·rw[if_pos k] at h;cases h
    rw[if_neg k] at h
    cases e2:Q_n T o.b with
    |error e3=>rw[e2] at h;cases h
    |ok r=>
     rw[e2] at h
     dsimp only at h
     by_cases k2:200≤y.links
     ·rw[if_pos k2] at h;cases h
     rw[if_neg k2] at h
     injection h with _ _ h
     subst h
     obtain⟨x,h1,h2,h3,h4,h5⟩:=X_l e2
     exact AX8 W h1 h2 h3 (e_7 hb e2) h5 hy k (by omega)
 rw[if_neg q4] at h
 by_cases q5:o.k=4
 ·rw[if_pos q5] at h
  unfold Y_y at h
  cases e:oldF T o.a with
  |error e1=>rw[e] at h;cases h
  |ok r=>
   rw[e] at h
   dsimp only at h
   obtain⟨x,y,hx,hk,hy,hf⟩:=Y_r W e
   rw[hy] at h
   dsimp only at h
   by_cases k:y.k=2
   ·rw[if_pos k] at h;cases h
   rw[if_neg k] at h
   injection h with _ _ h
   subst h
   have n2:r.2.2≠2:=λe=>by have:=W.f3 hy k;omega
   exact o_7 W hx (N_c W hx n2 hf).1 hy λq=>absurd q k
 rw[if_neg q5] at h
 by_cases q6:o.k=5
 ·rw[if_pos q6] at h
  unfold g_c at h
  cases e:oldF T o.a with
  |error e1=>rw[e] at h;cases h
  | ok r =>
   rw[e] at h
   dsimp only at h
   obtain⟨x,y,hx,hk,hy,hf⟩:=Y_r W e
   rw[hy] at h
   dsimp only at h
   by_cases k:y.k=2
   ·rw[if_pos k] at h
    by_cases n2:r.2.2=2
    ·rw[if_pos n2] at h;cases h
    rw[if_neg n2] at h
    by_cases c0:0<y.cnt
    ·rw[if_pos c0] at h;cases h
    rw[if_neg c0] at h
    injection h with _ _ h
    subst h
    exact o_7 W hx (N_c W hx n2 hf).1 hy λ_=>hc _ y hy k (by omega)
   ·rw[if_neg k] at h;cases h
 rw[if_neg q6] at h
 by_cases q7:o.k=6
 ·rw [if_pos q7] at h
  unfold L_3 at h
  cases e1:N_3 o.a with
  |error e=>rw[e1] at h;cases h
  | ok la =>
   rw[e1] at h
   dsimp only at h
   cases e2:N_3 o.b with
   |error e=>rw[e2] at h;cases h
   | ok lb =>
    rw[e2] at h
    dsimp only at h
    cases e3:oldF T o.a with
    |error e=>rw[e3] at h;cases h
    | ok r =>
     rw[e3] at h
     dsimp only at h
     obtain⟨x,y,hx,hk,hy,hf⟩:=Y_r W e3
     by_cases n2:r.2.2=2
     ·rw[if_pos n2] at h;cases h
     rw[if_neg n2] at h
     obtain⟨hs,n3⟩:=N_c W hx n2 hf
     cases e4:dirT T lb.1 with
     |error e=>rw[e4] at h;cases h
     | ok to =>
      rw[e4] at h
      dsimp only at h
      by_cases t2:to=2
      ·rw[if_pos t2] at h;cases h
      rw[if_neg t2,hy] at h
      dsimp only at h
      obtain⟨z,hz,hzk⟩:=Y_e e4
      by_cases ni:y.k=2∧inside T r.2.2 to
      ·rw[if_pos ni] at h;cases h
      rw[if_neg ni] at h
      have ni':y.k=2→¬inside T r.2.2 to:=λk q=>ni ⟨k,q⟩
      have nto:r.2.2≠to:=λe=>by
       have hz:=hz
       rw[←e,hy] at hz
       injection hz with hz
       exact ni ⟨by rw[hz];exact hzk,⟨0,e.symm⟩⟩
      have sl:=(U_x hb e2).2
      cases e5:findF T to lb.2 with
      | none =>
       rw[e5] at h
       injection h with _ _ h
       subst h
       have hl:¬(to=1∧lb.2=O_2):=λq=>by unfold findF at e5;rw[if_pos q] at e5;cases e5
       have hzs:z.names lb.2=none:=by
        unfold findF at e5
        rw[if_neg hl,hz] at e5;exact e5
       exact Ak4 W hx hs hy hz hzk hzs sl hl nto ni'
      | some m =>
       rw[e5] at h
       dsimp only at h
       by_cases mn:m=r.2.2
       ·rw[if_pos mn] at h
        injection h with _ _ h
        subst h;exact W
       rw[if_neg mn] at h
       by_cases ov:i_z T r.2.2 m=0
       ·rw [if_pos ov] at h
        injection h with _ _ h
        subst h
        obtain⟨w,hw⟩:=Z_5 W e5
        obtain⟨m2,o1,o2⟩:=Ao9 hy hw ov
        obtain⟨hzm,m3⟩:=N_c W hz m2 e5
        have nmt:=W.nself hz hzm
        have hl:¬(to=1∧lb.2=O_2):=λq=>by
         unfold findF at e5
         rw[if_pos q] at e5
         injection e5 with e5;exact m2 e5.symm
        have wn:w.k=2→∀s,w.names s=none:=λk=>hc m w hw k (o1 k).2
        have Wg:=o_7 W hz hzm hw wn
        have nmr:r.1≠m:=λe=>by
         have hx':=hx
         rw[e,hw] at hx'
         injection hx' with hx'
         have:=wn (by rw[hx'];exact hk) r.2.1
         rw[hx',hs] at this;cases this
        have gy:N_e T to lb.2 m r.2.2=some y:=by rw[b_c nto (λe=>mn e.symm)];exact hy
        have gz:N_e T to lb.2 m to=some (K_8 lb.2 z):=b_a hz hw nmt
        obtain⟨x',gx,gs⟩:∃x',N_e T to lb.2 m r.1=some x'∧x'.names r.2.1=some r.2.2:=by
         by_cases e:r.1=to
         ·rw[e,hz] at hx
          injection hx with hx
          refine⟨_,by rw[e];exact gz,?_⟩
          show (if r.2.1=lb.2 then none else z.names r.2.1)=_
          rw[if_neg,hx,hs]
          intro e2
          rw[←e2,hx,hs] at hzm
          injection hzm with hzm
          exact mn hzm.symm
         ·exact⟨x,by rw[b_c e nmr];exact hx,hs⟩
        have ui:∀i,upN T i to≠r.2.2:=λi e=>by
         by_cases k:y.k=2
         ·exact ni' k ⟨i,e⟩
         ·exact W.noFile hy k ⟨z,hz,hzk⟩ i e
        have uo:∀j,j≠m→upOf (N_e T to lb.2 m) j=upOf T j:=λj e=>by
         unfold upOf
         by_cases e2:j=to
         ·rw[e2,gz,hz];rfl
         ·rw[b_c e2 e]
        have um:∀i,upN T i to≠m:=λi e=>by
         cases i with
         |zero=>exact nmt e.symm
         | succ i =>
          obtain⟨v,v1,v2⟩:=Z_p W i to ⟨z,hz,hzk⟩
          rw[Y_a] at e
          unfold upOf at e
          rw[v1] at e
          dsimp only at e
          rcases logQ (upN T i to) 3 with g|g
          ·have:=(W.n12 v1 g).2;omega
          ·obtain⟨s',hr,_⟩:=W.above v1 v2 g
           rw[e,X_6 hw] at hr
           have k:=(W.nm5 hw hr).1
           rw[wn k s'] at hr;cases hr
        refine Ak4 Wg gx gs gy gz hzk (by show (if lb.2=lb.2 then none else _)=none;rw[if_pos rfl]) sl hl nto λk=>?_
        rintro⟨i,hi⟩
        rw[T_5 i λa _=>uo _ (um a)] at hi
        exact ui i hi
       ·rw[if_neg ov] at h;cases h
 rw[if_neg q7] at h
 by_cases q8:o.k=8
 ·rw[if_pos q8] at h
  cases e:Y_n T 8 o.a<;>rw[e] at h<;>cases h
 rw[if_neg q8] at h
 by_cases q9:o.k=12
 ·rw[if_pos q9] at h
  cases e:Y_n T 12 o.a<;>rw[e] at h<;>cases h
 rw[if_neg q9] at h
 by_cases q10:o.k=13
 ·rw[if_pos q10] at h
  cases e:Y_n T 13 o.a<;>rw[e] at h<;>cases h
 rw[if_neg q10] at h
 by_cases q11:o.k=9
 ·rw[if_pos q11] at h
  cases e:l_h T o.a o.at_ o.n<;>rw[e] at h<;>cases h
 rw[if_neg q11] at h
 by_cases q12:o.k=10
 ·rw [if_pos q12] at h
  unfold l_v at h
  by_cases a0:o.at_<0
  ·rw[if_pos a0] at h;cases h
  rw[if_neg a0] at h
  cases e:wayT T true o.a with
  |error e1=>rw[e] at h;cases h
  | ok m =>
   rw[e] at h
   dsimp only at h
   cases hx:T m with
   |none=>rw[hx] at h;cases h
   | some x =>
    rw[hx] at h
    dsimp only at h
    by_cases k:x.k=2
    ·rw[if_pos k] at h;cases h
    rw[if_neg k] at h
    unfold g_r at h
    by_cases X0:o.X.length=0
    ·rw[if_pos X0] at h
     injection h with _ _ h
     subst h;exact W
    rw[if_neg X0] at h
    by_cases big:4096<o.at_.toNat∨4096-o.at_.toNat<o.X.length
    ·rw[if_pos big] at h;cases h
    rw[if_neg big] at h
    injection h with _ _ h
    subst h
    have dl:=(W.da m x hx).1
    exact W.data hx ⟨by rw[Az7];omega,λq=>absurd q (Az4 W e x hx)⟩
 rw[if_neg q12] at h
 by_cases q13:o.k=11
 ·rw[if_pos q13] at h
  unfold l_j at h
  by_cases a0:o.n<0
  ·rw[if_pos a0] at h;cases h
  rw[if_neg a0] at h
  cases e:wayT T true o.a with
  |error e1=>rw[e] at h;cases h
  | ok m =>
   rw[e] at h
   dsimp only at h
   cases hx:T m with
   |none=>rw[hx] at h;cases h
   |some x=>
    rw[hx] at h
    dsimp only at h
    by_cases k:x.k=2
    ·rw[if_pos k] at h;cases h
    rw[if_neg k] at h
    by_cases big:4096<o.n
    ·rw[if_pos big] at h;cases h
    rw[if_neg big] at h
    injection h with _ _ h
    subst h
    exact W.data hx ⟨by rw[S_p];omega,λq=>absurd q (Az4 W e x hx)⟩
 rw[if_neg q13] at h
 cases h
theorem AQ5{Q:Value→Hs→Prop}{h0 h:Hs}{m:List Th}{v:Value}(H:Sto h0 [] h m)(e:M_r h.hp h0.nx ⟨h0.hp,h0.nx,[]⟩ v=none)(q:Q v ⟨h.hp,h.nx,h0.lo⟩):WP (clrK h0 v h) Q:=by
 have e1:clrK h0 v h=clear2 h0 v h (M_r h.hp h0.nx ⟨h0.hp,h0.nx,[]⟩ v):=by
  rw[Q_c,show Nat.blt h.lo h0.nx=false from by rw[blt_eq];simpa using H.lo0];rfl
 rw[e1,e]
 exact⟨v,_,rfl,q⟩
theorem AH5{h0 h:Hs}{b n e u:Nat}{c:Tr Value}{r:Bool}(hb:h0.nx≤b)(hg:h.hp.get b=some (.row c n e u r false)):M_r h.hp h0.nx ⟨h0.hp,h0.nx,[]⟩ (pV b)=none:=by
 have e1:mvId h.hp h0.nx ⟨h0.hp,h0.nx,[]⟩ b=none:=by
  unfold mvId
  rw[show Nat.blt b h0.nx=false from by rw[blt_eq];exact decide_eq_false (by omega)]
  show e_a _ b (h.hp.get b)=none
  rw[hg];rfl
 simp only[M_r,O_b,J_o,X_3,e1,Z_s]
def NewT(h h':Hs)(t:TS):Prop:=TrAt h' t∧Same h h'∧∀b,t.L.ro b≠none→h.nx≤b
def dir1:Itm:=⟨2,[],λ_=>none,0,1,0⟩
def newT:Tm:=O_i (O_i (λ_=>none) 1 dir1) 2 dir1
def Z_w(n:Int):Nat:=(min (max n 2) 64).toNat
def CNew(R:RnK):Prop:=∀(n:Int)(h:Hs),In64 n→WP (R 7 [.int .i64 n] h) λv h'=>∃t,v=pV t.p∧NewT h h' t∧t.T=newT∧t.most=Z_w n∧t.B=2
theorem AQ8(k:Nat){Q:Value→Hs→Prop}{h0 h:Hs}{S:List Nat}{m:List Th}{f:Nat→Option Value}{c n id cl a:Nat}{es:List MapEntry}{v:Value}{F:KV}(H:Sto h0 S h m)(hk:m[k]?=some (.blk id (.mp es cl)))(M:MapC kI f c n es cl)(hn:n<1000000000000)(hf:f a=none)
 (kk:∀h' es' cl',Sto h0 S h' (m.set k (.blk id (.mp es' cl')))→h'.nx=h.nx→MapC kI (λx=>if x=a then some v else f x) (c+1) (n+1) es' cl'→WP (F undef' h') Q):WP (after F (mapup1 true h (kI a) v (.map (some id)))) Q:=by
 obtain⟨es',cl',e,M'⟩:=Ax6 w_w (h:=h) (v:=v) (H.ok _ (mgE hk)) M hn hf
 rw[e]
 refine kk _ es' cl' (H.upd hk rfl (lR _) (λb' _ hb'=>?_) (λx h1 _ h2=>?_) (F_1 _ _) (λb' hb'=>.inl ?_) ?_ (λb' hb'=>?_)) rfl M'
 ·show (h.hp.set id _).get b'=_
  rw[tgS,if_neg]
  intro e;exact hb' (by rw[e];rfl)
 ·show x≤minN h.lo id
  rw[minN_eq]
  have:=h2 id rfl
  omega
 ·have:id=b':=by injection hb'
  subst this;exact C_m _ _
 ·show (h.hp.set id _).get id=_
  rw[tgS,if_pos rfl]
 ·exact⟨(H.ids _ (mgE hk) b' hb').1,.inl hb'⟩
theorem Bm0{R:RnK}{N:Nat}{n:Int}{h:Hs}(hn:In64 n):WP (r7 R N [.int .i64 n] h) λv h'=>∃t,v=pV t.p∧NewT h h' t∧t.T=newT∧t.most=Z_w n∧t.B=2:=by
 have H:=Sto.enter h
 unfold r7
 refine H_i ?_
 refine H_1 ?_
 refine AM6 (b:=2) ?_
 refine AM8 (b:=64) ?_
 have em:Value.int .i64 (min (max n 2) 64)=kI (Z_w n):=by
  congr 1
  unfold Z_w
  show _=((min (max n 2) 64).toNat:Int)
  rw[Int.toNat_of_nonneg (by omega)]
 rw[em]
 refine j_u H λu1 H1 hu1=>?_
 clear H
 refine H_e rfl ?_
 dsimp only[splice,ev,A_4,rep,caQ,naQ]
 have hu1:u1.nx=h.nx+1:=hu1
 obtain⟨ub,hub⟩:∃u,u=Gev.newRow u1 45 0 [kI (Z_w n),.map (some h.nx)]:=⟨_,rfl⟩
 have Hu:=H1.row 45 0 [kI (Z_w n),.map (some h.nx)]
 rw[←hub] at Hu
 refine w_rs (v:=pV u1.nx) (h:=ub) (by rw[hub];rfl) ?_
 have pg:ub.hp.get u1.nx=some (.row (ofList [kI (Z_w n),.map (some h.nx)]) 2 45 0 true false):=by
  rw[hub,E_6,if_pos rfl];rfl
 have hun:ub.nx=h.nx+2:=by rw[hub];show u1.nx+1=_;omega
 have H:Sto ub [h.nx] ub [.blk h.nx (.mp [] 0)]:=⟨lR _,λ_ _ _=>rfl,λk _ hk=>Hu.lo k (hk h.nx (by simp)) (λs q=>by cases q),λt ht=>by rw[msQ.1 ht];exact Hu.ok _ (mgE (i:=1) rfl),λt ht b hb=>by
  rw[msQ.1 ht] at hb
  injection hb with hb
  subst hb
  exact⟨by omega,λ_=>.inr (by simp)⟩,λ_ _ _=>rfl,λi j s t hi hj hij=>by
  match i,j,hi,hj with
  |0,0,_,_=>exact absurd rfl hij
  |0,j+1,_,hj=>simp at hj
  |i+1,_,hi,_=>simp at hi⟩
 refine F_w ?_
 refine A_g ?_
 refine WP.eq ((Hu.holds 0 rfl).load (v:=.map (some h.nx)) rfl ub rfl _) ?_
 refine j_u H λu2 H2 hu2=>?_
 clear H
 have H:=H2
 clear H2
 repeat' (first|((with_reducible apply H_e) ;rfl;(try dsimp only[splice,ev,A_4,rep,caQ,naQ]))|((with_reducible refine M_f H ?_) ;(clear H;intro u H hu)))
 refine AQ8 (f:=λ_=>none) 2 H rfl (MapC.nil kI 0) (by decide) rfl λu3 es cl H3 hu3 M1=>?_
 clear H
 have H:=H3
 clear H3
 dsimp only[scZ,scS] at H
 refine F_w ?_
 refine A_g ?_
 have pg3:u3.hp.get u1.nx=ub.hp.get u1.nx:=H.fr u1.nx (by omega) (by simp;omega)
 refine WP.eq ((Hu.holds 0 rfl).load (v:=.map (some h.nx)) rfl u3 pg3 _) ?_
 refine j_u H λu4 H4 hu4=>?_
 clear H
 have H:=H4
 clear H4
 repeat' (first|((with_reducible apply H_e) ;rfl;(try dsimp only[splice,ev,A_4,rep,caQ,naQ]))|((with_reducible refine M_f H ?_) ;(clear H;intro u H hu)))
 rename_i uA huA
 refine AQ8 4 H rfl M1 (by decide) rfl λu5 es5 cl5 H5 hu5 M2=>?_
 clear H
 have H:=H5
 clear H5
 dsimp only[scZ,scS] at H
 have pg5:u5.hp.get u1.nx=ub.hp.get u1.nx:=H.fr u1.nx (by omega) (by simp;omega)
 have lo5:h.nx≤u5.lo:=H.lo h.nx (by omega) (λs hs=>by rw[msQ.1 hs];exact lR _)
 have old:∀b,b<h.nx→u5.hp.get b=h.hp.get b:=λb hb=>(H.fr b (by omega) (by simp;omega)).trans (Hu.fr b hb List.not_mem_nil)
 have e1:clrK h (pV u1.nx) u5=clear2 h (pV u1.nx) u5 (M_r u5.hp h.nx ⟨h.hp,h.nx,[]⟩ (pV u1.nx)):=by
  rw[Q_c,show Nat.blt u5.lo h.nx=false from by rw[blt_eq];simpa using lo5];rfl
 rw[e1,AH5 (by omega) (pg5.trans pg)]
 have x1:u2.nx=h.nx+3:=by omega
 have x2:u3.nx=h.nx+4:=by omega
 have x3:u4.nx=h.nx+5:=by omega
 have x4:u5.nx=h.nx+6:=by omega
 rw[x1,x2,x3,hun] at H
 rw[x1,x3] at M2
 have e2:∀b,b<h.nx+6→h.nx≤b→b=h.nx∨b=h.nx+1∨b=h.nx+2∨b=h.nx+3∨b=h.nx+4∨b=h.nx+5:=λb h1 h2=>by omega
 let L:Lay:=⟨λn=>if n=1 then h.nx+3 else h.nx+5,λn=>if n=1 then h.nx+2 else h.nx+4,λ_=>.slice none 0 0,λb=>if b=h.nx then some .map else if b=h.nx+1 then some .root else if b=h.nx+2 then some (.nms 1) else if b=h.nx+3 then some (.item 1) else if b=h.nx+4 then some (.nms 2) else if b=h.nx+5 then some (.item 2) else none⟩
 have r0:L.ro h.nx=some .map:=if_pos rfl
 have r1:L.ro (h.nx+1)=some .root:=by show (if _ then _ else if _ then _ else _)=_;rw[if_neg (by omega),if_pos rfl]
 have r2:L.ro (h.nx+2)=some (.nms 1):=by show (if _ then _ else if _ then _ else if _ then _ else _)=_;rw[if_neg (by omega),if_neg (by omega),if_pos rfl]
 have r3:L.ro (h.nx+3)=some (.item 1):=by show (if _ then _ else if _ then _ else if _ then _ else if _ then _ else _)=_;rw[if_neg (by omega),if_neg (by omega),if_neg (by omega),if_pos rfl]
 have r4:L.ro (h.nx+4)=some (.nms 2):=by show (if _ then _ else if _ then _ else if _ then _ else if _ then _ else if _ then _ else _)=_;rw[if_neg (by omega),if_neg (by omega),if_neg (by omega),if_neg (by omega),if_pos rfl]
 have r5:L.ro (h.nx+5)=some (.item 2):=by show (if _ then _ else if _ then _ else if _ then _ else if _ then _ else if _ then _ else if _ then _ else _)=_;rw[if_neg (by omega),if_neg (by omega),if_neg (by omega),if_neg (by omega),if_neg (by omega),if_pos rfl]
 have rn:∀b,(b<h.nx∨h.nx+6≤b)→L.ro b=none:=λb hb=>by show (if _ then _ else if _ then _ else if _ then _ else if _ then _ else if _ then _ else if _ then _ else _)=_;rw[if_neg (by omega),if_neg (by omega),if_neg (by omega),if_neg (by omega),if_neg (by omega),if_neg (by omega)]
 have dat:∀u:Hs,DatAt u (.slice none 0 0) []:=λu=>⟨5,true,rfl,.inl ⟨rfl,rfl⟩⟩
 refine⟨_,_,rfl,⟨h.nx+1,h.nx,Z_w n,newT,2,L,2⟩,by rw[hu1],⟨?_,⟨⟨by show h.nx≤u5.nx;omega,old⟩,rfl⟩,λb hb=>?_⟩,rfl,rfl,rfl⟩
 ·refine⟨⟨true,false,?_⟩,by show h.nx+1<u5.nx;omega,r1,⟨es5,cl5,H.holds 4 rfl,M2.cg λa=>?_⟩,by show h.nx<u5.nx;omega,r0,λj x hx=>?_,λb hb=>rn b (.inr (by have hb:u5.nx≤b:=hb;omega))⟩
  ·show Holds (u5.hp.get (h.nx+1)) _
   rw[←hu1,pg5,pg]
   exact⟨_,_,rfl,λq=>(by cases q),λi=>C_q _ i⟩
  ·show _=(newT a).map λ_=>pV (if a=1 then h.nx+3 else h.nx+5)
   unfold newT O_i
   by_cases a2:a=2
   ·rw[if_pos a2,if_pos a2,if_neg (by omega)];rfl
   ·rw[if_neg a2,if_neg a2]
    by_cases a1:a=1
    ·rw[if_pos a1,if_pos a1,if_pos a1];rfl
    ·rw[if_neg a1,if_neg a1,if_neg a1];rfl
  ·have hx:newT j=some x:=hx
   unfold newT O_i at hx
   by_cases a2:j=2
   ·rw[if_pos a2] at hx;injection hx with hx;subst hx;subst a2
    exact⟨⟨_,H.holds 0 rfl⟩,by show h.nx+5<u5.nx;omega,r5,λ_=>⟨by show h.nx+4<u5.nx;omega,r4,[],0,H.holds 1 rfl,MapC.nil _ _⟩,dat _,λb hb=>by cases hb⟩
   ·rw[if_neg a2] at hx
    by_cases a1:j=1
    ·rw[if_pos a1] at hx;injection hx with hx;subst hx;subst a1
     exact⟨⟨_,H.holds 2 rfl⟩,by show h.nx+3<u5.nx;omega,r3,λ_=>⟨by show h.nx+2<u5.nx;omega,r2,[],0,H.holds 3 rfl,MapC.nil _ _⟩,dat _,λb hb=>by cases hb⟩
    ·rw[if_neg a1] at hx;cases hx
 ·rcases logQ b h.nx with g|g
  ·exact absurd (rn b (.inl g)) hb
  ·exact g
theorem Bm1(n:Int):WF newT (Z_w n):=by
 have bk:∀j x,newT j=some x→(j=1∨j=2)∧x=dir1:=λj x h=>by
  unfold newT O_i at h
  by_cases a2:j=2
  ·rw[if_pos a2] at h;injection h with h;exact⟨.inr a2,h.symm⟩
  ·rw[if_neg a2] at h
   by_cases a1:j=1
   ·rw[if_pos a1] at h;injection h with h;exact⟨.inl a1,h.symm⟩
   ·rw[if_neg a1] at h;cases h
 have h1:newT 1=some dir1:=rfl
 have h2:newT 2=some dir1:=rfl
 have m1:2≤Z_w n∧Z_w n≤64:=by unfold Z_w;omega
 refine⟨⟨_,h1,rfl,rfl⟩,⟨_,h2,rfl,rfl⟩,λj x h=>?_,m1.2,λj x h=>?_,λj x h k=>?_,λj x s m h hs=>?_,λm x h h3=>?_,λj x h=>?_,λj x h k=>?_,λj x h=>?_,λj x h k=>?_,λx h=>?_,λj x s m h hs=>?_⟩
 ·have:=(bk j x h).1;omega
 ·rw[(bk j x h).2];exact .inr (.inl rfl)
 ·rw[(bk j x h).2];exact⟨_,h1,rfl⟩
 ·rw[(bk j x h).2] at hs;cases hs
 ·have:=(bk m x h).1;omega
 ·rw[(bk j x h).2];decide
 ·rw[(bk j x h).2];rfl
 ·rw[(bk j x h).2];exact⟨by decide,λq=>by cases q⟩
 ·refine⟨1,?_⟩
  show (match newT j with|some x=>x.up|none=>j)=1
  rw[h,(bk j x h).2];rfl
 ·rw[(bk 1 x h).2];rfl
 ·rw[(bk j x h).2] at hs;cases hs
structure Fam (g:Hs) (L:Lay) (D:Tm) (B:Nat):Prop where
 it:∀n x,D n=some x→ItAt g L n x B
 fr:∀b,g.nx≤b→L.ro b=none
theorem x_p{α:Type}{eq:α→α→Bool}(heq:∀a b,eq a b=true→a=b){x:α}:∀{l:List α},x∉l→m_u eq x l=true:=by
 intro l
 induction l with
 |nil=>intro _;rfl
 | cons y l ih =>
  intro h
  have e:eq x y=false:=by
   cases q:eq x y with
   |false=>rfl
   |true=>exact absurd (mcQ.2 (.inl (heq x y q))) h
  show (match eq x y with|true=>false|false=>m_u eq x l)=true
  rw[e]
  exact ih λq=>h (mcM _ q)
theorem Y_g{α:Type}{eq:α→α→Bool}(heq:∀a b,eq a b=true→a=b):∀{l:List α},l.Nodup→distB eq l=true:=by
 intro l
 induction l with
 |nil=>intro _;rfl
 |cons x l ih=>
  intro h
  obtain⟨h1,h2⟩:=List.nodup_cons.1 h
  show (match m_u eq x l with|true=>distB eq l|false=>false)=true
  rw[x_p heq h1]
  exact ih h2
theorem Al7(a b:Nat)(h:Nat.beq a b=true):a=b:=ebT h
theorem n_9{cl:Nat}:∀{es:List MapEntry},(∀b∈es.map (·.born),b<cl)→X_b cl es=true:=by
 intro es
 induction es with
 |nil=>intro _;rfl
 |cons e es ih=>
  intro h
  show (match Nat.blt e.born cl with|true=>X_b cl es|false=>false)=true
  have:Nat.blt e.born cl=true:=by rw[blt_eq];exact decide_eq_true (h _ mcS)
  rw[this]
  exact ih λb hb=>h b (mcM _ hb)
theorem _root_.Go.Gev.MapC.good{α:Type}[DecidableEq α]{K:α→Value}{f:α→Option Value}{c n cl:Nat}{es:List MapEntry}(M:MapC K f c n es cl):M_q cl es=true:=by
 unfold M_q
 cases hb:R_v es with
 |true=>rfl
 | false =>
  have q:(∀b∈es.map (·.born),b<cl)∧(es.map (·.born)).Nodup:=by
   rcases M.bo with q|q
   ·cases es with
    |nil=>exact⟨λb h=>(by cases h),List.nodup_nil⟩
    |cons e es=>
     exfalso
     have e1:e.born=1000000000000:=q _ mcS
     have:Nat.ble 1000000000000 e.born=false:=hb
     rw[e1,M_3] at this
     cases this
   ·exact q
  show andB (X_b cl es) (distB Nat.beq (bornsOf es))=true
  rw[n_9 q.1,bornsOf_eq,Y_g Al7 q.2];rfl
theorem AC8{g g2:Hs}{L:Lay}{D:Tm}{B n q nb:Nat}{x:Itm}{dv:Value}(F:Fam g L D B)(hn:g.nx≤g2.nx)(hg:∀b,b<g.nx→g2.hp.get b=g.hp.get b)
 (row:∃fl,Holds (g2.hp.get q) (.row 49 0 true fl [kI x.k,dv,.map (if x.k=2 then some nb else none),kI x.up,.int .i64 x.links])) (ql:g.nx≤q∧q<g2.nx)
 (nm:x.k=2→g.nx≤nb∧nb<g2.nx∧nb≠q∧∃es cl,Holds (g2.hp.get nb) (.mp es cl)∧MapC sV (λs=>(x.names s).map kI) x.cnt B es cl) (da:DatAt g2 dv x.data) (rd:∀b,vId dv=some b→g.nx≤b∧b<g2.nx∧b≠q∧(x.k=2→b≠nb)) :
 Fam g2 (L.add n q nb dv x) (O_i D n x) B:=by
 have ad:∀b,b<g.nx→(L.add n q nb dv x).ro b=L.ro b:=λb hb=>Lay.add_no (λe=>by omega) (λk e=>by have:=(nm k).1;omega) (λe=>by have:=(rd b e).1;omega)
 refine⟨λj y hy=>?_,λb hb=>?_⟩
 ·by_cases e:j=n
  ·subst e
   rw[Q_w] at hy
   injection hy with hy;subst hy
   have q0:(L.add j q nb dv x).q j=q:=if_pos rfl
   have q1:(L.add j q nb dv x).nb j=nb:=if_pos rfl
   have q2:(L.add j q nb dv x).dv j=dv:=if_pos rfl
   obtain⟨fl,r⟩:=row
   refine⟨⟨fl,?_⟩,?_,?_,λk=>?_,?_,?_⟩
   ·rw[q0]
    unfold rowI nmV
    rw[q1,q2];exact r
   ·rw[q0];exact ql.2
   ·rw[q0];exact if_pos rfl
   ·obtain⟨a,b,c,d⟩:=nm k
    rw[q1]
    refine⟨b,?_,d⟩
    show (if nb=q then _ else if x.k=2∧nb=nb then _ else _)=_
    rw[if_neg c,if_pos ⟨k,rfl⟩]
   ·rw[q2];exact da
   ·rw[q2]
    intro b hb
    obtain⟨r0,r1,r2,r3⟩:=rd b hb
    refine⟨r1,?_⟩
    show (if b=q then _ else if x.k=2∧b=nb then _ else if vId dv=some b then _ else _)=_
    rw[if_neg r2,if_neg (λe=>r3 e.1 e.2),if_pos hb]
  ·rw[P_s e] at hy
   have J:=F.it j y hy
   have q0:(L.add n q nb dv x).q j=L.q j:=if_neg e
   have q1:(L.add n q nb dv x).nb j=L.nb j:=if_neg e
   have q2:(L.add n q nb dv x).dv j=L.dv j:=if_neg e
   obtain⟨fl,r⟩:=J.row
   refine⟨⟨fl,?_⟩,?_,?_,λk=>?_,?_,?_⟩
   ·rw[q0,hg _ J.ql]
    unfold rowI nmV at r ⊢
    rw[q1,q2];exact r
   ·rw[q0];exact llN J.ql hn
   ·rw[q0,ad _ J.ql];exact J.rq
   ·obtain⟨a,b,es2,cl2,d,M2⟩:=J.nm k
    rw[q1]
    exact⟨llN a hn,by rw[ad _ a];exact b,es2,cl2,by rw[hg _ a];exact d,M2⟩
   ·rw[q2]
    exact J.da.congr λb hb=>hg b (J.rd b hb).1
   ·rw[q2]
    intro b hb
    exact⟨llN (J.rd b hb).1 hn,by rw[ad _ (J.rd b hb).1];exact(J.rd b hb).2⟩
 ·rw[Lay.add_no (λe=>by omega) (λk e=>by have:=(nm k).2.1;omega) (λe=>by have:=(rd b e).2.1;omega)]
  exact F.fr b (lTr hn hb)
theorem m_9{B:Option Blk}{e u:Nat}{rw_ fl:Bool}{L:List Value}(h:Holds B (.row e u rw_ fl L)):F_q L.length 0 B=some L:=by
 obtain⟨c,f,rfl,_,hc⟩:=h
 show I_y c L.length 0 []=_
 have:=K_4 L.length 0 c L [] rfl (λj _=>by rw[zaQ];exact hc j)
 simpa using this
theorem AT2{h:Hs}{t:TS}{n:Nat}{x:Itm}(A:TrAt h t)(hx:t.T n=some x)(dl:x.data.length≤4096)(g:Hs):∃dv nb q g2,R_o 49 5 h g (some (t.L.q n,0))=some (pV q,g2)∧g.nx≤g2.nx∧(∀b,b<g.nx→g2.hp.get b=g.hp.get b)∧g2.lo=g.lo ∧
 (∃fl,Holds (g2.hp.get q) (.row 49 0 true fl [kI x.k,dv,.map (if x.k=2 then some nb else none),kI x.up,.int .i64 x.links]))∧(g.nx≤q∧q<g2.nx) ∧
 (x.k=2→g.nx≤nb∧nb<g2.nx∧nb≠q∧∃es cl,Holds (g2.hp.get nb) (.mp es cl)∧MapC sV (λs=>(x.names s).map kI) x.cnt t.B es cl)∧DatAt g2 dv x.data∧(∀b,vId dv=some b→g.nx≤b∧b<g2.nx∧b≠q∧(x.k=2→b≠nb)):=by
 have I:=A.it n x hx
 obtain⟨fl,r⟩:=I.row
 have e1:R_o 49 5 h g (some (t.L.q n,0))=h_n 49 h (kI x.k) (nmV t.L n x) (kI x.up) (.int .i64 x.links) (P_f 5 h (t.L.dv n) g):=by
  show a_p 49 5 h g (F_q 5 0 (h.hp.get (t.L.q n)))=_
  have:=m_9 r
  rw[show (rowI t.L n x).length=5 from rfl] at this
  rw[this];rfl
 -- the data
 obtain⟨dv,g1,d1,d2,d3,d4,d5,d6⟩:∃dv g1,P_f 5 h (t.L.dv n) g=some (dv,g1)∧g.nx≤g1.nx∧(∀b,b<g.nx→g1.hp.get b=g.hp.get b)∧g1.lo=g.lo∧DatAt g1 dv x.data∧∀b,vId dv=some b→g.nx≤b∧b<g1.nx:=by
  obtain⟨e,f2,ll,o⟩:=I.da
  rcases o with⟨q1,q2⟩|⟨id,c,cs,sz,f,q1,q2,q3,q4,q5,q6⟩
  ·rw[q1]
   have:x.data = []:=List.length_eq_zero_iff.1 q2
   exact⟨_,g,rfl,lR _,λ_ _=>rfl,rfl,by rw[this];exact⟨5,true,rfl,.inl ⟨rfl,rfl⟩⟩,λb hb=>by cases hb⟩
  ·rw[q1]
   have bl:(B_9 x.data).length=x.data.length:=O_y _
   have lc:F_q x.data.length 0 (h.hp.get id)=some (B_9 x.data):=by
    rw[q3]
    show I_y cs x.data.length 0 []=_
    have:=K_4 x.data.length 0 cs (B_9 x.data) [] bl (λj hj=>by rw[zaQ];exact q6 j (by omega))
    simpa using this
   have e2:P_f 5 h (.slice (some ⟨id,0,none⟩) x.data.length c) g=some (.slice (some ⟨g.nx,0,none⟩) x.data.length x.data.length,Gev.newRow g 5 1 (B_9 x.data)):=by
    show AB7 5 g x.data.length (Y_j (F_q x.data.length 0 (h.hp.get id)))=_
    rw[lc]
    show AB7 5 g x.data.length (match andB (F_e (B_9 x.data)) (Nat.ble (B_9 x.data).length 100000) with|true=>some (B_9 x.data)|false=>none)=_
    rw[W_b,bl,btL (show x.data.length≤100000 by omega)];rfl
   refine⟨_,_,e2,Nat.le_succ _,λb hb=>by rw[E_6,if_neg (by omega)],rfl,⟨5,true,by rw[bl,Nat.mul_one],.inr ⟨g.nx,x.data.length,ofList (B_9 x.data),(B_9 x.data).length,true,rfl,lR _,?_,λ_=>rfl,lR _,λi _=>C_q _ i⟩⟩,λb hb=>?_⟩
   ·rw[E_6,if_pos rfl,W_b]
   ·have:g.nx=b:=by injection hb
    subst this
    exact⟨lR _,Nat.lt_succ_self _⟩
 -- the names
 by_cases k:x.k=2
 ·obtain⟨a,b,es,cl,nh,M⟩:=I.nm k
  have nh:h.hp.get (t.L.nb n)=some (.mp es cl):=nh
  have e3:X_j h (nmV t.L n x) g1=some (.map (some g1.nx),W_3 g1 es cl):=by
   unfold nmV
   rw[if_pos k]
   show cpMp g1 (h.hp.get (t.L.nb n))=_
   rw[nh];rfl
  have ag:∀b,(W_3 g1 es cl).hp.get b=if b=g1.nx then some (.mp es cl) else g1.hp.get b:=λb=>by
   show (g1.hp.set g1.nx _).get b=_
   rw[tgS]
   by_cases e:g1.nx=b
   ·rw[if_pos e,if_pos e.symm]
   ·rw[if_neg e,if_neg (λq=>e q.symm)]
  have an:(W_3 g1 es cl).nx=g1.nx+1:=rfl
  have e4:R_o 49 5 h g (some (t.L.q n,0))=some (pV (g1.nx+1),Gev.newRow (W_3 g1 es cl) 49 0 [kI x.k,dv,.map (some g1.nx),kI x.up,.int .i64 x.links]):=by
   rw[e1,d1]
   show Y_c 49 (kI x.k) (kI x.up) (.int .i64 x.links) dv (X_j h (nmV t.L n x) g1)=_
   rw[e3];rfl
  refine⟨dv,g1.nx,g1.nx+1,_,e4,by show g.nx≤g1.nx+1+1;omega,λb hb=>?_,d4,⟨false,?_⟩,⟨by omega,Nat.lt_succ_self _⟩,λ_=>⟨d2,by show g1.nx<g1.nx+1+1;omega,by omega,es,cl,?_,M⟩,?_,λb hb=>?_⟩
  ·rw[E_6,if_neg (by rw[an];omega),ag,if_neg (by omega)]
   exact d3 b hb
  ·rw[E_6,if_pos an,if_pos k]
   exact⟨ofList _,_,rfl,(λq=>by cases q),λi=>C_q _ i⟩
  ·rw[E_6,if_neg (by rw[an];omega),ag,if_pos rfl];rfl
  ·refine d5.congr λb hb=>?_
   have:=(d6 b hb).2
   rw[E_6,if_neg (by rw[an];omega),ag,if_neg (by omega)]
  ·have:=d6 b hb
   exact⟨this.1,by show b<g1.nx+1+1;omega,by omega,λ_=>by omega⟩
 ·have e3:X_j h (nmV t.L n x) g1=some (.map none,g1):=by
   unfold nmV
   rw[if_neg k];rfl
  have e4:R_o 49 5 h g (some (t.L.q n,0))=some (pV g1.nx,Gev.newRow g1 49 0 [kI x.k,dv,.map none,kI x.up,.int .i64 x.links]):=by
   rw[e1,d1]
   show Y_c 49 (kI x.k) (kI x.up) (.int .i64 x.links) dv (X_j h (nmV t.L n x) g1)=_
   rw[e3];rfl
  refine⟨dv,0,g1.nx,_,e4,by show g.nx≤g1.nx+1;omega,λb hb=>?_,d4,⟨false,?_⟩,⟨d2,Nat.lt_succ_self _⟩,λq=>absurd q k,?_,λb hb=>?_⟩
  ·rw[E_6,if_neg (by omega)]
   exact d3 b hb
  ·rw[E_6,if_pos rfl,if_neg k]
   exact⟨ofList _,_,rfl,(λq=>by cases q),λi=>C_q _ i⟩
  ·refine d5.congr λb hb=>?_
   have:=(d6 b hb).2
   rw[E_6,if_neg (by omega)]
  ·have:=d6 b hb
   exact⟨this.1,by show b<g1.nx+1;omega,by omega,λq=>absurd q k⟩
theorem AG4{l:List (Nat × Value × Nat)}{f:Nat→Value}(a:Nat):Gev.look (l.map λe=>(e.1,f e.1,1000000000000)) a=if a∈J_d l then some (f a) else none:=by
 induction l with
 |nil=>rfl
 | cons e l ih =>
  show (if a=e.1 then some (f e.1) else Gev.look (l.map _) a)=if a∈e.1::J_d l then _ else _
  by_cases q:a=e.1
  ·rw[if_pos q,if_pos (mcQ.2 (.inl q)),q]
  ·rw[if_neg q,ih]
   by_cases q2:a∈J_d l
   ·rw[if_pos q2,if_pos (mcM _ q2)]
   ·rw[if_neg q2,if_neg (λz=>by rcases mcQ.1 z with z|z;exact q z;exact q2 z)]
theorem AB8{h:Hs}{t:TS}(A:TrAt h t)(hd:∀n x,t.T n=some x→x.data.length≤4096):∀(l:List (Nat × Value × Nat))(g:Hs)(L:Lay)(D:Tm),(∀e∈l,∃x,t.T e.1=some x∧e.2.1=pV (t.L.q e.1))→(J_d l).Nodup→(∀n∈J_d l,D n=none)→Fam g L D t.B →
 ∃L2 g2,K_7 49 5 h (mkE kI l) g=some (mkE kI (l.map λe=>(e.1,pV (L2.q e.1),1000000000000)),g2)∧Fam g2 L2 (λj=>if j∈J_d l then t.T j else D j) t.B∧g.nx≤g2.nx∧(∀b,b<g.nx→g2.hp.get b=g.hp.get b)∧g2.lo=g.lo∧(∀j,j∉J_d l→L2.q j=L.q j)∧(∀b,b<g.nx→L2.ro b=L.ro b):=by
 intro l
 induction l with
 |nil=>intro g L D _ _ _ F;exact⟨L,g,rfl,⟨λn x h=>F.it n x (by simpa [J_d] using h),F.fr⟩,lR _,λ_ _=>rfl,rfl,λ_ _=>rfl,λ_ _=>rfl⟩
 | cons e l ih =>
  intro g L D hl nd hD F
  obtain⟨n1,n2⟩:=List.nodup_cons.1 (show (e.1::J_d l).Nodup from nd)
  obtain⟨x,hx,hv⟩:=hl e mcS
  obtain⟨dv,nb,q,g1,c1,c2,c3,c4,c5,c6,c7,c8,c9⟩:=AT2 A hx (hd _ _ hx) g
  have F1:=AC8 (n:=e.1) F c2 c3 c5 c6 c7 c8 c9
  obtain⟨L2,g2,i1,i2,i3,i4,i5,i6,i7⟩:=ih g1 _ (O_i D e.1 x) (λe' he=>hl e' (mcM _ he)) n2 (λn hn=>by
   rw[P_s (λz=>n1 (by rw[←z];exact hn))]
   exact hD n (mcM _ hn)) F1
  refine⟨L2,g2,?_,⟨λj y hy=>i2.it j y ?_,i2.fr⟩,lTr c2 i3,λb hb=>(i4 b (llN hb c2)).trans (c3 b hb),i5.trans c4,λj hj=>?_,λb hb=>?_⟩
  ·show Aa7 (kI e.1) (K_7 49 5 h (mkE kI l)) (R_o 49 5 h g (addrOf e.2.1))=_
   rw[hv]
   show Aa7 (kI e.1) (K_7 49 5 h (mkE kI l)) (R_o 49 5 h g (some (t.L.q e.1,0)))=_
   rw[c1]
   show e_2 (kI e.1) (pV q) (K_7 49 5 h (mkE kI l) g1)=_
   rw[i1]
   have:L2.q e.1=q:=(i6 e.1 n1).trans (if_pos rfl)
   rw[←this];rfl
  ·have hy:(if j∈e.1::J_d l then t.T j else D j)=some y:=hy
   by_cases q:j∈J_d l
   ·rw[if_pos (mcM _ q)] at hy
    rw[if_pos q];exact hy
   ·rw[if_neg q]
    by_cases q2:j=e.1
    ·rw[if_pos (mcQ.2 (.inl q2)),q2,hx] at hy
     rw[q2,Q_w];exact hy
    ·rw[if_neg (λz=>by rcases mcQ.1 z with z|z;exact q2 z;exact q z)] at hy
     rw[P_s q2];exact hy
  ·have hj:j∉e.1::J_d l:=hj
   rw[i6 j (λz=>hj (mcM _ z))]
   exact if_neg (λz=>hj (mcQ.2 (.inl z)))
  ·rw[i7 b (llN hb c2)]
   exact Lay.add_no (λz=>by omega) (λk z=>by have:=(c7 k).1;omega) (λz=>by have:=(c9 b z).1;omega)
theorem s_6:∀{l:List (Nat × Value × Nat)},(∀n∈J_d l,n≤1000)→R_6 keyI (mkE kI l)=some ((J_d l).map Int.ofNat):=by
 intro l
 induction l with
 |nil=>intro _;rfl
 | cons e l ih =>
  intro h
  have e1:keyI (kI e.1)=some (Int.ofNat e.1):=by
   have h1:=h e.1 mcS
   have q1:Gev.leI (.negSucc 9223372036854775807) (.ofNat e.1)=true:=rfl
   have q2:Gev.leI (.ofNat e.1) (.ofNat 9223372036854775807)=true:=btL (show e.1≤9223372036854775807 by omega)
   unfold keyI
   dsimp only
   rw[q1,q2];rfl
  have e2:mkE kI (e::l)=⟨kI e.1,e.2.1,e.2.2⟩::mkE kI l:=rfl
  rw[e2]
  unfold R_6
  dsimp only
  rw[e1]
  dsimp only
  rw[ih λn hn=>h n (mcM _ hn)];rfl
def CCloneT(R:RnK):Prop:=∀(h:Hs)(t:TS),TrAt h t→WF t.T t.most→t.B≤1000→WP (R 9 [pV t.p] h) λv h'=>∃t',v=pV t'.p∧NewT h h' t'∧t'.T=t.T∧t'.most=t.most∧t'.B=t.B
theorem h_c{h:Hs}{t:TS}(A:TrAt h t)(W:WF t.T t.most)(hB:t.B≤1000):WP (a_o 45 49 5 [pV t.p] h) λv h'=>∃t',v=pV t'.p∧NewT h h' t'∧t'.T=t.T∧t'.most=t.most∧t'.B=t.B:=by
 obtain⟨rw',fl,tr⟩:=A.tr
 obtain⟨es,cl,mp,M⟩:=A.mp
 have mp:h.hp.get t.mb=some (.mp es cl):=mp
 obtain⟨l,el,hl,nd,hc⟩:=M.ex
 have cc:=M.cc
 have clB:=M.cl
 have mo:=W.mo
 have inl:∀n,n∈J_d l↔∃x,t.T n=some x:=λn=>by
  constructor
  ·intro q
   cases e:t.T n with
   |none=>
    exact absurd q (N_0.1 (by rw[hl,e];rfl))
   |some x=>exact⟨x,rfl⟩
  ·rintro⟨x,hx⟩
   refine Classical.byContradiction λq=>?_
   have:=N_0.2 q
   rw[hl,hx] at this;cases this
 have ent:∀(l':List (Nat × Value × Nat)),(J_d l').Nodup→∀e∈l',Gev.look l' e.1=some e.2.1:=by
  intro l'
  induction l' with
  |nil=>intro _ e he;cases he
  | cons e0 l' ih =>
   intro nd e he
   obtain⟨m1,m2⟩:=List.nodup_cons.1 (show (e0.1::J_d l').Nodup from nd)
   show (if e.1=e0.1 then some e0.2.1 else Gev.look l' e.1)=_
   rcases mcQ.1 he with rfl|he
   ·rw[if_pos rfl]
   ·rw[if_neg (λq=>m1 (by rw[←q];exact List.mem_map.2 ⟨e,he,rfl⟩))]
    exact ih m2 e he
 obtain⟨L2,g2,i1,i2,i3,i4,i5,i6,i7⟩:=AB8 A (λn x hx=>(W.da n x hx).1) l h ⟨λ_=>0,λ_=>0,λ_=>.slice none 0 0,λ_=>none⟩ (λ_=>none) (λe he=>by
  have h1:=ent l nd e he
  rw[hl] at h1
  cases hx:t.T e.1 with
  |none=>rw[hx] at h1;cases h1
  |some x=>rw[hx] at h1;injection h1 with h1;exact⟨x,rfl,h1.symm⟩) nd (λ_ _=>rfl) ⟨λn x h=>(by cases h),λ_ _=>rfl⟩
 have ks:=s_6 (l:=l) (λn hn=>by
  obtain⟨x,hx⟩:=(inl n).1 hn
  have:=(W.lo n x hx).2
  omega)
 have ndI:((J_d l).map Int.ofNat).Nodup:=(List.pairwise_map).2 (nd.imp λ{a b} hab e=>hab (by injection e))
 have len:(mkE kI l).length=t.c:=by unfold mkE;rw[lmQ,hc]
 have len2:(mkE kI (l.map λe=>(e.1,pV (L2.q e.1),1000000000000))).length=t.c:=by unfold mkE;rw[lmQ,lmQ,hc]
 have e1:a_o 45 49 5 [pV t.p] h=AT1 45 (kI t.most) (K_7 49 5 h es h):=by
  show clone2 45 49 5 h (F_q 2 0 (h.hp.get t.p))=_
  have:=m_9 tr
  rw[show ([kI t.most,Value.map (some t.mb)]:List Value).length=2 from rfl] at this
  rw[this]
  show z_1 45 49 5 h (kI t.most) (h.hp.get t.mb)=_
  rw[mp]
  show r_4 45 49 5 h (kI t.most) es cl (R_6 keyI es)=_
  have gd:=M.good
  rw[el] at gd ⊢
  rw[ks]
  show (match andB (andB (M_q cl (mkE kI l)) (distB eqI ((J_d l).map Int.ofNat))) (Nat.ble (mkE kI l).length 1000) with|true=>_|false=>none)=_
  rw[gd,Y_g (λa b q=>by rw[eqI_eq] at q;simpa using q) ndI,len,btL (show t.c≤1000 by omega)];rfl
 rw[e1,el,i1]
 let L:Lay:=⟨L2.q,L2.nb,L2.dv,λb=>if b=g2.nx then some .map else if b=g2.nx+1 then some .root else L2.ro b⟩
 obtain⟨es2,hes2⟩:∃es2,es2=mkE kI (l.map λe=>(e.1,pV (L2.q e.1),1000000000000)):=⟨_,rfl⟩
 rw[←hes2] at len2 ⊢
 have hg:∀b,b<g2.nx→(Gev.newRow (W_3 g2 es2 es2.length) 45 0 [kI t.most,.map (some g2.nx)]).hp.get b=g2.hp.get b:=λb hb=>by
  rw[E_6,if_neg (by show ¬g2.nx+1=b;omega)]
  show (g2.hp.set g2.nx _).get b=_
  rw[tgS,if_neg (by omega)]
 refine⟨pV (g2.nx+1),Gev.newRow (W_3 g2 es2 es2.length) 45 0 [kI t.most,.map (some g2.nx)],rfl,⟨g2.nx+1,g2.nx,t.most,t.T,t.c,L,t.B⟩,rfl,⟨?_,⟨⟨by show h.nx≤g2.nx+1+1;omega,λb hb=>(hg b (by omega)).trans (i4 b hb)⟩,i5⟩,λb hb=>?_⟩,rfl,rfl,rfl⟩
 ·refine⟨⟨true,false,?_⟩,Nat.lt_succ_self _,?_,⟨es2,es2.length,?_,?_⟩,by show g2.nx<g2.nx+1+1;omega,if_pos rfl,λn x hx=>?_,λb hb=>?_⟩
  ·show Holds ((Gev.newRow (W_3 g2 es2 es2.length) 45 0 [kI t.most,.map (some g2.nx)]).hp.get (g2.nx+1)) _
   rw[E_6,if_pos (show (W_3 g2 es2 es2.length).nx=g2.nx+1 from rfl)]
   exact⟨ofList _,_,rfl,(λq=>by cases q),λi=>C_q _ i⟩
  ·show (if g2.nx+1=g2.nx then _ else if g2.nx+1=g2.nx+1 then _ else _)=_
   rw[if_neg (by omega),if_pos rfl]
  ·show Holds ((Gev.newRow (W_3 g2 es2 es2.length) 45 0 [kI t.most,.map (some g2.nx)]).hp.get g2.nx) _
   rw[E_6,if_neg (by show ¬g2.nx+1=g2.nx;omega)]
   show Holds ((g2.hp.set g2.nx _).get g2.nx) _
   rw[tgS,if_pos rfl];rfl
  ·refine⟨⟨_,hes2,λa=>?_,?_,by rw[lmQ,hc]⟩,.inl λb hb=>?_,by rw[len2];show t.c≤t.B;omega,by rw[len2];exact lR _⟩
   ·rw[AG4 (f:=λn=>pV (L2.q n))]
    show _=(t.T a).map λ_=>pV (L2.q a)
    by_cases q:a∈J_d l
    ·obtain⟨x,hx⟩:=(inl a).1 q
     rw[if_pos q,hx];rfl
    ·rw[if_neg q]
     cases hx:t.T a with
     |none=>rfl
     |some x=>exact absurd ((inl a).2 ⟨x,hx⟩) q
   ·have:J_d (l.map λe=>(e.1,pV (L2.q e.1),1000000000000))=J_d l:=by unfold J_d;rw[List.map_map];rfl
    rw[this];exact nd
   ·rw[hes2,V_p,List.map_map] at hb
    obtain⟨_,_,rfl⟩:=List.mem_map.1 hb
    rfl
  ·have J:=i2.it n x (by show (if n∈J_d l then t.T n else none)=_;rw[if_pos ((inl n).2 ⟨x,hx⟩)];exact hx)
   have lo:∀b,b<g2.nx→L.ro b=L2.ro b:=λb hb=>by
    show (if b=g2.nx then _ else if b=g2.nx+1 then _ else L2.ro b)=_
    rw[if_neg (by omega),if_neg (by omega)]
   obtain⟨fl2,r⟩:=J.row
   refine⟨⟨fl2,by rw[hg _ J.ql];exact r⟩,llN J.ql (by show g2.nx≤g2.nx+1+1;omega),by rw[lo _ J.ql];exact J.rq,λk=>?_,J.da.congr λb hb=>hg b (J.rd b hb).1,λb hb=>⟨llN (J.rd b hb).1 (by show g2.nx≤g2.nx+1+1;omega),by rw[lo _ (J.rd b hb).1];exact(J.rd b hb).2⟩⟩
   obtain⟨a,b,es3,cl3,d,M3⟩:=J.nm k
   exact⟨llN a (by show g2.nx≤g2.nx+1+1;omega),by rw[lo _ a];exact b,es3,cl3,by rw[hg _ a];exact d,M3⟩
  ·have hb:g2.nx+1+1≤b:=hb
   show (if b=g2.nx then _ else if b=g2.nx+1 then _ else L2.ro b)=none
   rw[if_neg (by omega),if_neg (by omega)]
   exact i2.fr b (by omega)
 ·have hb:(if b=g2.nx then some Ro.map else if b=g2.nx+1 then some Ro.root else L2.ro b)≠none:=hb
  refine Classical.byContradiction λq=>hb ?_
  rw[if_neg (by omega),if_neg (by omega),i7 b (by omega)]
end Go.Proofs.YtnbnmojckhcdeaaGreatDoor.treeMoves
