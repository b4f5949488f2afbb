import Derived.Test.YtnbnmojckhcdeaaGreatDoorTreeApartTab
import Derived.Test.YtnbnmojckhcdeaaGreatDoorGevHos
import Derived.Test.YtnbnmojckhcdeaaGreatDoorGevFms
import Derived.Test.YtnbnmojckhcdeaaGreatDoorGevNm
import Derived.Test.YtnbnmojckhcdeaaGreatDoorGevCl
import Derived.KernelRfl
namespace Go.Proofs.YtnbnmojckhcdeaaGreatDoor.treeApart
open Go Go.Gev
set_option linter.unusedVariables false
abbrev kI(n:Nat):Value:=.int .i64 (.ofNat n)
abbrev sV(D:List UInt8):Value:=.string ⟨D.toArray⟩
abbrev pV(b:Nat):Value:=.pointer (some ⟨b,0,none⟩)
abbrev Str:=List UInt8
structure Itm where
 k:Nat
 data:Str
 names:Str→Option Nat
 cnt:Nat
 up:Nat
 links:Int
abbrev Tm:=Nat→Option Itm
inductive Ro where
 |root
 |map
 |item (n:Nat)
 |nms (n:Nat)
 |dat (n:Nat)
structure Lay where
 q:Nat→Nat
 nb:Nat→Nat
 dv:Nat→Value
 ro:Nat→Option Ro
structure TS where
 p:Nat
 mb:Nat
 most:Nat
 T:Tm
 c:Nat
 L:Lay
 B:Nat
def nmV(L:Lay)(n:Nat)(x:Itm):Value:=.map (if x.k=2 then some (L.nb n) else none)
def rowI(L:Lay)(n:Nat)(x:Itm):List Value:=[kI x.k,L.dv n,nmV L n x,kI x.up,.int .i64 x.links]
abbrev dsT(x:Itm):List (List Value):=ones (A_s x.data)
def DatAt(h:Hs)(dv:Value)(D:Str):Prop:=∃e fl,OwnSl h dv e 1 fl D.length (A_s D)
theorem DatAt.congr{h u:Hs}{dv:Value}{D:Str}(A:DatAt h dv D)(hg:∀b,vId dv=some b→u.hp.get b=h.hp.get b):DatAt u dv D:=by
 obtain⟨e,fl,o⟩:=A
 exact⟨e,fl,o.congr hg⟩
theorem DatAt.rdS{h:Hs}{dv:Value}{D:Str}(A:DatAt h dv D):RdSl h dv 1 (ones (A_s D))∧∀b,Th.id (.rsl dv 1 (ones (A_s D)))=some b→vId dv=some b:=by
 obtain⟨e,fl,o⟩:=A
 exact o.rd1
structure ItAt (h:Hs) (L:Lay) (n:Nat) (x:Itm) (B:Nat):Prop where
 row:∃fl,Holds (h.hp.get (L.q n)) (.row 49 0 true fl (rowI L n x))
 ql:L.q n<h.nx
 rq:L.ro (L.q n)=some (.item n)
 nm:x.k=2→L.nb n<h.nx∧L.ro (L.nb n)=some (.nms n)∧∃es cl,Holds (h.hp.get (L.nb n)) (.mp es cl)∧MapC sV (λs=>(x.names s).map kI) x.cnt B es cl
 da:DatAt h (L.dv n) x.data
 rd:∀b,vId (L.dv n)=some b→b<h.nx∧L.ro b=some (.dat n)
structure TrAt (h:Hs) (t:TS):Prop where
 tr:∃rw fl,Holds (h.hp.get t.p) (.row 45 0 rw fl [kI t.most,.map (some t.mb)])
 pl:t.p<h.nx
 rp:t.L.ro t.p=some .root
 mp:∃es cl,Holds (h.hp.get t.mb) (.mp es cl)∧MapC kI (λn=>(t.T n).map λ_=>pV (t.L.q n)) t.c t.B es cl
 ml:t.mb<h.nx
 rm:t.L.ro t.mb=some .map
 it:∀n x,t.T n=some x→ItAt h t.L n x t.B
 fr:∀b,h.nx≤b→t.L.ro b=none
theorem ItAt.rdd{h:Hs}{L:Lay}{n B:Nat}{x:Itm}(A:ItAt h L n x B):Rd h (L.dv n) 1 (dsT x):=⟨A.da.rdS.1,λb hb=>(A.rd b (A.da.rdS.2 b hb)).1⟩
theorem ItAt.congr{h h':Hs}{L:Lay}{n B:Nat}{x:Itm}(A:ItAt h L n x B)(hn:h.nx≤h'.nx)(hg:∀b,b<h.nx→L.ro b≠none→h'.hp.get b=h.hp.get b):ItAt h' L n x B:=by
 refine⟨?_,llN A.ql hn,A.rq,λk=>?_,?_,λb hb=>⟨llN (A.rd b hb).1 hn,(A.rd b hb).2⟩⟩
 ·obtain⟨fl,r⟩:=A.row
  exact⟨fl,by rw[hg _ A.ql (by rw[A.rq];simp)];exact r⟩
 ·obtain⟨a,b,es,cl,r,M⟩:=A.nm k
  exact⟨llN a hn,b,es,cl,by rw[hg _ a (by rw[b];simp)];exact r,M⟩
 ·exact A.da.congr λb hb=>hg b (A.rd b hb).1 (by rw[(A.rd b hb).2];simp)
theorem TrAt.ext{h h':Hs}{t:TS}(A:TrAt h t)(hn:h.nx≤h'.nx)(hg:∀b,b<h.nx→t.L.ro b≠none→h'.hp.get b=h.hp.get b):TrAt h' t:=by
 obtain⟨rw',fl,tr⟩:=A.tr
 obtain⟨es,cl,mp,M⟩:=A.mp
 exact⟨⟨rw',fl,by rw[hg _ A.pl (by rw[A.rp];simp)];exact tr⟩,llN A.pl hn,A.rp,⟨es,cl,by rw[hg _ A.ml (by rw[A.rm];simp)];exact mp,M⟩,llN A.ml hn,A.rm,λn x e=>(A.it n x e).congr hn hg,λb hb=>A.fr b (Nat.le_trans hn hb)⟩
theorem TrAt.sto{h0 u:Hs}{S:List Nat}{m:List Th}{t:TS}(A:TrAt h0 t)(H:Sto h0 S u m)(hS:∀s∈S,t.L.ro s=none):TrAt u t:=A.ext H.nx λb hb hr=>H.fr b hb λq=>hr (hS b q)
theorem TrAt.st{h0 u:Hs}{m:List Th}{t:TS}(A:TrAt h0 t)(H:Sto h0 [] u m):TrAt u t:=A.sto H λ_ q=>by cases q
theorem TrAt.mutS{h u:Hs}{S:List Nat}{t:TS}(A:TrAt h t)(M:MutS S h u)(hS:∀s∈S,t.L.ro s=none):TrAt u t:=A.ext M.1 λb hb hr=>M.2.1 b hb λq=>hr (hS b q)
theorem TrAt.en{h:Hs}{t:TS}(A:TrAt h t)(a:Nat):TrAt ⟨h.hp,h.nx,a⟩ t:=A.ext (Nat.le_refl _) λ_ _ _=>rfl
section
variable {Q:Value→Hs→Prop} {u hh:Hs} {t:TS} {K:Value→An} {F:KV} {n:Nat} {x:Itm}
theorem t_mp(A:TrAt u t)(hp:hh.hp.get t.p=u.hp.get t.p)(w:WP (K (.map (some t.mb))) Q):WP (kLoad (.pointer (some ⟨t.p,0+1,none⟩)) hh K) Q:=by
 obtain⟨_,_,tr⟩:=A.tr
 rw[tr.load (v:=.map (some t.mb)) rfl hh hp];exact w
theorem q_s(A:TrAt u t)(hp:hh.hp.get t.p=u.hp.get t.p)(w:WP (K (kI t.most)) Q):WP (kLoad (.pointer (some ⟨t.p,0+0,none⟩)) hh K) Q:=by
 obtain⟨_,_,tr⟩:=A.tr
 rw[tr.load (v:=kI t.most) rfl hh hp];exact w
theorem t_it(A:TrAt u t)(hx:t.T n=some x)(i:Nat){v:Value}(hv:(rowI t.L n x)[i]?=some v)(hp:hh.hp.get (t.L.q n)=u.hp.get (t.L.q n))(w:WP (K v) Q):WP (kLoad (.pointer (some ⟨t.L.q n,i,none⟩)) hh K) Q:=by
 obtain⟨_,r⟩:=(A.it n x hx).row
 rw[r.load hv hh hp];exact w
theorem t_k(A:TrAt u t)(hx:t.T n=some x)(hp:hh.hp.get (t.L.q n)=u.hp.get (t.L.q n))(w:WP (K (kI x.k)) Q):WP (kLoad (.pointer (some ⟨t.L.q n,0+0,none⟩)) hh K) Q:=t_it A hx 0 rfl hp w
theorem t_dv(A:TrAt u t)(hx:t.T n=some x)(hp:hh.hp.get (t.L.q n)=u.hp.get (t.L.q n))(w:WP (K (t.L.dv n)) Q):WP (kLoad (.pointer (some ⟨t.L.q n,0+1,none⟩)) hh K) Q:=t_it A hx 1 rfl hp w
theorem t_nm(A:TrAt u t)(hx:t.T n=some x)(hk:x.k=2)(hp:hh.hp.get (t.L.q n)=u.hp.get (t.L.q n))(w:WP (K (.map (some (t.L.nb n)))) Q):WP (kLoad (.pointer (some ⟨t.L.q n,0+2,none⟩)) hh K) Q:=t_it A hx 2 (v:=.map (some (t.L.nb n))) (by show some (nmV t.L n x)=_;unfold nmV;rw[if_pos hk]) hp w
theorem t_up(A:TrAt u t)(hx:t.T n=some x)(hp:hh.hp.get (t.L.q n)=u.hp.get (t.L.q n))(w:WP (K (kI x.up)) Q):WP (kLoad (.pointer (some ⟨t.L.q n,0+3,none⟩)) hh K) Q:=t_it A hx 3 rfl hp w
theorem t_ln(A:TrAt u t)(hx:t.T n=some x)(hp:hh.hp.get (t.L.q n)=u.hp.get (t.L.q n))(w:WP (K (.int .i64 x.links)) Q):WP (kLoad (.pointer (some ⟨t.L.q n,0+4,none⟩)) hh K) Q:=t_it A hx 4 rfl hp w
theorem z_z(A:TrAt u t)(n:Nat)(hp:hh.hp.get t.mb=u.hp.get t.mb):lk1 true hh (.pointer none) false (kI n) (.map (some t.mb))=some (match t.T n with|some _=>pV (t.L.q n)|none=>.pointer none):=by
 obtain⟨es,cl,hb,M⟩:=A.mp
 have hb:hh.hp.get t.mb=some (.mp es cl):=hp.trans hb
 rw[lkC g_q hb M]
 dsimp only
 cases t.T n<;>rfl
theorem t_lk(A:TrAt u t)(hx:t.T n=some x)(w:WP (F (pV (t.L.q n)) u) Q):WP (after F (ret1 u (lk1 true u (.pointer none) false (kI n) (.map (some t.mb))))) Q:=by
 rw[z_z A n rfl,hx];exact H_t rfl w
theorem Av8(A:TrAt u t)(hx:t.T n=none)(w:WP (F (.pointer none) u) Q):WP (after F (ret1 u (lk1 true u (.pointer none) false (kI n) (.map (some t.mb))))) Q:=by
 rw[z_z A n rfl,hx];exact H_t rfl w
def fdV:Option Nat→Value
 |some m=>.tuple #[kI m,.bool true]
 |none=>.tuple #[kI 0,.bool false]
theorem t_fd(A:TrAt u t)(hx:t.T n=some x)(hk:x.k=2){s:Str}(w:WP (F (fdV (x.names s)) u) Q):WP (after F (ret1 u (lk1 false u (kI 0) true (sV s) (.map (some (t.L.nb n)))))) Q:=by
 obtain⟨_,_,es,cl,hb,M⟩:=(A.it n x hx).nm hk
 refine H_t (v:=fdV (x.names s)) ?_ w
 rw[lkC m_2 hb M]
 dsimp only
 cases x.names s<;>rfl
theorem Al0(A:TrAt u t)(hx:t.T n=some x)(hk:x.k=2){s:Str}{m:Nat}(hs:x.names s=some m)(w:WP (F (kI m) u) Q):WP (after F (ret1 u (lk1 false u (kI 0) false (sV s) (.map (some (t.L.nb n)))))) Q:=by
 obtain⟨_,_,es,cl,hb,M⟩:=(A.it n x hx).nm hk
 refine H_t (v:=kI m) ?_ w
 rw[lkC m_2 hb M]
 dsimp only
 rw[hs];rfl
theorem z_y(A:TrAt u t)(hx:t.T n=some x)(hk:x.k=2)(w:WP (F (kI x.cnt) u) Q):WP (after F (ret1 u (maplen1 u (.map (some (t.L.nb n)))))) Q:=by
 obtain⟨_,_,es,cl,hb,M⟩:=(A.it n x hx).nm hk
 exact H_t (lenC hb M) w
end
def J_2:Str:=[108,111,115,116,43,102,111,117,110,100]
def findF(T:Tm)(d:Nat)(s:Str):Option Nat:=if d=1∧s=J_2 then some 2 else (T d).bind λx=>x.names s
def N_w(T:Tm)(d:Nat)(s:Str):Except Nat Nat:=match T d with
 |none=>.error 1
 |some x=>if x.k=2 then (if s = [46,46] then .ok x.up else match findF T d s with
  |some n=>.ok n
  |none=>.error 2) else .error 4
def upN(T:Tm):Nat→Nat→Nat
 |0,n=>n
 |j+1,n=>upN T j (match T n with|some x=>x.up|none=>n)
structure WF (T:Tm) (most:Nat):Prop where
 r1:∃x,T 1=some x∧x.k=2∧x.up=1
 r2:∃x,T 2=some x∧x.k=2∧x.up=1
 lo:∀n x,T n=some x→1≤n∧n≤most
 mo:most≤64
 kd:∀n x,T n=some x→x.k=1∨x.k=2∨x.k=3
 up:∀n x,T n=some x→x.k=2→∃y,T x.up=some y∧y.k=2
 nm:∀n x s m,T n=some x→x.names s=some m→x.k=2∧3≤m∧∃y,T m=some y
 rf:∀m x,T m=some x→3≤m→∃l:List (Nat × Str),l.Nodup∧(∀d s,(∃y,T d=some y∧y.names s=some m)↔(d,s)∈l)∧(x.k≠2→(l.length:Int)=x.links)∧(x.k=2→∃s,l = [(x.up,s)])
 lk:∀n x,T n=some x→0≤x.links∧x.links≤200
 l2:∀n x,T n=some x→x.k=2→x.links=0
 da:∀n x,T n=some x→x.data.length≤4096∧(x.k=3→1≤x.data.length∧x.data.length≤400)
 ac:∀n x,T n=some x→x.k=2→∃j,upN T j n=1
 ls:∀x,T 1=some x→x.names J_2=none
 nl:∀n x s m,T n=some x→x.names s=some m→s.length≤400
theorem Q_k{T:Tm}{most:Nat}(W:WF T most){d n:Nat}{s:Str}(h:findF T d s=some n):∃y,T n=some y:=by
 unfold findF at h
 split at h
 ·injection h with h;subst h
  obtain⟨x,h,_⟩:=W.r2
  exact⟨x,h⟩
 ·cases e:T d with
  |none=>rw[e] at h;cases h
  |some x=>rw[e] at h;exact(W.nm d x s n e h).2.2
theorem d_2{T:Tm}{most:Nat}(W:WF T most){d n:Nat}{s:Str}(h:N_w T d s=.ok n):∃y,T n=some y:=by
 unfold N_w at h
 cases e:T d with
 |none=>rw[e] at h;cases h
 | some x =>
  rw[e] at h
  dsimp only at h
  split at h
  ·rename_i hk
   split at h
   ·injection h with h;subst h
    obtain⟨y,h,_⟩:=W.up d x e hk
    exact⟨y,h⟩
   ·split at h
    ·rename_i m hm
     injection h with h;subst h
     exact Q_k W hm
    ·cases h
  ·cases h
theorem W_s{Q:Value→Hs→Prop}{a b:List UInt8}{K:Value→An}(ht:a≠b→WP (K (.bool true)) Q)(hf:a=b→WP (K (.bool false)) Q):WP (obK K (s2 .neq (sV a) (sV b))) Q:=by
 by_cases e:a=b
 ·exact w_p e (hf e)
 ·refine w_ob (v:=.bool true) ?_ (ht e)
  show some (Value.bool (notB (eqL a.toArray.toList b.toArray.toList)))=_
  rw[L_z]
  have:(a==b)=false:=beq_eq_false_iff_ne.2 e
  simp[notB,this]
theorem N_f{Q:Value→Hs→Prop}{a b:List UInt8}{K:Value→An}(ht:a=b→WP (K (.bool true)) Q)(hf:a≠b→WP (K (.bool false)) Q):WP (obK K (s2 .eql (sV a) (sV b))) Q:=by
 by_cases e:a=b
 ·exact Aa3 e (ht e)
 ·refine w_ob (v:=.bool false) ?_ (hf e)
  show some (Value.bool (eqL a.toArray.toList b.toArray.toList))=_
  rw[L_z]
  have:(a==b)=false:=beq_eq_false_iff_ne.2 e
  simp[this]
def fB(c:UInt8):Str→Option Nat
 |[]=>none
 |b::D=>if b=c then some 0 else (fB c D).map (· + 1)
theorem s_q(c:UInt8):∀(D:Str)(k:Nat),R_a c.toNat D k=(fB c D).map (· + k):=by
 intro D
 induction D with
 |nil=>intro k;rfl
 | cons x D ih =>
  intro k
  show (match Nat.beq x.toNat c.toNat with|true=>some k|false=>R_a c.toNat D (Nat.succ k))=(if x=c then some 0 else (fB c D).map (· + 1)).map (· + k)
  by_cases e:x=c
  ·subst e
   rw[Nat.beq_refl,if_pos rfl]
   show some k=some (0+k)
   rw[Nat.zero_add]
  ·have:Nat.beq x.toNat c.toNat=false:=by rw[Bool.eq_false_iff];exactλh=>e (UInt8.toNat_inj.1 (Nat.eq_of_beq_eq_true h))
   rw[this,if_neg e]
   dsimp only
   rw[ih]
   cases fB c D with
   |none=>rfl
   |some i=>show some (i+(k+1))=some (i+1+k);congr 1;omega
theorem v_s{c:UInt8}:∀{D:Str},(fB c D).isSome=true↔c∈D:=by
 intro D
 induction D with
 |nil=>exact⟨λh=>(by cases h),λh=>(by cases h)⟩
 | cons x D ih =>
  show (if x=c then some 0 else (fB c D).map (· + 1)).isSome=true↔_
  by_cases e:x=c
  ·rw[if_pos e];exact⟨λ_=>by rw[e];exact List.mem_cons_self,λ_=>rfl⟩
  ·rw[if_neg e,Option.isSome_map,ih]
   exact⟨λh=>List.mem_cons_of_mem _ h,λh=>by rcases List.mem_cons.1 h with h|h;exact absurd h.symm e;exact h⟩
theorem At6{c:UInt8}:∀{D:Str}{i:Nat},fB c D=some i→i<D.length:=by
 intro D
 induction D with
 |nil=>intro i h;cases h
 | cons x D ih =>
  intro i h
  have h:(if x=c then some 0 else (fB c D).map (· + 1))=some i:=h
  split at h
  ·injection h with h;subst h;exact Nat.succ_pos _
  ·cases e:fB c D with
   |none=>rw[e] at h;cases h
   |some j=>rw[e] at h;injection h with h;subst h;exact Nat.succ_lt_succ (ih e)
def ixV(o:Option Nat):Value:=match o with
 |some i=>kI i
 |none=>.int .i64 (.negSucc 0)
theorem V_q(o:Option Nat):X_w (ixV o)=true:=by cases o<;>rfl
theorem x_4{D:Str}{c:UInt8}:g_d (sV D) (.int .u8 (.ofNat c.toNat))=some (ixV (fB c D)):=by
 have hc:=c.toNat_lt
 show (match Nat.ble c.toNat 255 with|true=>some (x_w (R_a c.toNat D.toArray.toList 0))|false=>none)=_
 rw[Nat.ble_eq_true_of_le (by omega),List.toList_toArray,s_q]
 cases fB c D<;>rfl
theorem b_y{Q:Value→Hs→Prop}{c:UInt8}{D:Str}{en:En}{h:Hs}{K:KV}(w:WP (K (.int .u8 (.ofNat c.toNat)) h) Q):WP (after K (S_8 (.c (sV (c::D))) (.c (.int .i64 (.ofNat 0))) en h)) Q:=H_t rfl w
abbrev CIxB(R:RnK)(f:FuncId):Prop:=∀(D:Str)(c:UInt8)(h:Hs),R f [sV D,.int .u8 (.ofNat c.toNat)] h=some (.val (ixV (fB c D)) h)
abbrev CIx(R:RnK)(f:FuncId):Prop:=∀(D:Str)(c:UInt8)(h:Hs),D.length≤100000→R f [sV D,sV [c]] h=some (.val (ixV (fB c D)) h)
theorem x_5{R:RnK}{N:Nat}{D:Str}{c:UInt8}{h:Hs}:r109 R N [sV D,.int .u8 (.ofNat c.toNat)] h=some (.val (ixV (fB c D)) h):=by
 have H:=Sto.enter h
 refine WP.eqn ?_
 unfold r109
 refine D_c ?_
 refine D_c ?_
 refine D_p ?_
 refine H_t x_4 ?_
 exact B_z H (V_q _) ⟨rfl,rfl⟩
theorem s_8{R:RnK}{N:Nat}(cb:CIxB R 109){D:Str}{c:UInt8}{h:Hs}(hD:D.length≤100000):r107 R N [sV D,sV [c]] h=some (.val (ixV (fB c D)) h):=by
 have H:=Sto.enter h
 have l1:[c].length=1:=rfl
 refine WP.eqn ?_
 by_cases e0:[c]=D
 ·unfold r107
  repeat' (first|(with_reducible first|refine M_h ?_|refine w_jn ?_|refine L_i ?_|refine D_c ?_|refine D_p ?_)|((with_reducible refine C_u (λ_=>?_) (λ_=>?_))<;>first|(exfalso;omega)|skip))
  refine Aa3 e0 ?_
  repeat' (first|(with_reducible first|refine w_jn ?_|refine C_j ?_|refine C_4 ?_))
  exact B_z H rfl ⟨by rw[←e0];show _=ixV (if c=c then some 0 else _);rw[if_pos rfl];rfl,rfl⟩
 ·unfold r107
  repeat' (first|(with_reducible first|refine M_h ?_|refine w_jn ?_|refine L_i ?_|refine D_c ?_|refine D_p ?_)|((with_reducible refine C_u (λ_=>?_) (λ_=>?_))<;>first|(exfalso;omega)|skip))
  refine N_f (λe=>absurd e e0) (λ_=>?_)
  repeat' (first|(with_reducible first|refine w_jn ?_|refine C_j ?_|refine B_p ?_|refine C_4 ?_)|((with_reducible refine C_u (λ_=>?_) (λ_=>?_))<;>first|(exfalso;omega)|skip))
  refine b_y ?_
  refine B_n (cb D c _) ?_
  exact B_z H (V_q _) ⟨rfl,rfl⟩
theorem p_f{R:RnK}{N:Nat}(cb:CIx R 107){D:Str}{c:UInt8}{h:Hs}(hD:D.length≤100000):r101 R N [sV D,sV [c]] h=some (.val (ixV (fB c D)) h):=by
 refine WP.eqn ?_
 have H:=Sto.enter h
 unfold r101
 repeat' (first|(with_reducible first|refine D_c ?_|refine D_p ?_))
 refine B_n (cb D c _ hD) ?_
 exact B_z H (V_q _) ⟨rfl,rfl⟩
def CContains(R:RnK):Prop:=∀(D:Str)(c:UInt8)(h:Hs),D.length≤100000→R 88 [sV D,sV [c]] h=some (.val (.bool (decide (c∈D))) h)
theorem Z_k{R:RnK}{N:Nat}(cb:CIx R 101){D:Str}{c:UInt8}{h:Hs}(hD:D.length≤100000):r88 R N [sV D,sV [c]] h=some (.val (.bool (decide (c∈D))) h):=by
 refine WP.eqn ?_
 have H:=Sto.enter h
 unfold r88
 repeat' (first|(with_reducible first|refine D_c ?_|refine D_p ?_))
 refine B_n (cb D c _ hD) ?_
 cases e:fB c D with
 |some i=>
  have hm:c∈D:=v_s.1 (by rw[e];rfl)
  unfold ixV
  repeat' (first|((with_reducible refine e_v (λ_=>?_) (λ_=>?_))<;>first|(exfalso;omega)|skip))
  exact B_z H rfl ⟨by rw[decide_eq_true hm],rfl⟩
 |none=>
  have hm:c∉D:=λq=>by have:=v_s.2 q;rw[e] at this;cases this
  unfold ixV
  repeat' (first|((with_reducible refine e_t (λ_=>?_) (λ_=>?_))<;>first|(exfalso;omega)|skip))
  exact B_z H rfl ⟨by rw[decide_eq_false hm],rfl⟩
def named(D:Str):Prop:=1≤D.length∧D.length≤40∧D ≠ [46]∧D ≠ [46,46]∧(47:UInt8)∉D∧(0:UInt8)∉D
instance (D:Str):Decidable (named D):=inferInstanceAs (Decidable (_∧_∧_∧_∧_∧_))
def CName(R:RnK):Prop:=∀(D:Str)(h:Hs),D.length≤100000→R 64 [sV D] h=some (.val (.bool (decide (named D))) h)
theorem y_r{R:RnK}{N:Nat}(cc:CContains R){D:Str}{h:Hs}(hD:D.length≤100000):r64 R N [sV D] h=some (.val (.bool (decide (named D))) h):=by
 refine WP.eqn ?_
 have H:=Sto.enter h
 have c1:∀u,R 88 [sV D,.string ⟨#[47]⟩] u=some (.val (.bool (decide ((47:UInt8)∈D))) u):=λu=>cc D 47 u hD
 have c2:∀u,R 88 [sV D,.string ⟨#[0]⟩] u=some (.val (.bool (decide ((0:UInt8)∈D))) u):=λu=>cc D 0 u hD
 have l0:D ≠ []→1≤D.length:=λe=>by
  cases D with
  |nil=>exact absurd rfl e
  |cons x D=>exact Nat.succ_pos _
 unfold r64
 repeat' (first|(with_reducible first|refine D_c ?_|refine D_p ?_))
 refine W_s (b:=[]) (λe0=>?_) (λe0=>?_)
 ·repeat' (first|(with_reducible first|refine M_h ?_|refine G_k ?_|refine M_g ?_|refine C_9 ?_|refine C_4 ?_)|((with_reducible refine e_y (λ_=>?_) (λ_=>?_))<;>first|(exfalso;omega)|skip))
  ·refine W_s (b:=[46]) (λe1=>?_) (λe1=>?_)
   ·repeat' (first|(with_reducible first|refine G_k ?_|refine C_9 ?_))
    refine W_s (b:=[46,46]) (λe2=>?_) (λe2=>?_)
    ·repeat' (first|((refine W_g (c1 _) (λ_=>?_) (λ_=>?_))<;>first|(exfalso;omega)|skip))
     ·dsimp only[ev]
      repeat' (first|(with_reducible first|refine G_k ?_|refine M_g ?_|refine C_9 ?_|refine C_4 ?_|refine P_9 ?_))
      exact B_z H rfl ⟨by rw[decide_eq_false λq=>absurd (by assumption) q.2.2.2.2.1],rfl⟩
     ·dsimp only[ev]
      repeat' (first|((refine W_g (c2 _) (λ_=>?_) (λ_=>?_))<;>first|(exfalso;omega)|skip))
      ·dsimp only[ev]
       repeat' (first|(with_reducible first|refine G_k ?_|refine C_9 ?_|refine P_9 ?_))
       exact B_z H rfl ⟨by rw[decide_eq_false λq=>absurd (by assumption) q.2.2.2.2.2],rfl⟩
      ·dsimp only[ev]
       repeat' (first|(with_reducible first|refine G_k ?_|refine C_9 ?_|refine e_z ?_))
       exact B_z H rfl ⟨by rw[decide_eq_true ⟨l0 e0,by omega,e1,e2,by assumption,by assumption⟩],rfl⟩
    ·repeat' (first|(with_reducible first|refine M_g ?_|refine C_9 ?_|refine C_4 ?_))
     exact B_z H rfl ⟨by rw[decide_eq_false λq=>q.2.2.2.1 e2],rfl⟩
   ·repeat' (first|(with_reducible first|refine M_g ?_|refine C_9 ?_|refine C_4 ?_))
    exact B_z H rfl ⟨by rw[decide_eq_false λq=>q.2.2.1 e1],rfl⟩
  ·exact B_z H rfl ⟨by rw[decide_eq_false λq=>by have:=q.2.1;omega],rfl⟩
 ·repeat' (first|(with_reducible first|refine M_g ?_|refine C_4 ?_))
  exact B_z H rfl ⟨by rw[decide_eq_false λq=>by have:=q.1;rw[e0] at this;cases this],rfl⟩
def spl(c:UInt8):Str→List Str
 |[]=>[[]]
 |b::D=>if b=c then []::spl c D else match spl c D with
  |[]=>[[b]]
  |x::l=>(b::x)::l
theorem M_2(c b:UInt8)(D:Str):spl c (b::D)=if b=c then []::spl c D else match spl c D with
 |[]=>[[b]]
 |x::l=>(b::x)::l:=rfl
theorem Y_2(c:UInt8):∀D:Str,∃x l,spl c D=x::l:=by
 intro D
 cases D with
 |nil=>exact⟨_,_,rfl⟩
 |cons b D=>
  rw[M_2]
  by_cases e:b=c
  ·rw[if_pos e];exact⟨_,_,rfl⟩
  ·rw[if_neg e];cases spl c D<;>exact⟨_,_,rfl⟩
theorem e_e{c:UInt8}:∀{D:Str},fB c D=none→spl c D = [D]:=by
 intro D
 induction D with
 |nil=>intro _;rfl
 | cons b D ih =>
  intro h
  have h:(if b=c then some 0 else (fB c D).map (· + 1))=none:=h
  split at h
  ·cases h
  ·rename_i ne
   have:fB c D=none:=by cases e:fB c D with
    |none=>rfl
    |some i=>rw[e] at h;cases h
   rw[M_2]
   rw[if_neg ne,ih this]
theorem e_g{c:UInt8}:∀{D:Str}{i:Nat},fB c D=some i→spl c D=D.take i::spl c (D.drop (i+1)):=by
 intro D
 induction D with
 |nil=>intro i h;cases h
 | cons b D ih =>
  intro i h
  have h:(if b=c then some 0 else (fB c D).map (· + 1))=some i:=h
  rw[M_2]
  split at h
  ·rename_i e
   injection h with h;subst h
   rw[if_pos e];rfl
  ·rename_i ne
   rw[if_neg ne]
   cases e:fB c D with
   |none=>rw[e] at h;cases h
   |some j=>
    rw[e] at h;injection h with h;subst h
    rw[ih e];rfl
theorem z_v(c:UInt8):∀(D:Str)(n:Nat),countB c.toNat D n+1=n+(spl c D).length:=by
 intro D
 induction D with
 |nil=>intro n;rfl
 | cons b D ih =>
  intro n
  show (match Nat.beq b.toNat c.toNat with|true=>countB c.toNat D (Nat.succ n)|false=>countB c.toNat D n)+1=_
  rw[M_2]
  by_cases e:b=c
  ·subst e
   rw[Nat.beq_refl,if_pos rfl]
   dsimp only
   rw[ih,List.length_cons];omega
  ·have:Nat.beq b.toNat c.toNat=false:=by rw[Bool.eq_false_iff];exactλh=>e (UInt8.toNat_inj.1 (Nat.eq_of_beq_eq_true h))
   rw[this,if_neg e]
   dsimp only
   rw[ih]
   obtain⟨x,l,q⟩:=Y_2 c D
   rw[q];rfl
theorem b_m(c:UInt8):∀D:Str,(spl c D).length≤D.length+1:=by
 intro D
 induction D with
 |nil=>exact Nat.le_refl _
 | cons b D ih =>
  rw[M_2]
  by_cases e:b=c
  ·rw[if_pos e,List.length_cons,List.length_cons];omega
  ·rw[if_neg e]
   obtain⟨x,l,q⟩:=Y_2 c D
   rw[q] at ih ⊢
   rw[List.length_cons] at *
   rw[List.length_cons];omega
theorem e_f(c:UInt8):∀(D x:Str),x∈spl c D→x.length≤D.length:=by
 intro D
 induction D with
 |nil=>intro x h;rw[List.mem_singleton.1 h];exact Nat.le_refl _
 | cons b D ih =>
  intro x h
  rw[M_2] at h
  rw[List.length_cons]
  split at h
  ·rcases List.mem_cons.1 h with rfl|h
   ·exact Nat.zero_le _
   ·have:=ih x h;omega
  ·obtain⟨y,l,q⟩:=Y_2 c D
   rw[q] at h ih
   rcases List.mem_cons.1 h with rfl|h
   ·have:=ih y List.mem_cons_self;rw[List.length_cons];omega
   ·have:=ih x (List.mem_cons_of_mem _ h);omega
def CCount(R:RnK):Prop:=∀(D:Str)(c:UInt8)(h:Hs),R 100 [sV D,sV [c]] h=some (.val (kI ((spl c D).length-1)) h)
theorem r_8{R:RnK}{N:Nat}{D:Str}{c:UInt8}{h:Hs}:r100 R N [sV D,sV [c]] h=some (.val (kI ((spl c D).length-1)) h):=by
 have H:=Sto.enter h
 have l1:[c].length=1:=rfl
 have hc:=c.toNat_lt
 refine WP.eqn ?_
 unfold r100
 repeat' (first|(with_reducible first|refine M_h ?_|refine w_jn ?_|refine C_j ?_|refine B_p ?_|refine D_c ?_|refine D_p ?_)|((with_reducible refine C_u (λ_=>?_) (λ_=>?_))<;>first|(exfalso;omega)|skip))
 refine b_y ?_
 refine H_t (v:=kI ((spl c D).length-1)) ?_ ?_
 ·show (match Nat.ble c.toNat 255 with|true=>some (kI (countB c.toNat D.toArray.toList 0))|false=>none)=_
  rw[Nat.ble_eq_true_of_le (by omega),List.toList_toArray]
  have:=z_v c D 0
  rw[show countB c.toNat D 0=(spl c D).length-1 by omega]
 exact B_z H rfl ⟨rfl,rfl⟩
theorem extract_drop(D:Str)(n:Nat):(ByteArray.mk D.toArray).extract n D.length=⟨(D.drop n).toArray⟩:=by
 apply ByteArray.ext
 apply Array.ext'
 simp[ByteArray.extract,ByteArray.copySlice]
 rw[List.take_of_length_le (by simp)]
theorem e_q{Q:Value→Hs→Prop}{h:Hs}{D:Str}{n:Nat}{en:En}{k:IntKind}{K:KV}(hn:n≤D.length)(w:WP (K (sV (D.drop n)) h) Q):WP (after K (J_g (.c (sV D)) (some (.c (.int k (.ofNat n)))) none en h)) Q:=by
 have hs:(ByteArray.mk D.toArray).size=D.length:=by show D.toArray.size=_;simp
 refine H_t (v:=sV (D.drop n)) ?_ w
 show cutstr2 en ⟨D.toArray⟩ (some (.c (.int k (.ofNat n)))) (some (ByteArray.mk D.toArray).size)=_
 rw[hs]
 show (match bnd en 0 D.length (some (.c (.int k (.ofNat n)))) with|none=>none|some l=>some (Value.string ((ByteArray.mk D.toArray).extract l D.length)))=_
 rw[show bnd en 0 D.length (some (GX.c (Value.int k (Int.ofNat n))))=some n from by
  show (match Nat.ble n D.length with|true=>some n|false=>none)=some n
  rw[Nat.ble_eq_true_of_le hn]]
 dsimp only
 rw[extract_drop]
theorem v_j{Q:Value→Hs→Prop}{h:Hs}{b n u:Nat}{en:En}{k:IntKind}{K:KV}(w:WP (K (.slice (some ⟨b,0,none⟩) n n) h) Q):WP (after K (F_4 u (.c (.slice (some ⟨b,0,none⟩) n n)) none (some (.c (.int k (.ofNat n)))) none en h)) Q:=by
 refine H_t (v:=.slice (some ⟨b,0,none⟩) n n) ?_ w
 have hb:top1 n (E_x (.int k (.ofNat n)))=some n:=J_5 (Nat.le_refl n)
 simp only[slice1,slice2,slice3,cutA,cutB,ev,bnd,hb]
theorem p_e{A:List Value}{z v:Value}{k:Nat}:(A++List.replicate (k+1) z).set A.length v=(A ++ [v])++List.replicate k z:=by
 rw[List.set_append,if_neg (Nat.lt_irrefl _),Nat.sub_self,List.replicate_succ,List.set_cons_zero,List.append_assoc];rfl
theorem Aj1:∀n:Nat,rep [sV []] n=List.replicate n (sV []):=by
 intro n
 induction n with
 |zero=>rfl
 |succ n ih=>rw[rep,ih];rfl
abbrev strs(l:List Str):List Value:=l.map sV
theorem q_r(l:List Str):B_5 (strs l)=true:=by
 induction l with
 |nil=>rfl
 |cons x l ih=>exact ih
abbrev NewS(h h':Hs)(v:Value)(l:List Str):Prop:=New h h' (.osl v 9 1 true l.length (strs l))
abbrev CSplitB(R:RnK):Prop:=∀(D:Str)(c:UInt8)(h:Hs),D.length≤50000→WP (R 87 [sV D,sV [c],kI 0,.int .i64 (.negSucc 0)] h) (λv h'=>NewS h h' v (spl c D))
theorem Z_u{R:RnK}{N:Nat}(hN:100000<N)(ci:CIx R 101)(cc:CCount R){D:Str}{c:UInt8}{h:Hs}(hD:D.length≤50000):WP (r87 R N [sV D,sV [c],kI 0,.int .i64 (.negSucc 0)] h) (λv h'=>NewS h h' v (spl c D)):=by
 have H:=Sto.enter h
 have l1:[c].length=1:=rfl
 have sl:=b_m c D
 obtain⟨x0,l0,q0⟩:=Y_2 c D
 have sp:1≤(spl c D).length:=by rw[q0];exact Nat.succ_pos _
 clear q0
 unfold r87
 repeat' (first|(with_reducible first|refine w_jn ?_|refine B_p ?_|refine D_c ?_|refine D_p ?_)|((with_reducible refine e_s (λ_=>?_) (λ_=>?_))<;>first|(exfalso;omega)|skip))
 refine N_f (a:=[c]) (b:=[]) (λe=>by cases e) λ_=>?_
 repeat' (first|(refine B_n (cc D c _) ?_)|(with_reducible first|refine M_h ?_|refine w_jn ?_|refine W_p ?_)|((with_reducible refine Y_6 H ?_ ?_ ?_) ;omega;rfl;(clear H;intro u H hu))|((with_reducible refine D_b ?_ ?_) ;omega)|((with_reducible refine J_w ?_ ?_ ?_) ;omega;omega))
 rw[show min ((spl c D).length-1+1) (D.length+1)=(spl c D).length by omega]
 rw[Aj1,show min ((spl c D).length-1+1) (D.length+1)=(spl c D).length by omega] at H
 refine L_6 (Good:=λr (self:L5)=>∀(cur:Str)(i:Nat)(y1 y2 y3:Value)(w:Hs)(done:List Str),i+r=(spl c D).length-1→done.length=i→spl c D=done++spl c cur→cur.length≤D.length →
  Sto h [] w [.blk h.nx (.row 9 1 true true (strs done++List.replicate ((spl c D).length-i) (sV [])))]→WP (self (sV cur) (kI i) y1 y2 y3 w) (λv h'=>NewS h h' v (spl c D)))
  (λr self ih cur i y1 y2 y3 w done hi hd hs hc H1=>?_) N ((spl c D).length-1) (by omega) D 0 _ _ _ _ [] (by omega) rfl rfl (Nat.le_refl _) H
 clear H
 have H:=H1
 clear H1
 have hl:(strs done++List.replicate ((spl c D).length-i) (sV [])).length=(spl c D).length:=by
  rw[List.length_append,List.length_map,List.length_replicate,hd];omega
 repeat' (first|(with_reducible first|refine w_jn ?_|refine C_j ?_|refine B_p ?_)|((with_reducible refine D_7 (λ_=>?_) (λ_=>?_))<;>first|(exfalso;omega)|skip))
 ·refine B_n (ci cur c _ (by omega)) ?_
  cases e:fB c cur with
  |none=>
   have hs:=hs
   rw[e_e e] at hs
   have:=congrArg List.length hs
   rw[List.length_append,hd] at this
   exfalso
   have t1:[cur].length=1:=rfl
   omega
  |some j=>
   have jl:=At6 e
   unfold ixV
   repeat' (first|(with_reducible first|refine w_jn ?_|refine B_p ?_)|((with_reducible refine D_7 (λ_=>?_) (λ_=>?_))<;>first|(exfalso;omega)|skip)|((with_reducible refine D_b ?_ ?_) ;omega))
   refine z_7 (by omega) ?_
   rw[Nat.add_zero]
   refine z_8 (by omega) ?_
   refine O_5 0 H rfl (by rw[hl];omega) rfl λu2 H2 hu2=>?_
   clear H
   have H:=H2
   clear H2
   dsimp only[List.set_cons_zero] at H
   rw[Nat.zero_add,Nat.mul_one,←hd,show done.length=(strs done).length from (List.length_map _).symm,show (spl c D).length-(strs done).length=(spl c D).length-(i+1)+1 by rw[List.length_map,hd];omega,p_e] at H
   repeat' (first|(with_reducible refine M_h ?_)|((with_reducible refine D_b ?_ ?_) ;omega))
   refine e_q (by rw[l1];omega) ?_
   repeat' (first|((with_reducible refine D_b ?_ ?_) ;omega))
   refine ih (r-1) (by omega) (cur.drop (j+1)) (i+1) _ _ _ u2 (done ++ [cur.take j]) (by omega) (by rw[List.length_append,hd];rfl) (by rw[hs,e_g e,List.append_assoc];rfl) (by rw[List.length_drop];omega) ?_
   have:strs (done ++ [cur.take j])=strs done ++ [sV (cur.take j)]:=by unfold strs;rw[List.map_append];rfl
   rw[this]
   exact H
 ·have hs:=hs
  have e:fB c cur=none:=by
   cases e:fB c cur with
   |none=>rfl
   |some j=>
    exfalso
    rw[e_g e] at hs
    obtain⟨x,l,q⟩:=Y_2 c (cur.drop (j+1))
    rw[q] at hs
    have:=congrArg List.length hs
    rw[List.length_append,hd,List.length_cons,List.length_cons] at this
    omega
  rw[e_e e] at hs
  refine z_8 (by omega) ?_
  refine O_5 0 H rfl (by rw[hl];omega) rfl λu2 H2 hu2=>?_
  clear H
  have H:=H2
  clear H2
  dsimp only[List.set_cons_zero] at H
  rw[Nat.zero_add,Nat.mul_one,←hd,show done.length=(strs done).length from (List.length_map _).symm,show (spl c D).length-(strs done).length=0+1 by rw[List.length_map,hd];omega,p_e,List.replicate_zero,List.append_nil,show strs done ++ [sV cur]=strs (spl c D) by rw[hs];unfold strs;rw[List.map_append];rfl] at H
  repeat' (first|((with_reducible refine D_b ?_ ?_) ;omega))
  rw[show i+1=(spl c D).length by omega]
  refine v_j ?_
  have H2:=H.osl 0 rfl (n:=(spl c D).length) (c:=(spl c D).length) (by unfold strs;rw[List.length_map,Nat.mul_one]) (Nat.le_refl _)
  exact r_f 0 H2 rfl λv' h' n=>n
def CSplit(R:RnK):Prop:=∀(D:Str)(c:UInt8)(h:Hs),D.length≤50000→WP (R 63 [sV D,sV [c]] h) (λv h'=>NewS h h' v (spl c D))
theorem q_j{R:RnK}{N:Nat}(cg:CSplitB R){D:Str}{c:UInt8}{h:Hs}(hD:D.length≤50000):WP (r63 R N [sV D,sV [c]] h) (λv h'=>NewS h h' v (spl c D)):=by
 have H:=Sto.enter h
 unfold r63
 repeat' (first|(with_reducible first|refine D_c ?_|refine D_p ?_))
 refine C_n (cg D c _ hD) λv u n=>?_
 have H2:=H.call n
 exact r_f 0 H2 rfl λv' h' n=>n
section
variable {Q:Value→Hs→Prop} {h0 h:Hs} {S:List Nat} {m:List Th}
theorem Al6(k:Nat){hh:Hs}{v:Value}{e n i:Nat}{fl:Bool}{L:List Value}{x:Value}{K:Value→An}(H:Sto h0 S h m)(hk:m[k]?=some (.osl v e 1 fl n L))(hi:L[i]?=some x)(hp:hh.hp=h.hp)(w:WP (K x) Q):WP (F_t 1 v (.int .i64 (.ofNat i)) (λp=>kLoad p hh K)) Q:=
 r_g k H hk hi λb o _ ld=>by rw[ld hh (by rw[hp])];exact w
theorem Ax7(k:Nat){v:Value}{e n hh:Nat}{fl:Bool}{L:List Value}{en:En}{kd:IntKind}{K:KV}(H:Sto h0 S h m)(hk:m[k]?=some (.osl v e 1 fl n L))(hl:hh≤n)(kk:∀v',Sto h0 S h (m.set k (.osl v' e 1 fl hh (L.take hh)))→WP (K v' h) Q) :
 WP (after K (F_4 1 (.c v) none (some (.c (.int kd (.ofNat hh)))) none en h)) Q:=by
 obtain⟨ll,o⟩:=H.ok _ (mgE hk)
 have ld:=H.ids _ (mgE hk)
 have re:∀v',OwnSl h v' e 1 fl hh (L.take hh)→(∀b,vId v'=some b→vId v=some b)→Sto h0 S h (m.set k (.osl v' e 1 fl hh (L.take hh))):=λv' o' hv=>by
  refine⟨H.nx,H.fr,H.lo,λt ht=>?_,λt ht b hb=>?_,H.chg,λi j s t hi hj hij he b hb=>?_⟩
  ·obtain⟨i,hi⟩:=List.getElem?_of_mem ht
   rcases K_q hi with⟨rfl,rfl⟩|⟨_,hi⟩
   ·exact o'
   ·exact H.ok t (mgE hi)
  ·obtain⟨i,hi⟩:=List.getElem?_of_mem ht
   rcases K_q hi with⟨rfl,rfl⟩|⟨_,hi⟩
   ·exact ld b (hv b hb)
   ·exact H.ids t (mgE hi) b hb
  ·rcases K_q hi with⟨e1,q1⟩|⟨e1,hi'⟩<;>rcases K_q hj with⟨e2,q2⟩|⟨e2,hj'⟩
   ·exact absurd (e1.trans e2.symm) hij
   ·subst e1 q1;exact H.dj i j _ t hk hj' hij rfl b (hv b hb)
   ·subst e2 q2;exactλhb2=>H.dj i j s _ hi' hk hij he b hb (hv b hb2)
   ·exact H.dj i j s t hi' hj' hij he b hb
 rcases o with⟨rfl,rfl⟩|⟨id,c,cs,sz,f,rfl,hc,hb,hf,hsz,hg⟩
 ·have:hh=0:=by omega
  subst this
  have hb:top1 0 (E_x (.int kd (.ofNat 0)))=some 0:=J_5 (Nat.le_refl 0)
  refine H_t (v:=.slice none 0 0) ?_ (kk _ (re _ ⟨by simp,.inl ⟨rfl,rfl⟩⟩ λb hb=>by cases hb))
  simp only[slice1,slice2,slice3,cutA,ev,bnd,hb]
 ·have hb2:top1 c (E_x (.int kd (.ofNat hh)))=some hh:=J_5 (Nat.le_trans hl hc)
  refine H_t (v:=.slice (some ⟨id,0,none⟩) hh c) ?_ (kk _ (re _ ⟨by rw[List.length_take];omega,.inr ⟨id,c,cs,sz,f,rfl,by omega,hb,hf,by rw[List.length_take];omega,λi hi=>?_⟩⟩ λb hb=>hb))
  ·simp only[slice1,slice2,slice3,cutA,cutB,ev,bnd,hb2]
  ·rw[List.length_take] at hi
   rw[List.getElem?_take_of_lt (by omega)]
   exact hg i (by omega)
end
def okB(p:Str):Bool:=decide (p = []∨p = [46]∨p = [46,46]∨named p)
def K_j(p:Str):Bool:=decide (p ≠ []∧p ≠ [46])
def H_n(D:Str):Except Nat (List Str):=if D = [] then .error 1 else if 400<D.length then .error 8 else if (spl 47 D).all okB=true then .ok ((spl 47 D).filter K_j) else .error 8
def SplQ(h:Hs)(r:Except Nat (List Str))(v:Value)(h':Hs):Prop:=match r with
 |.error e=>v=.tuple #[.slice none 0 0,kI e]∧h'=h
 |.ok l=>∃s,v=.tuple #[s,kI 0]∧NewS h h' s l
def CPSplit(R:RnK):Prop:=∀(D:Str)(h:Hs),D.length≤50000→WP (R 55 [sV D] h) (SplQ h (H_n D))
theorem o_z{R:RnK}{N:Nat}(hN:100000<N)(cs:CSplit R)(cn:CName R){D:Str}{h:Hs}(hD:D.length≤50000):WP (r55 R N [sV D] h) (SplQ h (H_n D)):=by
 have H:=Sto.enter h
 unfold r55
 repeat' (first|(with_reducible first|refine w_jn ?_|refine D_c ?_|refine D_p ?_))
 refine N_f (b:=[]) (λe=>?_) λe=>?_
 ·repeat' (first|(with_reducible first|refine w_jn ?_|refine C_j ?_))
  exact B_z H rfl (by unfold H_n;rw[if_pos e];exact⟨rfl,rfl⟩)
 repeat' (first|(with_reducible first|refine M_h ?_|refine w_jn ?_|refine C_j ?_|refine B_p ?_)|((with_reducible refine H_3 (λ_=>?_) (λ_=>?_))<;>first|(exfalso;omega)|skip))
 ·refine B_z H rfl (by unfold H_n;rw[if_neg e,if_pos (by assumption)];exact⟨rfl,rfl⟩)
 rename_i hlen
 refine C_n (cs D 47 _ hD) λv u n=>?_
 have hp:H_n D=if (spl 47 D).all okB=true then .ok ((spl 47 D).filter K_j) else .error 8:=by unfold H_n;rw[if_neg e,if_neg hlen]
 have sl:=b_m 47 D
 have spt:=e_f 47 D
 rw[hp]
 generalize spl 47 D=P at *
 replace H:=(H.call n).nilS 9 1
 refine r_h 1 H rfl ?_
 repeat' (first|(with_reducible refine w_jn ?_))
 refine L_6 (Good:=λr (self:L8)=>∀(i:Nat)(y1 y2 y3 y4 out y6 y7:Value)(w:Hs),i+r=P.length→(P.take i).all okB=true→Sto h [] w [.osl out 9 1 true ((P.take i).filter K_j).length (strs ((P.take i).filter K_j)),.osl v 9 1 true P.length (strs P)] →
  WP (self (kI i) y1 y2 y3 y4 out y6 y7 w) (SplQ h (if P.all okB=true then .ok (P.filter K_j) else .error 8)))
  (λr self ih i y1 y2 y3 y4 out y6 y7 w hi ha H1=>?_) N P.length (by omega) 0 _ _ _ _ _ _ _ _ (by omega) rfl H
 clear H
 have H:=H1
 clear H1
 repeat' (first|(with_reducible first|refine w_jn ?_|refine C_j ?_|refine B_p ?_)|((with_reducible refine D_7 (λ_=>?_) (λ_=>?_))<;>first|(exfalso;omega)|skip))
 ·have il:i<P.length:=by omega
  refine Al6 1 H rfl (x:=sV P[i]) (by unfold strs;rw[List.getElem?_map,gqG il];rfl) rfl ?_
  have tk:P.take (i+1)=P.take i ++ [P[i]]:=by rw[List.take_add_one,gqG il];rfl
  have pl:=spt _ (List.getElem_mem il)
  have pm:=List.getElem_mem il
  generalize P[i]=p at *
  have go:∀(out' a1 a2 a3 a4 a6 a7:Value)(w':Hs),okB p=true→Sto h [] w' [.osl out' 9 1 true ((P.take (i+1)).filter K_j).length (strs ((P.take (i+1)).filter K_j)),.osl v 9 1 true P.length (strs P)]→WP (self (kI (i+1)) a1 a2 a3 a4 out' a6 a7 w') (SplQ h (if P.all okB=true then .ok (P.filter K_j) else .error 8)):=λout' a1 a2 a3 a4 a6 a7 w' ok H'=>
   ih (r-1) (by omega) (i+1) a1 a2 a3 a4 out' a6 a7 w' (by omega) (by rw[tk,List.all_append,ha];simp[ok]) H'
  have sk:K_j p=false→(P.take (i+1)).filter K_j=(P.take i).filter K_j:=λq=>by rw[tk,List.filter_append];simp[q]
  repeat' (first|(with_reducible refine w_jn ?_))
  refine N_f (b:=[]) (λe1=>?_) λe1=>?_
  ·repeat' (first|(with_reducible first|refine w_jn ?_|refine C_j ?_)|((with_reducible refine D_b ?_ ?_) ;omega))
   exact go out _ _ _ _ _ _ w (by unfold okB;exact decide_eq_true (.inl e1)) (by rw[sk (by unfold K_j;exact decide_eq_false λq=>q.1 e1)];exact H)
  repeat' (first|(with_reducible first|refine w_jn ?_|refine B_p ?_))
  refine N_f (b:=[46]) (λe2=>?_) λe2=>?_
  ·repeat' (first|(with_reducible first|refine w_jn ?_|refine C_j ?_)|((with_reducible refine D_b ?_ ?_) ;omega))
   exact go out _ _ _ _ _ _ w (by unfold okB;exact decide_eq_true (.inr (.inl e2))) (by rw[sk (by unfold K_j;exact decide_eq_false λq=>q.2 e2)];exact H)
  repeat' (first|(with_reducible first|refine w_jn ?_|refine B_p ?_))
  have kp:K_j p=true:=by unfold K_j;exact decide_eq_true ⟨e1,e2⟩
  have tf:(P.take (i+1)).filter K_j=(P.take i).filter K_j ++ [p]:=by rw[tk,List.filter_append];simp[kp]
  have fl:((P.take i).filter K_j).length≤50001:=by
   have:=List.length_filter_le K_j (P.take i)
   rw[List.length_take] at this
   omega
  refine W_s (b:=[46,46]) (λe3=>?_) λe3=>?_
  ·repeat' (first|((refine W_g (cn p _ (by omega)) (λ_=>?_) (λ_=>?_))<;>first|(exfalso;omega)|skip)|(with_reducible first|refine w_jn ?_|refine C_j ?_|refine B_p ?_|refine G_k ?_|refine C_9 ?_|refine P_9 ?_|refine e_z ?_)|((with_reducible apply S_z H) ;rfl;(clear H;intro u H hu;(try dsimp only[List.set_cons_zero,List.set_cons_succ,A_p,List.toList_toArray,splice,ev,rep,List.cons_append,List.nil_append] at H))))
   ·rename_i hnm
    dsimp only[ev]
    skip
    refine S_t 1 0 (n2:=1) H rfl rfl ?_ ?_ ?_ ?_ λv' h' H1 hn=>?_
    ·rfl
    ·rfl
    ·decide
    ·omega
    replace H1:=H1.tail
    dsimp only[List.set_cons_zero,List.set_cons_succ] at H1
    repeat' (first|((with_reducible refine D_b ?_ ?_) ;omega))
    refine go v' _ _ _ _ _ _ h' (by unfold okB;exact decide_eq_true (.inr (.inr (.inr hnm)))) ?_
    rw[tf,List.length_append]
    unfold strs
    rw[List.map_append]
    exact H1
   ·rename_i hnm
    skip
    refine B_z H rfl ?_
    rw[if_neg]
    ·exact⟨rfl,rfl⟩
    ·intro q
     have:=List.all_eq_true.1 q p pm
     unfold okB at this
     rcases of_decide_eq_true this with g|g|g|g
     ·exact e1 g
     ·exact e2 g
     ·exact e3 g
     ·exact hnm g
  ·repeat' (first|(with_reducible first|refine w_jn ?_|refine B_p ?_|refine M_g ?_|refine C_4 ?_)|((with_reducible apply S_z H) ;rfl;(clear H;intro u H hu;(try dsimp only[List.set_cons_zero,List.set_cons_succ,A_p,List.toList_toArray,splice,ev,rep,List.cons_append,List.nil_append] at H))))
   refine S_t 1 0 (n2:=1) H rfl rfl ?_ ?_ ?_ ?_ λv' h' H1 hn=>?_
   ·rfl
   ·rfl
   ·decide
   ·omega
   replace H1:=H1.tail
   dsimp only[List.set_cons_zero,List.set_cons_succ] at H1
   repeat' (first|((with_reducible refine D_b ?_ ?_) ;omega))
   refine go v' _ _ _ _ _ _ h' (by unfold okB;exact decide_eq_true (.inr (.inr (.inl e3)))) ?_
   rw[tf,List.length_append]
   unfold strs
   rw[List.map_append]
   exact H1
 ·have:i=P.length:=by omega
  subst this
  rw[List.take_length] at ha H
  rw[if_pos ha]
  exact S_w (λs=>.tuple #[s,kI 0]) 0 H rfl (λ_ _ _=>by simp[blkV,blkP,blkC]) (λ_ _ _ _=>rfl) λv' h' nn=>⟨v',rfl,nn⟩
def sufF(D X:Str):Prop:=X.length≤D.length∧D.drop (D.length-X.length)=X
instance (D X:Str):Decidable (sufF D X):=inferInstanceAs (Decidable (_∧_))
abbrev CSuf(R:RnK)(f:FuncId):Prop:=∀(D X:Str)(h:Hs),D.length≤100000→X.length≤100000→R f [sV D,sV X] h=some (.val (.bool (decide (sufF D X))) h)
theorem Ak8{R:RnK}{N:Nat}{D X:Str}{h:Hs}(hD:D.length≤100000)(hX:X.length≤100000):r65 R N [sV D,sV X] h=some (.val (.bool (decide (sufF D X))) h):=by
 refine WP.eqn ?_
 have H:=Sto.enter h
 unfold r65
 repeat' (first|(with_reducible first|refine M_h ?_|refine G_k ?_|refine M_g ?_|refine C_4 ?_|refine D_c ?_|refine D_p ?_)|((with_reducible refine e_v (λ_=>?_) (λ_=>?_))<;>first|(exfalso;omega)|skip)|((with_reducible refine J_w ?_ ?_ ?_) ;omega;omega))
 ·refine e_q (by omega) ?_
  repeat' (first|(with_reducible refine G_k ?_))
  refine N_f (λe=>?_) λe=>?_
  ·repeat' (first|(with_reducible refine C_9 ?_))
   exact B_z H rfl ⟨by rw[decide_eq_true ⟨by omega,e⟩],rfl⟩
  ·repeat' (first|(with_reducible refine C_9 ?_))
   exact B_z H rfl ⟨by rw[decide_eq_false λq=>e q.2],rfl⟩
 ·exact B_z H rfl ⟨by rw[decide_eq_false λq=>by have:=q.1;omega],rfl⟩
theorem z_w{R:RnK}{N:Nat}(c:CSuf R 65){D X:Str}{h:Hs}(hD:D.length≤100000)(hX:X.length≤100000):r56 R N [sV D,sV X] h=some (.val (.bool (decide (sufF D X))) h):=by
 refine WP.eqn ?_
 have H:=Sto.enter h
 unfold r56
 repeat' (first|(with_reducible first|refine D_c ?_|refine D_p ?_))
 refine B_n (c D X _ hD hX) ?_
 exact B_z H rfl ⟨rfl,rfl⟩
def J_j(D:Str):Except Nat (List Str × Str):=match H_n D with
 |.error e=>.error e
 |.ok l=>match l.getLast? with
  |none=>.error 1
  |some x=>if x = [46,46]∨D = [46]∨sufF D [47,46] then .error 1 else .ok (l.dropLast,x)
def LastQ(h:Hs)(r:Except Nat (List Str × Str))(v:Value)(h':Hs):Prop:=match r with
 |.error e=>v=.tuple #[.slice none 0 0,sV [],kI e]∧h'=h
 |.ok (l,x)=>∃s,v=.tuple #[s,sV x,kI 0]∧NewS h h' s l
def CLast(R:RnK):Prop:=∀(D:Str)(h:Hs),D.length≤50000→WP (R 39 [sV D] h) (LastQ h (J_j D))
theorem P_j{D:Str}{l:List Str}(hD:D.length≤50000)(h:H_n D=.ok l):l.length≤50001∧D.length≤400∧∀x∈l,x.length≤400:=by
 unfold H_n at h
 have:=b_m 47 D
 split at h
 ·cases h
 split at h
 ·cases h
 split at h
 ·injection h with h;subst h
  have:=List.length_filter_le K_j (spl 47 D)
  exact⟨by omega,by omega,λx hx=>by have:=e_f 47 D x (List.mem_filter.1 hx).1;omega⟩
 ·cases h
theorem y_g{R:RnK}{N:Nat}(cs:CPSplit R)(cx:CSuf R 56){D:Str}{h:Hs}(hD:D.length≤50000):WP (r39 R N [sV D] h) (LastQ h (J_j D)):=by
 have H:=Sto.enter h
 unfold r39
 repeat' (first|(with_reducible first|refine D_c ?_|refine D_p ?_))
 refine C_n (cs D _ hD) λv u hv=>?_
 cases e:H_n D with
 | error e1 =>
  rw[e] at hv
  obtain⟨rfl,rfl⟩:=hv
  have:e1≠0:=by
   unfold H_n at e
   split at e
   ·injection e with e;omega
   split at e
   ·injection e with e;omega
   split at e
   ·cases e
   ·injection e with e;omega
  have hp:J_j D=.error e1:=by unfold J_j;rw[e]
  rw[hp]
  repeat' (first|(with_reducible first|refine w_jn ?_|refine C_j ?_)|((with_reducible apply C_p) ;rfl)|((with_reducible refine B_h (λ_=>?_) (λ_=>?_))<;>first|(exfalso;omega)|skip))
  exact B_z H rfl ⟨rfl,rfl⟩
 | ok l =>
  rw[e] at hv
  obtain⟨s,rfl,n⟩:=hv
  have ll:=P_j hD e
  replace H:=H.call n
  clear n
  rcases List.eq_nil_or_concat l with rfl|⟨l',x,rfl⟩
  ·have hp:J_j D=.error 1:=by unfold J_j;rw[e];rfl
   rw[hp]
   rw[show ([]:List Str).length=0 from rfl] at H
   repeat' (first|(with_reducible first|refine w_jn ?_|refine C_j ?_|refine B_p ?_|refine b_x ?_|refine C_9 ?_)|((with_reducible apply C_p) ;rfl)|((with_reducible first|refine L_n (λ_=>?_) (λ_=>?_)|refine B_h (λ_=>?_) (λ_=>?_))<;>first|(exfalso;omega)|skip)|((with_reducible refine r_l ?_ ?_ ?_) ;omega;omega)|((with_reducible apply r_h 0 H) ;rfl))
   exact B_z H rfl ⟨rfl,rfl⟩
  ·rw[List.concat_eq_append] at *
   have e1:(l' ++ [x]).length=l'.length+1:=by simp
   rw[e1] at H
   have tk:(strs (l' ++ [x])).take l'.length=strs l':=by unfold strs;rw[List.map_append,List.take_left' (List.length_map _)]
   have gx:(strs (l' ++ [x]))[l'.length]?=some (sV x):=by unfold strs;rw[List.map_append,List.getElem?_append_right (by rw[List.length_map];exact Nat.le_refl _),List.length_map,Nat.sub_self];rfl
   have q0:(l' ++ [x]).getLast?=some x:=by simp
   have q1:(l' ++ [x]).dropLast=l':=by simp
   have hp:J_j D=if x = [46,46]∨D = [46]∨sufF D [47,46] then .error 1 else .ok (l',x):=by unfold J_j;rw[e];dsimp only;rw[q0];dsimp only;rw[q1]
   rw[hp]
   clear e q0 q1 hp
   repeat' (first|(with_reducible first|refine w_jn ?_|refine B_p ?_|refine L_i ?_)|((with_reducible apply C_p) ;rfl)|((with_reducible first|refine D_7 (λ_=>?_) (λ_=>?_)|refine B_h (λ_=>?_) (λ_=>?_))<;>first|(exfalso;omega)|skip)|((with_reducible refine J_w ?_ ?_ ?_) ;omega;omega)|((with_reducible apply r_h 0 H) ;rfl))
   refine r_g 0 H rfl gx λb o bl ld=>?_
   repeat' (first|(with_reducible refine L_i ?_))
   rw[ld _ rfl]
   repeat' (first|(with_reducible refine L_i ?_))
   have out:∀p:Prop,p→(x = [46,46]∨D = [46]∨sufF D [47,46])→WP (clrK h (.tuple #[.slice none 0 0,sV [],kI 1]) u) (LastQ h (if x = [46,46]∨D = [46]∨sufF D [47,46] then .error 1 else .ok (l',x))):=λ_ _ q=>by
    rw[if_pos q]
    exact B_z H rfl ⟨rfl,rfl⟩
   refine N_f (b:=[46,46]) (λe2=>?_) λe2=>?_
   ·repeat' (first|(with_reducible first|refine w_jn ?_|refine C_j ?_|refine b_x ?_|refine C_9 ?_|refine C_4 ?_))
    exact out _ trivial (.inl e2)
   repeat' (first|(with_reducible first|refine L_i ?_|refine C_4 ?_))
   refine N_f (b:=[46]) (λe3=>?_) λe3=>?_
   ·repeat' (first|(with_reducible first|refine w_jn ?_|refine C_j ?_|refine b_x ?_|refine C_9 ?_|refine C_4 ?_))
    exact out _ trivial (.inr (.inl e3))
   repeat' (first|(with_reducible first|refine L_i ?_|refine C_4 ?_))
   refine W_g (cx D [47,46] _ (by omega) (by decide)) (λe4=>?_) λe4=>?_
   ·repeat' (first|(with_reducible first|refine w_jn ?_|refine C_j ?_|refine C_4 ?_))
    exact out _ trivial (.inr (.inr e4))
   repeat' (first|(with_reducible first|refine w_jn ?_|refine B_p ?_|refine C_4 ?_))
   have Hm:Sto h [] ⟨u.hp,u.nx,u.nx⟩ [.osl s 9 1 true (l'.length+1) (strs (l' ++ [x]))]:=⟨H.nx,H.fr,λk hk _=>Nat.le_trans hk H.nx,H.ok,H.ids,λid hi _=>H.fr id hi (λq=>by cases q),H.dj⟩
   refine Ax7 (hh:=l'.length) 0 Hm rfl (by omega) λv' H2=>?_
   dsimp only[List.set_cons_zero] at H2
   rw[tk] at H2
   refine Q_s ?_
   refine r_g 0 H rfl gx λb o bl ld=>?_
   rw[ld _ (J_b _ _ _ _ (by simp only[HidOk,and_true];omega))]
   rw[if_neg (by rintro(q|q|q);exact e2 q;exact e3 q;exact e4 q)]
   have H3:Sto h [] u [.osl v' 9 1 true l'.length (strs l')]:=⟨H.nx,H.fr,H.lo,H2.ok,H2.ids,H.chg,H2.dj⟩
   exact S_w (λs=>.tuple #[s,sV x,kI 0]) 0 H3 rfl (λ_ _ _=>by simp[blkV,blkP,blkC]) (λ_ _ _ _=>rfl) λv' h' nn=>⟨v',rfl,nn⟩
def CFind(R:RnK):Prop:=∀(h:Hs)(t:TS)(d:Nat)(x:Itm)(s:Str),TrAt h t→t.T d=some x→x.k=2→R 42 [pV t.p,kI d,sV s] h=some (.val (fdV (findF t.T d s)) h)
theorem find_ok{R:RnK}{N:Nat}{h:Hs}{t:TS}{d:Nat}{x:Itm}{s:Str}(A:TrAt h t)(hx:t.T d=some x)(hk:x.k=2):r42 R N [pV t.p,kI d,sV s] h=some (.val (fdV (findF t.T d s)) h):=by
 refine WP.eqn ?_
 have H:=Sto.enter h
 have A1:=A.st H
 have rest:∀q:¬(d=1∧s=J_2),findF t.T d s=x.names s:=λq=>by unfold findF;rw[if_neg q,hx];rfl
 unfold r42
 repeat' (first|(with_reducible first|refine w_jn ?_|refine B_p ?_|refine G_k ?_|refine M_g ?_|refine C_4 ?_|refine D_c ?_|refine D_p ?_|refine A_c ?_|refine C_g ?_)|((with_reducible refine C_u (λ_=>?_) (λ_=>?_))<;>first|(exfalso;omega)|skip))
 ·refine N_f (b:=J_2) (λe=>?_) λe=>?_
  ·repeat' (first|(with_reducible first|refine w_jn ?_|refine C_j ?_|refine C_9 ?_))
   exact B_z H rfl ⟨by unfold findF;rw[if_pos ⟨by assumption,e⟩];rfl,rfl⟩
  ·repeat' (first|(with_reducible first|refine w_jn ?_|refine B_p ?_|refine C_9 ?_|refine A_c ?_|refine C_g ?_))
   refine t_mp A1 rfl ?_
   refine t_lk A1 hx ?_
   repeat' (first|(with_reducible first|refine A_c ?_|refine C_g ?_))
   refine t_nm A1 hx hk rfl ?_
   refine t_fd A1 hx hk ?_
   rw[rest λq=>e q.2]
   cases x.names s<;>(unfold fdV;repeat' (first|((with_reducible apply C_p) ;rfl));exact B_z H rfl ⟨rfl,rfl⟩)
 ·refine t_mp A1 rfl ?_
  refine t_lk A1 hx ?_
  repeat' (first|(with_reducible first|refine A_c ?_|refine C_g ?_))
  refine t_nm A1 hx hk rfl ?_
  refine t_fd A1 hx hk ?_
  rw[rest λq=>by have:=q.1;omega]
  cases x.names s<;>(unfold fdV;repeat' (first|((with_reducible apply C_p) ;rfl));exact B_z H rfl ⟨rfl,rfl⟩)
abbrev rowW(p k:Nat):Gev.Obj:=.row 99 0 true false [pV p,kI k]
def ptV:Except Nat Nat→Value
 |.ok n=>.tuple #[kI n,kI 0]
 |.error e=>.tuple #[kI 0,kI e]
def CPart(R:RnK):Prop:=∀(h:Hs)(t:TS)(w k d:Nat)(x:Itm)(s:Str),TrAt h t→Holds (h.hp.get w) (rowW t.p k)→w<h.nx→t.T d=some x→R 66 [pV w,kI d,sV s] h=some (.val (ptV (N_w t.T d s)) h)
theorem z_d{R:RnK}{N:Nat}(cf:CFind R){h:Hs}{t:TS}{w k d:Nat}{x:Itm}{s:Str}(A:TrAt h t)(hw:Holds (h.hp.get w) (rowW t.p k))(wl:w<h.nx)(hx:t.T d=some x):r66 R N [pV w,kI d,sV s] h=some (.val (ptV (N_w t.T d s)) h):=by
 refine WP.eqn ?_
 have H:=Sto.enterR h [.rob w (rowW t.p k)] (λt ht=>by
  rw[List.mem_singleton.1 ht]
  exact⟨rfl,hw,λb hb=>by injection hb with hb;subst hb;exact wl⟩)
 have A1:=A.st H
 unfold r66
 repeat' (first|(with_reducible first|refine D_c ?_|refine D_p ?_|refine A_c ?_|refine C_g ?_)|((with_reducible apply W_n 0 H) ;rfl;rfl;rfl))
 refine t_mp A1 rfl ?_
 refine t_lk A1 hx ?_
 repeat' (first|(with_reducible first|refine w_jn ?_|refine A_c ?_|refine C_g ?_))
 refine t_k A1 hx rfl ?_
 have hp:N_w t.T d s=if x.k=2 then (if s = [46,46] then .ok x.up else match findF t.T d s with|some n=>.ok n|none=>.error 2) else .error 4:=by unfold N_w;rw[hx]<;>rfl
 rw[hp]
 repeat' (first|(with_reducible first|refine w_jn ?_|refine C_j ?_|refine B_p ?_)|((with_reducible refine B_h (λ_=>?_) (λ_=>?_))<;>first|(exfalso;omega)|skip))
 ·rename_i hk
  rw[if_pos hk]
  refine N_f (b:=[46,46]) (λe=>?_) λe=>?_
  ·repeat' (first|(with_reducible first|refine w_jn ?_|refine C_j ?_|refine A_c ?_|refine C_g ?_))
   refine t_up A1 hx rfl ?_
   rw[if_pos e]
   exact B_z H rfl ⟨rfl,rfl⟩
  ·rw[if_neg e]
   repeat' (first|(with_reducible first|refine w_jn ?_|refine B_p ?_|refine A_c ?_|refine C_g ?_)|((with_reducible apply W_n 0 H) ;rfl;rfl;rfl))
   refine B_n (cf _ t d x s A1 hx hk) ?_
   cases findF t.T d s<;>(unfold fdV;repeat' (first|((with_reducible apply C_p) ;rfl));exact B_z H rfl ⟨rfl,rfl⟩)
 ·rename_i hk
  rw[if_neg hk]
  exact B_z H rfl ⟨rfl,rfl⟩
def V_l(T:Tm)(most:Nat):Option Nat:=(List.range' 1 most).find? λn=>(T n).isNone
def CFree(R:RnK):Prop:=∀(h:Hs)(t:TS),TrAt h t→t.most≤1000→R 34 [pV t.p] h=some (.val (fdV (V_l t.T t.most)) h)
theorem Am8{Q:Value→Hs→Prop}{b:Nat}{K:Value→An}(w:WP (K (.bool false)) Q):WP (obK K (e2 false qP (pV b) (.pointer none))) Q:=w_ob (v:=.bool false) rfl w
theorem Am7{Q:Value→Hs→Prop}{K:Value→An}(w:WP (K (.bool true)) Q):WP (obK K (e2 false qP (.pointer none) (.pointer none))) Q:=w_ob (v:=.bool true) rfl w
theorem x_y{R:RnK}{N:Nat}(hN:100000<N){h:Hs}{t:TS}(A:TrAt h t)(hm:t.most≤1000):r34 R N [pV t.p] h=some (.val (fdV (V_l t.T t.most)) h):=by
 refine WP.eqn ?_
 have H:=Sto.enter h
 unfold r34
 repeat' (first|(with_reducible first|refine w_jn ?_|refine D_c ?_|refine D_p ?_))
 refine L_6 (Good:=λr (self:L5)=>∀(i:Nat)(y1 y2 y3 y4:Value)(w:Hs),i+r=t.most+1→V_l t.T t.most=(List.range' i r).find? (λn=>(t.T n).isNone)→Sto h [] w []→WP (self (kI i) y1 y2 y3 y4 w) (λv' h'=>v'=fdV (V_l t.T t.most)∧h'=h))
  (λr self ih i y1 y2 y3 y4 w hi hf H1=>?_) N t.most (by omega) 1 _ _ _ _ _ (by omega) rfl H
 clear H
 have H:=H1
 clear H1
 have A1:=A.st H
 repeat' (first|(with_reducible first|refine A_c ?_|refine C_g ?_))
 refine q_s A1 rfl ?_
 repeat' (first|(with_reducible first|refine w_jn ?_|refine C_j ?_|refine B_p ?_|refine A_c ?_|refine C_g ?_)|((with_reducible refine e_y (λ_=>?_) (λ_=>?_))<;>first|(exfalso;omega)|skip))
 ·obtain⟨r,rfl⟩:∃q,r=q+1:=⟨r-1,by omega⟩
  rw[List.range'_succ,List.find?_cons] at hf
  refine t_mp A1 rfl ?_
  cases e:t.T i with
  |none=>
   rw[e] at hf
   refine Av8 A1 e ?_
   refine Am7 ?_
   repeat' (first|(with_reducible first|refine w_jn ?_|refine C_j ?_))
   exact B_z H rfl ⟨by rw[hf];rfl,rfl⟩
  |some x=>
   rw[e] at hf
   refine t_lk A1 e ?_
   refine Am8 ?_
   repeat' (first|(with_reducible first|refine w_jn ?_|refine B_p ?_)|((with_reducible refine D_b ?_ ?_) ;omega))
   exact ih r (by omega) (i+1) _ _ _ _ w (by omega) hf H
 ·have:r=0:=by omega
  subst this
  exact B_z H rfl ⟨by rw[hf];rfl,rfl⟩
def M_i(T:Tm)(m:Nat):Nat→Nat→Bool
 |0,d=>decide (d=m)
 |j+1,d=>if d=m then true else if d=1 then false else M_i T m j (match T d with|some x=>x.up|none=>d)
def CWithin(R:RnK):Prop:=∀(h:Hs)(t:TS)(d m j:Nat),TrAt h t→WF t.T t.most→(∃x,t.T d=some x∧x.k=2)→upN t.T j d=1→j≤1000→R 41 [pV t.p,kI d,kI m] h=some (.val (.bool (M_i t.T m j d)) h)
theorem r_o{R:RnK}{N:Nat}(hN:100000<N){h:Hs}{t:TS}{d m j:Nat}(A:TrAt h t)(W:WF t.T t.most)(hd:∃x,t.T d=some x∧x.k=2)(hj:upN t.T j d=1)(jl:j≤1000):r41 R N [pV t.p,kI d,kI m] h=some (.val (.bool (M_i t.T m j d)) h):=by
 refine WP.eqn ?_
 have H:=Sto.enter h
 unfold r41
 repeat' (first|(with_reducible first|refine w_jn ?_|refine D_c ?_|refine D_p ?_))
 refine L_6 (Good:=λr (self:L2)=>∀(i:Nat)(y:Value)(w:Hs),(∃x,t.T i=some x∧x.k=2)→upN t.T r i=1→M_i t.T m j d=M_i t.T m r i→Sto h [] w []→WP (self (kI i) y w) (λv' h'=>v'=.bool (M_i t.T m j d)∧h'=h))
  (λr self ih i y w hx hu hf H1=>?_) N j (by omega) d _ _ hd hj rfl H
 clear H
 have H:=H1
 clear H1
 have A1:=A.st H
 obtain⟨x,e,k⟩:=hx
 rw[hf]
 repeat' (first|(with_reducible first|refine w_jn ?_|refine C_j ?_|refine B_p ?_|refine G_k ?_|refine M_g ?_|refine C_9 ?_|refine C_4 ?_|refine A_c ?_|refine C_g ?_)|((with_reducible first|refine C_u (λ_=>?_) (λ_=>?_)|refine B_h (λ_=>?_) (λ_=>?_))<;>first|(exfalso;omega)|skip))
 ·rename_i e1
  subst e1
  refine B_z H rfl ⟨?_,rfl⟩
  cases r with
  |zero=>rw[M_i,decide_eq_true rfl]
  |succ r=>rw[M_i,if_pos rfl]
 ·rename_i e2 e1
  subst e2
  refine B_z H rfl ⟨?_,rfl⟩
  cases r with
  |zero=>rw[M_i,decide_eq_false e1]
  |succ r=>rw[M_i,if_neg e1,if_pos rfl]
 ·rename_i e1 e2
  obtain⟨r,rfl⟩:∃q,r=q+1:=⟨r-1,by
   cases r with
   |zero=>exact absurd hu e2
   |succ r=>rfl⟩
  have hu:upN t.T r (match t.T i with|some x=>x.up|none=>i)=1:=hu
  rw[e] at hu
  have hf2:M_i t.T m (r+1) i=M_i t.T m r x.up:=by rw[M_i,if_neg e1,if_neg e2,e]
  refine t_mp A1 rfl ?_
  refine t_lk A1 e ?_
  repeat' (first|(with_reducible first|refine A_c ?_|refine C_g ?_))
  refine t_up A1 e rfl ?_
  obtain⟨y',q1,q2⟩:=W.up i x e k
  rw[hf,hf2] at ih
  rw[hf2]
  exact ih r (by omega) x.up _ w ⟨y',q1,q2⟩ hu rfl H
end Go.Proofs.YtnbnmojckhcdeaaGreatDoor.treeApart
