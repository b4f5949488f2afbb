import Derived.Test.YtnbnmojckhcdeaaGreatDoorTreeMovesTab
import Derived.Test.YtnbnmojckhcdeaaGreatDoorGevHos
import Derived.Test.YtnbnmojckhcdeaaGreatDoorGevFms
import Derived.Test.YtnbnmojckhcdeaaGreatDoorGevNm
import Derived.Test.YtnbnmojckhcdeaaGreatDoorGevCl
import Derived.KernelRfl
namespace Go.Proofs.YtnbnmojckhcdeaaGreatDoor.treeMoves
open Go Go.Gev
set_option linter.unusedVariables false
abbrev kI(n:Nat):Value:=.int .i64 (.ofNat n)
abbrev sV(D:List UInt8):Value:=.string ⟨D.toArray⟩
abbrev pV(b:Nat):Value:=.pointer (some ⟨b,0,none⟩)
abbrev Str:=List UInt8
structure Itm where
 k:Nat
 data:Str
 names:Str→Option Nat
 cnt:Nat
 up:Nat
 links:Int
abbrev Tm:=Nat→Option Itm
inductive Ro where
 |root
 |map
 |item (n:Nat)
 |nms (n:Nat)
 |dat (n:Nat)
structure Lay where
 q:Nat→Nat
 nb:Nat→Nat
 dv:Nat→Value
 ro:Nat→Option Ro
structure TS where
 p:Nat
 mb:Nat
 most:Nat
 T:Tm
 c:Nat
 L:Lay
 B:Nat
def nmV(L:Lay)(n:Nat)(x:Itm):Value:=.map (if x.k=2 then some (L.nb n) else none)
def rowI(L:Lay)(n:Nat)(x:Itm):List Value:=[kI x.k,L.dv n,nmV L n x,kI x.up,.int .i64 x.links]
abbrev dsT(x:Itm):List (List Value):=ones (B_9 x.data)
def DatAt(h:Hs)(dv:Value)(D:Str):Prop:=∃e fl,OwnSl h dv e 1 fl D.length (B_9 D)
theorem DatAt.congr{h u:Hs}{dv:Value}{D:Str}(A:DatAt h dv D)(hg:∀b,vId dv=some b→u.hp.get b=h.hp.get b):DatAt u dv D:=by
 obtain⟨e,fl,o⟩:=A
 exact⟨e,fl,o.congr hg⟩
theorem DatAt.rdS{h:Hs}{dv:Value}{D:Str}(A:DatAt h dv D):RdSl h dv 1 (ones (B_9 D))∧∀b,Th.id (.rsl dv 1 (ones (B_9 D)))=some b→vId dv=some b:=by
 obtain⟨e,fl,o⟩:=A
 exact o.rd1
structure ItAt (h:Hs) (L:Lay) (n:Nat) (x:Itm) (B:Nat):Prop where
 row:∃fl,Holds (h.hp.get (L.q n)) (.row 49 0 true fl (rowI L n x))
 ql:L.q n<h.nx
 rq:L.ro (L.q n)=some (.item n)
 nm:x.k=2→L.nb n<h.nx∧L.ro (L.nb n)=some (.nms n)∧∃es cl,Holds (h.hp.get (L.nb n)) (.mp es cl)∧MapC sV (λs=>(x.names s).map kI) x.cnt B es cl
 da:DatAt h (L.dv n) x.data
 rd:∀b,vId (L.dv n)=some b→b<h.nx∧L.ro b=some (.dat n)
structure TrAt (h:Hs) (t:TS):Prop where
 tr:∃rw fl,Holds (h.hp.get t.p) (.row 45 0 rw fl [kI t.most,.map (some t.mb)])
 pl:t.p<h.nx
 rp:t.L.ro t.p=some .root
 mp:∃es cl,Holds (h.hp.get t.mb) (.mp es cl)∧MapC kI (λn=>(t.T n).map λ_=>pV (t.L.q n)) t.c t.B es cl
 ml:t.mb<h.nx
 rm:t.L.ro t.mb=some .map
 it:∀n x,t.T n=some x→ItAt h t.L n x t.B
 fr:∀b,h.nx≤b→t.L.ro b=none
theorem ItAt.rdd{h:Hs}{L:Lay}{n B:Nat}{x:Itm}(A:ItAt h L n x B):Rd h (L.dv n) 1 (dsT x):=⟨A.da.rdS.1,λb hb=>(A.rd b (A.da.rdS.2 b hb)).1⟩
theorem ItAt.congr{h h':Hs}{L:Lay}{n B:Nat}{x:Itm}(A:ItAt h L n x B)(hn:h.nx≤h'.nx)(hg:∀b,b<h.nx→L.ro b≠none→h'.hp.get b=h.hp.get b):ItAt h' L n x B:=by
 refine⟨?_,llN A.ql hn,A.rq,λk=>?_,?_,λb hb=>⟨llN (A.rd b hb).1 hn,(A.rd b hb).2⟩⟩
 ·obtain⟨fl,r⟩:=A.row
  exact⟨fl,by rw[hg _ A.ql (by rw[A.rq];simp)];exact r⟩
 ·obtain⟨a,b,es,cl,r,M⟩:=A.nm k
  exact⟨llN a hn,b,es,cl,by rw[hg _ a (by rw[b];simp)];exact r,M⟩
 ·exact A.da.congr λb hb=>hg b (A.rd b hb).1 (by rw[(A.rd b hb).2];simp)
theorem TrAt.ext{h h':Hs}{t:TS}(A:TrAt h t)(hn:h.nx≤h'.nx)(hg:∀b,b<h.nx→t.L.ro b≠none→h'.hp.get b=h.hp.get b):TrAt h' t:=by
 obtain⟨rw',fl,tr⟩:=A.tr
 obtain⟨es,cl,mp,M⟩:=A.mp
 exact⟨⟨rw',fl,by rw[hg _ A.pl (by rw[A.rp];simp)];exact tr⟩,llN A.pl hn,A.rp,⟨es,cl,by rw[hg _ A.ml (by rw[A.rm];simp)];exact mp,M⟩,llN A.ml hn,A.rm,λn x e=>(A.it n x e).congr hn hg,λb hb=>A.fr b (lTr hn hb)⟩
theorem TrAt.sto{h0 u:Hs}{S:List Nat}{m:List Th}{t:TS}(A:TrAt h0 t)(H:Sto h0 S u m)(hS:∀s∈S,t.L.ro s=none):TrAt u t:=A.ext H.nx λb hb hr=>H.fr b hb λq=>hr (hS b q)
theorem TrAt.st{h0 u:Hs}{m:List Th}{t:TS}(A:TrAt h0 t)(H:Sto h0 [] u m):TrAt u t:=A.sto H λ_ q=>by cases q
theorem TrAt.mutS{h u:Hs}{S:List Nat}{t:TS}(A:TrAt h t)(M:MutS S h u)(hS:∀s∈S,t.L.ro s=none):TrAt u t:=A.ext M.1 λb hb hr=>M.2.1 b hb λq=>hr (hS b q)
theorem TrAt.en{h:Hs}{t:TS}(A:TrAt h t)(a:Nat):TrAt ⟨h.hp,h.nx,a⟩ t:=A.ext (lR _) λ_ _ _=>rfl
section
variable {Q:Value→Hs→Prop} {u hh:Hs} {t:TS} {K:Value→An} {F:KV} {n:Nat} {x:Itm}
theorem t_mp(A:TrAt u t)(hp:hh.hp.get t.p=u.hp.get t.p)(w:WP (K (.map (some t.mb))) Q):WP (kLoad (.pointer (some ⟨t.p,0+1,none⟩)) hh K) Q:=by
 obtain⟨_,_,tr⟩:=A.tr
 rw[tr.load (v:=.map (some t.mb)) rfl hh hp];exact w
theorem Aw4(A:TrAt u t)(hp:hh.hp.get t.p=u.hp.get t.p)(w:WP (K (kI t.most)) Q):WP (kLoad (.pointer (some ⟨t.p,0+0,none⟩)) hh K) Q:=by
 obtain⟨_,_,tr⟩:=A.tr
 rw[tr.load (v:=kI t.most) rfl hh hp];exact w
theorem t_it(A:TrAt u t)(hx:t.T n=some x)(i:Nat){v:Value}(hv:(rowI t.L n x)[i]?=some v)(hp:hh.hp.get (t.L.q n)=u.hp.get (t.L.q n))(w:WP (K v) Q):WP (kLoad (.pointer (some ⟨t.L.q n,i,none⟩)) hh K) Q:=by
 obtain⟨_,r⟩:=(A.it n x hx).row
 rw[r.load hv hh hp];exact w
theorem t_k(A:TrAt u t)(hx:t.T n=some x)(hp:hh.hp.get (t.L.q n)=u.hp.get (t.L.q n))(w:WP (K (kI x.k)) Q):WP (kLoad (.pointer (some ⟨t.L.q n,0+0,none⟩)) hh K) Q:=t_it A hx 0 rfl hp w
theorem t_dv(A:TrAt u t)(hx:t.T n=some x)(hp:hh.hp.get (t.L.q n)=u.hp.get (t.L.q n))(w:WP (K (t.L.dv n)) Q):WP (kLoad (.pointer (some ⟨t.L.q n,0+1,none⟩)) hh K) Q:=t_it A hx 1 rfl hp w
theorem t_nm(A:TrAt u t)(hx:t.T n=some x)(hk:x.k=2)(hp:hh.hp.get (t.L.q n)=u.hp.get (t.L.q n))(w:WP (K (.map (some (t.L.nb n)))) Q):WP (kLoad (.pointer (some ⟨t.L.q n,0+2,none⟩)) hh K) Q:=t_it A hx 2 (v:=.map (some (t.L.nb n))) (by show some (nmV t.L n x)=_;unfold nmV;rw[if_pos hk]) hp w
theorem t_up(A:TrAt u t)(hx:t.T n=some x)(hp:hh.hp.get (t.L.q n)=u.hp.get (t.L.q n))(w:WP (K (kI x.up)) Q):WP (kLoad (.pointer (some ⟨t.L.q n,0+3,none⟩)) hh K) Q:=t_it A hx 3 rfl hp w
theorem t_ln(A:TrAt u t)(hx:t.T n=some x)(hp:hh.hp.get (t.L.q n)=u.hp.get (t.L.q n))(w:WP (K (.int .i64 x.links)) Q):WP (kLoad (.pointer (some ⟨t.L.q n,0+4,none⟩)) hh K) Q:=t_it A hx 4 rfl hp w
theorem Bd0(A:TrAt u t)(n:Nat)(hp:hh.hp.get t.mb=u.hp.get t.mb):lk1 true hh (.pointer none) false (kI n) (.map (some t.mb))=some (match t.T n with|some _=>pV (t.L.q n)|none=>.pointer none):=by
 obtain⟨es,cl,hb,M⟩:=A.mp
 have hb:hh.hp.get t.mb=some (.mp es cl):=hp.trans hb
 rw[lkC w_w hb M]
 dsimp only
 cases t.T n<;>rfl
theorem t_lk(A:TrAt u t)(hx:t.T n=some x)(w:WP (F (pV (t.L.q n)) u) Q):WP (after F (ret1 u (lk1 true u (.pointer none) false (kI n) (.map (some t.mb))))) Q:=by
 rw[Bd0 A n rfl,hx];exact O_f rfl w
theorem BA8(A:TrAt u t)(hx:t.T n=none)(w:WP (F (.pointer none) u) Q):WP (after F (ret1 u (lk1 true u (.pointer none) false (kI n) (.map (some t.mb))))) Q:=by
 rw[Bd0 A n rfl,hx];exact O_f rfl w
def fdV:Option Nat→Value
 |some m=>.tuple #[kI m,.bool true]
 |none=>.tuple #[kI 0,.bool false]
theorem t_fd(A:TrAt u t)(hx:t.T n=some x)(hk:x.k=2){s:Str}(w:WP (F (fdV (x.names s)) u) Q):WP (after F (ret1 u (lk1 false u (kI 0) true (sV s) (.map (some (t.L.nb n)))))) Q:=by
 obtain⟨_,_,es,cl,hb,M⟩:=(A.it n x hx).nm hk
 refine O_f (v:=fdV (x.names s)) ?_ w
 rw[lkC Aj0 hb M]
 dsimp only
 cases x.names s<;>rfl
theorem Bp9(A:TrAt u t)(hx:t.T n=some x)(hk:x.k=2){s:Str}{m:Nat}(hs:x.names s=some m)(w:WP (F (kI m) u) Q):WP (after F (ret1 u (lk1 false u (kI 0) false (sV s) (.map (some (t.L.nb n)))))) Q:=by
 obtain⟨_,_,es,cl,hb,M⟩:=(A.it n x hx).nm hk
 refine O_f (v:=kI m) ?_ w
 rw[lkC Aj0 hb M]
 dsimp only
 rw[hs];rfl
theorem Bc9(A:TrAt u t)(hx:t.T n=some x)(hk:x.k=2)(w:WP (F (kI x.cnt) u) Q):WP (after F (ret1 u (maplen1 u (.map (some (t.L.nb n)))))) Q:=by
 obtain⟨_,_,es,cl,hb,M⟩:=(A.it n x hx).nm hk
 exact O_f (lenC hb M) w
end
def O_2:Str:=[108,111,115,116,43,102,111,117,110,100]
def findF(T:Tm)(d:Nat)(s:Str):Option Nat:=if d=1∧s=O_2 then some 2 else (T d).bind λx=>x.names s
def P_d(T:Tm)(d:Nat)(s:Str):Except Nat Nat:=match T d with
 |none=>.error 1
 |some x=>if x.k=2 then (if s = [46,46] then .ok x.up else match findF T d s with
  |some n=>.ok n
  |none=>.error 2) else .error 4
def upN(T:Tm):Nat→Nat→Nat
 |0,n=>n
 |j+1,n=>upN T j (match T n with|some x=>x.up|none=>n)
structure WF (T:Tm) (most:Nat):Prop where
 r1:∃x,T 1=some x∧x.k=2∧x.up=1
 r2:∃x,T 2=some x∧x.k=2∧x.up=1
 lo:∀n x,T n=some x→1≤n∧n≤most
 mo:most≤64
 kd:∀n x,T n=some x→x.k=1∨x.k=2∨x.k=3
 up:∀n x,T n=some x→x.k=2→∃y,T x.up=some y∧y.k=2
 nm:∀n x s m,T n=some x→x.names s=some m→x.k=2∧3≤m∧∃y,T m=some y
 rf:∀m x,T m=some x→3≤m→∃l:List (Nat × Str),l.Nodup∧(∀d s,(∃y,T d=some y∧y.names s=some m)↔(d,s)∈l)∧(x.k≠2→(l.length:Int)=x.links)∧(x.k=2→∃s,l = [(x.up,s)])
 lk:∀n x,T n=some x→0≤x.links∧x.links≤200
 l2:∀n x,T n=some x→x.k=2→x.links=0
 da:∀n x,T n=some x→x.data.length≤4096∧(x.k=3→1≤x.data.length∧x.data.length≤400)
 ac:∀n x,T n=some x→x.k=2→∃j,upN T j n=1
 ls:∀x,T 1=some x→x.names O_2=none
 nl:∀n x s m,T n=some x→x.names s=some m→s.length≤400
theorem Z_5{T:Tm}{most:Nat}(W:WF T most){d n:Nat}{s:Str}(h:findF T d s=some n):∃y,T n=some y:=by
 unfold findF at h
 split at h
 ·injection h with h;subst h
  obtain⟨x,h,_⟩:=W.r2
  exact⟨x,h⟩
 ·cases e:T d with
  |none=>rw[e] at h;cases h
  |some x=>rw[e] at h;exact(W.nm d x s n e h).2.2
theorem i_0{T:Tm}{most:Nat}(W:WF T most){d n:Nat}{s:Str}(h:P_d T d s=.ok n):∃y,T n=some y:=by
 unfold P_d at h
 cases e:T d with
 |none=>rw[e] at h;cases h
 | some x =>
  rw[e] at h
  dsimp only at h
  split at h
  ·rename_i hk
   split at h
   ·injection h with h;subst h
    obtain⟨y,h,_⟩:=W.up d x e hk
    exact⟨y,h⟩
   ·split at h
    ·rename_i m hm
     injection h with h;subst h
     exact Z_5 W hm
    ·cases h
  ·cases h
theorem j_w{Q:Value→Hs→Prop}{a b:List UInt8}{K:Value→An}(ht:a≠b→WP (K (.bool true)) Q)(hf:a=b→WP (K (.bool false)) Q):WP (obK K (s2 .neq (sV a) (sV b))) Q:=by
 by_cases e:a=b
 ·exact AQ9 e (hf e)
 ·refine w_ob (v:=.bool true) ?_ (ht e)
  show some (Value.bool (notB (eqL a.toArray.toList b.toArray.toList)))=_
  rw[U_j]
  have:(a==b)=false:=beq_eq_false_iff_ne.2 e
  simp[notB,this]
theorem W_a{Q:Value→Hs→Prop}{a b:List UInt8}{K:Value→An}(ht:a=b→WP (K (.bool true)) Q)(hf:a≠b→WP (K (.bool false)) Q):WP (obK K (s2 .eql (sV a) (sV b))) Q:=by
 by_cases e:a=b
 ·exact Be4 e (ht e)
 ·refine w_ob (v:=.bool false) ?_ (hf e)
  show some (Value.bool (eqL a.toArray.toList b.toArray.toList))=_
  rw[U_j]
  have:(a==b)=false:=beq_eq_false_iff_ne.2 e
  simp[this]
def fB(c:UInt8):Str→Option Nat
 |[]=>none
 |b::D=>if b=c then some 0 else (fB c D).map (· + 1)
theorem AD2(c:UInt8):∀(D:Str)(k:Nat),a_2 c.toNat D k=(fB c D).map (· + k):=by
 intro D
 induction D with
 |nil=>intro k;rfl
 | cons x D ih =>
  intro k
  show (match Nat.beq x.toNat c.toNat with|true=>some k|false=>a_2 c.toNat D (Nat.succ k))=(if x=c then some 0 else (fB c D).map (· + 1)).map (· + k)
  by_cases e:x=c
  ·subst e
   rw[Nat.beq_refl,if_pos rfl]
   show some k=some (0+k)
   rw[zaQ]
  ·have:Nat.beq x.toNat c.toNat=false:=by rw[Bool.eq_false_iff];exactλh=>e (UInt8.toNat_inj.1 (ebT h))
   rw[this,if_neg e]
   dsimp only
   rw[ih]
   cases fB c D with
   |none=>rfl
   |some i=>show some (i+(k+1))=some (i+1+k);congr 1;omega
theorem AN9{c:UInt8}:∀{D:Str},(fB c D).isSome=true↔c∈D:=by
 intro D
 induction D with
 |nil=>exact⟨λh=>(by cases h),λh=>(by cases h)⟩
 | cons x D ih =>
  show (if x=c then some 0 else (fB c D).map (· + 1)).isSome=true↔_
  by_cases e:x=c
  ·rw[if_pos e];exact⟨λ_=>by rw[e];exact mcS,λ_=>rfl⟩
  ·rw[if_neg e,Option.isSome_map,ih]
   exact⟨λh=>mcM _ h,λh=>by rcases mcQ.1 h with h|h;exact absurd h.symm e;exact h⟩
theorem By6{c:UInt8}:∀{D:Str}{i:Nat},fB c D=some i→i<D.length:=by
 intro D
 induction D with
 |nil=>intro i h;cases h
 | cons x D ih =>
  intro i h
  have h:(if x=c then some 0 else (fB c D).map (· + 1))=some i:=h
  split at h
  ·injection h with h;subst h;exact Nat.succ_pos _
  ·cases e:fB c D with
   |none=>rw[e] at h;cases h
   |some j=>rw[e] at h;injection h with h;subst h;exact Nat.succ_lt_succ (ih e)
def ixV(o:Option Nat):Value:=match o with
 |some i=>kI i
 |none=>.int .i64 (.negSucc 0)
theorem i_d(o:Option Nat):l_3 (ixV o)=true:=by cases o<;>rfl
theorem AV8{D:Str}{c:UInt8}:v_7 (sV D) (.int .u8 (.ofNat c.toNat))=some (ixV (fB c D)):=by
 have hc:=c.toNat_lt
 show (match Nat.ble c.toNat 255 with|true=>some (AV2 (a_2 c.toNat D.toArray.toList 0))|false=>none)=_
 rw[btL (by omega),ttA,AD2]
 cases fB c D<;>rfl
theorem r_x{Q:Value→Hs→Prop}{c:UInt8}{D:Str}{en:En}{h:Hs}{K:KV}(w:WP (K (.int .u8 (.ofNat c.toNat)) h) Q):WP (after K (e_d (.c (sV (c::D))) (.c (.int .i64 (.ofNat 0))) en h)) Q:=O_f rfl w
abbrev CIxB(R:RnK)(f:FuncId):Prop:=∀(D:Str)(c:UInt8)(h:Hs),R f [sV D,.int .u8 (.ofNat c.toNat)] h=some (.val (ixV (fB c D)) h)
abbrev CIx(R:RnK)(f:FuncId):Prop:=∀(D:Str)(c:UInt8)(h:Hs),D.length≤100000→R f [sV D,sV [c]] h=some (.val (ixV (fB c D)) h)
theorem AV9{R:RnK}{N:Nat}{D:Str}{c:UInt8}{h:Hs}:r109 R N [sV D,.int .u8 (.ofNat c.toNat)] h=some (.val (ixV (fB c D)) h):=by
 have H:=Sto.enter h
 refine WP.eqn ?_
 unfold r109
 refine H_i ?_
 refine H_i ?_
 refine H_1 ?_
 refine O_f AV8 ?_
 exact E_z H (i_d _) ⟨rfl,rfl⟩
theorem AE7{R:RnK}{N:Nat}(cb:CIxB R 109){D:Str}{c:UInt8}{h:Hs}(hD:D.length≤100000):r107 R N [sV D,sV [c]] h=some (.val (ixV (fB c D)) h):=by
 have H:=Sto.enter h
 have l1:[c].length=1:=rfl
 refine WP.eqn ?_
 by_cases e0:[c]=D
 ·unfold r107
  repeat' (first|(with_reducible first|refine U_5 ?_|refine w_jn ?_|refine R_m ?_|refine H_i ?_|refine H_1 ?_)|((with_reducible refine G_h (λ_=>?_) (λ_=>?_))<;>first|(exfalso;omega)|skip))
  refine Be4 e0 ?_
  repeat' (first|(with_reducible first|refine w_jn ?_|refine F_2 ?_|refine G_t ?_))
  exact E_z H rfl ⟨by rw[←e0];show _=ixV (if c=c then some 0 else _);rw[if_pos rfl];rfl,rfl⟩
 ·unfold r107
  repeat' (first|(with_reducible first|refine U_5 ?_|refine w_jn ?_|refine R_m ?_|refine H_i ?_|refine H_1 ?_)|((with_reducible refine G_h (λ_=>?_) (λ_=>?_))<;>first|(exfalso;omega)|skip))
  refine W_a (λe=>absurd e e0) (λ_=>?_)
  repeat' (first|(with_reducible first|refine w_jn ?_|refine F_2 ?_|refine E_k ?_|refine G_t ?_)|((with_reducible refine G_h (λ_=>?_) (λ_=>?_))<;>first|(exfalso;omega)|skip))
  refine r_x ?_
  refine E_b (cb D c _) ?_
  exact E_z H (i_d _) ⟨rfl,rfl⟩
theorem Ar1{R:RnK}{N:Nat}(cb:CIx R 107){D:Str}{c:UInt8}{h:Hs}(hD:D.length≤100000):r101 R N [sV D,sV [c]] h=some (.val (ixV (fB c D)) h):=by
 refine WP.eqn ?_
 have H:=Sto.enter h
 unfold r101
 repeat' (first|(with_reducible first|refine H_i ?_|refine H_1 ?_))
 refine E_b (cb D c _ hD) ?_
 exact E_z H (i_d _) ⟨rfl,rfl⟩
def CContains(R:RnK):Prop:=∀(D:Str)(c:UInt8)(h:Hs),D.length≤100000→R 88 [sV D,sV [c]] h=some (.val (.bool (decide (c∈D))) h)
theorem o_g{R:RnK}{N:Nat}(cb:CIx R 101){D:Str}{c:UInt8}{h:Hs}(hD:D.length≤100000):r88 R N [sV D,sV [c]] h=some (.val (.bool (decide (c∈D))) h):=by
 refine WP.eqn ?_
 have H:=Sto.enter h
 unfold r88
 repeat' (first|(with_reducible first|refine H_i ?_|refine H_1 ?_))
 refine E_b (cb D c _ hD) ?_
 cases e:fB c D with
 |some i=>
  have hm:c∈D:=AN9.1 (by rw[e];rfl)
  unfold ixV
  repeat' (first|((with_reducible refine u_m (λ_=>?_) (λ_=>?_))<;>first|(exfalso;omega)|skip))
  exact E_z H rfl ⟨by rw[decide_eq_true hm],rfl⟩
 |none=>
  have hm:c∉D:=λq=>by have:=AN9.2 q;rw[e] at this;cases this
  unfold ixV
  repeat' (first|((with_reducible refine u_l (λ_=>?_) (λ_=>?_))<;>first|(exfalso;omega)|skip))
  exact E_z H rfl ⟨by rw[decide_eq_false hm],rfl⟩
def named(D:Str):Prop:=1≤D.length∧D.length≤40∧D ≠ [46]∧D ≠ [46,46]∧(47:UInt8)∉D∧(0:UInt8)∉D
instance (D:Str):Decidable (named D):=inferInstanceAs (Decidable (_∧_∧_∧_∧_∧_))
def CName(R:RnK):Prop:=∀(D:Str)(h:Hs),D.length≤100000→R 64 [sV D] h=some (.val (.bool (decide (named D))) h)
theorem AY5{R:RnK}{N:Nat}(cc:CContains R){D:Str}{h:Hs}(hD:D.length≤100000):r64 R N [sV D] h=some (.val (.bool (decide (named D))) h):=by
 refine WP.eqn ?_
 have H:=Sto.enter h
 have c1:∀u,R 88 [sV D,.string ⟨#[47]⟩] u=some (.val (.bool (decide ((47:UInt8)∈D))) u):=λu=>cc D 47 u hD
 have c2:∀u,R 88 [sV D,.string ⟨#[0]⟩] u=some (.val (.bool (decide ((0:UInt8)∈D))) u):=λu=>cc D 0 u hD
 have l0:D ≠ []→1≤D.length:=λe=>by
  cases D with
  |nil=>exact absurd rfl e
  |cons x D=>exact Nat.succ_pos _
 unfold r64
 repeat' (first|(with_reducible first|refine H_i ?_|refine H_1 ?_))
 refine j_w (b:=[]) (λe0=>?_) (λe0=>?_)
 ·repeat' (first|(with_reducible first|refine U_5 ?_|refine N_k ?_|refine U_3 ?_|refine G_7 ?_|refine G_t ?_)|((with_reducible refine u_p (λ_=>?_) (λ_=>?_))<;>first|(exfalso;omega)|skip))
  ·refine j_w (b:=[46]) (λe1=>?_) (λe1=>?_)
   ·repeat' (first|(with_reducible first|refine N_k ?_|refine G_7 ?_))
    refine j_w (b:=[46,46]) (λe2=>?_) (λe2=>?_)
    ·repeat' (first|((refine j_h (c1 _) (λ_=>?_) (λ_=>?_))<;>first|(exfalso;omega)|skip))
     ·dsimp only[ev]
      repeat' (first|(with_reducible first|refine N_k ?_|refine U_3 ?_|refine G_7 ?_|refine G_t ?_|refine Z_q ?_))
      exact E_z H rfl ⟨by rw[decide_eq_false λq=>absurd (by assumption) q.2.2.2.2.1],rfl⟩
     ·dsimp only[ev]
      repeat' (first|((refine j_h (c2 _) (λ_=>?_) (λ_=>?_))<;>first|(exfalso;omega)|skip))
      ·dsimp only[ev]
       repeat' (first|(with_reducible first|refine N_k ?_|refine G_7 ?_|refine Z_q ?_))
       exact E_z H rfl ⟨by rw[decide_eq_false λq=>absurd (by assumption) q.2.2.2.2.2],rfl⟩
      ·dsimp only[ev]
       repeat' (first|(with_reducible first|refine N_k ?_|refine G_7 ?_|refine u_q ?_))
       exact E_z H rfl ⟨by rw[decide_eq_true ⟨l0 e0,by omega,e1,e2,by assumption,by assumption⟩],rfl⟩
    ·repeat' (first|(with_reducible first|refine U_3 ?_|refine G_7 ?_|refine G_t ?_))
     exact E_z H rfl ⟨by rw[decide_eq_false λq=>q.2.2.2.1 e2],rfl⟩
   ·repeat' (first|(with_reducible first|refine U_3 ?_|refine G_7 ?_|refine G_t ?_))
    exact E_z H rfl ⟨by rw[decide_eq_false λq=>q.2.2.1 e1],rfl⟩
  ·exact E_z H rfl ⟨by rw[decide_eq_false λq=>by have:=q.2.1;omega],rfl⟩
 ·repeat' (first|(with_reducible first|refine U_3 ?_|refine G_t ?_))
  exact E_z H rfl ⟨by rw[decide_eq_false λq=>by have:=q.1;rw[e0] at this;cases this],rfl⟩
def spl(c:UInt8):Str→List Str
 |[]=>[[]]
 |b::D=>if b=c then []::spl c D else match spl c D with
  |[]=>[[b]]
  |x::l=>(b::x)::l
theorem V_s(c b:UInt8)(D:Str):spl c (b::D)=if b=c then []::spl c D else match spl c D with
 |[]=>[[b]]
 |x::l=>(b::x)::l:=rfl
theorem n_w(c:UInt8):∀D:Str,∃x l,spl c D=x::l:=by
 intro D
 cases D with
 |nil=>exact⟨_,_,rfl⟩
 |cons b D=>
  rw[V_s]
  by_cases e:b=c
  ·rw[if_pos e];exact⟨_,_,rfl⟩
  ·rw[if_neg e];cases spl c D<;>exact⟨_,_,rfl⟩
theorem t_6{c:UInt8}:∀{D:Str},fB c D=none→spl c D = [D]:=by
 intro D
 induction D with
 |nil=>intro _;rfl
 | cons b D ih =>
  intro h
  have h:(if b=c then some 0 else (fB c D).map (· + 1))=none:=h
  split at h
  ·cases h
  ·rename_i ne
   have:fB c D=none:=by cases e:fB c D with
    |none=>rfl
    |some i=>rw[e] at h;cases h
   rw[V_s]
   rw[if_neg ne,ih this]
theorem t_9{c:UInt8}:∀{D:Str}{i:Nat},fB c D=some i→spl c D=D.take i::spl c (D.drop (i+1)):=by
 intro D
 induction D with
 |nil=>intro i h;cases h
 | cons b D ih =>
  intro i h
  have h:(if b=c then some 0 else (fB c D).map (· + 1))=some i:=h
  rw[V_s]
  split at h
  ·rename_i e
   injection h with h;subst h
   rw[if_pos e];rfl
  ·rename_i ne
   rw[if_neg ne]
   cases e:fB c D with
   |none=>rw[e] at h;cases h
   |some j=>
    rw[e] at h;injection h with h;subst h
    rw[ih e];rfl
theorem Bc6(c:UInt8):∀(D:Str)(n:Nat),countB c.toNat D n+1=n+(spl c D).length:=by
 intro D
 induction D with
 |nil=>intro n;rfl
 | cons b D ih =>
  intro n
  show (match Nat.beq b.toNat c.toNat with|true=>countB c.toNat D (Nat.succ n)|false=>countB c.toNat D n)+1=_
  rw[V_s]
  by_cases e:b=c
  ·subst e
   rw[Nat.beq_refl,if_pos rfl]
   dsimp only
   rw[ih,lcQ];omega
  ·have:Nat.beq b.toNat c.toNat=false:=by rw[Bool.eq_false_iff];exactλh=>e (UInt8.toNat_inj.1 (ebT h))
   rw[this,if_neg e]
   dsimp only
   rw[ih]
   obtain⟨x,l,q⟩:=n_w c D
   rw[q];rfl
theorem r_c(c:UInt8):∀D:Str,(spl c D).length≤D.length+1:=by
 intro D
 induction D with
 |nil=>exact lR _
 | cons b D ih =>
  rw[V_s]
  by_cases e:b=c
  ·rw[if_pos e,lcQ,lcQ];omega
  ·rw[if_neg e]
   obtain⟨x,l,q⟩:=n_w c D
   rw[q] at ih ⊢
   rw[lcQ] at *
   rw[lcQ];omega
theorem t_8(c:UInt8):∀(D x:Str),x∈spl c D→x.length≤D.length:=by
 intro D
 induction D with
 |nil=>intro x h;rw[msQ.1 h];exact lR _
 | cons b D ih =>
  intro x h
  rw[V_s] at h
  rw[lcQ]
  split at h
  ·rcases mcQ.1 h with rfl|h
   ·exact Nat.zero_le _
   ·have:=ih x h;omega
  ·obtain⟨y,l,q⟩:=n_w c D
   rw[q] at h ih
   rcases mcQ.1 h with rfl|h
   ·have:=ih y mcS;rw[lcQ];omega
   ·have:=ih x (mcM _ h);omega
def CCount(R:RnK):Prop:=∀(D:Str)(c:UInt8)(h:Hs),R 100 [sV D,sV [c]] h=some (.val (kI ((spl c D).length-1)) h)
theorem AB5{R:RnK}{N:Nat}{D:Str}{c:UInt8}{h:Hs}:r100 R N [sV D,sV [c]] h=some (.val (kI ((spl c D).length-1)) h):=by
 have H:=Sto.enter h
 have l1:[c].length=1:=rfl
 have hc:=c.toNat_lt
 refine WP.eqn ?_
 unfold r100
 repeat' (first|(with_reducible first|refine U_5 ?_|refine w_jn ?_|refine F_2 ?_|refine E_k ?_|refine H_i ?_|refine H_1 ?_)|((with_reducible refine G_h (λ_=>?_) (λ_=>?_))<;>first|(exfalso;omega)|skip))
 refine r_x ?_
 refine O_f (v:=kI ((spl c D).length-1)) ?_ ?_
 ·show (match Nat.ble c.toNat 255 with|true=>some (kI (countB c.toNat D.toArray.toList 0))|false=>none)=_
  rw[btL (by omega),ttA]
  have:=Bc6 c D 0
  rw[show countB c.toNat D 0=(spl c D).length-1 by omega]
 exact E_z H rfl ⟨rfl,rfl⟩
theorem extract_drop(D:Str)(n:Nat):(ByteArray.mk D.toArray).extract n D.length=⟨(D.drop n).toArray⟩:=by
 apply ByteArray.ext
 apply Array.ext'
 simp[ByteArray.extract,ByteArray.copySlice]
 rw[List.take_of_length_le (by simp)]
theorem u_j{Q:Value→Hs→Prop}{h:Hs}{D:Str}{n:Nat}{en:En}{k:IntKind}{K:KV}(hn:n≤D.length)(w:WP (K (sV (D.drop n)) h) Q):WP (after K (Q_t (.c (sV D)) (some (.c (.int k (.ofNat n)))) none en h)) Q:=by
 have hs:(ByteArray.mk D.toArray).size=D.length:=by show D.toArray.size=_;simp
 refine O_f (v:=sV (D.drop n)) ?_ w
 show cutstr2 en ⟨D.toArray⟩ (some (.c (.int k (.ofNat n)))) (some (ByteArray.mk D.toArray).size)=_
 rw[hs]
 show (match bnd en 0 D.length (some (.c (.int k (.ofNat n)))) with|none=>none|some l=>some (Value.string ((ByteArray.mk D.toArray).extract l D.length)))=_
 rw[show bnd en 0 D.length (some (GX.c (Value.int k (Int.ofNat n))))=some n from by
  show (match Nat.ble n D.length with|true=>some n|false=>none)=some n
  rw[btL hn]]
 dsimp only
 rw[extract_drop]
theorem AN0{Q:Value→Hs→Prop}{h:Hs}{b n u:Nat}{en:En}{k:IntKind}{K:KV}(w:WP (K (.slice (some ⟨b,0,none⟩) n n) h) Q):WP (after K (L_2 u (.c (.slice (some ⟨b,0,none⟩) n n)) none (some (.c (.int k (.ofNat n)))) none en h)) Q:=by
 refine O_f (v:=.slice (some ⟨b,0,none⟩) n n) ?_ w
 have hb:top1 n (J_4 (.int k (.ofNat n)))=some n:=R_g (lR n)
 simp only[slice1,slice2,slice3,cutA,cutB,ev,bnd,hb]
theorem Ar0{A:List Value}{z v:Value}{k:Nat}:(A++List.replicate (k+1) z).set A.length v=(A ++ [v])++List.replicate k z:=by
 rw[List.set_append,if_neg (Nat.lt_irrefl _),Nat.sub_self,List.replicate_succ,scZ,List.append_assoc];rfl
theorem Bo0:∀n:Nat,rep [sV []] n=List.replicate n (sV []):=by
 intro n
 induction n with
 |zero=>rfl
 |succ n ih=>rw[rep,ih];rfl
abbrev strs(l:List Str):List Value:=l.map sV
theorem Aw3(l:List Str):F_e (strs l)=true:=by
 induction l with
 |nil=>rfl
 |cons x l ih=>exact ih
abbrev NewS(h h':Hs)(v:Value)(l:List Str):Prop:=New h h' (.osl v 9 1 true l.length (strs l))
abbrev CSplitB(R:RnK):Prop:=∀(D:Str)(c:UInt8)(h:Hs),D.length≤50000→WP (R 87 [sV D,sV [c],kI 0,.int .i64 (.negSucc 0)] h) (λv h'=>NewS h h' v (spl c D))
theorem o_6{R:RnK}{N:Nat}(hN:100000<N)(ci:CIx R 101)(cc:CCount R){D:Str}{c:UInt8}{h:Hs}(hD:D.length≤50000):WP (r87 R N [sV D,sV [c],kI 0,.int .i64 (.negSucc 0)] h) (λv h'=>NewS h h' v (spl c D)):=by
 have H:=Sto.enter h
 have l1:[c].length=1:=rfl
 have sl:=r_c c D
 obtain⟨x0,l0,q0⟩:=n_w c D
 have sp:1≤(spl c D).length:=by rw[q0];exact Nat.succ_pos _
 clear q0
 unfold r87
 repeat' (first|(with_reducible first|refine w_jn ?_|refine E_k ?_|refine H_i ?_|refine H_1 ?_)|((with_reducible refine u_k (λ_=>?_) (λ_=>?_))<;>first|(exfalso;omega)|skip))
 refine W_a (a:=[c]) (b:=[]) (λe=>by cases e) λ_=>?_
 repeat' (first|(refine E_b (cc D c _) ?_)|(with_reducible first|refine U_5 ?_|refine w_jn ?_|refine j_t ?_)|((with_reducible refine n_z H ?_ ?_ ?_) ;omega;rfl;(clear H;intro u H hu))|((with_reducible refine H_6 ?_ ?_) ;omega)|((with_reducible refine Q_9 ?_ ?_ ?_) ;omega;omega))
 rw[show min ((spl c D).length-1+1) (D.length+1)=(spl c D).length by omega]
 rw[Bo0,show min ((spl c D).length-1+1) (D.length+1)=(spl c D).length by omega] at H
 refine V_1 (Good:=λr (self:L5)=>∀(cur:Str)(i:Nat)(y1 y2 y3:Value)(w:Hs)(done:List Str),i+r=(spl c D).length-1→done.length=i→spl c D=done++spl c cur→cur.length≤D.length →
  Sto h [] w [.blk h.nx (.row 9 1 true true (strs done++List.replicate ((spl c D).length-i) (sV [])))]→WP (self (sV cur) (kI i) y1 y2 y3 w) (λv h'=>NewS h h' v (spl c D)))
  (λr self ih cur i y1 y2 y3 w done hi hd hs hc H1=>?_) N ((spl c D).length-1) (by omega) D 0 _ _ _ _ [] (by omega) rfl rfl (lR _) H
 clear H
 have H:=H1
 clear H1
 have hl:(strs done++List.replicate ((spl c D).length-i) (sV [])).length=(spl c D).length:=by
  rw[List.length_append,lmQ,List.length_replicate,hd];omega
 repeat' (first|(with_reducible first|refine w_jn ?_|refine F_2 ?_|refine E_k ?_)|((with_reducible refine J_c (λ_=>?_) (λ_=>?_))<;>first|(exfalso;omega)|skip))
 ·refine E_b (ci cur c _ (by omega)) ?_
  cases e:fB c cur with
  |none=>
   have hs:=hs
   rw[t_6 e] at hs
   have:=congrArg List.length hs
   rw[List.length_append,hd] at this
   exfalso
   have t1:[cur].length=1:=rfl
   omega
  |some j=>
   have jl:=By6 e
   unfold ixV
   repeat' (first|(with_reducible first|refine w_jn ?_|refine E_k ?_)|((with_reducible refine J_c (λ_=>?_) (λ_=>?_))<;>first|(exfalso;omega)|skip)|((with_reducible refine H_6 ?_ ?_) ;omega))
   refine Bd8 (by omega) ?_
   rw[Nat.add_zero]
   refine Bd9 (by omega) ?_
   refine Y_b 0 H rfl (by rw[hl];omega) rfl λu2 H2 hu2=>?_
   clear H
   have H:=H2
   clear H2
   dsimp only[scZ] at H
   rw[zaQ,Nat.mul_one,←hd,show done.length=(strs done).length from (lmQ _).symm,show (spl c D).length-(strs done).length=(spl c D).length-(i+1)+1 by rw[lmQ,hd];omega,Ar0] at H
   repeat' (first|(with_reducible refine U_5 ?_)|((with_reducible refine H_6 ?_ ?_) ;omega))
   refine u_j (by rw[l1];omega) ?_
   repeat' (first|((with_reducible refine H_6 ?_ ?_) ;omega))
   refine ih (r-1) (by omega) (cur.drop (j+1)) (i+1) _ _ _ u2 (done ++ [cur.take j]) (by omega) (by rw[List.length_append,hd];rfl) (by rw[hs,t_9 e,List.append_assoc];rfl) (by rw[List.length_drop];omega) ?_
   have:strs (done ++ [cur.take j])=strs done ++ [sV (cur.take j)]:=by unfold strs;rw[List.map_append];rfl
   rw[this]
   exact H
 ·have hs:=hs
  have e:fB c cur=none:=by
   cases e:fB c cur with
   |none=>rfl
   |some j=>
    exfalso
    rw[t_9 e] at hs
    obtain⟨x,l,q⟩:=n_w c (cur.drop (j+1))
    rw[q] at hs
    have:=congrArg List.length hs
    rw[List.length_append,hd,lcQ,lcQ] at this
    omega
  rw[t_6 e] at hs
  refine Bd9 (by omega) ?_
  refine Y_b 0 H rfl (by rw[hl];omega) rfl λu2 H2 hu2=>?_
  clear H
  have H:=H2
  clear H2
  dsimp only[scZ] at H
  rw[zaQ,Nat.mul_one,←hd,show done.length=(strs done).length from (lmQ _).symm,show (spl c D).length-(strs done).length=0+1 by rw[lmQ,hd];omega,Ar0,List.replicate_zero,List.append_nil,show strs done ++ [sV cur]=strs (spl c D) by rw[hs];unfold strs;rw[List.map_append];rfl] at H
  repeat' (first|((with_reducible refine H_6 ?_ ?_) ;omega))
  rw[show i+1=(spl c D).length by omega]
  refine AN0 ?_
  have H2:=H.osl 0 rfl (n:=(spl c D).length) (c:=(spl c D).length) (by unfold strs;rw[lmQ,Nat.mul_one]) (lR _)
  exact Ay7 0 H2 rfl λv' h' n=>n
def CSplit(R:RnK):Prop:=∀(D:Str)(c:UInt8)(h:Hs),D.length≤50000→WP (R 63 [sV D,sV [c]] h) (λv h'=>NewS h h' v (spl c D))
theorem Av3{R:RnK}{N:Nat}(cg:CSplitB R){D:Str}{c:UInt8}{h:Hs}(hD:D.length≤50000):WP (r63 R N [sV D,sV [c]] h) (λv h'=>NewS h h' v (spl c D)):=by
 have H:=Sto.enter h
 unfold r63
 repeat' (first|(with_reducible first|refine H_i ?_|refine H_1 ?_))
 refine G_b (cg D c _ hD) λv u n=>?_
 have H2:=H.call n
 exact Ay7 0 H2 rfl λv' h' n=>n
section
variable {Q:Value→Hs→Prop} {h0 h:Hs} {S:List Nat} {m:List Th}
theorem Bq6(k:Nat){hh:Hs}{v:Value}{e n i:Nat}{fl:Bool}{L:List Value}{x:Value}{K:Value→An}(H:Sto h0 S h m)(hk:m[k]?=some (.osl v e 1 fl n L))(hi:L[i]?=some x)(hp:hh.hp=h.hp)(w:WP (K x) Q):WP (L_x 1 v (.int .i64 (.ofNat i)) (λp=>kLoad p hh K)) Q:=
 Ay8 k H hk hi λb o _ ld=>by rw[ld hh (by rw[hp])];exact w
theorem BC7(k:Nat){v:Value}{e n hh:Nat}{fl:Bool}{L:List Value}{en:En}{kd:IntKind}{K:KV}(H:Sto h0 S h m)(hk:m[k]?=some (.osl v e 1 fl n L))(hl:hh≤n)(kk:∀v',Sto h0 S h (m.set k (.osl v' e 1 fl hh (L.take hh)))→WP (K v' h) Q) :
 WP (after K (L_2 1 (.c v) none (some (.c (.int kd (.ofNat hh)))) none en h)) Q:=by
 obtain⟨ll,o⟩:=H.ok _ (mgE hk)
 have ld:=H.ids _ (mgE hk)
 have re:∀v',OwnSl h v' e 1 fl hh (L.take hh)→(∀b,vId v'=some b→vId v=some b)→Sto h0 S h (m.set k (.osl v' e 1 fl hh (L.take hh))):=λv' o' hv=>by
  refine⟨H.nx,H.fr,H.lo,λt ht=>?_,λt ht b hb=>?_,H.chg,λi j s t hi hj hij he b hb=>?_⟩
  ·obtain⟨i,hi⟩:=List.getElem?_of_mem ht
   rcases S_g hi with⟨rfl,rfl⟩|⟨_,hi⟩
   ·exact o'
   ·exact H.ok t (mgE hi)
  ·obtain⟨i,hi⟩:=List.getElem?_of_mem ht
   rcases S_g hi with⟨rfl,rfl⟩|⟨_,hi⟩
   ·exact ld b (hv b hb)
   ·exact H.ids t (mgE hi) b hb
  ·rcases S_g hi with⟨e1,q1⟩|⟨e1,hi'⟩<;>rcases S_g hj with⟨e2,q2⟩|⟨e2,hj'⟩
   ·exact absurd (e1.trans e2.symm) hij
   ·subst e1 q1;exact H.dj i j _ t hk hj' hij rfl b (hv b hb)
   ·subst e2 q2;exactλhb2=>H.dj i j s _ hi' hk hij he b hb (hv b hb2)
   ·exact H.dj i j s t hi' hj' hij he b hb
 rcases o with⟨rfl,rfl⟩|⟨id,c,cs,sz,f,rfl,hc,hb,hf,hsz,hg⟩
 ·have:hh=0:=by omega
  subst this
  have hb:top1 0 (J_4 (.int kd (.ofNat 0)))=some 0:=R_g (lR 0)
  refine O_f (v:=.slice none 0 0) ?_ (kk _ (re _ ⟨by simp,.inl ⟨rfl,rfl⟩⟩ λb hb=>by cases hb))
  simp only[slice1,slice2,slice3,cutA,ev,bnd,hb]
 ·have hb2:top1 c (J_4 (.int kd (.ofNat hh)))=some hh:=R_g (lTr hl hc)
  refine O_f (v:=.slice (some ⟨id,0,none⟩) hh c) ?_ (kk _ (re _ ⟨by rw[List.length_take];omega,.inr ⟨id,c,cs,sz,f,rfl,by omega,hb,hf,by rw[List.length_take];omega,λi hi=>?_⟩⟩ λb hb=>hb))
  ·simp only[slice1,slice2,slice3,cutA,cutB,ev,bnd,hb2]
  ·rw[List.length_take] at hi
   rw[List.getElem?_take_of_lt (by omega)]
   exact hg i (by omega)
end
def okB(p:Str):Bool:=decide (p = []∨p = [46]∨p = [46,46]∨named p)
def R_4(p:Str):Bool:=decide (p ≠ []∧p ≠ [46])
def M_x(D:Str):Except Nat (List Str):=if D = [] then .error 1 else if 400<D.length then .error 8 else if (spl 47 D).all okB=true then .ok ((spl 47 D).filter R_4) else .error 8
def SplQ(h:Hs)(r:Except Nat (List Str))(v:Value)(h':Hs):Prop:=match r with
 |.error e=>v=.tuple #[.slice none 0 0,kI e]∧h'=h
 |.ok l=>∃s,v=.tuple #[s,kI 0]∧NewS h h' s l
def CPSplit(R:RnK):Prop:=∀(D:Str)(h:Hs),D.length≤50000→WP (R 55 [sV D] h) (SplQ h (M_x D))
theorem Ap5{R:RnK}{N:Nat}(hN:100000<N)(cs:CSplit R)(cn:CName R){D:Str}{h:Hs}(hD:D.length≤50000):WP (r55 R N [sV D] h) (SplQ h (M_x D)):=by
 have H:=Sto.enter h
 unfold r55
 repeat' (first|(with_reducible first|refine w_jn ?_|refine H_i ?_|refine H_1 ?_))
 refine W_a (b:=[]) (λe=>?_) λe=>?_
 ·repeat' (first|(with_reducible first|refine w_jn ?_|refine F_2 ?_))
  exact E_z H rfl (by unfold M_x;rw[if_pos e];exact⟨rfl,rfl⟩)
 repeat' (first|(with_reducible first|refine U_5 ?_|refine w_jn ?_|refine F_2 ?_|refine E_k ?_)|((with_reducible refine O_n (λ_=>?_) (λ_=>?_))<;>first|(exfalso;omega)|skip))
 ·refine E_z H rfl (by unfold M_x;rw[if_neg e,if_pos (by assumption)];exact⟨rfl,rfl⟩)
 rename_i hlen
 refine G_b (cs D 47 _ hD) λv u n=>?_
 have hp:M_x D=if (spl 47 D).all okB=true then .ok ((spl 47 D).filter R_4) else .error 8:=by unfold M_x;rw[if_neg e,if_neg hlen]
 have sl:=r_c 47 D
 have spt:=t_8 47 D
 rw[hp]
 generalize spl 47 D=P at *
 replace H:=(H.call n).nilS 9 1
 refine Ay9 1 H rfl ?_
 repeat' (first|(with_reducible refine w_jn ?_))
 refine V_1 (Good:=λr (self:L8)=>∀(i:Nat)(y1 y2 y3 y4 out y6 y7:Value)(w:Hs),i+r=P.length→(P.take i).all okB=true→Sto h [] w [.osl out 9 1 true ((P.take i).filter R_4).length (strs ((P.take i).filter R_4)),.osl v 9 1 true P.length (strs P)] →
  WP (self (kI i) y1 y2 y3 y4 out y6 y7 w) (SplQ h (if P.all okB=true then .ok (P.filter R_4) else .error 8)))
  (λr self ih i y1 y2 y3 y4 out y6 y7 w hi ha H1=>?_) N P.length (by omega) 0 _ _ _ _ _ _ _ _ (by omega) rfl H
 clear H
 have H:=H1
 clear H1
 repeat' (first|(with_reducible first|refine w_jn ?_|refine F_2 ?_|refine E_k ?_)|((with_reducible refine J_c (λ_=>?_) (λ_=>?_))<;>first|(exfalso;omega)|skip))
 ·have il:i<P.length:=by omega
  refine Bq6 1 H rfl (x:=sV P[i]) (by unfold strs;rw[List.getElem?_map,gqG il];rfl) rfl ?_
  have tk:P.take (i+1)=P.take i ++ [P[i]]:=by rw[List.take_add_one,gqG il];rfl
  have pl:=spt _ (List.getElem_mem il)
  have pm:=List.getElem_mem il
  generalize P[i]=p at *
  have go:∀(out' a1 a2 a3 a4 a6 a7:Value)(w':Hs),okB p=true→Sto h [] w' [.osl out' 9 1 true ((P.take (i+1)).filter R_4).length (strs ((P.take (i+1)).filter R_4)),.osl v 9 1 true P.length (strs P)]→WP (self (kI (i+1)) a1 a2 a3 a4 out' a6 a7 w') (SplQ h (if P.all okB=true then .ok (P.filter R_4) else .error 8)):=λout' a1 a2 a3 a4 a6 a7 w' ok H'=>
   ih (r-1) (by omega) (i+1) a1 a2 a3 a4 out' a6 a7 w' (by omega) (by rw[tk,List.all_append,ha];simp[ok]) H'
  have sk:R_4 p=false→(P.take (i+1)).filter R_4=(P.take i).filter R_4:=λq=>by rw[tk,List.filter_append];simp[q]
  repeat' (first|(with_reducible refine w_jn ?_))
  refine W_a (b:=[]) (λe1=>?_) λe1=>?_
  ·repeat' (first|(with_reducible first|refine w_jn ?_|refine F_2 ?_)|((with_reducible refine H_6 ?_ ?_) ;omega))
   exact go out _ _ _ _ _ _ w (by unfold okB;exact decide_eq_true (.inl e1)) (by rw[sk (by unfold R_4;exact decide_eq_false λq=>q.1 e1)];exact H)
  repeat' (first|(with_reducible first|refine w_jn ?_|refine E_k ?_))
  refine W_a (b:=[46]) (λe2=>?_) λe2=>?_
  ·repeat' (first|(with_reducible first|refine w_jn ?_|refine F_2 ?_)|((with_reducible refine H_6 ?_ ?_) ;omega))
   exact go out _ _ _ _ _ _ w (by unfold okB;exact decide_eq_true (.inr (.inl e2))) (by rw[sk (by unfold R_4;exact decide_eq_false λq=>q.2 e2)];exact H)
  repeat' (first|(with_reducible first|refine w_jn ?_|refine E_k ?_))
  have kp:R_4 p=true:=by unfold R_4;exact decide_eq_true ⟨e1,e2⟩
  have tf:(P.take (i+1)).filter R_4=(P.take i).filter R_4 ++ [p]:=by rw[tk,List.filter_append];simp[kp]
  have fl:((P.take i).filter R_4).length≤50001:=by
   have:=List.length_filter_le R_4 (P.take i)
   rw[List.length_take] at this
   omega
  refine j_w (b:=[46,46]) (λe3=>?_) λe3=>?_
  ·repeat' (first|((refine j_h (cn p _ (by omega)) (λ_=>?_) (λ_=>?_))<;>first|(exfalso;omega)|skip)|(with_reducible first|refine w_jn ?_|refine F_2 ?_|refine E_k ?_|refine N_k ?_|refine G_7 ?_|refine Z_q ?_|refine u_q ?_)|((with_reducible apply d_s H) ;rfl;(clear H;intro u H hu;(try dsimp only[scZ,scS,A_4,ttA,splice,ev,rep,caQ,naQ] at H))))
   ·rename_i hnm
    dsimp only[ev]
    skip
    refine d_k 1 0 (n2:=1) H rfl rfl ?_ ?_ ?_ ?_ λv' h' H1 hn=>?_
    ·rfl
    ·rfl
    ·decide
    ·omega
    replace H1:=H1.tail
    dsimp only[scZ,scS] at H1
    repeat' (first|((with_reducible refine H_6 ?_ ?_) ;omega))
    refine go v' _ _ _ _ _ _ h' (by unfold okB;exact decide_eq_true (.inr (.inr (.inr hnm)))) ?_
    rw[tf,List.length_append]
    unfold strs
    rw[List.map_append]
    exact H1
   ·rename_i hnm
    skip
    refine E_z H rfl ?_
    rw[if_neg]
    ·exact⟨rfl,rfl⟩
    ·intro q
     have:=List.all_eq_true.1 q p pm
     unfold okB at this
     rcases of_decide_eq_true this with g|g|g|g
     ·exact e1 g
     ·exact e2 g
     ·exact e3 g
     ·exact hnm g
  ·repeat' (first|(with_reducible first|refine w_jn ?_|refine E_k ?_|refine U_3 ?_|refine G_t ?_)|((with_reducible apply d_s H) ;rfl;(clear H;intro u H hu;(try dsimp only[scZ,scS,A_4,ttA,splice,ev,rep,caQ,naQ] at H))))
   refine d_k 1 0 (n2:=1) H rfl rfl ?_ ?_ ?_ ?_ λv' h' H1 hn=>?_
   ·rfl
   ·rfl
   ·decide
   ·omega
   replace H1:=H1.tail
   dsimp only[scZ,scS] at H1
   repeat' (first|((with_reducible refine H_6 ?_ ?_) ;omega))
   refine go v' _ _ _ _ _ _ h' (by unfold okB;exact decide_eq_true (.inr (.inr (.inl e3)))) ?_
   rw[tf,List.length_append]
   unfold strs
   rw[List.map_append]
   exact H1
 ·have:i=P.length:=by omega
  subst this
  rw[List.take_length] at ha H
  rw[if_pos ha]
  exact d_l (λs=>.tuple #[s,kI 0]) 0 H rfl (λ_ _ _=>by simp[blkV,blkP,blkC]) (λ_ _ _ _=>rfl) λv' h' nn=>⟨v',rfl,nn⟩
def sufF(D X:Str):Prop:=X.length≤D.length∧D.drop (D.length-X.length)=X
instance (D X:Str):Decidable (sufF D X):=inferInstanceAs (Decidable (_∧_))
abbrev CSuf(R:RnK)(f:FuncId):Prop:=∀(D X:Str)(h:Hs),D.length≤100000→X.length≤100000→R f [sV D,sV X] h=some (.val (.bool (decide (sufF D X))) h)
theorem Bp7{R:RnK}{N:Nat}{D X:Str}{h:Hs}(hD:D.length≤100000)(hX:X.length≤100000):r65 R N [sV D,sV X] h=some (.val (.bool (decide (sufF D X))) h):=by
 refine WP.eqn ?_
 have H:=Sto.enter h
 unfold r65
 repeat' (first|(with_reducible first|refine U_5 ?_|refine N_k ?_|refine U_3 ?_|refine G_t ?_|refine H_i ?_|refine H_1 ?_)|((with_reducible refine u_m (λ_=>?_) (λ_=>?_))<;>first|(exfalso;omega)|skip)|((with_reducible refine Q_9 ?_ ?_ ?_) ;omega;omega))
 ·refine u_j (by omega) ?_
  repeat' (first|(with_reducible refine N_k ?_))
  refine W_a (λe=>?_) λe=>?_
  ·repeat' (first|(with_reducible refine G_7 ?_))
   exact E_z H rfl ⟨by rw[decide_eq_true ⟨by omega,e⟩],rfl⟩
  ·repeat' (first|(with_reducible refine G_7 ?_))
   exact E_z H rfl ⟨by rw[decide_eq_false λq=>e q.2],rfl⟩
 ·exact E_z H rfl ⟨by rw[decide_eq_false λq=>by have:=q.1;omega],rfl⟩
theorem Bc7{R:RnK}{N:Nat}(c:CSuf R 65){D X:Str}{h:Hs}(hD:D.length≤100000)(hX:X.length≤100000):r56 R N [sV D,sV X] h=some (.val (.bool (decide (sufF D X))) h):=by
 refine WP.eqn ?_
 have H:=Sto.enter h
 unfold r56
 repeat' (first|(with_reducible first|refine H_i ?_|refine H_1 ?_))
 refine E_b (c D X _ hD hX) ?_
 exact E_z H rfl ⟨rfl,rfl⟩
def N_3(D:Str):Except Nat (List Str × Str):=match M_x D with
 |.error e=>.error e
 |.ok l=>match l.getLast? with
  |none=>.error 1
  |some x=>if x = [46,46]∨D = [46]∨sufF D [47,46] then .error 1 else .ok (l.dropLast,x)
def LastQ(h:Hs)(r:Except Nat (List Str × Str))(v:Value)(h':Hs):Prop:=match r with
 |.error e=>v=.tuple #[.slice none 0 0,sV [],kI e]∧h'=h
 |.ok (l,x)=>∃s,v=.tuple #[s,sV x,kI 0]∧NewS h h' s l
def CLast(R:RnK):Prop:=∀(D:Str)(h:Hs),D.length≤50000→WP (R 39 [sV D] h) (LastQ h (N_3 D))
theorem Y_s{D:Str}{l:List Str}(hD:D.length≤50000)(h:M_x D=.ok l):l.length≤50001∧D.length≤400∧∀x∈l,x.length≤400:=by
 unfold M_x at h
 have:=r_c 47 D
 split at h
 ·cases h
 split at h
 ·cases h
 split at h
 ·injection h with h;subst h
  have:=List.length_filter_le R_4 (spl 47 D)
  exact⟨by omega,by omega,λx hx=>by have:=t_8 47 D x (List.mem_filter.1 hx).1;omega⟩
 ·cases h
theorem AX4{R:RnK}{N:Nat}(cs:CPSplit R)(cx:CSuf R 56){D:Str}{h:Hs}(hD:D.length≤50000):WP (r39 R N [sV D] h) (LastQ h (N_3 D)):=by
 have H:=Sto.enter h
 unfold r39
 repeat' (first|(with_reducible first|refine H_i ?_|refine H_1 ?_))
 refine G_b (cs D _ hD) λv u hv=>?_
 cases e:M_x D with
 | error e1 =>
  rw[e] at hv
  obtain⟨rfl,rfl⟩:=hv
  have:e1≠0:=by
   unfold M_x at e
   split at e
   ·injection e with e;omega
   split at e
   ·injection e with e;omega
   split at e
   ·cases e
   ·injection e with e;omega
  have hp:N_3 D=.error e1:=by unfold N_3;rw[e]
  rw[hp]
  repeat' (first|(with_reducible first|refine w_jn ?_|refine F_2 ?_)|((with_reducible apply F_8) ;rfl)|((with_reducible refine D_v (λ_=>?_) (λ_=>?_))<;>first|(exfalso;omega)|skip))
  exact E_z H rfl ⟨rfl,rfl⟩
 | ok l =>
  rw[e] at hv
  obtain⟨s,rfl,n⟩:=hv
  have ll:=Y_s hD e
  replace H:=H.call n
  clear n
  rcases List.eq_nil_or_concat l with rfl|⟨l',x,rfl⟩
  ·have hp:N_3 D=.error 1:=by unfold N_3;rw[e];rfl
   rw[hp]
   rw[show ([]:List Str).length=0 from rfl] at H
   repeat' (first|(with_reducible first|refine w_jn ?_|refine F_2 ?_|refine E_k ?_|refine j_j ?_|refine G_7 ?_)|((with_reducible apply F_8) ;rfl)|((with_reducible first|refine U_a (λ_=>?_) (λ_=>?_)|refine D_v (λ_=>?_) (λ_=>?_))<;>first|(exfalso;omega)|skip)|((with_reducible refine Az2 ?_ ?_ ?_) ;omega;omega)|((with_reducible apply Ay9 0 H) ;rfl))
   exact E_z H rfl ⟨rfl,rfl⟩
  ·rw[List.concat_eq_append] at *
   have e1:(l' ++ [x]).length=l'.length+1:=by simp
   rw[e1] at H
   have tk:(strs (l' ++ [x])).take l'.length=strs l':=by unfold strs;rw[List.map_append,List.take_left' (lmQ _)]
   have gx:(strs (l' ++ [x]))[l'.length]?=some (sV x):=by unfold strs;rw[List.map_append,gaR (by rw[lmQ];exact lR _),lmQ,Nat.sub_self];rfl
   have q0:(l' ++ [x]).getLast?=some x:=by simp
   have q1:(l' ++ [x]).dropLast=l':=by simp
   have hp:N_3 D=if x = [46,46]∨D = [46]∨sufF D [47,46] then .error 1 else .ok (l',x):=by unfold N_3;rw[e];dsimp only;rw[q0];dsimp only;rw[q1]
   rw[hp]
   clear e q0 q1 hp
   repeat' (first|(with_reducible first|refine w_jn ?_|refine E_k ?_|refine R_m ?_)|((with_reducible apply F_8) ;rfl)|((with_reducible first|refine J_c (λ_=>?_) (λ_=>?_)|refine D_v (λ_=>?_) (λ_=>?_))<;>first|(exfalso;omega)|skip)|((with_reducible refine Q_9 ?_ ?_ ?_) ;omega;omega)|((with_reducible apply Ay9 0 H) ;rfl))
   refine Ay8 0 H rfl gx λb o bl ld=>?_
   repeat' (first|(with_reducible refine R_m ?_))
   rw[ld _ rfl]
   repeat' (first|(with_reducible refine R_m ?_))
   have out:∀p:Prop,p→(x = [46,46]∨D = [46]∨sufF D [47,46])→WP (clrK h (.tuple #[.slice none 0 0,sV [],kI 1]) u) (LastQ h (if x = [46,46]∨D = [46]∨sufF D [47,46] then .error 1 else .ok (l',x))):=λ_ _ q=>by
    rw[if_pos q]
    exact E_z H rfl ⟨rfl,rfl⟩
   refine W_a (b:=[46,46]) (λe2=>?_) λe2=>?_
   ·repeat' (first|(with_reducible first|refine w_jn ?_|refine F_2 ?_|refine j_j ?_|refine G_7 ?_|refine G_t ?_))
    exact out _ trivial (.inl e2)
   repeat' (first|(with_reducible first|refine R_m ?_|refine G_t ?_))
   refine W_a (b:=[46]) (λe3=>?_) λe3=>?_
   ·repeat' (first|(with_reducible first|refine w_jn ?_|refine F_2 ?_|refine j_j ?_|refine G_7 ?_|refine G_t ?_))
    exact out _ trivial (.inr (.inl e3))
   repeat' (first|(with_reducible first|refine R_m ?_|refine G_t ?_))
   refine j_h (cx D [47,46] _ (by omega) (by decide)) (λe4=>?_) λe4=>?_
   ·repeat' (first|(with_reducible first|refine w_jn ?_|refine F_2 ?_|refine G_t ?_))
    exact out _ trivial (.inr (.inr e4))
   repeat' (first|(with_reducible first|refine w_jn ?_|refine E_k ?_|refine G_t ?_))
   have Hm:Sto h [] ⟨u.hp,u.nx,u.nx⟩ [.osl s 9 1 true (l'.length+1) (strs (l' ++ [x]))]:=⟨H.nx,H.fr,λk hk _=>lTr hk H.nx,H.ok,H.ids,λid hi _=>H.fr id hi (λq=>by cases q),H.dj⟩
   refine BC7 (hh:=l'.length) 0 Hm rfl (by omega) λv' H2=>?_
   dsimp only[scZ] at H2
   rw[tk] at H2
   refine a_d ?_
   refine Ay8 0 H rfl gx λb o bl ld=>?_
   rw[ld _ (Q_o _ _ _ _ (by simp only[HidOk,and_true];omega))]
   rw[if_neg (by rintro(q|q|q);exact e2 q;exact e3 q;exact e4 q)]
   have H3:Sto h [] u [.osl v' 9 1 true l'.length (strs l')]:=⟨H.nx,H.fr,H.lo,H2.ok,H2.ids,H.chg,H2.dj⟩
   exact d_l (λs=>.tuple #[s,sV x,kI 0]) 0 H3 rfl (λ_ _ _=>by simp[blkV,blkP,blkC]) (λ_ _ _ _=>rfl) λv' h' nn=>⟨v',rfl,nn⟩
def CFind(R:RnK):Prop:=∀(h:Hs)(t:TS)(d:Nat)(x:Itm)(s:Str),TrAt h t→t.T d=some x→x.k=2→R 42 [pV t.p,kI d,sV s] h=some (.val (fdV (findF t.T d s)) h)
theorem find_ok{R:RnK}{N:Nat}{h:Hs}{t:TS}{d:Nat}{x:Itm}{s:Str}(A:TrAt h t)(hx:t.T d=some x)(hk:x.k=2):r42 R N [pV t.p,kI d,sV s] h=some (.val (fdV (findF t.T d s)) h):=by
 refine WP.eqn ?_
 have H:=Sto.enter h
 have A1:=A.st H
 have rest:∀q:¬(d=1∧s=O_2),findF t.T d s=x.names s:=λq=>by unfold findF;rw[if_neg q,hx];rfl
 unfold r42
 repeat' (first|(with_reducible first|refine w_jn ?_|refine E_k ?_|refine N_k ?_|refine U_3 ?_|refine G_t ?_|refine H_i ?_|refine H_1 ?_|refine A_g ?_|refine F_w ?_)|((with_reducible refine G_h (λ_=>?_) (λ_=>?_))<;>first|(exfalso;omega)|skip))
 ·refine W_a (b:=O_2) (λe=>?_) λe=>?_
  ·repeat' (first|(with_reducible first|refine w_jn ?_|refine F_2 ?_|refine G_7 ?_))
   exact E_z H rfl ⟨by unfold findF;rw[if_pos ⟨by assumption,e⟩];rfl,rfl⟩
  ·repeat' (first|(with_reducible first|refine w_jn ?_|refine E_k ?_|refine G_7 ?_|refine A_g ?_|refine F_w ?_))
   refine t_mp A1 rfl ?_
   refine t_lk A1 hx ?_
   repeat' (first|(with_reducible first|refine A_g ?_|refine F_w ?_))
   refine t_nm A1 hx hk rfl ?_
   refine t_fd A1 hx hk ?_
   rw[rest λq=>e q.2]
   cases x.names s<;>(unfold fdV;repeat' (first|((with_reducible apply F_8) ;rfl));exact E_z H rfl ⟨rfl,rfl⟩)
 ·refine t_mp A1 rfl ?_
  refine t_lk A1 hx ?_
  repeat' (first|(with_reducible first|refine A_g ?_|refine F_w ?_))
  refine t_nm A1 hx hk rfl ?_
  refine t_fd A1 hx hk ?_
  rw[rest λq=>by have:=q.1;omega]
  cases x.names s<;>(unfold fdV;repeat' (first|((with_reducible apply F_8) ;rfl));exact E_z H rfl ⟨rfl,rfl⟩)
abbrev rowW(p k:Nat):Gev.Obj:=.row 99 0 true false [pV p,kI k]
def ptV:Except Nat Nat→Value
 |.ok n=>.tuple #[kI n,kI 0]
 |.error e=>.tuple #[kI 0,kI e]
def CPart(R:RnK):Prop:=∀(h:Hs)(t:TS)(w k d:Nat)(x:Itm)(s:Str),TrAt h t→Holds (h.hp.get w) (rowW t.p k)→w<h.nx→t.T d=some x→R 66 [pV w,kI d,sV s] h=some (.val (ptV (P_d t.T d s)) h)
theorem Ba8{R:RnK}{N:Nat}(cf:CFind R){h:Hs}{t:TS}{w k d:Nat}{x:Itm}{s:Str}(A:TrAt h t)(hw:Holds (h.hp.get w) (rowW t.p k))(wl:w<h.nx)(hx:t.T d=some x):r66 R N [pV w,kI d,sV s] h=some (.val (ptV (P_d t.T d s)) h):=by
 refine WP.eqn ?_
 have H:=Sto.enterR h [.rob w (rowW t.p k)] (λt ht=>by
  rw[msQ.1 ht]
  exact⟨rfl,hw,λb hb=>by injection hb with hb;subst hb;exact wl⟩)
 have A1:=A.st H
 unfold r66
 repeat' (first|(with_reducible first|refine H_i ?_|refine H_1 ?_|refine A_g ?_|refine F_w ?_)|((with_reducible apply j_q 0 H) ;rfl;rfl;rfl))
 refine t_mp A1 rfl ?_
 refine t_lk A1 hx ?_
 repeat' (first|(with_reducible first|refine w_jn ?_|refine A_g ?_|refine F_w ?_))
 refine t_k A1 hx rfl ?_
 have hp:P_d t.T d s=if x.k=2 then (if s = [46,46] then .ok x.up else match findF t.T d s with|some n=>.ok n|none=>.error 2) else .error 4:=by unfold P_d;rw[hx]<;>rfl
 rw[hp]
 repeat' (first|(with_reducible first|refine w_jn ?_|refine F_2 ?_|refine E_k ?_)|((with_reducible refine D_v (λ_=>?_) (λ_=>?_))<;>first|(exfalso;omega)|skip))
 ·rename_i hk
  rw[if_pos hk]
  refine W_a (b:=[46,46]) (λe=>?_) λe=>?_
  ·repeat' (first|(with_reducible first|refine w_jn ?_|refine F_2 ?_|refine A_g ?_|refine F_w ?_))
   refine t_up A1 hx rfl ?_
   rw[if_pos e]
   exact E_z H rfl ⟨rfl,rfl⟩
  ·rw[if_neg e]
   repeat' (first|(with_reducible first|refine w_jn ?_|refine E_k ?_|refine A_g ?_|refine F_w ?_)|((with_reducible apply j_q 0 H) ;rfl;rfl;rfl))
   refine E_b (cf _ t d x s A1 hx hk) ?_
   cases findF t.T d s<;>(unfold fdV;repeat' (first|((with_reducible apply F_8) ;rfl));exact E_z H rfl ⟨rfl,rfl⟩)
 ·rename_i hk
  rw[if_neg hk]
  exact E_z H rfl ⟨rfl,rfl⟩
def h_0(T:Tm)(most:Nat):Option Nat:=(List.range' 1 most).find? λn=>(T n).isNone
def CFree(R:RnK):Prop:=∀(h:Hs)(t:TS),TrAt h t→t.most≤1000→R 34 [pV t.p] h=some (.val (fdV (h_0 t.T t.most)) h)
theorem Br8{Q:Value→Hs→Prop}{b:Nat}{K:Value→An}(w:WP (K (.bool false)) Q):WP (obK K (e2 false qP (pV b) (.pointer none))) Q:=w_ob (v:=.bool false) rfl w
theorem Br7{Q:Value→Hs→Prop}{K:Value→An}(w:WP (K (.bool true)) Q):WP (obK K (e2 false qP (.pointer none) (.pointer none))) Q:=w_ob (v:=.bool true) rfl w
theorem AV4{R:RnK}{N:Nat}(hN:100000<N){h:Hs}{t:TS}(A:TrAt h t)(hm:t.most≤1000):r34 R N [pV t.p] h=some (.val (fdV (h_0 t.T t.most)) h):=by
 refine WP.eqn ?_
 have H:=Sto.enter h
 unfold r34
 repeat' (first|(with_reducible first|refine w_jn ?_|refine H_i ?_|refine H_1 ?_))
 refine V_1 (Good:=λr (self:L5)=>∀(i:Nat)(y1 y2 y3 y4:Value)(w:Hs),i+r=t.most+1→h_0 t.T t.most=(List.range' i r).find? (λn=>(t.T n).isNone)→Sto h [] w []→WP (self (kI i) y1 y2 y3 y4 w) (λv' h'=>v'=fdV (h_0 t.T t.most)∧h'=h))
  (λr self ih i y1 y2 y3 y4 w hi hf H1=>?_) N t.most (by omega) 1 _ _ _ _ _ (by omega) rfl H
 clear H
 have H:=H1
 clear H1
 have A1:=A.st H
 repeat' (first|(with_reducible first|refine A_g ?_|refine F_w ?_))
 refine Aw4 A1 rfl ?_
 repeat' (first|(with_reducible first|refine w_jn ?_|refine F_2 ?_|refine E_k ?_|refine A_g ?_|refine F_w ?_)|((with_reducible refine u_p (λ_=>?_) (λ_=>?_))<;>first|(exfalso;omega)|skip))
 ·obtain⟨r,rfl⟩:∃q,r=q+1:=⟨r-1,by omega⟩
  rw[List.range'_succ,List.find?_cons] at hf
  refine t_mp A1 rfl ?_
  cases e:t.T i with
  |none=>
   rw[e] at hf
   refine BA8 A1 e ?_
   refine Br7 ?_
   repeat' (first|(with_reducible first|refine w_jn ?_|refine F_2 ?_))
   exact E_z H rfl ⟨by rw[hf];rfl,rfl⟩
  |some x=>
   rw[e] at hf
   refine t_lk A1 e ?_
   refine Br8 ?_
   repeat' (first|(with_reducible first|refine w_jn ?_|refine E_k ?_)|((with_reducible refine H_6 ?_ ?_) ;omega))
   exact ih r (by omega) (i+1) _ _ _ _ w (by omega) hf H
 ·have:r=0:=by omega
  subst this
  exact E_z H rfl ⟨by rw[hf];rfl,rfl⟩
def U_7(T:Tm)(m:Nat):Nat→Nat→Bool
 |0,d=>decide (d=m)
 |j+1,d=>if d=m then true else if d=1 then false else U_7 T m j (match T d with|some x=>x.up|none=>d)
def CWithin(R:RnK):Prop:=∀(h:Hs)(t:TS)(d m j:Nat),TrAt h t→WF t.T t.most→(∃x,t.T d=some x∧x.k=2)→upN t.T j d=1→j≤1000→R 41 [pV t.p,kI d,kI m] h=some (.val (.bool (U_7 t.T m j d)) h)
theorem Az6{R:RnK}{N:Nat}(hN:100000<N){h:Hs}{t:TS}{d m j:Nat}(A:TrAt h t)(W:WF t.T t.most)(hd:∃x,t.T d=some x∧x.k=2)(hj:upN t.T j d=1)(jl:j≤1000):r41 R N [pV t.p,kI d,kI m] h=some (.val (.bool (U_7 t.T m j d)) h):=by
 refine WP.eqn ?_
 have H:=Sto.enter h
 unfold r41
 repeat' (first|(with_reducible first|refine w_jn ?_|refine H_i ?_|refine H_1 ?_))
 refine V_1 (Good:=λr (self:L2)=>∀(i:Nat)(y:Value)(w:Hs),(∃x,t.T i=some x∧x.k=2)→upN t.T r i=1→U_7 t.T m j d=U_7 t.T m r i→Sto h [] w []→WP (self (kI i) y w) (λv' h'=>v'=.bool (U_7 t.T m j d)∧h'=h))
  (λr self ih i y w hx hu hf H1=>?_) N j (by omega) d _ _ hd hj rfl H
 clear H
 have H:=H1
 clear H1
 have A1:=A.st H
 obtain⟨x,e,k⟩:=hx
 rw[hf]
 repeat' (first|(with_reducible first|refine w_jn ?_|refine F_2 ?_|refine E_k ?_|refine N_k ?_|refine U_3 ?_|refine G_7 ?_|refine G_t ?_|refine A_g ?_|refine F_w ?_)|((with_reducible first|refine G_h (λ_=>?_) (λ_=>?_)|refine D_v (λ_=>?_) (λ_=>?_))<;>first|(exfalso;omega)|skip))
 ·rename_i e1
  subst e1
  refine E_z H rfl ⟨?_,rfl⟩
  cases r with
  |zero=>rw[U_7,decide_eq_true rfl]
  |succ r=>rw[U_7,if_pos rfl]
 ·rename_i e2 e1
  subst e2
  refine E_z H rfl ⟨?_,rfl⟩
  cases r with
  |zero=>rw[U_7,decide_eq_false e1]
  |succ r=>rw[U_7,if_neg e1,if_pos rfl]
 ·rename_i e1 e2
  obtain⟨r,rfl⟩:∃q,r=q+1:=⟨r-1,by
   cases r with
   |zero=>exact absurd hu e2
   |succ r=>rfl⟩
  have hu:upN t.T r (match t.T i with|some x=>x.up|none=>i)=1:=hu
  rw[e] at hu
  have hf2:U_7 t.T m (r+1) i=U_7 t.T m r x.up:=by rw[U_7,if_neg e1,if_neg e2,e]
  refine t_mp A1 rfl ?_
  refine t_lk A1 e ?_
  repeat' (first|(with_reducible first|refine A_g ?_|refine F_w ?_))
  refine t_up A1 e rfl ?_
  obtain⟨y',q1,q2⟩:=W.up i x e k
  rw[hf,hf2] at ih
  rw[hf2]
  exact ih r (by omega) x.up _ w ⟨y',q1,q2⟩ hu rfl H
end Go.Proofs.YtnbnmojckhcdeaaGreatDoor.treeMoves
