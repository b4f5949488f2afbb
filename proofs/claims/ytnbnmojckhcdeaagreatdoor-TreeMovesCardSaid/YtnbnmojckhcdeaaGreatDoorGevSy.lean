import Derived.Test.YtnbnmojckhcdeaaGreatDoorGevKM
import Derived.IntWalk
namespace Go.Gev
theorem O_a(b:Bool)(K:Value→An):mkB b K=K (.bool b):=by cases b<;>rfl
theorem P_m(k:IntKind)(n:Nat)(K:Value→An):mkN k n K=K (.int k (.ofNat n)):=by cases n<;>rfl
theorem Aj8(n:Nat)(K:Nat→An):litN n K=K n:=by cases n<;>rfl
theorem f_t{m:Nat}{b:Int}{s:An}{F:Nat→Nat→An}:nn (.negSucc m) b s F=s:=rfl
theorem Y_o{m n:Nat}{s:An}{F:Nat→Nat→An}:nn (.ofNat m) (.negSucc n) s F=s:=rfl
theorem s_2(a b:Int)(K:Value→An):kI64 .lss (.int .i64 a) (.int .i64 b) K=K (.bool (decide (a<b))):=by
 show cLss .i64 9223372036854775807 K a b=_
 unfold cLss
 cases a with
 |negSucc m=>rw[f_t,O_a,U_d]
 | ofNat m => cases b with
  |negSucc n=>rw[Y_o,O_a,U_d]
  | ofNat n =>
   show ifB (Nat.ble n m) _ _=_
   have:decide ((Int.ofNat m)<(Int.ofNat n)) = !(Nat.ble n m):=by
    rw[ble_eq]
    by_cases h:n≤m
    ·have h2:¬((Int.ofNat m)<(Int.ofNat n)):=by simp only[onC];omega
     simp[h]
    ·have h2:((Int.ofNat m)<(Int.ofNat n)):=by simp only[onC];omega
     simp only[decide_eq_true h2,decide_eq_false h,Bool.not_false]
   rw[this]
   cases Nat.ble n m<;>rfl
theorem kI64_gtr(a b:Int)(K:Value→An):kI64 .gtr (.int .i64 a) (.int .i64 b) K=K (.bool (decide (b<a))):=by
 show cGtr .i64 9223372036854775807 K a b=_
 unfold cGtr
 cases a with
 |negSucc m=>rw[f_t,O_a,U_d]
 | ofNat m => cases b with
  |negSucc n=>rw[Y_o,O_a,U_d]
  | ofNat n =>
   show ifB (Nat.ble m n) _ _=_
   have:decide ((Int.ofNat n)<(Int.ofNat m)) = !(Nat.ble m n):=by
    rw[ble_eq]
    by_cases h:m≤n
    ·have h2:¬((Int.ofNat n)<(Int.ofNat m)):=by simp only[onC];omega
     simp[h]
    ·have h2:((Int.ofNat n)<(Int.ofNat m)):=by simp only[onC];omega
     simp only[decide_eq_true h2,decide_eq_false h,Bool.not_false]
   rw[this]
   cases Nat.ble m n<;>rfl
theorem s_y(a b:Int)(K:Value→An):kI64 .leq (.int .i64 a) (.int .i64 b) K=K (.bool (decide (a≤b))):=by
 show cLeq .i64 9223372036854775807 K a b=_
 unfold cLeq
 cases a with
 |negSucc m=>rw[f_t,O_a,N_v]
 |ofNat m=>cases b with
  |negSucc n=>rw[Y_o,O_a,N_v]
  |ofNat n=>show mkB (Nat.ble m n) K=_;rw[O_a,←b_p,N_v]
theorem s_x(a b:Int)(K:Value→An):kI64 .geq (.int .i64 a) (.int .i64 b) K=K (.bool (decide (b≤a))):=by
 show cGeq .i64 9223372036854775807 K a b=_
 unfold cGeq
 cases a with
 |negSucc m=>rw[f_t,O_a,N_v]
 |ofNat m=>cases b with
  |negSucc n=>rw[Y_o,O_a,N_v]
  |ofNat n=>show mkB (Nat.ble n m) K=_;rw[O_a,←b_p,N_v]
theorem kI64_eql(a b:Int)(K:Value→An):kI64 .eql (.int .i64 a) (.int .i64 b) K=K (.bool (a==b)):=by
 show cEql .i64 9223372036854775807 K a b=_
 unfold cEql
 cases a with
 |negSucc m=>rw[f_t,O_a,eqI_eq]
 |ofNat m=>cases b with
  |negSucc n=>rw[Y_o,O_a,eqI_eq]
  |ofNat n=>show mkB (Nat.beq m n) K=_;rw[O_a,←a_s,eqI_eq]
theorem kI64_neq(a b:Int)(K:Value→An):kI64 .neq (.int .i64 a) (.int .i64 b) K=K (.bool (a != b)):=by
 have hn:∀c:Bool,notB c = !c:=λc=>by cases c<;>rfl
 show cNeq .i64 9223372036854775807 K a b=_
 unfold cNeq
 cases a with
 |negSucc m=>rw[f_t,O_a,eqI_eq,hn];rfl
 | ofNat m => cases b with
  |negSucc n=>rw[Y_o,O_a,eqI_eq,hn];rfl
  |ofNat n=>
   show ifB (Nat.beq m n) _ _=_
   have:(Int.ofNat m != Int.ofNat n) = !(Nat.beq m n):=by rw[←a_s,eqI_eq];rfl
   rw[this]
   cases Nat.beq m n<;>rfl
def In64(n:Int):Prop:=-9223372036854775808≤n∧n≤9223372036854775807
theorem Az8{n:Int}(h:In64 n):L_8 .i64 n=n:=by rw[M_a];exact IntWalk.i64_in n h
theorem i_e{a b:Int}(h:In64 (a+b))(K:Value→An):kI64 .add (.int .i64 a) (.int .i64 b) K=K (.int .i64 (a+b)):=by
 have slow:obK K (fAdd .i64 a b)=K (.int .i64 (a+b)):=by
  show K (.int .i64 (L_8 .i64 (Int.add a b)))=_
  rw[Az8 (show In64 (Int.add a b) from h)];rfl
 show cAdd .i64 9223372036854775807 K a b=_
 unfold cAdd
 cases a with
 |negSucc m=>exact slow
 | ofNat m => cases b with
  |negSucc n=>exact slow
  |ofNat n=>
   show ifB _ (mkN .i64 (Nat.add m n) K) _=_
   rw[P_m,slow]
   have:(Int.ofNat (Nat.add m n))=Int.ofNat m+Int.ofNat n:=rfl
   rw[this]
   cases Nat.ble (Nat.add m n) 9223372036854775807<;>rfl
theorem s_3{a b:Int}(h:In64 (a-b))(K:Value→An):kI64 .sub (.int .i64 a) (.int .i64 b) K=K (.int .i64 (a-b)):=by
 have slow:obK K (fSub .i64 a b)=K (.int .i64 (a-b)):=by
  show K (.int .i64 (L_8 .i64 (Int.sub a b)))=_
  rw[Az8 (show In64 (Int.sub a b) from h)];rfl
 show cSub .i64 9223372036854775807 K a b=_
 unfold cSub
 cases a with
 |negSucc m=>exact slow
 | ofNat m => cases b with
  |negSucc n=>exact slow
  | ofNat n =>
   show ifB (Nat.ble n m) (ifB _ (mkN .i64 (Nat.sub m n) K) _) _=_
   rw[P_m,slow]
   cases hb:Nat.ble n m with
   |false=>rfl
   |true=>
    have hle:=lbT hb
    have:(Int.ofNat (Nat.sub m n))=Int.ofNat m-Int.ofNat n:=(X_v hle).symm
    rw[this]
    cases Nat.ble m 9223372036854775807<;>rfl
theorem P_t(a:Option Addr)(n c:Nat)(K:Value→An):L_o (.slice a n c) K=K (.int .i64 (.ofNat n)):=P_m _ _ _
theorem kFieldA_ok(k b o:Nat)(K:Value→An):kFieldA k (.pointer (some ⟨b,o,none⟩)) K=K (.pointer (some ⟨b,o+k,none⟩)):=by
 show litN (Nat.add o k) (λo'=>K (.pointer (some ⟨b,o',none⟩)))=_
 rw[Aj8];rfl
theorem M_6{k n:Nat}(h:k<n)(u b o c:Nat)(K:Value→An):L_x u (.slice (some ⟨b,o,none⟩) n c) (.int .i64 (.ofNat k)) K=K (.pointer (some ⟨b,o+k*u,none⟩)):=by
 show ifB (Nat.ble n k) none (litN (Nat.add o (Nat.mul k u)) λo'=>K (.pointer (some ⟨b,o',none⟩)))=_
 have:Nat.ble n k=false:=by
  cases hb:Nat.ble n k with
  |false=>rfl
  |true=>have:=lbT hb;omega
 rw[this,Aj8];rfl
theorem kLoad_ok{h:Hs}{b o:Nat}{c:Tr Value}{n e u:Nat}{rw_ fl:Bool}{v:Value}(hb:h.hp.get b=some (.row c n e u rw_ fl))(hv:c.get o=some v)(K:Value→An):kLoad (.pointer (some ⟨b,o,none⟩)) h K=K v:=by
 show getB h b _=_
 unfold getB
 rw[getK_eq,hb]
 show obK K (Tr.getK c o)=_
 rw[getK_eq,hv];rfl
noncomputable def two(a b:Value):Tr Value:=((ofList [Value.int .i64 (.ofNat 0),Value.int .i64 (.ofNat 0)]).set 0 (some a)).set 1 (some b)
theorem s_v{R:RnK}{f:FuncId}{args:List Value}{h h':Hs}{v:Value}(hr:R f args h=some (.val v h'))(K:KV):E_d R f args h K=K v h':=by
 unfold E_d;rw[hr]
theorem AB2{h0 h:Hs}(hl:h0.nx≤h.lo):clrK h0 (.slice none 0 0) h=some (.val (.slice none 0 0) ⟨h0.hp,h0.nx,h0.lo⟩):=by
 unfold clrK
 have:Nat.ble h0.nx h.lo=true:=btL hl
 rw[this];rfl
theorem AB3{h0 h:Hs}{id n c:Nat}{cs:Tr Value}{m e u:Nat}{rw_:Bool}(hl:h0.nx≤h.lo)(hid:h0.nx≤id)(hb:h.hp.get id=some (.row cs m e u rw_ true)) :
 clrK h0 (.slice (some ⟨id,0,none⟩) n c) h=some (.val (.slice (some ⟨h0.nx,0,none⟩) n c) ⟨h0.hp.set h0.nx (some (.row cs m e u rw_ true)),h0.nx+1,h0.lo⟩):=by
 unfold clrK
 have h1:Nat.ble h0.nx h.lo=true:=btL hl
 rw[h1]
 show clrS h0 (.slice (some ⟨id,0,none⟩) n c) h=_
 unfold clrS
 have h2:Nat.blt id h0.nx=false:=by rw[blt_eq];simpa using hid
 have:M_r h.hp h0.nx ⟨h0.hp,h0.nx,[]⟩ (.slice (some ⟨id,0,none⟩) n c)=some (.slice (some ⟨h0.nx,0,none⟩) n c,⟨h0.hp.set h0.nx (some (.row cs m e u rw_ true)),h0.nx+1,[(id,h0.nx)]⟩):=by
  show Z_s 0 (λa=>Value.slice (some a) n c) (mvId h.hp h0.nx ⟨h0.hp,h0.nx,[]⟩ id)=_
  unfold mvId
  rw[h2]
  show Z_s 0 (λa=>Value.slice (some a) n c) (e_a ⟨h0.hp,h0.nx,[]⟩ id (h.hp.get id))=_
  rw[hb];rfl
 rw[this];rfl
theorem after_some(K:KV)(v:Value)(h:Hs):after K (some (v,h))=K v h:=rfl
def Sl(h:Hs)(v:Value)(L:List (Int × Int)):Prop:=
 ∃a c,v=.slice a L.length c∧∀i f l,L[i]?=some (f,l)→∃b o cc n e u rw_ fl,a=some ⟨b,o,none⟩∧b<h.nx∧h.hp.get b=some (.row cc n e u rw_ fl)∧cc.get (o+i*2)=some (.int .i64 f)∧cc.get (o+i*2+1)=some (.int .i64 l)
def Ext(h h':Hs):Prop:=h.nx≤h'.nx∧∀id,id<h.nx→h'.hp.get id=h.hp.get id
theorem Ext.refl(h:Hs):Ext h h:=⟨lR _,λ_ _=>rfl⟩
theorem Ext.trans{a b c:Hs}(h:Ext a b)(k:Ext b c):Ext a c:=⟨lTr h.1 k.1,λid hid=>(k.2 id (llN hid h.1)).trans (h.2 id hid)⟩
theorem Sl.mono{h h':Hs}{v:Value}{L:List (Int × Int)}(s:Sl h v L)(e:Ext h h'):Sl h' v L:=by
 obtain⟨a,c,h1,h2⟩:=s
 refine⟨a,c,h1,λi f l hi=>?_⟩
 obtain⟨b,o,cc,n,e',u,rw_,fl,q1,q2,q3,q4,q5⟩:=h2 i f l hi
 exact⟨b,o,cc,n,e',u,rw_,fl,q1,llN q2 e.1,(e.2 b q2).trans q3,q4,q5⟩
theorem Sl.len{h:Hs}{v:Value}{L:List (Int × Int)}(s:Sl h v L)(K:Value→An):L_o v K=K (.int .i64 (.ofNat L.length)):=by
 obtain⟨a,c,rfl,_⟩:=s;exact P_t _ _ _ _
theorem E_6(h:Hs)(e u:Nat)(cs:List Value)(id:Nat):(newRow h e u cs).hp.get id=if h.nx=id then some (.row (ofList cs) cs.length e u true (F_e cs)) else h.hp.get id:=by
 unfold newRow;rw[tgS]
def Own(n0:Nat)(t:TypeId)(h:Hs)(v:Value)(L:List (Int × Int)):Prop:=
 (v=.slice none 0 0∧L = [])∨∃id cc,v=.slice (some ⟨id,0,none⟩) L.length L.length∧n0≤id∧id<h.nx∧h.hp.get id=some (.row cc (L.length*2) t 2 true true) ∧
  ∀i f l,L[i]?=some (f,l)→cc.get (i*2)=some (.int .i64 f)∧cc.get (i*2+1)=some (.int .i64 l)
theorem Own.push2{n0 l0:Nat}{t:TypeId}{h:Hs}{v:Value}{L:List (Int × Int)}(o:Own n0 t h v L)(hL:L.length≤1000)(hn:n0≤h.nx)(h00:l0≤n0)(hl:l0≤h.lo)(f l:Int)(K:KV) :
 ∃v' h',after (λx h81=>after (λy h83=>K y h83) (app0 t 2 16 h81 v x)) (M_d t 2 1 [.int .i64 (.ofNat 0),.int .i64 (.ofNat 0)] [(0,2,.c (.agg #[.int .i64 f,.int .i64 l]))] enE h)=K v' h' ∧
  Own n0 t h' v' (L ++ [(f,l)])∧h.nx≤h'.nx∧l0≤h'.lo∧∀id,id<n0→h'.hp.get id=h.hp.get id:=by
 have hmk:M_d t 2 1 [.int .i64 (.ofNat 0),.int .i64 (.ofNat 0)] [(0,2,.c (.agg #[.int .i64 f,.int .i64 l]))] enE h=some (.slice (some ⟨h.nx,0,none⟩) 1 1,newRow h t 2 [.int .i64 f,.int .i64 l]):=rfl
 rw[hmk,after_some]
 have hrow:rowOf (newRow h t 2 [.int .i64 f,.int .i64 l]) 2 1 (some ⟨h.nx,0,none⟩)=some [.int .i64 f,.int .i64 l]:=by
  show F_q 2 0 ((newRow h t 2 [.int .i64 f,.int .i64 l]).hp.get h.nx)=_
  unfold newRow
  rw[tgS,if_pos rfl];rfl
 have happ:∀v,app0 t 2 16 (newRow h t 2 [.int .i64 f,.int .i64 l]) v (.slice (some ⟨h.nx,0,none⟩) 1 1)=app2 (newRow h t 2 [.int .i64 f,.int .i64 l]) t 2 16 1 [.int .i64 f,.int .i64 l] v:=λv=>by
  show app1 _ t 2 16 1 v (rowOf _ 2 1 (some ⟨h.nx,0,none⟩))=_
  rw[hrow];rfl
 rw[happ]
 have hg1:∀id,id<h.nx→(newRow h t 2 [.int .i64 f,.int .i64 l]).hp.get id=h.hp.get id:=λid hid=>by
  unfold newRow;rw[tgS,if_neg (by omega)]
 rcases o with⟨rfl,rfl⟩|⟨id,cc,rfl,o2,o3,o4,o5⟩
 ·refine⟨.slice (some ⟨h.nx+1,0,none⟩) 1 1,newRow (newRow h t 2 [.int .i64 f,.int .i64 l]) t 2 [.int .i64 f,.int .i64 l],rfl,.inr ⟨h.nx+1,ofList [.int .i64 f,.int .i64 l],rfl,by omega,?_,?_,λi f' l' hi=>?_⟩,?_,?_,λid hid=>?_⟩
  ·exact Nat.lt_succ_self _
  ·rw[E_6,if_pos (show (newRow h t 2 [Value.int .i64 f,.int .i64 l]).nx=h.nx+1 from rfl)];rfl
  ·cases i with
   |zero=>simp only[naQ,gcZ,sjE,Prod.mk.injEq] at hi;obtain⟨rfl,rfl⟩:=hi;exact⟨rfl,rfl⟩
   |succ i=>simp at hi
  ·exact lTr (Nat.le_succ _) (Nat.le_succ _)
  ·exact hl
  ·have:(newRow (newRow h t 2 [.int .i64 f,.int .i64 l]) t 2 [.int .i64 f,.int .i64 l]).hp.get id=(newRow h t 2 [.int .i64 f,.int .i64 l]).hp.get id:=by
    rw[E_6,if_neg (show ¬(newRow h t 2 [Value.int .i64 f,.int .i64 l]).nx=id from λe=>by have:h.nx+1=id:=e;omega)]
   rw[this];exact hg1 id (by omega)
 ·have hle:Nat.ble (Nat.mul (Nat.add L.length 1) 16) 70368744177664=true:=btL (by show (L.length+1)*16≤_;omega)
  have hget:(newRow h t 2 [.int .i64 f,.int .i64 l]).hp.get id=some (.row cc (L.length*2) t 2 true true):=(hg1 id o3).trans o4
  have hbt:Nat.beq t t=true:=Nat.beq_refl t
  have hbm:Nat.beq (Nat.mul L.length 2) (L.length*2)=true:=Nat.beq_refl _
  have e:app2 (newRow h t 2 [.int .i64 f,.int .i64 l]) t 2 16 1 [.int .i64 f,.int .i64 l] (.slice (some ⟨id,0,none⟩) L.length L.length) =
   some (.slice (some ⟨h.nx+1,0,none⟩) (L.length+1) (L.length+1),⟨((newRow h t 2 [.int .i64 f,.int .i64 l]).hp.set id none).set (h.nx+1) (some (.row (I_3 [.int .i64 f,.int .i64 l] (L.length*2) cc) (L.length*2+2) t 2 true true)),h.nx+2,minN h.lo id⟩):=by
   show (match Nat.ble (Nat.mul (Nat.add L.length 1) 16) 70368744177664 with|false=>none|true=>app3 (newRow h t 2 [.int .i64 f,.int .i64 l]) t 2 id L.length 1 [.int .i64 f,.int .i64 l] ((newRow h t 2 [.int .i64 f,.int .i64 l]).hp.get id))=_
   rw[hle,hget]
   show (match Nat.beq t t with|false=>none|true=>app4 (newRow h t 2 [.int .i64 f,.int .i64 l]) t 2 id L.length 1 cc (L.length*2) true [.int .i64 f,.int .i64 l] (frcB cc (Nat.beq (Nat.mul L.length 2) (L.length*2))) (I_y cc (Nat.mul L.length 2) 0 []))=_
   rw[h_z,hbt,hbm];rfl
  rw[e,after_some]
  refine⟨_,_,rfl,.inr ⟨h.nx+1,I_3 [.int .i64 f,.int .i64 l] (L.length*2) cc,by rw[List.length_append];rfl,by omega,Nat.lt_succ_self _,?_,λi f' l' hi=>?_⟩,?_,?_,λid' hid=>?_⟩
  ·dsimp only
   rw[tgS,if_pos rfl,List.length_append];congr 2;show _=(L.length+1)*2;omega
  ·rw[show I_3 [Value.int .i64 f,.int .i64 l] (L.length*2) cc=((cc.set (L.length*2) (some (.int .i64 f))).set (L.length*2+1) (some (.int .i64 l))) from by rw[I_3,Tr.frc_eq,I_3,Tr.frc_eq,I_3]]
   show ((cc.set (L.length*2) (some (.int .i64 f))).set (L.length*2+1) (some (.int .i64 l))).get (i*2)=_∧((cc.set (L.length*2) (some (.int .i64 f))).set (L.length*2+1) (some (.int .i64 l))).get (i*2+1)=_
   rcases logQ i L.length with hi2|hi2
   ·rw[gaL hi2] at hi
    obtain⟨p1,p2⟩:=o5 i f' l' hi
    rw[tgS,if_neg (by omega),tgS,if_neg (by omega),tgS,if_neg (by omega),tgS,if_neg (by omega)]
    exact⟨p1,p2⟩
   ·rw[gaR hi2] at hi
    have:i=L.length:=by
     rcases logQ (i-L.length) 1 with q|q
     ·omega
     ·rw[List.getElem?_eq_none (by simpa using q)] at hi;cases hi
    subst this
    simp only[Nat.sub_self,gcZ,sjE,Prod.mk.injEq] at hi
    obtain⟨rfl,rfl⟩:=hi
    rw[tgS,if_neg (by omega),tgS,if_pos rfl,tgS,if_pos rfl]
    exact⟨rfl,rfl⟩
  ·show h.nx≤h.nx+2;omega
  ·show l0≤minN h.lo id;rw[minN_eq];omega
  ·dsimp only
   rw[tgS,if_neg (by omega),tgS,if_neg (by omega)]
   exact hg1 id' (by omega)
theorem Own.push{n0:Nat}{t:TypeId}{h:Hs}{v:Value}{L:List (Int × Int)}(o:Own n0 t h v L)(hL:L.length≤1000)(hn:n0≤h.nx)(hl:n0≤h.lo)(f l:Int)(K:KV) :
 ∃v' h',after (λx h81=>after (λy h83=>K y h83) (app0 t 2 16 h81 v x)) (M_d t 2 1 [.int .i64 (.ofNat 0),.int .i64 (.ofNat 0)] [(0,2,.c (.agg #[.int .i64 f,.int .i64 l]))] enE h)=K v' h' ∧
  Own n0 t h' v' (L ++ [(f,l)])∧h.nx≤h'.nx∧n0≤h'.lo∧∀id,id<n0→h'.hp.get id=h.hp.get id:=o.push2 hL hn (lR _) hl f l K
theorem Own.back{n0:Nat}{t:TypeId}{h0 h:Hs}{v:Value}{L:List (Int × Int)}(hn:n0=h0.nx)(o:Own n0 t h v L)(hl:n0≤h.lo) :
 ∃v' h',clrK h0 v h=some (.val v' h')∧Sl h' v' L∧Own n0 t h' v' L∧Ext h0 h'∧h'.lo=h0.lo:=by
 subst hn
 rcases o with⟨rfl,rfl⟩|⟨id,cc,rfl,o2,o3,o4,o5⟩
 ·exact⟨_,_,AB2 hl,⟨none,0,rfl,λi f l hi=>by simp at hi⟩,.inl ⟨rfl,rfl⟩,⟨lR _,λ_ _=>rfl⟩,rfl⟩
 ·refine⟨_,_,AB3 hl o2 o4,⟨some ⟨h0.nx,0,none⟩,L.length,rfl,λi f l hi=>?_⟩,.inr ⟨h0.nx,cc,rfl,lR _,Nat.lt_succ_self _,?_,o5⟩,⟨Nat.le_succ _,λid hid=>?_⟩,rfl⟩
  ·refine⟨h0.nx,0,cc,L.length*2,t,2,true,true,rfl,Nat.lt_succ_self _,?_,?_,?_⟩
   ·dsimp only
    rw[tgS,if_pos rfl]
   ·rw[zaQ];exact(o5 i f l hi).1
   ·rw[zaQ];exact(o5 i f l hi).2
  ·dsimp only
   rw[tgS,if_pos rfl]
  ·dsimp only
   rw[tgS,if_neg (by omega)]
theorem enK_eq(h:Hs)(F:Hs→An):enK h F=F ⟨h.hp,h.nx,h.nx⟩:=by cases h;rfl
theorem Sl.lo{h:Hs}{v:Value}{L:List (Int × Int)}(s:Sl h v L)(n:Nat):Sl ⟨h.hp,h.nx,n⟩ v L:=s
end Go.Gev
