import Derived.Test.YtnbnmojckhcdeaaGreatDoorGevSy
namespace Go.Gev
theorem M_3(n:Nat):Nat.ble n n=true:=btL (lR n)
theorem L_g(n:Nat):Nat.ble 0 n=true:=btL (Nat.zero_le n)
theorem dBar{h u:Hs}(hn:h.nx≤u.nx)(K:KV)(v:Value):dPut K v (F_u h u .bar) (andB (dFit h u .bar) (Nat.ble 0 u.lo))=K v u:=by
 have h1:dFit h u .bar=true:=btL hn
 rw[h1,L_g];rfl
theorem Bi0(h:Hs)(hp:Tr Blk)(lo:Nat)(K:KV)(v:Value):dPut K v (F_u h (Hs.mk hp h.nx lo) .bar) (andB (dFit h (Hs.mk hp h.nx lo) .bar) (Nat.ble 0 (Hs.mk hp h.nx lo).lo))=K v (Hs.mk hp h.nx lo):=dBar (lR _) K v
theorem k_y(h:Hs)(a:Tr Blk)(K:KV)(v:Value):dPut K v (F_u h ⟨a,h.nx,h.nx⟩ .blind) (andB (dFit h ⟨a,h.nx,h.nx⟩ .blind) (Nat.ble 0 h.nx))=K v h:=by
 have h1:dFit h ⟨a,h.nx,h.nx⟩ .blind=true:=by
  show andB (Nat.beq h.nx h.nx) (Nat.ble h.nx h.nx)=true
  rw[Nat.beq_refl,M_3];rfl
 rw[h1,L_g];rfl
theorem Ah7{m d:Nat}(hd:d≤m)(hm:m≤9223372036854775807)(K:Value→An):kI64 .sub (.int .i64 (.ofNat m)) (.int .i64 (.ofNat d)) K=K (.int .i64 (.ofNat (m-d))):=by
 rw[s_3 (by simp only[onC];constructor<;>omega)]
 congr 2;simp only[onC];omega
theorem Ag8{m d:Nat}(hm:m+d≤9223372036854775807)(K:Value→An):kI64 .add (.int .i64 (.ofNat m)) (.int .i64 (.ofNat d)) K=K (.int .i64 (.ofNat (m+d))):=by
 rw[i_e (by simp only[onC];constructor<;>omega)];rfl
theorem Own.sl{n0:Nat}{t:TypeId}{h:Hs}{v:Value}{L:List (Int × Int)}(o:Own n0 t h v L):Sl h v L:=by
 rcases o with⟨rfl,rfl⟩|⟨id,cc,rfl,o2,o3,o4,o5⟩
 ·exact⟨none,0,rfl,λi f l hi=>by simp at hi⟩
 ·refine⟨some ⟨id,0,none⟩,L.length,rfl,λi f l hi=>⟨id,0,cc,L.length*2,t,2,true,true,rfl,o3,o4,?_,?_⟩⟩
  ·rw[zaQ];exact(o5 i f l hi).1
  ·rw[zaQ];exact(o5 i f l hi).2
def SlI(h:Hs)(v:Value)(L:List Int):Prop:=
 ∃a c,v=.slice a L.length c∧∀i l,L[i]?=some l→∃b o cc n e u rw_ fl,a=some ⟨b,o,none⟩∧b<h.nx∧h.hp.get b=some (.row cc n e u rw_ fl)∧cc.get (o+i*1)=some (.int .i64 l)
theorem SlI.mono{h h':Hs}{v:Value}{L:List Int}(s:SlI h v L)(e:Ext h h'):SlI h' v L:=by
 obtain⟨a,c,h1,h2⟩:=s
 refine⟨a,c,h1,λi l hi=>?_⟩
 obtain⟨b,o,cc,n,e',u,rw_,fl,q1,q2,q3,q4⟩:=h2 i l hi
 exact⟨b,o,cc,n,e',u,rw_,fl,q1,llN q2 e.1,(e.2 b q2).trans q3,q4⟩
theorem SlI.lo{h:Hs}{v:Value}{L:List Int}(s:SlI h v L)(n:Nat):SlI ⟨h.hp,h.nx,n⟩ v L:=s
theorem SlI.len{h:Hs}{v:Value}{L:List Int}(s:SlI h v L)(K:Value→An):L_o v K=K (.int .i64 (.ofNat L.length)):=by
 obtain⟨a,c,rfl,_⟩:=s;exact P_t _ _ _ _
theorem SlI.at{h:Hs}{v:Value}{L:List Int}(s:SlI h v L){h':Hs}(e:Ext h h'){i:Nat}{l:Int}(hi:L[i]?=some l)(K:Value→An) :
 L_x 1 v (.int .i64 (.ofNat i)) (λx=>kLoad x h' K)=K (.int .i64 l):=by
 obtain⟨a,c,rfl,h2⟩:=s.mono e
 obtain⟨b,o,cc,n,e',u,rw_,fl,rfl,q2,q3,q4⟩:=h2 i l hi
 rw[M_6 (geI.1 hi).1,kLoad_ok q3 q4]
end Go.Gev
