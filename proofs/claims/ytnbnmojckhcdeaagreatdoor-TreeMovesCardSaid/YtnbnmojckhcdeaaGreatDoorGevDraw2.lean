import Derived.Test.YtnbnmojckhcdeaaGreatDoorGevDraw1
import Derived.Orders
namespace Go.Gev
open Go.RowKit
def Ren.upto(ρ:Ren)(n:Nat):Ren:=λid=>if id<n then ρ id else none
theorem Ren.upto_mono{ρ ρ':Ren}{n m:Nat}(h:ρ.le ρ')(hnm:n≤m):(ρ.upto n).le (ρ'.upto m):=λid X e=>by
 unfold Ren.upto at e ⊢;split at e
 ·rename_i hi;rw[if_pos (by omega)];exact h _ _ e
 ·cases e
theorem Ren.upto_some{ρ:Ren}{n id:Nat}{X:Host}(h:ρ.upto n id=some X):id<n∧ρ id=some X:=by
 unfold Ren.upto at h;split at h
 ·rename_i hi;exact⟨hi,h⟩
 ·cases h
theorem Ren.upto_lt{ρ:Ren}{n id:Nat}(h:id<n):ρ.upto n id=ρ id:=by unfold Ren.upto;rw[if_pos h]
theorem Ren.upto_ge{ρ:Ren}{n id:Nat}(h:n≤id):ρ.upto n id=none:=by unfold Ren.upto;rw[if_neg (by omega)]
structure Dr (R:Rn) (P:Program) (N:Nat) (sl:List Nat) (ops:Array Oper) (fr:Fr) (V:Nat→Value) (H:Nat→Hs) (E:Nat→List Nat) (bm:Nat→Nat) (K:Nat→DK) (D:Nat→Option Nat) (X:Nat→Cx) (lw:Option LW) (hz:Hs):Prop where
 edges:∀i o,ops[i]?=some o→E i=L_u o.after.toList
 elt:∀i,i<ops.size→∀e∈E i,e<i
 bit:∀i x,i<ops.size→(bm i).testBit x=true→∃e∈E i,x=e∨(bm e).testBit x=true
 dst:∀i o,ops[i]?=some o→D i=O_z N o
 dsts:∀(i j:Nat)(o o':Oper)(t:Nat),ops[i]?=some o→ops[j]?=some o'→o.dst=some t→o'.dst=some t→i=j
 bar1:∀i j,K i=.bar→i<ops.size→j<i→K j≠.blind→(bm i).testBit j=true
 bar2:∀i j,K i=.bar→i<j→j<ops.size→K j≠.blind→K j≠.make→(bm j).testBit i=true
 look:∀i t,i<ops.size→(∃j,j<i∧D j=some t∧(bm i).testBit j=true∧∃ix,(X i).look t=.l ix∧∀U:Nat→Value,nthL ix (K_0 U i)=U j)∨(X i).look t=.c dunno ∨
  (∃p,slot sl t=some p∧(X i).look t=.t p∧∀j,j<ops.size→D j=some t→(bm j).testBit i=true)
 recs:∀i o,ops[i]?=some o→DRec R fr hz ⟨gop P (X i) o,(goper P (X i) sl ops o).guard,K i,lmIf (bm i) i (K i),lw,b_d lw o.op⟩ (K_0 V i) (K_0 (rng H) i) (H i) (V i) (H (i+1))
 lowB:∀i o,ops[i]?=some o→b_d lw o.op=true→K i=.blind
 cut0:cutO fr lw≤(H 0).lo∧cutO fr lw≤(H 0).nx
section
variable {R:Rn} {P:Program} {N:Nat} {sl:List Nat} {ops:Array Oper} {fr:Fr} {V:Nat→Value} {H:Nat→Hs} {E:Nat→List Nat} {bm:Nat→Nat} {K:Nat→DK} {D:Nat→Option Nat} {X:Nat→Cx} {lw:Option LW} {hz:Hs}
theorem Dr.opAt(_:Dr R P N sl ops fr V H E bm K D X lw hz){i:Nat}(hi:i<ops.size):∃o,ops[i]?=some o:=⟨ops[i],by simp[hi]⟩
theorem Dr.nx1(d:Dr R P N sl ops fr V H E bm K D X lw hz){i:Nat}(hi:i<ops.size):(H i).nx≤(H (i+1)).nx:=by
 obtain⟨o,ho⟩:=d.opAt hi
 rcases d.recs i o ho with⟨_,_,e⟩|⟨_,h1,_,hf0,e⟩
 ·rw[e];exact lR _
 ·have hf:=(andB_true hf0).1
  simp only at hf e
  cases hk:K i with
  |blind=>rw[e,hk];exact lR _
  |light=>
   rw[hk] at hf e
   rw[e]
   exact lbT (andB_true hf).1
  |make=>
   rw[hk] at hf e
   rw[e]
   exact lbT (andB_true hf).1
  |bar=>
   rw[hk] at hf e
   rw[e]
   exact lbT hf
theorem Dr.nx(d:Dr R P N sl ops fr V H E bm K D X lw hz){i j:Nat}(hij:i≤j)(hj:j≤ops.size):(H i).nx≤(H j).nx:=by
 induction j with
 | zero => have : i = 0 := by omega
           subst this;exact lR _
 |succ j ih=>
  by_cases e:i=j+1
  ·subst e;exact lR _
  ·exact lTr (ih (by omega) (by omega)) (d.nx1 (by omega))
theorem Dr.cut(d:Dr R P N sl ops fr V H E bm K D X lw hz):∀{i:Nat},i≤ops.size→cutO fr lw≤(H i).lo∧cutO fr lw≤(H i).nx:=by
 intro i
 induction i with
 |zero=>intro _;exact d.cut0
 | succ i ih =>
  intro hi
  obtain⟨c1,c2⟩:=ih (by omega)
  refine⟨?_,lTr c2 (d.nx1 (by omega))⟩
  obtain⟨o,ho⟩:=d.opAt (i:=i) (by omega)
  rcases d.recs i o ho with⟨_,_,e⟩|⟨_,h1,_,hf0,e⟩
  ·rw[e];exact c1
  ·have hf:=lbT (andB_true hf0).2
   simp only at hf e
   cases hk:K i with
   |blind=>rw[e,hk];exact c1
   |light=>rw[e,hk];exact c1
   |make=>rw[e,hk];exact c1
   |bar=>rw[e,hk];exact hf
theorem Dr.blind_nx(d:Dr R P N sl ops fr V H E bm K D X lw hz){i:Nat}(hi:i<ops.size)(hk:K i=.blind):H (i+1)=H i:=by
 obtain⟨o,ho⟩:=d.opAt hi
 rcases d.recs i o ho with⟨_,_,e⟩|⟨_,h1,_,hf0,e⟩
 ·exact e
 ·rw[e];simp only[hk];rfl
theorem Dr.step(d:Dr R P N sl ops fr V H E bm K D X lw hz){i:Nat}(hi:i<ops.size)(hk:K i≠.bar):(H (i+1)).lo=(H i).lo∧∀id,(id<(H i).nx∨(H (i+1)).nx≤id)→(H (i+1)).hp.get id=(H i).hp.get id:=by
 obtain⟨o,ho⟩:=d.opAt hi
 rcases d.recs i o ho with⟨_,_,e⟩|⟨_,h1,_,hf0,e⟩
 ·rw[e];exact⟨rfl,λ_ _=>rfl⟩
 ·have hf:=(andB_true hf0).1
  simp only at hf e
  cases hk2:K i with
  |blind=>rw[e,hk2];exact⟨rfl,λ_ _=>rfl⟩
  |bar=>exact absurd hk2 hk
  |light=>
   rw[hk2] at hf e
   have hnx:(H i).nx≤h1.nx:=lbT (andB_true hf).1
   rw[e]
   refine⟨rfl,λid hid=>?_⟩
   simp only[F_u,Nat.sub_eq] at hid ⊢
   rw[M_p,if_neg (by omega)]
  |make=>
   rw[hk2] at hf e
   have hnx:(H i).nx≤h1.nx:=lbT (andB_true hf).1
   rw[e]
   refine⟨rfl,λid hid=>?_⟩
   simp only[F_u,Nat.sub_eq] at hid ⊢
   rw[M_p,if_neg (by omega)]
theorem Dr.origin(d:Dr R P N sl ops fr V H E bm K D X lw hz){p:Nat}{id:Nat}{b:Blk}:∀{i:Nat},p≤i→i≤ops.size→(∀k,p≤k→k<i→K k≠.bar)→(H i).hp.get id=some b →
 (H p).hp.get id=some b∨∃j,p≤j∧j<i∧(H j).nx≤id∧id<(H (j+1)).nx∧(H (j+1)).hp.get id=some b:=by
 intro i
 induction i with
 | zero => intro h1 _ _ hb; have : p = 0 := by omega
           subst this;exact .inl hb
 | succ i ih =>
  intro h1 h2 hk hb
  by_cases e:p=i+1
  ·subst e;exact .inl hb
  ·by_cases hr:(H i).nx≤id∧id<(H (i+1)).nx
   ·exact .inr ⟨i,by omega,by omega,hr.1,hr.2,hb⟩
   ·rw[(d.step (by omega) (hk i (by omega) (by omega))).2 id (by omega)] at hb
    rcases ih (by omega) (by omega) (λk a c=>hk k a (by omega)) hb with q|⟨j,q1,q2,q3⟩
    ·exact .inl q
    ·exact .inr ⟨j,q1,by omega,q3⟩
theorem Dr.keep(d:Dr R P N sl ops fr V H E bm K D X lw hz){p:Nat}{id:Nat}:∀{i:Nat},p≤i→i≤ops.size→(∀k,p≤k→k<i→K k≠.bar)→id<(H p).nx→(H i).hp.get id=(H p).hp.get id:=by
 intro i
 induction i with
 | zero => intro h1 _ _ _; have : p = 0 := by omega
           subst this;rfl
 |succ i ih=>
  intro h1 h2 hk hid
  by_cases e:p=i+1
  ·subst e;rfl
  ·rw[(d.step (by omega) (hk i (by omega) (by omega))).2 id (.inl (llN hid (d.nx (by omega) (by omega)))),ih (by omega) (by omega) (λk a c=>hk k a (by omega)) hid]
theorem Dr.lo(d:Dr R P N sl ops fr V H E bm K D X lw hz){p:Nat}:∀{i:Nat},p≤i→i≤ops.size→(∀k,p≤k→k<i→K k≠.bar)→(H i).lo=(H p).lo:=by
 intro i
 induction i with
 | zero => intro h1 _ _; have : p = 0 := by omega
           subst this;rfl
 |succ i ih=>
  intro h1 h2 hk
  by_cases e:p=i+1
  ·subst e;rfl
  ·rw[(d.step (by omega) (hk i (by omega) (by omega))).1,ih (by omega) (by omega) (λk a c=>hk k a (by omega))]
structure Inv (ops:Array Oper) (V:Nat→Value) (H:Nat→Hs) (bm:Nat→Nat) (K:Nat→DK) (D:Nat→Option Nat) (N:Nat) (B:Nat) (ρ0:Ren) (h0:Hs) (w0:World) (a0:Act) (listed:Array Bool) (a:Act) (w:World) (p:Nat) (ρb:Ren) (wb:World) (ρ:Ren):Prop where
 sz:listed.size=ops.size
 closed:∀i x,listed.getD i false=true→(bm i).testBit x=true→listed.getD x false=true
 ple:p≤ops.size
 pnb:∀j,j<p→K j≠.blind→listed.getD j false=true
 nobar:∀j,p≤j→listed.getD j false=true→K j≠.bar
 st:St B ρ0 h0 w0 ρb (H p) wb
 pre:∀id,id<(H p).nx→ρ id=ρb id
 dom:∀id X,(H p).nx≤id→ρ id=some X→w0.heap.size≤X.blk∧∃j,p≤j∧j<ops.size∧listed.getD j false=true∧(H j).nx≤id∧id<(H (j+1)).nx
 heap:∀k,k<wb.heap.size→w.heap[k]?=wb.heap[k]?
 below:Below B wb w
 size:wb.heap.size≤w.heap.size
 br:∀j,p≤j→listed.getD j false=true→∀id b,(H j).nx≤id→id<(H (j+1)).nx→(H (j+1)).hp.get id=some b→BR B (ρ.upto (H (j+1)).nx) w id b∧isRw b=true
 inj:∀j j',p≤j→p≤j'→listed.getD j false=true→listed.getD j' false=true→∀id id' b b' X X',(H j).nx≤id→id<(H (j+1)).nx→(H j').nx≤id'→id'<(H (j'+1)).nx →
  (H (j+1)).hp.get id=some b→(H (j'+1)).hp.get id'=some b'→id≠id'→ρ id=some X→ρ id'=some X'→X.blk≠X'.blk
 apart:∀j,p≤j→listed.getD j false=true→∀id b X,(H j).nx≤id→id<(H (j+1)).nx→(H (j+1)).hp.get id=some b→ρ id=some X→∀id0 b0 X0,(H p).hp.get id0=some b0→ρb id0=some X0→X0.blk≠X.blk
 vals:∀j t,listed.getD j false=true→D j=some t→VR (ρ.upto (H (j+1)).nx) (V j) (a.tmps.getD t undef)
 rest:∀t,t<N→(∀j,listed.getD j false=true→D j≠some t)→a.tmps.getD t undef=a0.tmps.getD t undef
 tsz:a.tmps.size=a0.tmps.size
 dfr:a.defers=a0.defers
variable {B:Nat} {ρ0:Ren} {h0:Hs} {w0:World} {a0:Act} {listed:Array Bool} {a:Act} {w:World} {p:Nat} {ρb:Ren} {wb:World} {ρ:Ren}
theorem HR.host_of{B:Nat}{ρ:Ren}{h:Hs}{w:World}(Rl:HR B ρ h w){id:Nat}{b:Blk}(hb:h.hp.get id=some b){X:Host}(hx:ρ id=some X):X.blk<w.heap.size:=by
 obtain⟨X',e,hl⟩:=(Rl.has id b hb).host_lt
 rw[hx] at e;injection e with e;subst e;exact hl
theorem Inv.leb(I:Inv ops V H bm K D N B ρ0 h0 w0 a0 listed a w p ρb wb ρ):ρb.le ρ:=λid X e=>by
 rcases logQ id (H p).nx with h|h
 ·rw[I.pre id h];exact e
 ·rw[I.st.hr.dom id h] at e;cases e
theorem Inv.le0(I:Inv ops V H bm K D N B ρ0 h0 w0 a0 listed a w p ρb wb ρ):ρ0.le ρ:=Ren.le_trans I.st.le I.leb
theorem Inv.listed_lt(I:Inv ops V H bm K D N B ρ0 h0 w0 a0 listed a w p ρb wb ρ){j:Nat}(h:listed.getD j false=true):j<ops.size:=by
 rcases logQ j ops.size with h1|h1
 ·exact h1
 ·rw[Array.getD_eq_getD_getElem?,Array.getElem?_eq_none (by rw[I.sz];exact h1)] at h;cases h
theorem Inv.part(d:Dr R P N sl ops fr V H E bm K D X lw hz)(I:Inv ops V H bm K D N B ρ0 h0 w0 a0 listed a w p ρb wb ρ){i n:Nat}(hpi:p≤i)(hi:i≤ops.size)(hn:(H i).nx≤n)(hk:∀k,p≤k→k<i→K k≠.bar)(hp:Tr Blk)(lo:Nat)
 (hs:∀id b,hp.get id=some b→(H i).hp.get id=some b∧∀j,j<i→(H j).nx≤id→id<(H (j+1)).nx→listed.getD j false=true) :
 (∀id,n≤id→ρ.upto (H i).nx id=none)∧HR B (ρ.upto (H i).nx) ⟨hp,n,lo⟩ w:=by
 have hpn:(H p).nx≤(H i).nx:=d.nx hpi hi
 have hdom:∀id,n≤id→ρ.upto (H i).nx id=none:=λid hid=>Ren.upto_ge (by omega)
 have hold:∀id b,(H p).hp.get id=some b→BR B (ρ.upto (H i).nx) w id b:=λid b hb=>by
  refine(I.st.hr.has id b hb).mono (λid' X e=>?_) (λX hX=>I.heap _ (I.st.hr.host_of hb hX))
  have hid:id'<(H p).nx:=by
   rcases logQ id' (H p).nx with h|h
   ·exact h
   ·rw[I.st.hr.dom id' h] at e;cases e
  rw[Ren.upto_lt (llN hid hpn),I.pre id' hid];exact e
 refine⟨hdom,lTr I.st.hr.base I.size,hdom,λid b hb=>?_,λid id' b b' X X' hb hb' hne hr hX hX'=>?_⟩
 ·obtain⟨q1,q2⟩:=hs id b hb
  rcases d.origin hpi hi hk q1 with q|⟨j,j1,j2,j3,j4,j5⟩
  ·exact hold id b q
  ·exact((I.br j j1 (q2 j j2 j3 j4) id b j3 j4 j5).1).mono (Ren.upto_mono (rLR _) (d.nx (by omega) hi)) (λ_ _=>rfl)
 ·obtain⟨_,eX⟩:=Ren.upto_some hX
  obtain⟨_,eX'⟩:=Ren.upto_some hX'
  obtain⟨q1,q2⟩:=hs id b hb
  obtain⟨r1,r2⟩:=hs id' b' hb'
  rcases d.origin hpi hi hk q1 with q|⟨j,j1,j2,j3,j4,j5⟩
  ·have hlt:=I.st.hr.lt q
   rw[I.pre id hlt] at eX
   rcases d.origin hpi hi hk r1 with r|⟨k,k1,k2,k3,k4,k5⟩
   ·rw[I.pre id' (I.st.hr.lt r)] at eX'
    exact I.st.hr.inj id id' b b' X X' q r hne hr eX eX'
   ·exact I.apart k k1 (r2 k k2 k3 k4) id' b' X' k3 k4 k5 eX' id b X q eX
  ·rcases d.origin hpi hi hk r1 with r|⟨k,k1,k2,k3,k4,k5⟩
   ·rw[I.pre id' (I.st.hr.lt r)] at eX'
    exactλe=>I.apart j j1 (q2 j j2 j3 j4) id b X j3 j4 j5 eX id' b' X' r eX' e.symm
   ·exact I.inj j k j1 k1 (q2 j j2 j3 j4) (r2 k k2 k3 k4) id id' b b' X X' j3 j4 k3 k4 j5 k5 hne eX eX'
theorem Inv.conv(d:Dr R P N sl ops fr V H E bm K D X lw hz)(I:Inv ops V H bm K D N B ρ0 h0 w0 a0 listed a w p ρb wb ρ)(R0:HR B ρ0 h0 w0){i:Nat}(hpi:p≤i)(hi:i≤ops.size)(hk:∀k,p≤k→k<i→K k≠.bar)
 (h1:∀j,j<i→K j≠.blind→listed.getD j false=true):St B ρ0 h0 w0 (ρ.upto (H i).nx) (H i) w:=by
 have hnb:∀j,j<i→(H j).nx≤(H (j+1)).nx→∀id,(H j).nx≤id→id<(H (j+1)).nx→listed.getD j false=true:=λj hj _ id a1 a2=>by
  refine h1 j hj λhb=>?_
  have:=d.blind_nx (by omega) hb;rw[this] at a2;omega
 have hR:HR B (ρ.upto (H i).nx) (H i) w:=(I.part d hpi hi (lR _) hk (H i).hp (H i).lo (λid b hb=>⟨hb,λj hj a1 a2=>hnb j hj (d.nx1 (by omega)) id a1 a2⟩)).2
 have hpn:(H p).nx≤(H i).nx:=d.nx hpi hi
 have h0p:h0.nx≤(H p).nx:=I.st.nx
 have hlo:(H i).lo=(H p).lo:=d.lo hpi hi hk
 have hid0:∀{id X},ρ0 id=some X→id<h0.nx:=λ{id X} e=>by
  rcases logQ id h0.nx with g|g
  ·exact g
  ·rw[R0.dom id g] at e;cases e
 refine⟨hR,lTr h0p hpn,λid X e=>?_,λid hid=>?_,I.st.below.trans I.below,lTr I.st.size I.size,by rw[hlo];exact I.st.lo,λid b hb hl=>?_,λid b hb hid=>?_,λid b hb hid=>?_,λk hkk hno=>?_,λid X hid e=>?_⟩
 ·rw[Ren.upto_lt (by have:=hid0 e;omega)];exact I.le0 _ _ e
 ·rw[Ren.upto_lt (by omega),I.pre id (by omega)];exact I.st.old id hid
 ·rw[hlo] at hl
  have h2:=I.st.keep id b hb hl
  rw[d.keep hpi hi hk (I.st.hr.lt h2)];exact h2
 ·rw[d.keep hpi hi hk (by omega)] at hb
  rw[hlo]
  exact I.st.gone id b hb hid
 ·rcases d.origin hpi hi hk hb with q|⟨j,j1,j2,j3,j4,j5⟩
  ·exact I.st.newrw id b q hid
  ·exact(I.br j j1 (hnb j j2 (d.nx1 (by omega)) id j3 j4) id b j3 j4 j5).2
 ·rw[I.heap k (llN hkk I.st.size)]
  exact I.st.frame k hkk λid b X hb hr hX hl=>hno id b X hb hr hX (by rw[hlo];exact hl)
 ·obtain⟨_,e⟩:=Ren.upto_some e
  rcases logQ id (H p).nx with g|g
  ·rw[I.pre id g] at e
   rw[hlo]
   exact I.st.fresh id X hid e
  ·exact .inl (I.dom id X g e).1
theorem o_5{b0:Option Blk}{b:Blk}(h:s_t b0=some b):b0=some b∧isRw b=false:=by
 cases b0 with
 |none=>cases h
 | some b0 => cases b0 with
  |mp es k=>cases h
  |it _ _ _ _=>cases h
  |lp _=>cases h
  |row c n e u rw fl=>cases rw with
   |true=>cases h
   |false=>injection h with h;subst h;exact⟨rfl,rfl⟩
theorem AG6{fr:Fr}{lw:Option LW}{h0 h:Hs}(hlt:∀id b,h0.hp.get id=some b→id<h0.nx){id:Nat}{b:Blk}(hb:(lowW fr h0 h lw).hp.get id=some b):h0.hp.get id=some b∧(id<cutO fr lw∨isRw b=false):=by
 have lo:∀c,(lowM c h0 h).hp.get id=some b→h0.hp.get id=some b∧id<c:=λc hb=>by
  obtain⟨q1,q2⟩:=l_8 _ _ _ _ _ hb
  refine⟨q1,?_⟩
  have:=hlt _ _ q1
  simp only[Nat.sub_eq] at q2
  omega
 cases lw with
 |none=>obtain⟨q,q2⟩:=lo 0 hb;omega
 | some L =>
  obtain⟨fz,p,ts⟩:=L
  cases fz with
  |false=>obtain⟨q,q2⟩:=lo _ hb;exact⟨q,.inl q2⟩
  |true=>
   have hb:(Tr.set .e (fzId fr ⟨true,p,ts⟩) (s_t (h0.hp.get (fzId fr ⟨true,p,ts⟩)))).get id=some b:=hb
   rw[tgS] at hb
   split at hb
   ·rename_i e;obtain⟨q1,q2⟩:=o_5 hb;rw[e] at q1;exact⟨q1,.inr q2⟩
   ·rw[Tr.get_e] at hb;cases hb
theorem p_n{fr:Fr}{lw:Option LW}{h0 h:Hs}:(lowW fr h0 h lw).nx=h.nx:=by
 cases lw with
 |none=>rfl
 |some L=>obtain⟨fz,p,ts⟩:=L;cases fz<;>rfl
theorem AY0{fr:Fr}{lw:Option LW}{h0 h:Hs}:(lowW fr h0 h lw).lo=h.nx:=by
 cases lw with
 |none=>rfl
 |some L=>obtain⟨fz,p,ts⟩:=L;cases fz<;>rfl
theorem Inv.low(d:Dr R P N sl ops fr V H E bm K D X lw hz)(R0:HR B ρ0 h0 w0)(hH0:(H 0).nx=h0.nx)(I:Inv ops V H bm K D N B ρ0 h0 w0 a0 listed a w p ρb wb ρ){i:Nat}(hi:i≤ops.size):HR B (ρ.upto (H i).nx) (lowW fr h0 (H i) lw) w:=by
 have hc:=d.cut I.ple
 have h0i:h0.nx≤(H i).nx:=by rw[←hH0];exact d.nx (Nat.zero_le _) hi
 have hsee:∀id b,(lowW fr h0 (H i) lw).hp.get id=some b→h0.hp.get id=some b∧(id<cutO fr lw∨isRw b=false):=λid b hb=>AG6 (λ_ _ h=>R0.lt h) hb
 have hle:ρ0.le (ρ.upto (H i).nx):=λid X e=>by
  have hid:id<h0.nx:=by
   rcases logQ id h0.nx with g|g
   ·exact g
   ·rw[R0.dom id g] at e;cases e
  rw[Ren.upto_lt (by omega)]
  exact I.le0 _ _ e
 have hhost:∀id b X,h0.hp.get id=some b→ρ.upto (H i).nx id=some X→ρ0 id=some X:=λid b X hb hX=>by
  obtain⟨L,e,_⟩:=(R0.has id b hb).host_lt
  rw[hle _ _ e] at hX
  rw[e];exact hX
 refine⟨lTr I.st.hr.base I.size,λid hid=>Ren.upto_ge (by rw[p_n] at hid;exact hid),λid b hb=>?_,λid id' b b' X X' hb hb' hne hr hX hX'=>?_⟩
 ·obtain⟨q1,q2⟩:=hsee id b hb
  refine(R0.has id b q1).mono hle (λX hX=>?_)
  have hlt:=R0.host_of q1 hX
  rw[I.heap _ (llN hlt I.st.size)]
  refine I.st.frame _ hlt (λid' b' X' hb' hrw hX' hlo=>?_)
  exact R0.inj id' id b' b X' X hb' q1 (λe=>by
   subst e
   rcases q2 with q2|q2
   ·omega
   ·rw[q1] at hb';injection hb' with hb';subst hb';rw[q2] at hrw;cases hrw) hrw hX' hX
 ·obtain⟨q1,_⟩:=hsee id b hb
  obtain⟨r1,_⟩:=hsee id' b' hb'
  exact R0.inj id id' b b' X X' q1 r1 hne hr (hhost id b X q1 hX) (hhost id' b' X' r1 hX')
theorem Inv.en(d:Dr R P N sl ops fr V H E bm K D X lw hz)(I:Inv ops V H bm K D N B ρ0 h0 w0 a0 listed a w p ρb wb ρ)(R0:HR B ρ0 h0 w0)(hH0:(H 0).nx=h0.nx)(F:FrR ρ0 sl N fr a0.tmps){i:Nat}(hi:i<ops.size)(hno:listed.getD i false=false)
 (hsee:∀x,(bm i).testBit x=true→listed.getD x false=true):EnR (ρ.upto (H i).nx) (X i) ⟨fr,K_0 V i⟩ a.tmps:=by
 refine⟨λt=>?_⟩
 rcases d.look i t hi with⟨j,j1,j2,j3,ix,e1,e2⟩|e|⟨q,e1,e2,e3⟩
 ·rw[e1]
  show VR _ (nthL ix (K_0 V i)) _
  rw[e2]
  exact(I.vals j t (hsee j j3) j2).mono (Ren.upto_mono (rLR _) (d.nx (by omega) (by omega)))
 ·rw[e];exact .dunno _
 ·rw[e2]
  show VR _ (vOr (fr.getp q)) _
  have htN:t<N:=F.lt t (X_8 e1)
  have hnone:∀j,listed.getD j false=true→D j≠some t:=λj hj hd=>by
   rw[I.closed j i hj (e3 j (I.listed_lt hj) hd)] at hno;cases hno
  rw[I.rest t htN hnone]
  refine(F.fr t q e1).mono λid X e=>?_
  have hid:id<h0.nx:=by
   rcases logQ id h0.nx with h|h
   ·exact h
   ·rw[R0.dom id h] at e;cases e
  rw[Ren.upto_lt (llN hid (by rw[←hH0];exact d.nx (Nat.zero_le _) (by omega)))]
  exact I.le0 id X e
theorem a_8{listed:Array Bool}{i j:Nat}(hi:i<listed.size):(listed.setIfInBounds i true).getD j false=true↔j=i∨listed.getD j false=true:=by
 rw[Array.getD_eq_getD_getElem?,Array.getElem?_setIfInBounds]
 by_cases h:i=j
 ·subst h;simp[hi]
 ·rw[if_neg h,←Array.getD_eq_getD_getElem?]
  constructor
  ·exact .inr
  ·rintro(e|e)
   ·exact absurd e.symm h
   ·exact e
theorem R_r{N:Nat}{o:Oper}{t:Nat}(h:O_z N o=some t):o.dst=some t∧t<N:=by
 unfold O_z at h
 cases hx:o.dst with
 |none=>rw[hx] at h;cases h
 |some y=>
  rw[hx] at h
  simp only at h
  cases hb:Nat.blt y N with
  |false=>rw[hb] at h;cases h
  |true=>rw[hb] at h;injection h with h;subst h;rw[blt_eq] at hb;exact⟨rfl,by simpa using hb⟩
theorem s_c{N:Nat}{o:Oper}{t:Nat}(h:o.dst=some t)(hN:t<N):O_z N o=some t:=by
 unfold O_z;rw[h];simp only[blt_eq,decide_eq_true hN]
theorem Inv.valsPut(d:Dr R P N sl ops fr V H E bm K D X lw hz)(I:Inv ops V H bm K D N B ρ0 h0 w0 a0 listed a w p ρb wb ρ)(F:N≤a0.tmps.size){i:Nat}{o:Oper}(ho:ops[i]?=some o){ρ2:Ren}(hle:ρ.le ρ2){v':Value}
 (hv:VR (ρ2.upto (H (i+1)).nx) (V i) v') :
 (∀j t,(j=i∨listed.getD j false=true)→D j=some t→VR (ρ2.upto (H (j+1)).nx) (V j) ((a.put o.dst v').tmps.getD t undef)) ∧
 (∀t,t<N→(∀j,(j=i∨listed.getD j false=true)→D j≠some t)→(a.put o.dst v').tmps.getD t undef=a0.tmps.getD t undef)∧(a.put o.dst v').tmps.size=a0.tmps.size:=by
 have hput:∀t,(a.put o.dst v').tmps.getD t undef=if o.dst=some t∧t<a.tmps.size then v' else a.tmps.getD t undef:=λt=>by
  cases hd:o.dst with
  |none=>simp[Act.put]
  |some y=>
   have:(a.put (some y) v').tmps=a.tmps.setIfInBounds y v':=rfl
   rw[this,Z_7]
   by_cases e:y=t
   ·subst e;simp
   ·simp[e]
 refine⟨λj t hj hd=>?_,λt ht hn=>?_,?_⟩
 ·by_cases e:j=i
  ·subst e
   rw[d.dst j o ho] at hd
   obtain⟨h1,h2⟩:=R_r hd
   rw[hput,if_pos ⟨h1,by rw[I.tsz];omega⟩]
   exact hv
  ·have hl:=hj.resolve_left e
   obtain⟨o',ho'⟩:=d.opAt (I.listed_lt hl)
   have hd':=hd
   rw[d.dst j o' ho'] at hd'
   obtain⟨h1,h2⟩:=R_r hd'
   rw[hput,if_neg (λq=>e (d.dsts j i o' o t ho' ho h1 q.1))]
   exact(I.vals j t hl hd).mono (Ren.upto_mono hle (lR _))
 ·rw[hput,if_neg (λq=>hn i (.inl rfl) (by rw[d.dst i o ho];exact s_c q.1 ht))]
  exact I.rest t ht (λj hj=>hn j (.inr hj))
 ·rw[←I.tsz]
  cases o.dst with
  |none=>rfl
  |some y=>simp[Act.put]
theorem Inv.ext(d:Dr R P N sl ops fr V H E bm K D X lw hz)(I:Inv ops V H bm K D N B ρ0 h0 w0 a0 listed a w p ρb wb ρ)(F:N≤a0.tmps.size){i:Nat}{o:Oper}(ho:ops[i]?=some o)(hno:listed.getD i false=false)
 (hsee:∀x,(bm i).testBit x=true→listed.getD x false=true) (hbar:K i≠.bar) (hpi:K i=.blind∨p≤i) {ρ2:Ren} {w':World} {v':Value} (hle:ρ.le ρ2) (hout:∀id,¬((H i).nx≤id∧id<(H (i+1)).nx)→ρ2 id=ρ id)
 (hnew:∀id X,(H i).nx≤id→id<(H (i+1)).nx→ρ2 id=some X→w.heap.size≤X.blk) (hv:VR (ρ2.upto (H (i+1)).nx) (V i) v') (hh:∀k,k<w.heap.size→w'.heap[k]?=w.heap[k]?) (hbl:Below B w w') (hsz:w.heap.size≤w'.heap.size)
 (hbr:∀id b,(H i).nx≤id→id<(H (i+1)).nx→(H (i+1)).hp.get id=some b→BR B (ρ2.upto (H (i+1)).nx) w' id b∧isRw b=true)
 (hinj:∀id id' b b' X X',(H i).nx≤id→id<(H (i+1)).nx→(H i).nx≤id'→id'<(H (i+1)).nx→(H (i+1)).hp.get id=some b→(H (i+1)).hp.get id'=some b'→id≠id'→ρ2 id=some X→ρ2 id'=some X'→X.blk≠X'.blk) :
 Inv ops V H bm K D N B ρ0 h0 w0 a0 (listed.setIfInBounds i true) (a.put o.dst v') w' p ρb wb ρ2:=by
 have hi:i<ops.size:=(gaI.1 ho).1
 have hL:∀j,(listed.setIfInBounds i true).getD j false=true↔j=i∨listed.getD j false=true:=λj=>a_8 (by rw[I.sz];exact hi)
 obtain⟨v1,v2,v3⟩:=I.valsPut d F ho hle hv
 have hsame:∀id,id<(H p).nx→ρ2 id=ρ id:=λid hid=>hout id λ⟨q1,q2⟩=>by
  rcases hpi with hb|hp
  ·rw[d.blind_nx hi hb] at q2;omega
  ·have:=d.nx hp (by omega);omega
 have hprev:∀j,listed.getD j false=true→∀id,(H j).nx≤id→id<(H (j+1)).nx→ρ2 id=ρ id:=λj hj id a1 a2=>hout id λ⟨q1,q2⟩=>by
  have hji:j≠i:=λe=>by rw[e,hno] at hj;cases hj
  have hjl:=I.listed_lt hj
  rcases logQ j i with g|g
  ·have:=d.nx (i:=j+1) (j:=i) (by omega) (by omega);omega
  ·have:=d.nx (i:=i+1) (j:=j) (by omega) (by omega);omega
 have hlt:∀j,p≤j→listed.getD j false=true→∀id b X,(H j).nx≤id→id<(H (j+1)).nx→(H (j+1)).hp.get id=some b→ρ id=some X→X.blk<w.heap.size:=λj hp hj id b X a1 a2 hb hX=>by
  obtain⟨X',e,hl⟩:=(I.br j hp hj id b a1 a2 hb).1.host_lt
  rw[Ren.upto_lt a2,hX] at e
  injection e with e;subst e;exact hl
 refine⟨by rw[Array.size_setIfInBounds];exact I.sz,λj x hj hx=>?_,I.ple,λj hj hk=>(hL j).2 (.inr (I.pnb j hj hk)),λj hj hl=>?_,I.st,λid hid=>(hsame id hid).trans (I.pre id hid),λid X hid hX=>?_,
  λk hk=>(hh k (llN hk I.size)).trans (I.heap k hk),I.below.trans hbl,lTr I.size hsz,λj hp hj id b a1 a2 hb=>?_,λj j' hp hp' hj hj' id id' b b' X X' a1 a2 c1 c2 hb hb' hne hX hX'=>?_,
  λj hp hj id b X a1 a2 hb hX id0 b0 X0 hb0 hX0=>?_,
  λj t hj=>v1 j t ((hL j).1 hj),λt ht hn=>v2 t ht (λj hj=>hn j ((hL j).2 hj)),v3,by rw[Gev.put_defers];exact I.dfr⟩
 ·rcases (hL j).1 hj with rfl|hj
  ·exact(hL x).2 (.inr (hsee x hx))
  ·exact(hL x).2 (.inr (I.closed j x hj hx))
 ·rcases (hL j).1 hl with rfl|hl
  ·exact hbar
  ·exact I.nobar j hj hl
 ·by_cases hr:(H i).nx≤id∧id<(H (i+1)).nx
  ·refine⟨lTr (lTr I.st.size I.size) (hnew id X hr.1 hr.2 hX),i,?_,hi,(hL i).2 (.inl rfl),hr.1,hr.2⟩
   rcases hpi with hb|hp
   ·rw[d.blind_nx hi hb] at hr;omega
   ·exact hp
  ·rw[hout id hr] at hX
   obtain⟨q0,j,q1,q2,q3,q4⟩:=I.dom id X hid hX
   exact⟨q0,j,q1,q2,(hL j).2 (.inr q3),q4⟩
 ·rcases (hL j).1 hj with rfl|hj
  ·exact hbr id b a1 a2 hb
  ·obtain⟨q1,q2⟩:=I.br j hp hj id b a1 a2 hb
   refine⟨q1.mono (Ren.upto_mono hle (lR _)) λX hX=>hh _ ?_,q2⟩
   exact hlt j hp hj id b X a1 a2 hb (Ren.upto_some hX).2
 ·rcases (hL j).1 hj with e|hj
  ·rcases (hL j').1 hj' with e'|hk'
   ·subst e;subst e'
    exact hinj id id' b b' X X' a1 a2 c1 c2 hb hb' hne hX hX'
   ·have h1:=hnew id X (by rw[←e];exact a1) (by rw[←e];exact a2) hX
    rw[hprev j' hk' id' c1 c2] at hX'
    have h2:=hlt j' hp' hk' id' b' X' c1 c2 hb' hX'
    omega
  ·rw[hprev j hj id a1 a2] at hX
   have h1:=hlt j hp hj id b X a1 a2 hb hX
   rcases (hL j').1 hj' with e'|hj'
   ·subst e'
    have h2:=hnew id' X' c1 c2 hX'
    omega
   ·rw[hprev j' hj' id' c1 c2] at hX'
    exact I.inj j j' hp hp' hj hj' id id' b b' X X' a1 a2 c1 c2 hb hb' hne hX hX'
 ·rcases (hL j).1 hj with e|hj
  ·subst e
   have h1:=hnew id X a1 a2 hX
   have h2:=I.st.hr.host_of hb0 hX0
   have h3:=I.size
   omega
  ·rw[hprev j hj id a1 a2] at hX
   exact I.apart j hp hj id b X a1 a2 hb hX id0 b0 X0 hb0 hX0
theorem Inv.light(d:Dr R P N sl ops fr V H E bm K D X lw hz)(I:Inv ops V H bm K D N B ρ0 h0 w0 a0 listed a w p ρb wb ρ)(F:N≤a0.tmps.size){i:Nat}{o:Oper}(ho:ops[i]?=some o)(hno:listed.getD i false=false)
 (hsee:∀x,(bm i).testBit x=true→listed.getD x false=true) (hbar:K i≠.bar) (hpi:K i=.blind∨p≤i) {hid h1:Hs} {ρ':Ren} {w':World} {v':Value} (hnx:hid.nx=(H i).nx) (R1:HR B (ρ.upto (H i).nx) hid w)
 (S:St B (ρ.upto (H i).nx) hid w ρ' h1 w') (hlo:(H i).nx≤h1.lo) (hn:h1.nx=(H (i+1)).nx) (hget:∀id,(H i).nx≤id→id<(H (i+1)).nx→(H (i+1)).hp.get id=h1.hp.get id) (hv:VR ρ' (V i) v') :
 ∃ρ2,Inv ops V H bm K D N B ρ0 h0 w0 a0 (listed.setIfInBounds i true) (a.put o.dst v') w' p ρb wb ρ2:=by
 have hi:i<ops.size:=(gaI.1 ho).1
 have hle1:=d.nx1 hi
 -- numbers of the new range are new
 have hfree:∀id,(H i).nx≤id→id<(H (i+1)).nx→ρ id=none:=λid a1 a2=>by
  cases e:ρ id with
  |none=>rfl
  | some X =>
   have hpx:(H p).nx≤id:=by
    rcases hpi with hb|hp
    ·rw[d.blind_nx hi hb] at a2;omega
    ·have:=d.nx hp (by omega);omega
   obtain⟨_,j,j1,j2,j3,j4,j5⟩:=I.dom id X hpx e
   have hji:j≠i:=λe=>by rw[e,hno] at j3;cases j3
   rcases logQ j i with g|g
   ·have:=d.nx (i:=j+1) (j:=i) (by omega) (by omega);omega
   ·have:=d.nx (i:=i+1) (j:=j) (by omega) (by omega);omega
 let ρ2:Ren:=λid=>if (H i).nx≤id∧id<(H (i+1)).nx then ρ' id else ρ id
 have hin:∀id,(H i).nx≤id→id<(H (i+1)).nx→ρ2 id=ρ' id:=λid a1 a2=>if_pos ⟨a1,a2⟩
 have hout:∀id,¬((H i).nx≤id∧id<(H (i+1)).nx)→ρ2 id=ρ id:=λid h=>if_neg h
 have hle:ρ.le ρ2:=λid X e=>by
  by_cases hr:(H i).nx≤id∧id<(H (i+1)).nx
  ·rw[hfree id hr.1 hr.2] at e;cases e
  ·rw[hout id hr];exact e
 have hle':ρ'.le (ρ2.upto (H (i+1)).nx):=λid X e=>by
  have hlt:id<(H (i+1)).nx:=by
   rcases logQ id (H (i+1)).nx with h|h
   ·exact h
   ·rw[S.hr.dom id (by rw[hn];exact h)] at e;cases e
  rw[Ren.upto_lt hlt]
  rcases logQ id (H i).nx with h|h
  ·rw[hout id (by omega)]
   rw[S.old id (by rw[hnx];exact h),Ren.upto_lt h] at e
   exact e
  ·rw[hin id h hlt];exact e
 have hnone:∀{id b},hid.hp.get id=some b→h1.lo≤id→False:=λ{id b} hb hl=>by
  have h2:=R1.lt hb
  rw[hnx] at h2;omega
 refine⟨ρ2,I.ext d F ho hno hsee hbar hpi hle hout (λid X a1 a2 hX=>?_) (hv.mono hle') (λk hk=>S.frame k hk λid b X hb _ _ hl=>absurd (hnone hb hl) not_false) S.below S.size (λid b a1 a2 hb=>?_)
  (λid id' b b' X X' a1 a2 c1 c2 hb hb' hne hX hX'=>?_)⟩
 ·rw[hin id a1 a2] at hX
  rcases S.fresh id X (by rw[hnx];exact a1) hX with q|⟨id0,b,X0,hb,_,_,hl,_⟩
  ·exact q
  ·exact absurd (hnone hb hl) not_false
 ·rw[hget id a1 a2] at hb
  exact⟨(S.hr.has id b hb).mono hle' (λ_ _=>rfl),S.newrw id b hb (by rw[hnx];exact a1)⟩
 ·rw[hget id a1 a2] at hb
  rw[hget id' c1 c2] at hb'
  rw[hin id a1 a2] at hX
  rw[hin id' c1 c2] at hX'
  exact S.hr.inj id id' b b' X X' hb hb' hne (S.newrw id b hb (by rw[hnx];exact a1)) hX hX'
theorem Inv.far(d:Dr R P N sl ops fr V H E bm K D X lw hz)(I:Inv ops V H bm K D N B ρ0 h0 w0 a0 listed a w p ρb wb ρ){i:Nat}(hpi:p≤i)(hi:i≤ops.size)(hk:∀k,p≤k→k<i→K k≠.bar)(h1:∀j,j<i→K j≠.blind→listed.getD j false=true)
 {j:Nat} (hij:i≤j) (hj:listed.getD j false=true) {id:Nat} {b:Blk} {X:Host} (a1:(H j).nx≤id) (a2:id<(H (j+1)).nx) (hb:(H (j+1)).hp.get id=some b) (hX:ρ id=some X)
 {id0:Nat} {b0:Blk} {X0:Host} (hb0:(H i).hp.get id0=some b0) (hX0:ρ.upto (H i).nx id0=some X0):X0.blk≠X.blk:=by
 obtain⟨hlt0,hX0⟩:=Ren.upto_some hX0
 rcases d.origin hpi hi hk hb0 with q|⟨k,k1,k2,k3,k4,k5⟩
 ·rw[I.pre id0 (I.st.hr.lt q)] at hX0
  exact I.apart j (lTr hpi hij) hj id b X a1 a2 hb hX id0 b0 X0 q hX0
 ·have hkl:listed.getD k false=true:=h1 k k2 λhbl=>by
   have:=d.blind_nx (by omega) hbl;rw[this] at k4;omega
  have hne:id0≠id:=λe=>by
   have:=d.nx hij (by have:=I.listed_lt hj;omega)
   omega
  exact I.inj k j k1 (lTr hpi hij) hkl hj id0 id b0 b X0 X k3 k4 a1 a2 k5 hb hne hX0 hX
theorem Inv.bar(d:Dr R P N sl ops fr V H E bm K D X lw hz)(R0:HR B ρ0 h0 w0)(I:Inv ops V H bm K D N B ρ0 h0 w0 a0 listed a w p ρb wb ρ)(F:N≤a0.tmps.size){i:Nat}{o:Oper}(ho:ops[i]?=some o)(hno:listed.getD i false=false)
 (hsee:∀x,(bm i).testBit x=true→listed.getD x false=true) (hpi:p≤i) (hkb:∀k,p≤k→k<i→K k≠.bar) (h1:∀j,j<i→K j≠.blind→listed.getD j false=true) (h2:∀j,i<j→listed.getD j false=true→K j≠.bar)
 (S0:St B ρ0 h0 w0 (ρ.upto (H i).nx) (H i) w) {ρ':Ren} {w':World} {v':Value} (S:St B (ρ.upto (H i).nx) (H i) w ρ' (H (i+1)) w') (hv:VR ρ' (V i) v') :
 ∃ρ2,Inv ops V H bm K D N B ρ0 h0 w0 a0 (listed.setIfInBounds i true) (a.put o.dst v') w' (i+1) ρ' w' ρ2:=by
 have hi:i<ops.size:=(gaI.1 ho).1
 have hn1:=d.nx1 hi
 have hL:∀j,(listed.setIfInBounds i true).getD j false=true↔j=i∨listed.getD j false=true:=λj=>a_8 (by rw[I.sz];exact hi)
 -- numbers of the new range are new
 have hfree:∀id,(H i).nx≤id→id<(H (i+1)).nx→ρ id=none:=λid a1 a2=>by
  cases e:ρ id with
  |none=>rfl
  |some X=>
   obtain⟨_,j,j1,j2,j3,j4,j5⟩:=I.dom id X (lTr (d.nx hpi (by omega)) a1) e
   have hji:j≠i:=λe=>by rw[e,hno] at j3;cases j3
   rcases logQ j i with g|g
   ·have:=d.nx (i:=j+1) (j:=i) (by omega) (by omega);omega
   ·have:=d.nx (i:=i+1) (j:=j) (by omega) (by omega);omega
 let ρ2:Ren:=λid=>if id<(H (i+1)).nx then ρ' id else ρ id
 have hin:∀id,id<(H (i+1)).nx→ρ2 id=ρ' id:=λid h=>if_pos h
 have hout:∀id,(H (i+1)).nx≤id→ρ2 id=ρ id:=λid h=>if_neg (by omega)
 have hold:∀id,id<(H i).nx→ρ' id=ρ id:=λid h=>by rw[S.old id h,Ren.upto_lt h]
 have hle:ρ.le ρ2:=λid X e=>by
  rcases logQ id (H (i+1)).nx with g|g
  ·rw[hin id g]
   rcases logQ id (H i).nx with g2|g2
   ·rw[hold id g2];exact e
   ·rw[hfree id g2 g] at e;cases e
  ·rw[hout id g];exact e
 have hle':ρ'.le (ρ2.upto (H (i+1)).nx):=λid X e=>by
  rcases logQ id (H (i+1)).nx with g|g
  ·rw[Ren.upto_lt g,hin id g];exact e
  ·rw[S.hr.dom id g] at e;cases e
 obtain⟨v1,v2,v3⟩:=I.valsPut d F ho hle (hv.mono hle')
 have hbeh:∀j,i+1≤j→(listed.setIfInBounds i true).getD j false=true→listed.getD j false=true:=λj hj hl=>by
  rcases (hL j).1 hl with rfl|hl
  ·omega
  ·exact hl
 have hhi:∀j,i+1≤j→listed.getD j false=true→∀id,(H j).nx≤id→(H (i+1)).nx≤id:=λj hj hl id a1=>by
  have:=d.nx hj (by have:=I.listed_lt hl;omega);omega
 have hlt:∀j,i+1≤j→listed.getD j false=true→∀id b X,(H j).nx≤id→id<(H (j+1)).nx→(H (j+1)).hp.get id=some b→ρ id=some X→X.blk<w.heap.size:=λj hp hj id b X a1 a2 hb hX=>by
  obtain⟨X',e,hl⟩:=(I.br j (by omega) hj id b a1 a2 hb).1.host_lt
  rw[Ren.upto_lt a2,hX] at e
  injection e with e;subst e;exact hl
 refine⟨ρ2,by rw[Array.size_setIfInBounds];exact I.sz,λj x hj hx=>?_,hi,λj hj hk=>?_,λj hj hl=>h2 j (by omega) (hbeh j hj hl),St.trans R0 S0 S,λid hid=>hin id hid,λid X hid hX=>?_,
  λ_ _=>rfl,Below.refl _ _,lR _,λj hp hj id b a1 a2 hb=>?_,λj j' hp hp' hj hj' id id' b b' X X' a1 a2 c1 c2 hb hb' hne hX hX'=>?_,λj hp hj id b X a1 a2 hb hX id0 b0 X0 hb0 hX0=>?_,
  λj t hj=>v1 j t ((hL j).1 hj),λt ht hn=>v2 t ht (λj hj=>hn j ((hL j).2 hj)),v3,by rw[Gev.put_defers];exact I.dfr⟩
 ·rcases (hL j).1 hj with rfl|hj
  ·exact(hL x).2 (.inr (hsee x hx))
  ·exact(hL x).2 (.inr (I.closed j x hj hx))
 ·by_cases e:j=i
  ·exact(hL j).2 (.inl e)
  ·exact(hL j).2 (.inr (h1 j (by omega) hk))
 ·rw[hout id hid] at hX
  obtain⟨q0,j,j1,j2,j3,j4,j5⟩:=I.dom id X (lTr (d.nx hpi (by omega)) (by omega)) hX
  refine⟨q0,j,?_,j2,(hL j).2 (.inr j3),j4,j5⟩
  rcases logQ j (i+1) with g|g
  ·have:=d.nx (i:=j+1) (j:=i+1) (by omega) (by omega);omega
  ·exact g
 ·have hl:=hbeh j hp hj
  obtain⟨q1,q2⟩:=I.br j (by omega) hl id b a1 a2 hb
  refine⟨q1.mono (Ren.upto_mono hle (lR _)) λX hX=>?_,q2⟩
  have hX:=(Ren.upto_some hX).2
  exact S.frame _ (hlt j hp hl id b X a1 a2 hb hX) λid0 b0 X0 hb0 _ hX0 _=>I.far d hpi (by omega) hkb h1 (by omega) hl a1 a2 hb hX hb0 hX0
 ·have hl:=hbeh j hp hj
  have hl':=hbeh j' hp' hj'
  rw[hout id (hhi j hp hl id a1)] at hX
  rw[hout id' (hhi j' hp' hl' id' c1)] at hX'
  exact I.inj j j' (by omega) (by omega) hl hl' id id' b b' X X' a1 a2 c1 c2 hb hb' hne hX hX'
 ·have hl:=hbeh j hp hj
  rw[hout id (hhi j hp hl id a1)] at hX
  have far:=λ{id0:Nat} {b0:Blk} {X0:Host} (hb0:(H i).hp.get id0=some b0) (hX0:ρ.upto (H i).nx id0=some X0)=>I.far d hpi (by omega) hkb h1 (by omega) hl a1 a2 hb hX hb0 hX0
  rcases logQ id0 (H i).nx with g|g
  ·obtain⟨b1,e1,_,_⟩:=S.gone id0 b0 hb0 g
   rw[S.old id0 g] at hX0
   exact far e1 hX0
  ·rcases S.fresh id0 X0 g hX0 with q|⟨id1,b1,X1,q1,_,q3,_,q5⟩
   ·have:=hlt j hp hl id b X a1 a2 hb hX
    omega
   ·rw[←q5]
    exact far q1 q3
theorem Af4{ρ:Ren}{cx:Cx}{en:En}{a:Act}(h:EnR ρ cx en a.tmps){ops:Array Oper}{o:Oper}{b:Bool}
 (e:goes en (goper P cx sl ops o).guard=some b):Region.wanted o (yielded ops a.tmps)=b:=by
 unfold Region.wanted
 simp only[goper] at e
 cases hg:o.guard with
 |none=>
  rw[hg] at e
  simp only[goes,sjE] at e
  subst e;rfl
 | some q =>
  obtain⟨j,want⟩:=q
  rw[hg] at e
  simp only at e ⊢
  cases hj:(ops[j]?).bind (·.dst) with
  |none=>rw[hj] at e;simp[goes,ev,yes,dunno] at e
  | some t =>
   rw[hj] at e
   simp only[goes] at e
   have hv:=Af6 h t
   have hy:yielded ops a.tmps j=match a.tmps[t]? with|some (.bool b)=>some b|_=>none:=by
    unfold yielded;rw[hj];rfl
   rw[hy]
   generalize hev:ev en (gt cx t)=v at hv e
   cases v with
   | bool b0 =>
    simp only[yes,sjE] at e
    have hq:=hv.bool_inv
    have:a.tmps[t]?=some (.bool b0):=by
     rw[Array.getD_eq_getD_getElem?] at hq
     cases ht:a.tmps[t]? with
     |none=>rw[ht] at hq;cases hq
     |some x=>rw[ht] at hq;simp only[Option.getD_some] at hq;rw[hq]
    rw[this,←e,s_d]
    cases b0<;>cases want<;>rfl
   | tuple vs =>
    obtain⟨ys,hq,hl⟩:=hv.tuple_inv
    simp only[yes] at e
    have hne:∀b0,a.tmps[t]?≠some (.bool b0):=λb0 hh=>by
     rw[Array.getD_eq_getD_getElem?,hh] at hq;cases hq
    cases hvs:vs.toList with
    |cons x xs=>rw[hvs] at e;cases e
    | nil =>
     rw[hvs] at e
     injection e with e
     subst e
     cases ht:a.tmps[t]? with
     |none=>simp
     |some x=>cases x with
      |bool b0=>exact absurd ht (hne b0)
      |_=>simp
   |_=>simp[yes] at e
theorem m_5{listed:Array Bool}(d:Dr R P N sl ops fr V H E bm K D X lw hz){i:Nat}(hi:i∈Region.ready .any ops listed)(hs:listed.size=ops.size) :
 i<ops.size∧listed.getD i false=false∧∀e∈E i,listed.getD e false=true:=by
 unfold Region.ready at hi
 rw[List.mem_filter,List.mem_range,Bool.and_eq_true] at hi
 obtain⟨h1,h2,h3⟩:=hi
 refine⟨h1,?_,?_⟩
 ·rw[Array.getD_eq_getD_getElem?,Array.getElem?_eq_getElem (by omega)] at h2 ⊢
  simpa using h2
 ·obtain⟨o,ho⟩:=d.opAt h1
  rw[d.edges i o ho]
  rw[ho] at h3
  simp only[Option.map_some,Option.getD_some,Array.all_eq_true_iff_forall_mem] at h3
  exact o_r λe he=>h3 e (by simpa using he)
theorem mem_ready{listed:Array Bool}(d:Dr R P N sl ops fr V H E bm K D X lw hz){i:Nat}(h1:i<ops.size)(hs:listed.size=ops.size)(h2:listed.getD i false=false)(h3:∀e∈E i,listed.getD e false=true):i∈Region.ready .any ops listed:=by
 unfold Region.ready
 rw[List.mem_filter,List.mem_range,Bool.and_eq_true]
 refine⟨h1,?_,?_⟩
 ·rw[Array.getD_eq_getD_getElem?,Array.getElem?_eq_getElem (by omega)] at h2 ⊢
  simpa using h2
 ·obtain⟨o,ho⟩:=d.opAt h1
  rw[d.edges i o ho] at h3
  rw[ho]
  simp only[Option.map_some,Option.getD_some,Array.all_eq_true_iff_forall_mem]
  intro e he
  exact q_m h3 e (by simpa using he)
theorem Ap8{listed:Array Bool}(d:Dr R P N sl ops fr V H E bm K D X lw hz)(hs:listed.size=ops.size)(hn:Region.ready .any ops listed = []):∀i,i<ops.size→listed.getD i false=true:=by
 intro i
 induction i using Nat.strongRecOn with
 | _ i ih =>
  intro hi
  cases e:listed.getD i false with
  |true=>rfl
  |false=>
   have:=mem_ready d hi hs e (λx hx=>ih x (d.elt i hi x hx) (Nat.lt_trans (d.elt i hi x hx) hi))
   rw[hn] at this;simp at this
theorem count_set{listed:Array Bool}{i fuel:Nat}(hi:i<listed.size)(h:listed.getD i false=false)(hc:listed.toList.count false≤fuel+1):(listed.setIfInBounds i true).toList.count false≤fuel:=by
 have hi':i<listed.toList.length:=by simpa using hi
 have hg:listed.toList[i]=false:=by
  rw[Array.getD_eq_getD_getElem?,Array.getElem?_eq_getElem hi] at h
  simpa using h
 rw[Array.toList_setIfInBounds,List.count_set hi',hg]
 show listed.toList.count false-1+0≤fuel
 omega
theorem v_d{listed:Array Bool}{i:Nat}(hi:i<listed.size)(hc:listed.toList.count false=0):listed.getD i false=true:=by
 rw[List.count_eq_zero] at hc
 rw[Array.getD_eq_getD_getElem?,Array.getElem?_eq_getElem hi]
 simp only[Option.getD_some]
 cases e:listed[i] with
 |true=>rfl
 |false=>exact absurd (by rw[←e];simp) hc
theorem Bg2(hN:Named P)(G:Good P R)(hcall:HC P R)(d:Dr R P N sl ops fr V H E bm K D X lw hz)(R0:HR B ρ0 h0 w0)(hH0:(H 0).nx=h0.nx)(hz0:hz=h0)(F:FrR ρ0 sl N fr a0.tmps)
 {Q:Exit→Act→World→Prop} (hfin:∀listed a w p ρb wb ρ,Inv ops V H bm K D N B ρ0 h0 w0 a0 listed a w p ρb wb ρ→(∀i,i<ops.size→listed.getD i false=true)→Q .normal a w) :
 ∀(fuel:Nat)(listed:Array Bool)(a:Act)(w:World)(p:Nat)(ρb:Ren)(wb:World)(ρ:Ren),Inv ops V H bm K D N B ρ0 h0 w0 a0 listed a w p ρb wb ρ→listed.toList.count false≤fuel→wpAny P .any ops Q fuel listed a w:=by
 intro fuel
 induction fuel with
 |zero=>
  intro listed a w p ρb wb ρ I hc
  have hall:∀i,i<ops.size→listed.getD i false=true:=λi hi=>v_d (by rw[I.sz];exact hi) (by omega)
  refine⟨List.eq_nil_iff_forall_not_mem.2 λi hi=>?_,hfin _ _ _ _ _ _ _ I hall⟩
  obtain⟨h1,h2,_⟩:=m_5 d hi I.sz
  rw[hall i h1] at h2;cases h2
 | succ fuel ih =>
  intro listed a w p ρb wb ρ I hc
  refine⟨λhn=>hfin _ _ _ _ _ _ _ I (Ap8 d I.sz hn),λi hi=>?_⟩
  obtain⟨hi,hno,hE⟩:=m_5 d hi I.sz
  have hsee:∀x,(bm i).testBit x=true→listed.getD x false=true:=λx hx=>by
   obtain⟨e,he,q|q⟩:=d.bit i x hi hx
   ·subst q;exact hE x he
   ·exact I.closed e x (hE e he) q
  obtain⟨o,ho⟩:=d.opAt hi
  have hc':=count_set (by rw[I.sz];exact hi) hno hc
  have EN:=I.en d R0 hH0 F hi hno hsee
  have hpi:K i≠.blind→p≤i:=λhb=>by
   rcases logQ i p with g|g
   ·rw[I.pnb i g hb] at hno;cases hno
   ·exact g
  have hnobar:K i≠.blind→K i≠.make→∀k,p≤k→k<i→K k≠.bar:=λhb hm k hk hki hbar=>I.nobar k hk (hsee k (d.bar2 k i hbar hki hi hb hm)) hbar
  have hbarL:K i=.bar→p≤i∧(∀k,p≤k→k<i→K k≠.bar)∧(∀j,j<i→K j≠.blind→listed.getD j false=true)∧(∀j,i<j→listed.getD j false=true→K j≠.bar)∧St B ρ0 h0 w0 (ρ.upto (H i).nx) (H i) w:=λhb=>by
   have hnb:K i≠.blind:=by rw[hb];exactλe=>by cases e
   have hnm:K i≠.make:=by rw[hb];exactλe=>by cases e
   have h1:∀j,j<i→K j≠.blind→listed.getD j false=true:=λj hj hk=>hsee j (d.bar1 i j hb hi hj hk)
   have h2:∀j,i<j→listed.getD j false=true→K j≠.bar:=λj hj hl hk=>by
    have:=I.closed j i hl (d.bar2 i j hb hj (I.listed_lt hl) (by rw[hk];exactλe=>by cases e) (by rw[hk];exactλe=>by cases e))
    rw[hno] at this;cases this
   exact⟨hpi hnb,hnobar hnb hnm,h1,h2,I.conv d R0 (hpi hnb) (by omega) (hnobar hnb hnm) h1⟩
  unfold wpOp
  rw[ho]
  simp only
  rcases d.recs i o ho with⟨hg,hV,hH⟩|⟨hg,h1,hop,hfit0,hH⟩
  ·rw[Af4 (P:=P) (sl:=sl) EN hg]
   simp only[Bool.false_eq_true,if_false]
   have hV':∀ρ,VR ρ (V i) undef:=λρ=>by rw[hV];exact VR.undef_inv
   by_cases hb:K i=.bar
   ·obtain⟨q1,q2,q3,q4,q5⟩:=hbarL hb
    obtain⟨ρ2,I2⟩:=I.bar d R0 F.size ho hno hsee q1 q2 q3 q4 q5 (by rw[hH];exact St.refl q5.hr) (hV' _)
    exact ih _ _ _ _ _ _ _ I2 hc'
   ·have hpi':K i=.blind∨p≤i:=by
     by_cases hbl:K i=.blind
     ·exact .inl hbl
     ·exact .inr (hpi hbl)
    exact ih _ _ _ _ _ _ _ (I.ext d F.size ho hno hsee hb hpi' (rLR ρ) (λ_ _=>rfl) (λid X a1 a2=>by rw[hH] at a2;omega) (hV' _) (λ_ _=>rfl) (Below.refl _ _) (lR _) (λid b a1 a2=>by rw[hH] at a2;omega)
     (λid id' b b' X X' a1 a2=>by rw[hH] at a2;omega)) hc'
  ·rw[Af4 (P:=P) (sl:=sl) EN hg]
   simp only[if_true]
   left
   have hfit:=(andB_true hfit0).1
   simp only at hop hfit hH
   cases hlow:b_d lw o.op with
   |true=>
    have hk:=d.lowB i o ho hlow
    rw[show d_w fr hz ⟨gop P (X i) o,(goper P (X i) sl ops o).guard,K i,lmIf (bm i) i (K i),lw,b_d lw o.op⟩ (K_0 (rng H) i) (H i)=lowW fr h0 (H i) lw from by unfold d_w;simp only[hlow];rw[hz0]] at hop
    rw[hk] at hfit hH
    have R1:=I.low d R0 hH0 (Nat.le_of_lt hi)
    obtain⟨f1,f2⟩:=andB_true hfit
    refine q_h hN G hcall EN R1 hop (λv h2 v' w' ρ' hK hv S=>?_)
    injection hK with hK
    injection hK with e1 e2
    subst e1;subst e2
    have e3:H (i+1)=H i:=d.blind_nx hi hk
    obtain⟨ρ2,I2⟩:=I.light d F.size ho hno hsee (by rw[hk];exactλe=>by cases e) (.inl hk) (hid:=lowW fr h0 (H i) lw) p_n R1 S (lbT f2) (by rw[e3];exact ebT f1) (λid a1 a2=>by rw[e3] at a2;omega) hv
    exact ih _ _ _ _ _ _ _ I2 hc'
   |false=>
   rw[show d_w fr hz ⟨gop P (X i) o,(goper P (X i) sl ops o).guard,K i,lmIf (bm i) i (K i),lw,b_d lw o.op⟩ (K_0 (rng H) i) (H i)=dHid (K i) (lmIf (bm i) i (K i)) (K_0 (rng H) i) (H i) from by unfold d_w;simp only[hlow]] at hop
   cases hk:K i with
   |blind=>
    rw[hk] at hop hfit hH
    have R1:HR B (ρ.upto (H i).nx) ⟨.e,(H i).nx,(H i).nx⟩ w:=⟨lTr I.st.hr.base I.size,λid hid=>Ren.upto_ge hid,(λid b hb=>by rw[Tr.get_e] at hb;cases hb),(λid id' b b' X X' hb=>by rw[Tr.get_e] at hb;cases hb)⟩
    obtain⟨f1,f2⟩:=andB_true hfit
    refine q_h hN G hcall EN R1 hop (λv h2 v' w' ρ' hK hv S=>?_)
    injection hK with hK
    injection hK with e1 e2
    subst e1;subst e2
    have e3:H (i+1)=H i:=d.blind_nx hi hk
    obtain⟨ρ2,I2⟩:=I.light d F.size ho hno hsee (by rw[hk];exactλe=>by cases e) (.inl hk) (hid:=⟨.e,(H i).nx,(H i).nx⟩) rfl R1 S (lbT f2) (by rw[e3];exact ebT f1) (λid a1 a2=>by rw[e3] at a2;omega) hv
    exact ih _ _ _ _ _ _ _ I2 hc'
   | light =>
    have hnb:K i≠.blind:=by rw[hk];exactλe=>by cases e
    have hnm:K i≠.make:=by rw[hk];exactλe=>by cases e
    rw[hk] at hop hfit hH
    have R1:=(I.part d (hpi hnb) (by omega) (lR _) (hnobar hnb hnm) (X_t (lmOf (bm i) i) (K_0 (rng H) i) (H i).hp) (H i).nx (λid b hb=>by
     rw[Aj9] at hb
     obtain⟨q1,q2⟩:=v_5 hb
     exact⟨q1,λj hj a1 a2=>hsee j (q2 j hj a1 a2)⟩)).2
    obtain⟨f1,f2⟩:=andB_true hfit
    have f1:(H i).nx≤h1.nx:=lbT f1
    refine q_h hN G hcall EN R1 hop (λv h2 v' w' ρ' hK hv S=>?_)
    injection hK with hK
    injection hK with e1 e2
    subst e1;subst e2
    have e3:(H (i+1)).nx=h2.nx:=by rw[hH];rfl
    obtain⟨ρ2,I2⟩:=I.light d F.size ho hno hsee (by rw[hk];exactλe=>by cases e) (.inr (hpi hnb)) (hid:=⟨X_t (lmOf (bm i) i) (K_0 (rng H) i) (H i).hp,(H i).nx,(H i).nx⟩) rfl R1 S (lbT f2) e3.symm (λid a1 a2=>by
     rw[hH]
     simp only[F_u,Nat.sub_eq]
     rw[M_p,if_pos (by rw[e3] at a2;omega)]) hv
    exact ih _ _ _ _ _ _ _ I2 hc'
   |bar=>
    obtain⟨q1,q2,q3,q4,q5⟩:=hbarL hk
    rw[hk] at hop hfit hH
    refine q_h hN G hcall EN q5.hr hop (λv h2 v' w' ρ' hK hv S=>?_)
    injection hK with hK
    injection hK with e1 e2
    subst e1;subst e2
    obtain⟨ρ2,I2⟩:=I.bar d R0 F.size ho hno hsee q1 q2 q3 q4 q5 (by rw[hH];exact S) hv
    exact ih _ _ _ _ _ _ _ I2 hc'
   | make =>
    have hnb:K i≠.blind:=by rw[hk];exactλe=>by cases e
    rw[hk] at hop hfit hH
    have R1:HR B (ρ.upto (H i).nx) ⟨.e,(H i).nx,(H i).nx⟩ w:=⟨lTr I.st.hr.base I.size,λid hid=>Ren.upto_ge hid,(λid b hb=>by rw[Tr.get_e] at hb;cases hb),(λid id' b b' X X' hb=>by rw[Tr.get_e] at hb;cases hb)⟩
    obtain⟨f1,f2⟩:=andB_true hfit
    have f1:(H i).nx≤h1.nx:=lbT f1
    refine q_h hN G hcall EN R1 hop (λv h2 v' w' ρ' hK hv S=>?_)
    injection hK with hK
    injection hK with e1 e2
    subst e1;subst e2
    have e3:(H (i+1)).nx=h2.nx:=by rw[hH];rfl
    obtain⟨ρ2,I2⟩:=I.light d F.size ho hno hsee (by rw[hk];exactλe=>by cases e) (.inr (hpi hnb)) (hid:=⟨.e,(H i).nx,(H i).nx⟩) rfl R1 S (lbT f2) e3.symm (λid a1 a2=>by
     rw[hH]
     simp only[F_u,Nat.sub_eq]
     rw[M_p,if_pos (by rw[e3] at a2;omega)]) hv
    exact ih _ _ _ _ _ _ _ I2 hc'
end
theorem a_g{t:Nat}:∀{os:List Oper},W_8 (dstsOf os)=true→∀(i j:Nat)(o o':Oper),os[i]?=some o→os[j]?=some o'→o.dst=some t→o'.dst=some t→i=j:=by
 have mem:∀{os:List Oper}{j:Nat}{o:Oper},os[j]?=some o→o.dst=some t→t∈dstsOf os:=by
  intro os
  induction os with
  |nil=>intro j o h;simp at h
  | cons x os ih =>
   intro j o h1 h2
   cases j with
   |zero=>
    simp only[gcZ,sjE] at h1
    subst h1
    rw[dstsOf,h2];exact mcS
   |succ j=>
    have:=ih (by simpa using h1) h2
    rw[dstsOf]
    cases x.dst with
    |none=>exact this
    |some y=>exact mcM _ this
 have memN_of:∀{l:List Nat},t∈l→memN t l=true:=by
  intro l
  induction l with
  |nil=>intro h;simp at h
  | cons x l ih =>
   intro h
   rw[memN]
   cases hb:Nat.beq x t with
   |true=>rfl
   |false=>
    rcases mcQ.1 h with rfl|h
    ·rw[Nat.beq_refl] at hb;cases hb
    ·exact ih h
 intro os
 induction os with
 |nil=>intro _ i j o o' h;simp at h
 | cons x os ih =>
  intro h i j o o' h1 h2 h3 h4
  have hrest:W_8 (dstsOf os)=true:=by
   rw[dstsOf] at h
   cases hx:x.dst with
   |none=>rw[hx] at h;exact h
   |some y=>
    rw[hx] at h
    simp only[W_8] at h
    cases hm:memN y (dstsOf os) with
    |true=>rw[hm] at h;cases h
    |false=>rw[hm] at h;exact h
  have hno:x.dst=some t→¬t∈dstsOf os:=λhx hm=>by
   rw[dstsOf,hx] at h
   simp only[W_8,memN_of hm] at h
   cases h
  cases i with
  |zero=>
   simp only[gcZ,sjE] at h1
   subst h1
   cases j with
   |zero=>rfl
   |succ j=>exact absurd (mem (by simpa using h2) h4) (hno h3)
  | succ i =>
   cases j with
   |zero=>
    simp only[gcZ,sjE] at h2
    subst h2
    exact absurd (mem (by simpa using h1) h3) (hno h4)
   |succ j=>rw[ih hrest i j o o' (by simpa using h1) (by simpa using h2) h3 h4]
theorem St.draw{B:Nat}{ρ:Ren}{h:Hs}{w:World}(R:HR B ρ h w):St B ρ h w ρ h { w with drawn:=w.drawn+1 }:=
 ⟨R.of_heap rfl,lR _,rLR _,λ_ _=>rfl,⟨rfl,rfl,rfl,lR _,λ_ _=>rfl⟩,lR _,lR _,λ_ _ h _=>h,λ_ b h _=>⟨b,h,rfl,λ_=>rfl⟩,λid b hb hid=>by have:=R.lt hb;omega,λ_ _ _=>rfl,
  λid H hid e=>by rw[R.dom id hid] at e;cases e⟩
theorem a_7{b0:Option Blk}{b:Blk}(h:frz1 b0=some b):isRw b=false∧∃c n e u rw fl,b0=some (.row c n e u rw fl)∧b=.row c n e u false fl:=by
 cases b0 with
 |none=>cases h
 |some b0=>cases b0 with
  |mp es k=>cases h
  |it _ _ _ _=>cases h
  |lp _=>cases h
  |row c n e u rw fl=>injection h with h;subst h;exact⟨rfl,c,n,e,u,rw,fl,rfl,rfl⟩
theorem W_i{t:Tr Blk}{i id:Nat}{b:Blk}(h:(t.set i (frz1 (t.get i))).get id=some b):(id=i∧isRw b=false)∨(id≠i∧t.get id=some b):=by
 rw[tgS] at h
 split at h
 ·rename_i e;exact .inl ⟨e.symm,(a_7 h).1⟩
 ·rename_i e;exact .inr ⟨λq=>e q.symm,h⟩
theorem AE1{t:Tr Blk}{i id:Nat}{b:Blk}(h:t.get id=some b)(hne:id≠i):(t.set i (frz1 (t.get i))).get id=some b:=by
 rw[tgS,if_neg λe=>hne e.symm];exact h
theorem HR.frz{B:Nat}{ρ:Ren}{h:Hs}{w:World}(i lo:Nat)(R:HR B ρ h w):HR B ρ ⟨h.hp.set i (frz1 (h.hp.get i)),h.nx,lo⟩ w:=by
 refine⟨R.base,R.dom,λid b hb=>?_,λid id' b b' X X' hb hb' hne hr hX hX'=>?_⟩
 ·replace hb:(h.hp.set i (frz1 (h.hp.get i))).get id=some b:=hb
  rw[tgS] at hb
  split at hb
  ·rename_i e
   subst e
   obtain⟨_,c,n,e,u,rw,fl,q1,rfl⟩:=a_7 hb
   obtain⟨X,arr,fz,a1,a2,a3,a4,a5,_,a7⟩:=R.has _ _ q1
   exact⟨X,arr,fz,a1,a2,a3,a4,a5,(λe=>by cases e),a7⟩
  ·exact R.has _ _ hb
 ·rcases W_i hb with⟨_,q⟩|⟨_,q⟩
  ·rw[q] at hr;cases hr
  ·have hg:∃b1,h.hp.get id'=some b1:=by
    replace hb':(h.hp.set i (frz1 (h.hp.get i))).get id'=some b':=hb'
    rw[tgS] at hb'
    split at hb'
    ·rename_i e;subst e
     obtain⟨_,c,n,e,u,rw,fl,q1,_⟩:=a_7 hb'
     exact⟨_,q1⟩
    ·exact⟨_,hb'⟩
   obtain⟨b1,q1⟩:=hg
   exact R.inj id id' b b1 X X' q q1 hne hr hX hX'
theorem St.unfrz{B:Nat}{ρ ρ':Ren}{h h':Hs}{w w':World}{i:Nat}(R:HR B ρ h w)(S:St B ρ ⟨h.hp.set i (frz1 (h.hp.get i)),h.nx,h.nx⟩ w ρ' h' w'):St B ρ h w ρ' ⟨h'.hp.set i (h.hp.get i),h'.nx,minN h.lo h'.lo⟩ w':=by
 have hl:minN h.lo h'.lo≤h'.lo:=C_m _ _
 -- its host
 have hhost:∀b X,h.hp.get i=some b→ρ i=some X→w'.heap[X.blk]?=w.heap[X.blk]?:=λb X hb hX=>
  S.frame _ (R.host_of hb hX) λid' b' X' hb' hr hX' _=>by
   rcases W_i hb' with⟨_,q⟩|⟨q0,q⟩
   ·rw[q] at hr;cases hr
   ·exact R.inj id' i b' b X' X q hb q0 hr hX' hX
 -- apart from all others
 have hapart:∀b X,h.hp.get i=some b→ρ i=some X→∀id b' X',id≠i→h'.hp.get id=some b'→(isRw b=true∨isRw b'=true)→ρ' id=some X'→X'.blk≠X.blk:=λb X hb hX id b' X' hne hb' hr hX'=>by
  rcases logQ id h.nx with g|g
  ·obtain⟨b0,q1,q2,_⟩:=S.gone id b' hb' g
   rcases W_i q1 with⟨q,_⟩|⟨_,q⟩
   ·exact absurd q hne
   ·have hX':ρ id=some X':=by rw[←S.old id g];exact hX'
    rcases hr with hr|hr
    ·exactλe=>R.inj i id b b0 X X' hb q (λe=>hne e.symm) hr hX hX' e.symm
    ·exact R.inj id i b0 b X' X q hb hne (by rw[q2];exact hr) hX' hX
  ·rcases S.fresh id X' g hX' with q|⟨id0,b1,X0,q1,q2,q3,_,q5⟩
   ·have:=R.host_of hb hX;omega
   ·rcases W_i q1 with⟨_,q⟩|⟨q0,q⟩
    ·rw[q] at q2;cases q2
    ·rw[←q5];exact R.inj id0 i b1 b X0 X q hb q0 q2 q3 hX
 have hold:∀{b},h.hp.get i=some b→ρ' i=ρ i:=λhb=>S.old i (R.lt hb)
 refine⟨⟨S.hr.base,S.hr.dom,λid b hb=>?_,λid id' b b' X X' hb hb' hne hr hX hX'=>?_⟩,S.nx,S.le,S.old,S.below,S.size,F_1 _ _,λid b hb hlo=>?_,λid b hb hid=>?_,λid b hb hid=>?_,λk hk hno=>?_,λid X hid e=>?_⟩
 ·replace hb:(h'.hp.set i (h.hp.get i)).get id=some b:=hb
  rw[tgS] at hb
  split at hb
  ·rename_i e;subst e
   exact(R.has _ _ hb).mono S.le λX hX=>hhost b X hb hX
  ·exact S.hr.has _ _ hb
 ·replace hb:(h'.hp.set i (h.hp.get i)).get id=some b:=hb
  replace hb':(h'.hp.set i (h.hp.get i)).get id'=some b':=hb'
  rw[tgS] at hb hb'
  split at hb
  ·rename_i e;subst e
   rw[if_neg hne] at hb'
   rw[hold hb] at hX
   exactλe=>hapart b X hb hX id' b' X' (λe=>hne e.symm) hb' (.inl hr) hX' e.symm
  ·split at hb'
   ·rename_i e0 e;subst e
    rw[hold hb'] at hX'
    exact hapart b' X' hb' hX' id b X hne hb (.inr hr) hX
   ·exact S.hr.inj id id' b b' X X' hb hb' hne hr hX hX'
 ·show (h'.hp.set i (h.hp.get i)).get id=some b
  rw[tgS]
  split
  ·rename_i e;subst e;exact hb
  ·rename_i e;exact S.keep id b (AE1 hb λq=>e q.symm) (llN hlo hl)
 ·replace hb:(h'.hp.set i (h.hp.get i)).get id=some b:=hb
  rw[tgS] at hb
  split at hb
  ·rename_i e;subst e;exact⟨b,hb,rfl,λ_=>rfl⟩
  ·rename_i e
   obtain⟨b0,q1,q2,q3⟩:=S.gone id b hb hid
   rcases W_i q1 with⟨q,_⟩|⟨_,q⟩
   ·exact absurd q.symm e
   ·exact⟨b0,q,q2,λhlo=>q3 (llN hlo hl)⟩
 ·replace hb:(h'.hp.set i (h.hp.get i)).get id=some b:=hb
  rw[tgS] at hb
  split at hb
  ·rename_i e;subst e;have:=R.lt hb;omega
  ·exact S.newrw id b hb hid
 ·exact S.frame k hk λid b X hb hr hX hlo=>by
   rcases W_i hb with⟨_,q⟩|⟨_,q⟩
   ·rw[q] at hr;cases hr
   ·exact hno id b X q hr hX (lTr hl hlo)
 ·rcases S.fresh id X hid e with q|⟨id0,b,X0,q1,q2,q3,q4,q5⟩
  ·exact .inl q
  ·rcases W_i q1 with⟨_,q⟩|⟨_,q⟩
   ·rw[q] at q2;cases q2
   ·exact .inr ⟨id0,b,X0,q,q2,q3,lTr hl q4,q5⟩
theorem HR.start{B:Nat}{ρ:Ren}{h:Hs}{w:World}(fr:Fr)(lw:Option LW)(R:HR B ρ h w):HR B ρ (Q_f fr h lw) w:=by
 cases lw with
 |none=>exact R
 |some L=>
  obtain⟨fz,p,ts⟩:=L
  cases fz with
  |false=>exact⟨R.base,R.dom,R.has,R.inj⟩
  |true=>exact R.frz _ _
theorem Ab1(fr:Fr)(h:Hs)(lw:Option LW):(Q_f fr h lw).nx=h.nx:=by
 cases lw with
 |none=>rfl
 |some L=>obtain⟨fz,p,ts⟩:=L;cases fz<;>rfl
theorem Y_d{fr:Fr}{h:Hs}{lw:Option LW}(hc:cutO fr lw≤h.nx):cutO fr lw≤(Q_f fr h lw).lo∧cutO fr lw≤(Q_f fr h lw).nx:=by
 rw[Ab1]
 cases lw with
 |none=>exact⟨Nat.zero_le _,Nat.zero_le _⟩
 |some L=>obtain⟨fz,p,ts⟩:=L;cases fz<;>exact⟨hc,hc⟩
theorem St.relo{B:Nat}{ρ ρ':Ren}{h h':Hs}{w w':World}{fr:Fr}(lw:Option LW)(R:HR B ρ h w)(S:St B ρ (Q_f fr h lw) w ρ' h' w'):St B ρ h w ρ' (dEnd fr h h' lw) w':=by
 cases lw with
 |none=>exact S
 | some L =>
  obtain⟨fz,p,ts⟩:=L
  cases fz with
  |true=>exact St.unfrz R S
  |false=>
  have hl:minN h.lo h'.lo≤h'.lo:=C_m _ _
  exact⟨⟨S.hr.base,S.hr.dom,S.hr.has,S.hr.inj⟩,S.nx,S.le,S.old,S.below,S.size,F_1 _ _,λid b hb hlo=>S.keep id b hb (llN hlo hl),
   λid b hb hid=>by obtain⟨b0,q1,q2,q3⟩:=S.gone id b hb hid;exact⟨b0,q1,q2,λhlo=>q3 (llN hlo hl)⟩,
   S.newrw,λk hk hno=>S.frame k hk λid b X hb hr hX hlo=>hno id b X hb hr hX (lTr hl hlo),
   λid X hid e=>by
    rcases S.fresh id X hid e with q|⟨id0,b,X0,q1,q2,q3,q4,q5⟩
    ·exact .inl q
    ·exact .inr ⟨id0,b,X0,q1,q2,q3,lTr hl q4,q5⟩⟩
theorem r_9{P:Program}{R:Rn}(hN:Named P)(G:Good P R)(hcall:HC P R){ops:Array Oper}{N:Nat}{sl:List Nat}{fr fr':Fr}{h h':Hs}{e:Ex}
 {B:Nat} {ρ:Ren} {a:Act} {w:World} (hr:R_e R fr h (v_w P N sl ops)=some (.fin e fr' h')) (L:FrR ρ sl N fr a.tmps) (Rl:HR B ρ h w):wpAny P .any ops (CP B ρ h w sl N a.defers e fr' h') ops.size (Array.replicate ops.size false) a { w with drawn:=w.drawn+1 }:=by
 have bad:∀o:GOper,o=⟨.fn oBad,none,none⟩→R_e R fr h (.reg [o])≠some (.fin e fr' h'):=λo ho hh=>by
  subst ho;simp[R_e,W_w,opGo,goes,doOp,oBad,after] at hh
 unfold v_w at hr
 cases hbf:befs ops.toList 0 [] with
 |none=>rw[hbf] at hr;exact absurd hr (bad _ rfl)
 | some ms =>
  rw[hbf] at hr
  simp only[Ab4,AT6] at hr
  cases hap:W_8 (dstsOf ops.toList) with
  |false=>rw[hap] at hr;exact absurd hr (bad _ rfl)
  | true =>
   rw[hap] at hr
   generalize hlw:lwOf P sl ops ms=lw at hr
   simp only[R_e,q_v] at hr
   cases hcut:Nat.ble (cutO fr lw) h.nx with
   |false=>rw[hcut] at hr;cases hr
   |true=>
   rw[hcut] at hr
   simp only at hr
   obtain⟨V,H,hH0,hrec,hk⟩:=AJ0 _ _ _ _ hr
   obtain⟨s1,_,s3⟩:=y_2 ops.toList [] ms hbf
   simp only[List.length_nil,zaQ] at s1 s3
   have hms:∀i,i<ops.size→ms[i]?=some (ms.getD i 0):=λi hi=>by
    rw[List.getD_eq_getElem?_getD,gqG (by rw[s1];simpa using hi)];rfl
   have hol:∀{i:Nat}{o:Oper},ops[i]?=some o→ops.toList[i]?=some o:=λh=>by simpa using h
   have hlt:∀{i:Nat}{o:Oper},ops[i]?=some o→i<ops.size:=λh=>(gaI.1 h).1
   have hbl:(blinds lw ops.toList).length=ms.length:=by rw[u_u,s1]
   have hrl:=v_8 (ones:=Z_m ms) hbl.symm
   generalize hrs:inters (Z_m ms) (blinds lw ops.toList) ms=rs at hrec hk hr hrl
   generalize hdl:dopers P lw sl ops (V_v N ops.toList) ms ops.toList ms rs 0 0=dl at hrec hk hr
   let K:Nat→DK:=λi=>match dl[i]? with|some d=>d.kind|none=>.blind
   let Xc:Nat→Cx:=λi=>⟨N_q sl (V_v N ops.toList) ms i (ms.getD i 0)⟩
   have hd:∀(i:Nat)(o:Oper),ops[i]?=some o→∃nb r,rs[i]?=some r∧K i=kindOf (bld lw o.op) (mkOp o.op) nb r (ms.getD i 0) i∧dl[i]?=some ⟨gop P (Xc i) o,(goper P (Xc i) sl ops o).guard,K i,lmIf (ms.getD i 0) i (K i),lw,b_d lw o.op⟩ ∧
    ∀(j:Nat)(o':Oper),j<i→ops[j]?=some o'→bld lw o'.op=false→nb.testBit j=true:=λi o ho=>by
    have hir:i<rs.length:=by rw[hrl,hbl,s1];simpa using hlt ho
    obtain⟨nb,q1,_,q3⟩:=v_u (P:=P) (sl:=sl) (ops:=ops) (ds:=V_v N ops.toList) (all:=ms) ops.toList ms rs 0 0 i o (ms.getD i 0) rs[i] (hol ho) (hms i (hlt ho)) (gqG hir)
    simp only[zaQ] at q1 q3
    rw[hdl] at q1
    have hKi:K i=kindOf (bld lw o.op) (mkOp o.op) nb rs[i] (ms.getD i 0) i:=by show (match dl[i]? with|some d=>d.kind|none=>_)=_;rw[q1]
    exact⟨nb,rs[i],gqG hir,hKi,by rw[q1,hKi],λj o' hj hjo=>q3 j o' hj (hol hjo)⟩
   have hat:∀i,i<ops.size→ops[i]?=some ops[i]!:=λi hi=>by simp[hi]
   have hnbl:∀j,j<ops.size→K j≠.blind→bld lw ops[j]!.op=false:=λj hj hk=>by
    obtain⟨nb,r,_,q,_⟩:=hd j _ (hat j hj)
    cases hb:bld lw ops[j]!.op with
    |false=>rfl
    |true=>rw[hb] at q;exact absurd (q.trans (U_n.2 rfl)) hk
   have hD:∀j t,(ops.toList[j]?).bind (O_z N)=some t↔(V_v N ops.toList)[j]?=some (some t):=λj t=>by
    rw[Ab6]
    cases ops.toList[j]? with
    |none=>simp
    |some o=>simp
   have d:Dr R P N sl ops fr V H (λi=>match ops[i]? with|some o=>L_u o.after.toList|none=>[]) (λi=>ms.getD i 0) K (λi=>(ops.toList[i]?).bind (O_z N)) Xc lw (Q_f fr h lw):=by
    refine⟨λi o ho=>by simp only[ho],λi hi e he=>?_,λi x hi hx=>?_,λi o ho=>by simp only[hol ho];rfl,λi j o o' t h1 h2 h3 h4=>a_g hap i j o o' (hol h1) (hol h2) h3 h4,λi j hk hi hj hkj=>?_,λi j hk hij hj hkj hkm=>?_,
     λi t hi=>?_,λi o ho=>?_,λi o ho hlow=>?_,?_⟩
    ·simp only[hat i hi] at he
     exact(s3 i _ (hol (hat i hi))).1 e he
    ·simp only[hat i hi]
     exact(s3 i _ (hol (hat i hi))).2 x hx
    ·obtain⟨nb,r,_,q,_,q3⟩:=hd i _ (hat i hi)
     rw[q] at hk
     exact(f_k hk).2.1 j (q3 j _ hj (hat j (by omega)) (hnbl j (by omega) hkj))
    ·obtain⟨nb,r,qr,q,_,q3⟩:=hd i _ (hat i (by omega))
     rw[q] at hk
     refine p_b (by rw[hrs];exact qr) j _ hij ?_ (hms j hj) (f_k hk).2.2
     rw[u_t,hol (hat j hj)]
     have hb:=hnbl j hj hkj
     obtain⟨_,_,_,qj,_⟩:=hd j _ (hat j hj)
     rw[qj] at hkm
     simp only[Option.map_some,off,hb,p_k hkm hb]
    ·have hsl:∀c:Bool,(∀j,j<ops.size→(ops.toList[j]?).bind (O_z N)=some t→c=true→(ms.getD j 0).testBit i=true)→∀x,x=ifX c (x_9 sl t)→x=.c dunno∨∃p,slot sl t=some p∧x=.t p∧∀j,j<ops.size→(ops.toList[j]?).bind (O_z N)=some t→(ms.getD j 0).testBit i=true:=λc hc x hx=>by
      cases c with
      |false=>exact .inl hx
      |true=>
       simp only[ifX,x_9] at hx
       cases hs:slot sl t with
       |none=>rw[hs] at hx;exact .inl hx
       |some p=>rw[hs] at hx;exact .inr ⟨p,rfl,hx,λj hj hjd=>hc j hj hjd rfl⟩
     show (_∨N_q sl (V_v N ops.toList) ms i (ms.getD i 0) t=_∨_)
     simp only[show (Xc i).look t=N_q sl (V_v N ops.toList) ms i (ms.getD i 0) t from rfl]
     unfold N_q
     cases hp:posOf t (V_v N ops.toList) 0 with
     |none=>
      right
      exact hsl true (λj _ hjd _=>absurd ((hD j t).1 hjd) (x_t hp j)) _ rfl
     | some j =>
      obtain⟨k,e1,e2⟩:=x_u hp
      have e1:j=k:=by omega
      subst e1
      have hjd:=(hD j t).2 e2
      simp only[k_7]
      have huniq:∀j',j'<ops.size→(ops.toList[j']?).bind (O_z N)=some t→j'=j:=λj' hj' h'=>by
       obtain⟨o1,a1,a2⟩:=Option.bind_eq_some_iff.1 h'
       obtain⟨o2,b1,b2⟩:=Option.bind_eq_some_iff.1 hjd
       exact a_g hap j' j o1 o2 a1 b1 (R_r a2).1 (R_r b2).1
      cases hb:Nat.blt j i with
      |true=>
       rw[blt_eq] at hb
       have hji:j<i:=by simpa using hb
       cases ht:Nat.testBit (ms.getD i 0) j with
       |true=>exact .inl ⟨j,hji,hjd,ht,_,rfl,λU=>An1 hji⟩
       |false=>exact .inr (.inl rfl)
      |false=>
       right
       refine hsl (Nat.testBit (nthN ms j) i) (λj' hj' h' hc=>?_) _ rfl
       rw[huniq j' hj' h',←An2];exact hc
    ·obtain⟨nb,r,_,_,q,_⟩:=hd i o ho
     have:=hrec i _ q
     simp only[List.append_nil] at this
     exact this
    ·obtain⟨nb,r,_,q,_,_⟩:=hd i o ho
     rw[q,U_n]
     unfold bld;rw[hlow]
    ·rw[hH0]
     have hc:=lbT hcut
     exact Y_d hc
   rw[←hdl,v_v _ _ _ _ _ s1 (by rw[hrl,hbl,s1])] at hk
   simp only[List.append_nil,Array.length_toList,sjE,Out.fin.injEq] at hk
   obtain⟨rfl,rfl,rfl⟩:=hk
   have Rz:HR B ρ (Q_f fr h lw) w:=Rl.start fr lw
   have s0:=St.draw Rz
   have hno:∀j,(Array.replicate ops.size false).getD j false=true→False:=λj hj=>by
    rw[Array.getD_eq_getD_getElem?,Array.getElem?_replicate] at hj
    split at hj<;>simp at hj
   refine(Bg2 hN G hcall d s0.hr (by rw[hH0]) rfl L (λlisted a' w' p ρb wb ρ' I hall=>?_) ops.size _ a _ 0 ρ { w with drawn:=w.drawn+1 } ρ ?_ ?_)
   ·have hS:=I.conv d s0.hr I.ple (lR _) (λk hk hkn=>I.nobar k hk (hall k hkn)) (λj hj _=>hall j hj)
    refine⟨rfl,I.dfr,ρ'.upto (H ops.size).nx,⟨λt q hq=>?_,by rw[I.tsz];exact L.size,L.lt⟩,St.relo lw Rl (St.trans Rz s0 hS)⟩
    rw[y_y]
    rcases q_l hq ops.toList ((List.range ops.size).map V) fr (by simp) with⟨j,o,v,q1,q2,q3,q4⟩|⟨q1,q2⟩
    ·rw[q4]
     have hj:j<ops.size:=by have:=(geI.1 q1).1;simpa using this
     have hv:v=V j:=by
      rw[List.getElem?_map,List.getElem?_range hj] at q3
      simpa using q3.symm
     rw[hv]
     refine(I.vals j t (hall j hj) ?_).mono (Ren.upto_mono (rLR _) (d.nx (by omega) (lR _)))
     simp only[q1,Option.bind_some]
     exact s_c q2 (L.lt t (X_8 hq))
    ·rw[q2,I.rest t (L.lt t (X_8 hq)) λj hj hd=>?_]
     ·exact(L.fr t q hq).mono hS.le
     ·obtain⟨o,h1,h2⟩:=Option.bind_eq_some_iff.1 hd
      exact q1 o (mgE h1) (R_r h2).1
   ·refine⟨by simp,λi x hi=>absurd (hno i hi) not_false,Nat.zero_le _,λj hj=>by omega,λj _ hl=>absurd (hno j hl) not_false,?_,λ_ _=>rfl,λid X hid hX=>?_,λ_ _=>rfl,Below.refl _ _,lR _,
     λj _ hl=>absurd (hno j hl) not_false,λj j' _ _ hl=>absurd (hno j hl) not_false,λj _ hl=>absurd (hno j hl) not_false,λj t hl=>absurd (hno j hl) not_false,λ_ _ _=>rfl,rfl,rfl⟩
    ·rw[hH0];exact St.refl s0.hr
    ·rw[hH0] at hid;rw[Rz.dom id hid] at hX;cases hX
   ·simp
theorem AT7{P:Program}{R:Rn}(hm:P.follows .mixedOrders=true)(hN:Named P)(G:Good P R)(hcall:HC P R){id:Nat}{ops:Array Oper}{N:Nat}{sl:List Nat}{fr fr':Fr}{h h':Hs}{e:Ex}
 {B:Nat} {ρ:Ren} {a:Act} {w:World} (hr:R_e R fr h (v_w P N sl ops)=some (.fin e fr' h')) (L:FrR ρ sl N fr a.tmps) (Rl:HR B ρ h w):(Code.region id ops true).wp P (CP B ρ h w sl N a.defers e fr' h') a w:=
 wp_region_any hm (r_9 hN G hcall hr L Rl)
end Go.Gev
