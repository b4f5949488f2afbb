/- Contracts of functions, by the logic of residual programs. -/
import Derived.Test.YtjddgepodiabkaaGreatDoorCheckSpoilsB
namespace Go.Proofs.YtjddgepodiabkaaGreatDoor.checkSpoils
open Go Go.Gev
set_option linter.unusedVariables false
set_option linter.unusedSimpArgs false
abbrev Fnd:=Nat × Nat × Nat × Nat
def fC(f:Fnd):List Value:=[.int .i64 (.ofNat f.1),.int .i64 (.ofNat f.2.1),.int .i64 (.ofNat f.2.2.1),.int .i64 (.ofNat f.2.2.2)]
def Fl(l:List Fnd):List (List Value):=l.map fC
theorem Fl_len(l:List Fnd):(Fl l).length=l.length:=List.length_map _
set_option linter.unusedSimpArgs false
abbrev lkC(g:Geo)(sw sn ss sg so:Value):List Value:=[.int .i64 (.ofNat g.b),.int .i64 (.ofNat g.n),.int .i64 (.ofNat g.c),.int .i64 (.ofNat g.k),sw,sn,ss,sg,so]
abbrev lkO(fl:Bool)(g:Geo)(sw sn ss sg so:Value):Gev.Obj:=.row 69 0 true fl (lkC g sw sn ss sg so)
def Fc(l:List Fnd):List Value:=(l.map fC).flatten
theorem Fc_snoc(l:List Fnd)(f:Fnd):Fc (l ++ [f])=Fc l++fC f:=by unfold Fc;rw[List.map_append,List.flatten_append];simp
structure LkAt (h:Hs) (p:Nat) (g:Geo) (sw sn ss sg so:Value) (l:List Fnd):Prop where
 pl:p<h.nx
 row:∃fl,Holds (h.hp.get p) (lkO fl g sw sn ss sg so)
 buf:∃fl,OwnSl h so 37 4 fl l.length (Fc l)
 bid:∀b,vId so=some b→b<h.nx∧b≠p
theorem LkAt.enter{h:Hs}{p:Nat}{g:Geo}{sw sn ss sg so:Value}{l:List Fnd}(B:LkAt h p g sw sn ss sg so l):∃fl fl2,Sto h (p::idsOf so) ⟨h.hp,h.nx,h.nx⟩ [.blk p (lkO fl g sw sn ss sg so),.osl so 37 4 fl2 l.length (Fc l)]:=by
 obtain⟨fl,hr⟩:=B.row
 obtain⟨fl2,hb⟩:=B.buf
 refine⟨fl,fl2,Sto.enterS _ _ (λt ht=>?_) λi j s t hi hj hij _ b hb1 hb2=>?_⟩
 ·simp only[List.mem_cons,List.not_mem_nil,or_false] at ht
  rcases ht with rfl|rfl
  ·exact⟨hr,λb hb=>by injection hb with hb;subst hb;exact⟨B.pl,λ_=>List.mem_cons_self⟩⟩
  ·exact⟨hb,λb hb=>⟨(B.bid b hb).1,λ_=>List.mem_cons_of_mem _ (idsOf_mem.2 hb)⟩⟩
 ·match i,j,hi,hj with
  |0,0,_,_=>exact hij rfl
  |0,1,hi,hj=>injection hi with hi;injection hj with hj;subst hi;subst hj;injection hb1 with hb1;exact(B.bid b hb2).2 hb1.symm
  |1,0,hi,hj=>injection hi with hi;injection hj with hj;subst hi;subst hj;injection hb2 with hb2;exact(B.bid b hb1).2 hb2.symm
  |1,1,_,_=>exact hij rfl
  |0,j+2,_,hj=>cases hj
  |1,j+2,_,hj=>cases hj
  |i+2,_,hi,_=>cases hi
def QTell(h:Hs)(p:Nat)(g:Geo)(sw sn ss sg so:Value)(l:List Fnd)(r:Value)(u:Hs):Prop:=r=.tuple #[]∧MutS (p::idsOf so) h u∧∃so',LkAt u p g sw sn ss sg so' l∧∀b,vId so'=some b→h.nx≤b∨vId so=some b
def CTell(R:RnK):Prop:=∀(h:Hs)(p:Nat)(g:Geo)(sw sn ss sg so:Value)(l:List Fnd)(f:Fnd),LkAt h p g sw sn ss sg so l→l.length≤100000 →
 WP (R 45 [.pointer (some ⟨p,0,none⟩),.int .i64 (.ofNat f.1),.int .i64 (.ofNat f.2.1),.int .i64 (.ofNat f.2.2.1),.int .i64 (.ofNat f.2.2.2)] h) (QTell h p g sw sn ss sg so (l ++ [f]))
theorem tell_ok{R:RnK}{N:Nat}{h:Hs}{p:Nat}{g:Geo}{sw sn ss sg so:Value}{l:List Fnd}{f:Fnd}(B:LkAt h p g sw sn ss sg so l)(hl:l.length≤100000) :
 WP (r45 R N [.pointer (some ⟨p,0,none⟩),.int .i64 (.ofNat f.1),.int .i64 (.ofNat f.2.1),.int .i64 (.ofNat f.2.2.1),.int .i64 (.ofNat f.2.2.2)] h) (QTell h p g sw sn ss sg so (l ++ [f])):=by
 unfold r45
 obtain⟨fl,fl2,H⟩:=B.enter
 obtain⟨a,cc,rfl⟩:=(show OwnSl _ so 37 4 _ _ _ from H.ok _ (List.mem_of_getElem? (i:=1) rfl)).form
 unfold lkO lkC at H
 repeat' (first|(with_reducible first|refine w_unC ?_|refine w_enK ?_|refine w_fieldA ?_|refine w_nil ?_)|((with_reducible apply w_build) ;rfl;(try dsimp only[splice,ev,cellsL,rep,List.cons_append,List.nil_append]))|((with_reducible apply w_mkrow H) ;rfl;(clear H;intro u H hu;(try dsimp only[List.set_cons_zero,List.set_cons_succ,cellsL,List.toList_toArray,splice,ev,rep,List.cons_append,List.nil_append] at H)))|((with_reducible apply w_load 0 H) ;rfl;rfl;rfl))
 refine w_appendB 2 0 H rfl rfl rfl rfl (by omega) (by omega) λv3 u4 H4 hn4=>?_
 clear H
 have H:=H4.tail
 clear H4
 dsimp only[List.set_cons_zero,List.set_cons_succ] at H
 rw[show Fc l ++ [Value.int .i64 (.ofNat f.1),.int .i64 (.ofNat f.2.1),.int .i64 (.ofNat f.2.2.1),.int .i64 (.ofNat f.2.2.2)]=Fc (l ++ [f]) from (Fc_snoc l f).symm] at H
 obtain⟨a3,c3,rfl⟩:=(show OwnSl u4 v3 37 4 _ _ _ from H.ok _ (List.mem_of_getElem? (i:=1) rfl)).form
 repeat' (first|(with_reducible first|refine w_fieldA ?_|refine w_nil ?_)|((with_reducible apply w_store1 0 H) ;rfl;(simp only[List.length_cons,List.length_nil];omega);rfl;(clear H;intro u H hu;(try dsimp only[List.set_cons_zero,List.set_cons_succ,cellsL,List.toList_toArray,splice,ev,rep,List.cons_append,List.nil_append] at H))))
 have hne:u.hp.get p≠h.hp.get p:=λe=>by
  obtain⟨fl0,cs0,f0,hb0,_,hg0⟩:=B.row
  obtain⟨cs1,f1,hb1,_,hg1⟩:=(show Holds (u.hp.get p) (lkO _ g sw sn ss sg (.slice a3 (l.length+1) c3)) from H.ok _ (List.mem_of_getElem? (i:=0) rfl))
  rw[e,hb0] at hb1
  injection hb1 with hb1
  injection hb1 with hb1
  have g0:=hg0 8
  have g1:=hg1 8
  rw[hb1,g1] at g0
  have g0:some (Value.slice a3 (l.length+1) c3)=some (Value.slice a l.length cc):=g0
  injection g0 with g0
  injection g0 with _ g0 _
  omega
 have ll:(l ++ [f]).length=l.length+1:=by rw[List.length_append];rfl
 refine w_clrSN H B.pl List.mem_cons_self (λb hb=>?_) hne λh'' mu e1 e2=>⟨rfl,mu,.slice a3 (l.length+1) c3,⟨?_,⟨andB fl (flat1 (.slice a3 (l.length+1) c3)),?_⟩,⟨fl2&&flatL (fC f),?_⟩,λb hb=>?_⟩,λb hb=>?_⟩
 ·rcases List.mem_cons.1 hb with rfl|hb
  ·exact B.pl
  ·exact(B.bid b (idsOf_mem.1 hb)).1
 ·exact Nat.lt_of_lt_of_le B.pl mu.1
 ·rw[e1];exact H.ok _ (List.mem_of_getElem? (i:=0) rfl)
 ·have o:=(show OwnSl u (.slice a3 (l.length+1) c3) 37 4 _ _ _ from H.ok _ (List.mem_of_getElem? (i:=1) rfl))
  rw[ll]
  exact OwnSl.congr o λb _=>by rw[e1]
 ·have i1:=H.ids _ (List.mem_of_getElem? (i:=1) rfl) b hb
  exact⟨by rw[e2];exact i1.1,λe=>H.dj 0 1 _ _ rfl rfl (by decide) rfl p rfl (by rw[←e];exact hb)⟩
 ·have i1:=(H.ids _ (List.mem_of_getElem? (i:=1) rfl) b hb).2 rfl
  rcases i1 with g|g
  ·exact .inl g
  ·rcases List.mem_cons.1 g with rfl|g
   ·exact absurd hb (H.dj 0 1 _ _ rfl rfl (by decide) rfl _ rfl)
   ·exact .inr (idsOf_mem.1 g)
set_option linter.unusedSimpArgs false
theorem LkAt.of{h0 w:Hs}{S:List Nat}{m:List Th}{p:Nat}{fl fl2:Bool}{g:Geo}{sw sn ss sg s:Value}{l:List Fnd}(H:Sto h0 S w (.blk p (lkO fl g sw sn ss sg s)::.osl s 37 4 fl2 l.length (Fc l)::m)):LkAt w p g sw sn ss sg s l:=
 ⟨H.lt 0 rfl,⟨fl,H.ok _ (List.mem_of_getElem? (i:=0) rfl)⟩,⟨fl2,H.ok _ (List.mem_of_getElem? (i:=1) rfl)⟩,λb hb=>⟨(H.ids _ (List.mem_of_getElem? (i:=1) rfl) b hb).1,λe=>H.dj 0 1 _ _ rfl rfl (by decide) rfl p rfl (by rw[←e];exact hb)⟩⟩
theorem lkDrop{h0 w u:Hs}{S:List Nat}{m:List Th}{p:Nat}{fl fl2:Bool}{g:Geo}{sw sn ss sg s:Value}{l:List Fnd}(H:Sto h0 S w (.blk p (lkO fl g sw sn ss sg s)::.osl s 37 4 fl2 l.length (Fc l)::m))(mu:MutS (p::idsOf s) w u):Sto h0 S u m:=by
 refine H.tail.tail.mutS mu (λb hb=>?_) λt ht b hb hb2=>?_
 ·rcases List.mem_cons.1 hb with rfl|hb
  ·exact(H.ids _ (List.mem_of_getElem? (i:=0) rfl) _ rfl).2 rfl
  ·exact(H.ids _ (List.mem_of_getElem? (i:=1) rfl) _ (idsOf_mem.1 hb)).2 rfl
 ·obtain⟨i,hi⟩:=List.getElem?_of_mem ht
  rcases List.mem_cons.1 hb2 with rfl|hb2
  ·exact H.dj 0 (i+2) _ _ rfl hi (by omega) rfl _ rfl hb
  ·exact H.dj 1 (i+2) _ _ rfl hi (by omega) rfl _ (idsOf_mem.1 hb2) hb
theorem lkCall{h0 w u:Hs}{S:List Nat}{m:List Th}{p:Nat}{fl fl2:Bool}{g:Geo}{sw sn ss sg s s':Value}{l l':List Fnd}(H:Sto h0 S w (.blk p (lkO fl g sw sn ss sg s)::.osl s 37 4 fl2 l.length (Fc l)::m))(mu:MutS (p::idsOf s) w u)(B:LkAt u p g sw sn ss sg s' l')(ni:∀b,vId s'=some b→w.nx≤b∨vId s=some b) :
 ∃fl fl2,Sto h0 S u (.blk p (lkO fl g sw sn ss sg s')::.osl s' 37 4 fl2 l'.length (Fc l')::m):=by
 obtain⟨f1,hr⟩:=B.row
 obtain⟨f2,hb⟩:=B.buf
 have H2:=lkDrop H mu
 have dm:∀t∈m,∀b,t.id=some b→b<w.nx∧b≠p∧vId s≠some b:=λt ht b hb=>by
  obtain⟨i,hi⟩:=List.getElem?_of_mem ht
  exact⟨(H.ids _ (List.mem_of_getElem? (i:=i+2) hi) b hb).1,λe=>H.dj 0 (i+2) _ _ rfl hi (by omega) rfl p rfl (by rw[←e];exact hb),λe=>H.dj 1 (i+2) _ _ rfl hi (by omega) rfl b e hb⟩
 refine⟨f1,f2,(H2.cons (.osl s' 37 4 f2 l'.length (Fc l')) hb (λb hb=>⟨(B.bid b hb).1,λ_=>?_⟩) λt ht _ b hb1 hb2=>?_).cons (.blk p (lkO f1 g sw sn ss sg s')) hr (λb hb=>by injection hb with hb;subst hb;exact⟨B.pl,λ_=>(H.ids _ (List.mem_of_getElem? (i:=0) rfl) _ rfl).2 rfl⟩) λt ht _ b hb1 hb2=>?_⟩
 ·rcases ni b hb with g|g
  ·exact .inl (Nat.le_trans H.nx g)
  ·exact(H.ids _ (List.mem_of_getElem? (i:=1) rfl) b g).2 rfl
 ·have q:=dm t ht b hb2
  rcases ni b hb1 with g|g
  ·omega
  ·exact q.2.2 g
 ·injection hb1 with hb1
  subst hb1
  rcases List.mem_cons.1 ht with rfl|ht
  ·exact(B.bid _ hb2).2 rfl
  ·exact(dm t ht _ hb2).2.1 rfl
theorem LkAt.enterR{h:Hs}{p:Nat}{g:Geo}{sw sn ss sg so:Value}{l:List Fnd}(B:LkAt h p g sw sn ss sg so l)(m:List Th)(hm:∀t∈m,t.ex=false∧t.body h∧∀b,t.id=some b→b<h.nx∧b≠p∧vId so≠some b) :
 ∃fl fl2,Sto h (p::idsOf so) ⟨h.hp,h.nx,h.nx⟩ (.blk p (lkO fl g sw sn ss sg so)::.osl so 37 4 fl2 l.length (Fc l)::m):=by
 obtain⟨fl,hr⟩:=B.row
 obtain⟨fl2,hb⟩:=B.buf
 refine⟨fl,fl2,Sto.enterS _ _ (λt ht=>?_) λi j s t hi hj hij he b hb1 hb2=>?_⟩
 ·rcases List.mem_cons.1 ht with rfl|ht
  ·exact⟨hr,λb hb=>by injection hb with hb;subst hb;exact⟨B.pl,λ_=>List.mem_cons_self⟩⟩
  rcases List.mem_cons.1 ht with rfl|ht
  ·exact⟨hb,λb hb=>⟨(B.bid b hb).1,λ_=>List.mem_cons_of_mem _ (idsOf_mem.2 hb)⟩⟩
  ·obtain⟨e,q1,q2⟩:=hm t ht
   exact⟨q1,λb hb=>⟨(q2 b hb).1,λz=>by rw[e] at z;cases z⟩⟩
 ·match i,j,hi,hj with
  |0,0,_,_=>exact hij rfl
  |0,1,hi,hj=>injection hi with hi;injection hj with hj;subst hi;subst hj;injection hb1 with hb1;exact(B.bid b hb2).2 hb1.symm
  |1,0,hi,hj=>injection hi with hi;injection hj with hj;subst hi;subst hj;injection hb2 with hb2;exact(B.bid b hb1).2 hb2.symm
  |1,1,_,_=>exact hij rfl
  |0,j+2,hi,hj=>
   injection hi with hi
   subst hi
   injection hb1 with hb1
   exact((hm t (List.mem_of_getElem? hj)).2.2 b hb2).2.1 hb1.symm
  |1,j+2,hi,hj=>
   injection hi with hi
   subst hi
   exact((hm t (List.mem_of_getElem? hj)).2.2 b hb2).2.2 hb1
  |i+2,j,hi,hj=>
   have:=(hm s (List.mem_of_getElem? hi)).1
   rw[this] at he
   cases he
set_option linter.unusedSimpArgs false
def CLostArea(R:RnK):Prop:=∀(h:Hs)(p:Nat)(g:Geo)(d:Nd)(a:Option Addr)(c:Nat),g.Ok→d.Mod→RdAt h p 0 [.int .i64 (.ofNat g.b),.int .i64 (.ofNat g.n),.int .i64 (.ofNat g.c),.int .i64 (.ofNat g.k)]→p<h.nx→Rd h (.slice a d.rs.length c) 2 (Rl d.rs) →
 R 49 [.pointer (some ⟨p,0,none⟩),d.v a c] h=some (.val (.bool (decide (d.rs = [(g.lostAt,g.n)]))) h)
theorem lostArea_ok{R:RnK}{N:Nat}(cl:CLost R)(ce:CEqR R){h:Hs}{p:Nat}{g:Geo}{d:Nd}{a:Option Addr}{c:Nat}(x:g.Ok)(dm:d.Mod)(ra:RdAt h p 0 [.int .i64 (.ofNat g.b),.int .i64 (.ofNat g.n),.int .i64 (.ofNat g.c),.int .i64 (.ofNat g.k)])(hp:p<h.nx)(r:Rd h (.slice a d.rs.length c) 2 (Rl d.rs)) :
 r49 R N [.pointer (some ⟨p,0,none⟩),d.v a c] h=some (.val (.bool (decide (d.rs = [(g.lostAt,g.n)]))) h):=by
 refine WP.eqn ?_
 have clg:=cl g
 unfold r49 Nd.v
 unfold Geo.v at clg
 have H:=Sto.enterR h [.rel p 0 [.int .i64 (.ofNat g.b),.int .i64 (.ofNat g.n),.int .i64 (.ofNat g.c),.int .i64 (.ofNat g.k)],.rsl (.slice a d.rs.length c) 2 (Rl d.rs)] (λt ht=>by
  rcases List.mem_cons.1 ht with rfl|ht
  ·exact⟨rfl,ra,λb hb=>by injection hb with e;subst e;exact hp⟩
  ·rw[List.mem_singleton.1 ht];exact⟨rfl,r.1,λb hb=>r.2 b hb⟩)
 refine w_unC ?_
 refine w_unC ?_
 refine w_enK ?_
 refine w_boxA H ?_
 clear H;intro u1 H hu1
 repeat' (first|(with_reducible first|refine w_fieldA ?_|refine w_nil ?_))
 refine w_loadsE 1 H rfl rfl rfl ?_
 repeat' (first|(refine w_callE (clg _ x) ?_)|(with_reducible refine w_fieldA ?_)|((with_reducible apply w_extr) ;rfl)|((with_reducible apply w_build) ;rfl;(try dsimp only[splice,ev,cellsL,rep,List.cons_append,List.nil_append]))|((with_reducible apply w_mkrow H) ;rfl;(clear H;intro u H hu;(try dsimp only[List.set_cons_zero,List.set_cons_succ,cellsL,List.toList_toArray,splice,ev,rep,List.cons_append,List.nil_append] at H)))|((with_reducible apply w_load 0 H) ;rfl;rfl;rfl))
 have rd:=H.rdU (Ls:=Rl [(g.lostAt,g.n)]) (n:=1) (c:=1) 0 rfl rfl (Rl_two _) rfl (Nat.le_refl _)
 refine w_callE (ce d.rs [(g.lostAt,g.n)] _ _ _ (by have:=dm.rl;omega) (H.rd 3 rfl) rd) ?_
 exact w_clr H rfl ⟨rfl,rfl⟩
set_option linter.unusedSimpArgs false
theorem lkRow{B1 B2:Option Blk}{g:Geo}{sw sn ss sg so so':Value}{fl fl':Bool}(h1:Holds B1 (lkO fl g sw sn ss sg so))(h2:Holds B2 (lkO fl' g sw sn ss sg so'))(e:B1=B2):so=so':=by
 obtain⟨c1,f1,e1,_,g1⟩:=h1
 obtain⟨c2,f2,e2,_,g2⟩:=h2
 rw[e,e2] at e1
 injection e1 with e1
 injection e1 with e1
 have a:=g1 8
 rw[←e1,g2 8] at a
 injection a with a
 exact a.symm
theorem lkEnd{h u:Hs}{m:List Th}{p:Nat}{fl fl2:Bool}{g:Geo}{sw sn ss sg so0 so:Value}{l0 l:List Fnd}(B:LkAt h p g sw sn ss sg so0 l0)(H:Sto h (p::idsOf so0) u (.blk p (lkO fl g sw sn ss sg so)::.osl so 37 4 fl2 l.length (Fc l)::m)) :
 WP (clrK h (.tuple #[]) u) (QTell h p g sw sn ss sg so0 l):=by
 have i1:=λb hb=>H.ids _ (List.mem_of_getElem? (i:=1) rfl) b hb
 have C:=LkAt.of H
 refine w_clrS H (λs hs=>?_) rfl (λh'' mu e1 e2=>⟨rfl,mu,so,⟨by rw[e2];exact C.pl,by rw[e1];exact C.row,?_,λb hb=>by rw[e2];exact C.bid b hb⟩,λb hb=>?_⟩) λe=>?_
 ·rcases List.mem_cons.1 hs with rfl|hs
  ·exact B.pl
  ·exact(B.bid s (idsOf_mem.1 hs)).1
 ·obtain⟨f,hb⟩:=C.buf
  exact⟨f,OwnSl.congr hb λb _=>by rw[e1]⟩
 ·rcases (i1 b hb).2 rfl with g|g
  ·exact .inl g
  ·rcases List.mem_cons.1 g with rfl|g
   ·exact absurd rfl (C.bid _ hb).2
   ·exact .inr (idsOf_mem.1 g)
 ·obtain⟨f1,r1⟩:=B.row
  obtain⟨f2,r2⟩:=C.row
  have es:=lkRow r1 r2 (e p B.pl).symm
  subst es
  obtain⟨f,hb⟩:=C.buf
  exact⟨rfl,MutS.refl _ _,so0,⟨B.pl,B.row,⟨f,OwnSl.congr hb λb hb=>(e b (B.bid b hb).1).symm⟩,B.bid⟩,λb hb=>.inr hb⟩
theorem w_tell{Q:Value→Hs→Prop}{R:RnK}{K:KV}(ct:CTell R){h0 w:Hs}{S:List Nat}{m:List Th}{p:Nat}{fl fl2:Bool}{g:Geo}{sw sn ss sg s:Value}{l:List Fnd}{a b c d:Nat}(H:Sto h0 S w (.blk p (lkO fl g sw sn ss sg s)::.osl s 37 4 fl2 l.length (Fc l)::m))(hl:l.length≤100000)
 (kk:∀u fl fl2 s',Sto h0 S u (.blk p (lkO fl g sw sn ss sg s')::.osl s' 37 4 fl2 (l ++ [(a,b,c,d)]).length (Fc (l ++ [(a,b,c,d)]))::m)→w.nx≤u.nx→WP (K (.tuple #[]) u) Q) :
 WP (kCall R 45 [.pointer (some ⟨p,0,none⟩),.int .i64 (.ofNat a),.int .i64 (.ofNat b),.int .i64 (.ofNat c),.int .i64 (.ofNat d)] w K) Q:=by
 refine w_call (ct w p g sw sn ss sg s l (a,b,c,d) (LkAt.of H) hl) λv u hq=>?_
 obtain⟨rfl,mu,s',B,ni⟩:=hq
 obtain⟨f1,f2,H2⟩:=lkCall H mu B ni
 exact kk u f1 f2 s' H2 mu.1
set_option linter.unusedSimpArgs false
def headF1(g:Geo)(W:List Nat):List Fnd:=match getHead (blockAt W 0) with
 |some a=>if a.1.b=g.b then (if a.2=0 then [] else [(0,5,0,0)]) else [(0,3,0,0)]
 |none=>[(0,3,0,0)]
def headF2(g:Geo)(W:List Nat):List Fnd:=match getHead (blockAt W (g.b-1)) with
 |some a=>if a.1.b=g.b∧a.1.n=g.n∧a.1.c=g.c∧a.1.k=g.k then (if a.2=0 then [] else [(0,5,g.b-1,0)]) else [(0,4,g.b-1,0)]
 |none=>[(0,4,g.b-1,0)]
theorem heads_ok{R:RnK}{N:Nat}(cb:CBlock R)(cg:CHeadGet R)(ct:CTell R){h:Hs}{p:Nat}{g:Geo}{sw sn ss sg so:Value}{l:List Fnd}{W:List Nat}(x:g.Ok)(hW:W.length=8*g.b)(sm:Small W)(r:Rd h sw 1 (Wl W))(rx:∀b,Th.id (.rsl sw 1 (Wl W))=some b→b∉p::idsOf so)(B:LkAt h p g sw sn ss sg so l)(hl:l.length≤1000) :
 WP (r24 R N [.pointer (some ⟨p,0,none⟩)] h) (QTell h p g sw sn ss sg so (l++headF1 g W++headF2 g W)):=by
 have cbg:=cb g W sw
 unfold r24
 unfold imgV at cbg
 have h1:=x.1.b1
 have h2:=x.1.b2
 obtain⟨fl,fl2,H⟩:=B.enter
 replace H:=H.addR r rx
 replace H:=H.pick [1,2,0] (by decide) (m':=[.blk p (lkO fl g sw sn ss sg so),.osl so 37 4 fl2 l.length (Fc l),.rsl sw 1 (Wl W)]) rfl
 unfold lkO lkC at H
 repeat' (first|(with_reducible first|refine w_unC ?_|refine w_enK ?_|refine w_fieldA ?_|refine w_nil ?_)|((with_reducible refine w_sub_NN ?_ ?_ ?_) ;omega;omega)|((with_reducible apply w_load 0 H) ;rfl;rfl;rfl)|((with_reducible apply w_loads 0 H) ;rfl;rfl;rfl;rfl;(try dsimp only[List.drop_zero,List.drop_succ_cons,List.take_succ_cons,List.take_zero])))
 refine w_call (cbg 0 _ (by omega) (H.rd 2 rfl) (by omega)) λv1 u1 n1=>?_
 replace n1:=n1.ones
 rw[←Wl_ones] at n1
 replace H:=H.call n1
 refine w_callE (cg (blockAt W 0) v1 _ (sm.block _) (H.rd 0 rfl)) ?_
 obtain⟨ga,pa,b1,ea,f1⟩:∃ga pa b1,(hdV (getHead (blockAt W 0))=headV ga pa∧(getHead (blockAt W 0)).isSome=b1)∧headF1 g W=if b1=true∧ga.b=g.b then (if pa=0 then [] else [(0,5,0,0)]) else [(0,3,0,0)]:=by
  unfold headF1
  cases getHead (blockAt W 0) with
  |some a=>exact⟨a.1,a.2,true,⟨rfl,rfl⟩,by simp⟩
  |none=>exact⟨⟨0,0,0,0⟩,0,false,⟨rfl,rfl⟩,by simp⟩
 rw[ea.1,ea.2,f1]
 clear f1 ea
 unfold headV
 replace H:=H.sel [1,2,3] 4 rfl (by decide) (by decide);dsimp only[List.filterMap_cons,List.filterMap_nil,List.getElem?_cons_zero,List.getElem?_cons_succ] at H
 repeat' (first|(with_reducible first|refine w_fieldA ?_|refine w_nil ?_)|((with_reducible apply w_extr) ;rfl)|((with_reducible refine w_alloc H ?_) ;(clear H;intro u H hu))|((with_reducible apply w_storeV 0 H) ;rfl;rfl;rfl;omega;rfl;(clear H;intro u H hu;(try dsimp only[List.set_cons_zero,List.set_cons_succ,cellsL,List.toList_toArray,splice,ev,rep,List.cons_append,List.nil_append] at H)))|((with_reducible apply w_loads 1 H) ;rfl;rfl;rfl;rfl;(try dsimp only[List.drop_zero,List.drop_succ_cons,List.take_succ_cons,List.take_zero])))
 refine w_call (cbg (g.b-1) _ (by omega) (H.rd 3 rfl) (by omega)) λv2 u2 n2=>?_
 replace n2:=n2.ones
 rw[←Wl_ones] at n2
 replace H:=H.call n2
 refine w_callE (cg (blockAt W (g.b-1)) v2 _ (sm.block _) (H.rd 0 rfl)) ?_
 obtain⟨gb,pb,b2,eb,f2⟩:∃ga pa b1,(hdV (getHead (blockAt W (g.b-1)))=headV ga pa∧(getHead (blockAt W (g.b-1))).isSome=b1)∧headF2 g W=if b1=true∧ga.b=g.b∧ga.n=g.n∧ga.c=g.c∧ga.k=g.k then (if pa=0 then [] else [(0,5,g.b-1,0)]) else [(0,4,g.b-1,0)]:=by
  unfold headF2
  cases getHead (blockAt W (g.b-1)) with
  |some a=>exact⟨a.1,a.2,true,⟨rfl,rfl⟩,by simp⟩
  |none=>exact⟨⟨0,0,0,0⟩,0,false,⟨rfl,rfl⟩,by simp⟩
 rw[eb.1,eb.2,f2]
 clear f2 eb
 unfold headV
 replace H:=H.sel [1,2,3,4] 5 rfl (by decide) (by decide);dsimp only[List.filterMap_cons,List.filterMap_nil,List.getElem?_cons_zero,List.getElem?_cons_succ] at H
 repeat' (first|((with_reducible apply w_extr) ;rfl)|((with_reducible refine w_alloc H ?_) ;(clear H;intro u H hu))|((with_reducible apply w_storeV 0 H) ;rfl;rfl;rfl;omega;rfl;(clear H;intro u H hu;(try dsimp only[List.set_cons_zero,List.set_cons_succ,cellsL,List.toList_toArray,splice,ev,rep,List.cons_append,List.nil_append] at H))))
 replace H:=H.sel [2,3,0,1,4] 5 rfl (by decide) (by decide);dsimp only[List.filterMap_cons,List.filterMap_nil,List.getElem?_cons_zero,List.getElem?_cons_succ] at H
 clear cbg n1 n2
 cases b1<;>cases b2
 all_goals repeat' (first|((with_reducible apply w_eq4)<;>first|rfl|intro _)|((with_reducible refine w_tell ct H (by first|omega|(simp only[List.length_append,List.length_cons,List.length_nil];omega)) ?_);clear H;intro u fl fl2 s' H hu;dsimp only[lkO,lkC] at H)|(with_reducible first|refine w_jn ?_|refine w_cndT ?_|refine w_cndF ?_|refine w_gTt ?_|refine w_gTf ?_|refine w_pickT ?_|refine w_pickF ?_|refine w_notT ?_|refine w_notF ?_|refine w_fieldA ?_|refine w_nil ?_|refine w_blind ?_)|((with_reducible first|refine w_eql_NN (λ_=>?_) (λ_=>?_)|refine w_uneq (λ_=>?_) (λ_=>?_))<;>first|(exfalso;omega)|skip)|((with_reducible apply w_load 0 H) ;rfl;rfl;rfl)|((with_reducible apply w_loads 0 H) ;rfl;rfl;rfl;rfl;(try dsimp only[List.drop_zero,List.drop_succ_cons,List.take_succ_cons,List.take_zero]))|((with_reducible apply w_load 2 H) ;rfl;rfl;rfl)|((with_reducible apply w_loads 2 H) ;rfl;rfl;rfl;rfl;(try dsimp only[List.drop_zero,List.drop_succ_cons,List.take_succ_cons,List.take_zero]))|((with_reducible apply w_load 3 H) ;rfl;rfl;rfl))
 all_goals (refine WP.mono (lkEnd B H) λ_ _ q=>?_)
 all_goals clear H B rx r
 all_goals (simp only[*,true_and,and_self,false_and,Bool.false_eq_true,if_true,if_false,List.append_nil,List.append_assoc,List.cons_append,List.nil_append] at q ⊢<;>exact q)
set_option linter.unusedSimpArgs false
def bookF(g:Geo)(W:List Nat)(c:Nat):List Fnd:=if (W[8*(1+c*g.k)]?).getD 0=0 then [] else [(1,1,c,0)]
def booksF(g:Geo)(W:List Nat)(n:Nat):List Fnd:=(List.range n).flatMap (bookF g W)
theorem booksF_succ(g:Geo)(W:List Nat)(n:Nat):booksF g W (n+1)=booksF g W n++bookF g W n:=by unfold booksF;rw[List.range_succ,List.flatMap_append];simp
theorem booksF_len(g:Geo)(W:List Nat):∀n,(booksF g W n).length≤n:=by
 intro n
 induction n with
 |zero=>exact Nat.le_refl _
 |succ n ih=>
  rw[booksF_succ,List.length_append]
  have:(bookF g W n).length≤1:=by unfold bookF;split<;>simp
  omega
theorem kbooks_ok{R:RnK}{N:Nat}(cb:CBooks R)(ct:CTell R){h:Hs}{p:Nat}{g:Geo}{sw sn ss sg so:Value}{l:List Fnd}{W:List Nat}(hN:10000<N)(x:g.Ok)(hW:W.length=8*g.b)(sm:Small W)(r:Rd h sw 1 (Wl W))(rx:∀b,Th.id (.rsl sw 1 (Wl W))=some b→b∉p::idsOf so)(B:LkAt h p g sw sn ss sg so l)(hl:l.length≤1000) :
 WP (r25 R N [.pointer (some ⟨p,0,none⟩)] h) (QTell h p g sw sn ss sg so (l++booksF g W g.c)):=by
 unfold r25
 have h1:=x.1.b1
 have h2:=x.1.b2
 obtain⟨fl,fl2,H⟩:=B.enter
 replace H:=H.addR r rx
 replace H:=H.pick [1,2,0] (by decide) (m':=[.blk p (lkO fl g sw sn ss sg so),.osl so 37 4 fl2 l.length (Fc l),.rsl sw 1 (Wl W)]) rfl
 repeat' (first|(with_reducible first|refine w_jn ?_|refine w_unC ?_|refine w_enK ?_|refine w_fieldA ?_|refine w_nil ?_)|((with_reducible apply w_load 0 H) ;rfl;rfl;rfl))
 refine lp_ind (Good:=λn (self:L5)=>∀(i:Nat)(y1 y2 y3 y4:Value)(w:Hs)(fl fl2:Bool)(s:Value),i+n=g.c→Sto h (p::idsOf so) w [.blk p (lkO fl g sw sn ss sg s),.osl s 37 4 fl2 (l++booksF g W i).length (Fc (l++booksF g W i)),.rsl sw 1 (Wl W)]→WP (self (.int .i64 (.ofNat i)) y1 y2 y3 y4 w) (QTell h p g sw sn ss sg so (l++booksF g W g.c))) (λn self ih i y1 y2 y3 y4 w fl fl2 s hi H1=>?_) N g.c (by have:=x.1.c2;omega) 0 _ _ _ _ _ fl fl2 so (by omega) (by show Sto _ _ _ [_,.osl so _ _ _ (l ++ []).length (Fc (l ++ [])),_];rw[List.append_nil];exact H)
 clear H
 have H:=H1
 clear H1
 have bl:=booksF_len g W i
 have c2:=x.1.c2
 have bs:=booksF_succ g W i
 repeat' (first|(with_reducible first|refine w_jn ?_|refine w_cndT ?_|refine w_cndF ?_|refine w_fieldA ?_|refine w_nil ?_)|((with_reducible refine w_lss_NN (λ_=>?_) (λ_=>?_))<;>first|(exfalso;omega)|skip)|((with_reducible apply w_loads 0 H) ;rfl;rfl;rfl;rfl;(try dsimp only[List.drop_zero,List.drop_succ_cons,List.take_succ_cons,List.take_zero])))
 ·have cbi:=cb g i
  unfold Geo.v at cbi
  have ic:i<g.c:=by omega
  have hx:8*(1+i*g.k)<W.length:=by
   have h3:=x.2
   have h4:=x.1.num
   have:(i+1)*g.k≤g.c*g.k:=Nat.mul_le_mul_right _ ic
   rw[Nat.succ_mul] at this
   unfold Geo.bitsAt at h4
   omega
  have hg:(Wl W)[8*(1+i*g.k)]?=some [.int .u64 (.ofNat W[8*(1+i*g.k)])]:=by unfold Wl;rw[List.getElem?_map,List.getElem?_eq_getElem hx];rfl
  repeat' (first|(refine w_callE (cbi _ x ic) ?_)|(with_reducible first|refine w_fieldA ?_|refine w_nil ?_)|((with_reducible apply w_extr) ;rfl)|((with_reducible refine w_mul_NN ?_ ?_) ;omega)|((with_reducible apply w_load 0 H) ;rfl;rfl;rfl))
  refine w_at1 2 H rfl hg rfl rfl ?_
  have bf:bookF g W i=if W[8*(1+i*g.k)]=0 then [] else [(1,1,i,0)]:=by unfold bookF;rw[List.getElem?_eq_getElem hx];rfl
  repeat' (first|((with_reducible refine w_tell ct H (by first|omega|(simp only[List.length_append,List.length_cons,List.length_nil];omega)) ?_);clear H;intro u fl fl2 s' H hu)|(with_reducible first|refine w_jn ?_|refine w_cndT ?_|refine w_cndF ?_)|((with_reducible refine w_uneq (λ_=>?_) (λ_=>?_))<;>first|(exfalso;omega)|skip)|((with_reducible refine w_add_NN ?_ ?_) ;omega))
  ·exact ih (n-1) (by omega) (i+1) _ _ _ _ _ fl fl2 s (by omega) (by rw[bs,bf,if_pos ‹_›,List.append_nil];exact H)
  ·exact ih (n-1) (by omega) (i+1) _ _ _ _ _ fl fl2 s' (by omega) (by rw[bs,bf,if_neg ‹_›,←List.append_assoc];exact H)
 ·rw[show i=g.c from by omega] at H
  exact lkEnd B H
set_option linter.unusedSimpArgs false
noncomputable def kindN(g:Geo)(n:Nat):Option Nd→Nat
 |none=>1
 |some d=>open Classical in if ¬d.good g then 2 else if n=1∧d.ty≠2 then 3 else if n=2∧(d.ty≠2∨d.rs ≠ [(g.lostAt,g.n)]∨d.sz≠g.n) then 4 else if n≠2∧d.rs = [(g.lostAt,g.n)] then 5 else if d.ty=2∧d.ln≠1 then 6 else 0
def ndAt(g:Geo)(W:List Nat)(n:Nat):Option Nd:=getNode (blockAt W (g.nodeAt n))
def neC(d:Nd)(a:Option Addr)(c:Nat):List Value:=[.int .i64 (.ofNat d.ty),.int .i64 (.ofNat d.ln),.int .i64 (.ofNat d.sz),.slice a d.rs.length c]
structure RowsAt (h:Hs) (bn bs k:Nat) (NS:List (List Value)) (SS:List Bool):Prop where
 l1:NS.length=k
 l2:SS.length=k
 u4:∀l∈NS,l.length=4
 n1:bn<h.nx
 n2:bs<h.nx
 ne:bn≠bs
 r1:∃fl,Holds (h.hp.get bn) (.row 53 4 true fl NS.flatten)
 r2:∃fl,Holds (h.hp.get bs) (.row 4 1 true fl (SS.map .bool))
abbrev lkS(k b:Nat):Value:=.slice (some ⟨b,0,none⟩) k k
structure QNode (h:Hs) (p:Nat) (g:Geo) (sw sg so:Value) (bn bs k:Nat) (NS:List (List Value)) (SS:List Bool) (l:List Fnd) (n:Nat) (D:Option Nd) (r:Value) (u:Hs):Prop where
 rt:r=.tuple #[]
 mu:MutS (p::bn::bs::idsOf so) h u
 st:∃so' l' NS' SS',LkAt u p g sw (lkS k bn) (lkS k bs) sg so' l'∧RowsAt u bn bs k NS' SS'∧(∀b,vId so'=some b→h.nx≤b∨vId so=some b) ∧
  ((kindN g n D≠0∧l'=l ++ [(2,kindN g n D,n,0)]∧NS'=NS∧SS'=SS)∨(kindN g n D=0∧∃d a c,D=some d∧d.Mod∧so'=so∧l'=l∧NS'=NS.set n (neC d a c)∧SS'=SS.set n (decide (d.ty≠0))∧Rd u (.slice a d.rs.length c) 2 (Rl d.rs)∧∀b,Th.id (.rsl (.slice a d.rs.length c) 2 (Rl d.rs))=some b→h.nx≤b))
theorem LkAt.ext{h u:Hs}{p:Nat}{g:Geo}{sw sn ss sg so:Value}{l:List Fnd}(B:LkAt h p g sw sn ss sg so l)(e:h.nx≤u.nx)(eq:∀b,b<h.nx→u.hp.get b=h.hp.get b):LkAt u p g sw sn ss sg so l:=by
 obtain⟨f1,hr⟩:=B.row
 obtain⟨f2,hb⟩:=B.buf
 exact⟨Nat.lt_of_lt_of_le B.pl e,⟨f1,by rw[eq p B.pl];exact hr⟩,⟨f2,OwnSl.congr hb λb hb=>eq b (B.bid b hb).1⟩,λb hb=>⟨Nat.lt_of_lt_of_le (B.bid b hb).1 e,(B.bid b hb).2⟩⟩
theorem lkClr{S:List Nat}{h u:Hs}{m:List Th}{p:Nat}{g:Geo}{sw sn ss sg so0 so:Value}{l0 l:List Fnd}{Q:Value→Hs→Prop}(B0:LkAt h p g sw sn ss sg so0 l0)(B:LkAt u p g sw sn ss sg so l)(H:Sto h S u m)(hS:∀s∈S,s<h.nx)(ni:∀b,vId so=some b→h.nx≤b∨vId so0=some b)
 (q:∀h'',MutS S h h''→LkAt h'' p g sw sn ss sg so l→((h''.hp=u.hp∧h''.nx=u.nx)∨(h''=h∧∀b,b<h.nx→u.hp.get b=h.hp.get b))→Q (.tuple #[]) h''):WP (clrK h (.tuple #[]) u) Q:=by
 refine w_clrS H hS rfl (λh'' mu e1 e2=>q h'' mu ?_ (.inl ⟨e1,e2⟩)) λe=>?_
 ·obtain⟨f,hb⟩:=B.buf
  exact⟨by rw[e2];exact B.pl,by rw[e1];exact B.row,⟨f,OwnSl.congr hb λb _=>by rw[e1]⟩,λb hb=>by rw[e2];exact B.bid b hb⟩
 ·obtain⟨f1,r1⟩:=B0.row
  obtain⟨f2,r2⟩:=B.row
  have es:=lkRow r1 r2 (e p B0.pl).symm
  subst es
  obtain⟨f,hb⟩:=B.buf
  exact q h (MutS.refl _ _) ⟨B0.pl,B0.row,⟨f,OwnSl.congr hb λb hb=>(e b (B0.bid b hb).1).symm⟩,B0.bid⟩ (.inr ⟨rfl,e⟩)
theorem RowsAt.ext{h u:Hs}{bn bs k:Nat}{NS:List (List Value)}{SS:List Bool}(A:RowsAt h bn bs k NS SS)(e:h.nx≤u.nx)(e1:u.hp.get bn=h.hp.get bn)(e2:u.hp.get bs=h.hp.get bs):RowsAt u bn bs k NS SS:=
 ⟨A.l1,A.l2,A.u4,Nat.lt_of_lt_of_le A.n1 e,Nat.lt_of_lt_of_le A.n2 e,A.ne,by rw[e1];exact A.r1,by rw[e2];exact A.r2⟩
theorem knTell{R:RnK}(ct:CTell R){h u:Hs}{m:List Th}{p:Nat}{g:Geo}{sw sg so:Value}{bn bs k:Nat}{NS:List (List Value)}{SS:List Bool}{l:List Fnd}{n K:Nat}{D:Option Nd}(B:LkAt h p g sw (lkS k bn) (lkS k bs) sg so l)(hl:l.length≤1000)(RW:RowsAt h bn bs k NS SS)(dj:bn≠p∧bs≠p∧vId so≠some bn∧vId so≠some bs)
 (H:Sto h [] u m) (hk:kindN g n D=K) (h0:K≠0):WP (kCall R 45 [.pointer (some ⟨p,0,none⟩),.int .i64 (.ofNat 2),.int .i64 (.ofNat K),.int .i64 (.ofNat n),.int .i64 (.ofNat 0)] u (λ_ u'=>clrK h (.tuple #[]) u')) (QNode h p g sw sg so bn bs k NS SS l n D):=by
 have old:∀b,b<h.nx→u.hp.get b=h.hp.get b:=λb hb=>H.fr b hb (λq=>by cases q)
 have B1:=B.ext H.nx old
 have hso:∀b,b∈idsOf so→b<h.nx∧b≠p:=λb hb=>B.bid b (idsOf_mem.1 hb)
 refine w_call (ct u p g sw (lkS k bn) (lkS k bs) sg so l (2,K,n,0) B1 (by omega)) λv u' hq=>?_
 obtain⟨rfl,mu,so',B2,ni⟩:=hq
 have H2:Sto h (p::bn::bs::idsOf so) u' []:=by
  refine((H.wide (p::bn::bs::idsOf so)).sel [] m.length rfl (λi hi=>by cases hi) List.nodup_nil).mutS mu (λs hs=>.inr ?_) λt ht=>by cases ht
  rcases List.mem_cons.1 hs with rfl|hs
  ·exact List.mem_cons_self
  ·exact List.mem_cons_of_mem _ (List.mem_cons_of_mem _ (List.mem_cons_of_mem _ hs))
 have ni2:∀b,vId so'=some b→h.nx≤b∨vId so=some b:=λb hb=>(ni b hb).imp (λq=>Nat.le_trans H.nx q) id
 have m1:bn∉p::idsOf so:=λq=>(List.mem_cons.1 q).elim (λe=>dj.1 e) λe=>dj.2.2.1 (idsOf_mem.1 e)
 have m2:bs∉p::idsOf so:=λq=>(List.mem_cons.1 q).elim (λe=>dj.2.1 e) λe=>dj.2.2.2 (idsOf_mem.1 e)
 have r1:u'.hp.get bn=h.hp.get bn:=(mu.2.1 bn (Nat.lt_of_lt_of_le RW.n1 H.nx) m1).trans (old bn RW.n1)
 have r2:u'.hp.get bs=h.hp.get bs:=(mu.2.1 bs (Nat.lt_of_lt_of_le RW.n2 H.nx) m2).trans (old bs RW.n2)
 have A2:=RW.ext H2.nx r1 r2
 refine lkClr B B2 H2 (λs hs=>?_) ni2 λh'' mu2 B3 eq=>⟨rfl,mu2,so',_,NS,SS,B3,?_,ni2,.inl ⟨by rw[hk];exact h0,by rw[hk],rfl,rfl⟩⟩
 ·rcases List.mem_cons.1 hs with rfl|hs
  ·exact B.pl
  rcases List.mem_cons.1 hs with rfl|hs
  ·exact RW.n1
  rcases List.mem_cons.1 hs with rfl|hs
  ·exact RW.n2
  ·exact(hso s hs).1
 ·rcases eq with⟨e1,e2⟩|⟨rfl,_⟩
  ·exact A2.ext (by rw[e2];exact Nat.le_refl _) (by rw[e1]) (by rw[e1])
  ·exact RW
theorem knEnd{h u:Hs}{p:Nat}{g:Geo}{sw sg so:Value}{bn bs k:Nat}{NS:List (List Value)}{SS:List Bool}{l:List Fnd}{n:Nat}{d:Nd}{a:Option Addr}{c:Nat}{fl fl2:Bool}{b:Bool}{m:List Th}(B:LkAt h p g sw (lkS k bn) (lkS k bs) sg so l)(RW:RowsAt h bn bs k NS SS)(dj:bn≠p∧bs≠p∧vId so≠some bn∧vId so≠some bs)
 (H:Sto h [bn,bs] u (.blk bn (.row 53 4 true fl (NS.set n (neC d a c)).flatten)::.blk bs (.row 4 1 true fl2 ((SS.set n b).map .bool))::m)) (hm:m[1]?=some (OR (.slice a d.rs.length c) d.rs)) (hk:kindN g n (some d)=0) (dm:d.Mod) (hs:SS[n]?=some false) (hn:n<k) (hb:b=decide (d.ty≠0)) :
 WP (clrK h (.tuple #[]) u) (QNode h p g sw sg so bn bs k NS SS l n (some d)):=by
 have hS:∀s ∈ [bn,bs],s<h.nx:=λs hs=>by
  rcases List.mem_cons.1 hs with rfl|hs
  ·exact RW.n1
  ·rw[List.mem_singleton.1 hs];exact RW.n2
 have hT:∀s∈p::bn::bs::idsOf so,s<h.nx:=λs hs=>by
  rcases List.mem_cons.1 hs with rfl|hs
  ·exact B.pl
  rcases List.mem_cons.1 hs with rfl|hs
  ·exact RW.n1
  rcases List.mem_cons.1 hs with rfl|hs
  ·exact RW.n2
  ·exact(B.bid s (idsOf_mem.1 hs)).1
 have hST:∀s ∈ [bn,bs],s∈p::bn::bs::idsOf so:=λs hs=>by
  rcases List.mem_cons.1 hs with rfl|hs
  ·exact List.mem_cons_of_mem _ List.mem_cons_self
  ·rw[List.mem_singleton.1 hs];exact List.mem_cons_of_mem _ (List.mem_cons_of_mem _ List.mem_cons_self)
 have x1:Holds (u.hp.get bn) (.row 53 4 true fl (NS.set n (neC d a c)).flatten):=H.ok _ (List.mem_of_getElem? (i:=0) rfl)
 have x2:Holds (u.hp.get bs) (.row 4 1 true fl2 ((SS.set n b).map .bool)):=H.ok _ (List.mem_of_getElem? (i:=1) rfl)
 have l4:∀l∈NS.set n (neC d a c),l.length=4:=λl hl=>by
  rcases List.mem_or_eq_of_mem_set hl with q|q
  ·exact RW.u4 l q
  ·rw[q];rfl
 have rr:Rd u (.slice a d.rs.length c) 2 (Rl d.rs):=H.rdOR 3 hm
 have ri:∀b,Th.id (.rsl (.slice a d.rs.length c) 2 (Rl d.rs))=some b→h.nx≤b:=λb hb=>by
  have hb2:vId (.slice a d.rs.length c)=some b:=by
   unfold Th.id at hb
   cases q:Rl d.rs with
   |nil=>rw[q] at hb;cases hb
   |cons x y=>rw[q] at hb;exact hb
  have:=(H.ids _ (List.mem_of_getElem? (i:=3) hm) b hb2).2 rfl
  rcases this with q|q
  ·exact q
  ·exfalso
   rcases List.mem_cons.1 q with rfl|q
   ·exact H.dj 0 3 _ _ rfl hm (by decide) rfl _ rfl hb2
   ·rw[List.mem_singleton.1 q] at hb2
    exact H.dj 1 3 _ _ rfl hm (by decide) rfl _ rfl hb2
 have eqo:∀b,b<h.nx→b≠bn→b≠bs→u.hp.get b=h.hp.get b:=λb hb n1 n2=>H.fr b hb (by simp[n1,n2])
 refine w_clrS H hS rfl (λh'' mu e1 e2=>⟨rfl,mu.wide hST hT,so,l,NS.set n (neC d a c),SS.set n b,?_,?_,λb hb=>.inr hb,.inr ⟨hk,d,a,c,rfl,dm,rfl,rfl,rfl,by rw[hb],?_,ri⟩⟩) λe=>?_
 ·obtain⟨f1,hr⟩:=B.row
  obtain⟨f2,hbf⟩:=B.buf
  have ne:h.nx≤h''.nx:=mu.1
  exact⟨Nat.lt_of_lt_of_le B.pl ne,⟨f1,by rw[e1,eqo p B.pl dj.1.symm dj.2.1.symm];exact hr⟩,⟨f2,OwnSl.congr hbf λb hb=>by rw[e1];exact eqo b (B.bid b hb).1 (λq=>dj.2.2.1 (by rw[hb,q])) (λq=>dj.2.2.2 (by rw[hb,q]))⟩,λb hb=>⟨Nat.lt_of_lt_of_le (B.bid b hb).1 ne,(B.bid b hb).2⟩⟩
 ·exact⟨by rw[List.length_set];exact RW.l1,by rw[List.length_set];exact RW.l2,l4,Nat.lt_of_lt_of_le RW.n1 mu.1,Nat.lt_of_lt_of_le RW.n2 mu.1,RW.ne,⟨fl,by rw[e1];exact x1⟩,⟨fl2,by rw[e1];exact x2⟩⟩
 ·exact⟨RdSl.congr rr.1 λb _=>by rw[e1],λb hb=>by rw[e2];exact rr.2 b hb⟩
 ·have er:d.ty=0:=by
   refine Decidable.byContradiction λhz=>?_
   obtain⟨f2,y2⟩:=RW.r2
   rw[e bs RW.n2] at x2
   obtain⟨c1,g1,p1,_,z1⟩:=x2
   obtain⟨c2,g2,p2,_,z2⟩:=y2
   rw[p1] at p2
   injection p2 with p2
   injection p2 with p2
   have a1:=z1 n
   have a2:=z2 n
   rw[p2,a2,List.getElem?_map,List.getElem?_map,hs,List.getElem?_set_self (by rw[RW.l2];exact hn),hb] at a1
   have:decide (d.ty≠0)=true:=decide_eq_true hz
   rw[this] at a1
   injection a1 with a1
   injection a1 with a1
   cases a1
  have e0:d.rs = []:=by
   unfold kindN at hk
   by_cases gd:d.good g
   ·unfold Nd.good at gd
    rw[if_pos er] at gd
    exact gd.2.2.2
   ·have q:kindN g n (some d)=2:=if_pos gd
    have hk2:kindN g n (some d)=0:=hk
    rw[q] at hk2;cases hk2
  refine⟨rfl,MutS.refl _ _,so,l,NS.set n (neC d a c),SS.set n b,B,⟨by rw[List.length_set];exact RW.l1,by rw[List.length_set];exact RW.l2,l4,RW.n1,RW.n2,RW.ne,⟨fl,by rw[←e bn RW.n1];exact x1⟩,⟨fl2,by rw[←e bs RW.n2];exact x2⟩⟩,λb hb=>.inr hb,.inr ⟨hk,d,a,c,rfl,dm,rfl,rfl,rfl,by rw[hb],?_,ri⟩⟩
  rw[e0]
  exact(⟨⟨λl hl=>(by cases hl),Or.inl ⟨a,c,rfl,rfl⟩⟩,λb hb=>(by cases hb)⟩:Rd h (.slice a 0 c) 2 [])
theorem knode_ok{R:RnK}{N:Nat}(cn:CNode R)(cb:CBlock R)(cg:CNodeGet R)(co:CNodeGood R)(cl:CLostArea R)(ct:CTell R){h:Hs}{p:Nat}{g:Geo}{sw sg so:Value}{bn bs:Nat}{NS:List (List Value)}{SS:List Bool}{l:List Fnd}{W:List Nat}{n:Nat}(x:g.Ok)(hW:W.length=8*g.b)(sm:Small W)(r:Rd h sw 1 (Wl W))(B:LkAt h p g sw (lkS (g.n+1) bn) (lkS (g.n+1) bs) sg so l)(hl:l.length≤1000)
 (RW:RowsAt h bn bs (g.n+1) NS SS) (dj:bn≠p∧bs≠p∧vId so≠some bn∧vId so≠some bs) (rx:∀b,Th.id (.rsl sw 1 (Wl W))=some b→b∉p::bn::bs::idsOf so) (hn:1≤n∧n≤g.n) (hs:SS[n]?=some false) :
 WP (r26 R N [.pointer (some ⟨p,0,none⟩),.int .i64 (.ofNat n)] h) (QNode h p g sw sg so bn bs (g.n+1) NS SS l n (ndAt g W n)):=by
 have cng:=cn g n
 have cbg:=cb g W sw (g.nodeAt n)
 have cog:=co g
 have clg:=λu a c d=>cl u p g d a c x
 unfold r26
 unfold imgV at cbg
 unfold Geo.v at cng cog
 have h1:=x.1.b2
 have h2:=x.1.num
 have h3:=x.2
 have h4:=nodeAt_in (i:=n) x
 obtain⟨fl,hr⟩:=B.row
 have H:=Sto.enterR h [.rob p (lkO fl g sw (lkS (g.n+1) bn) (lkS (g.n+1) bs) sg so),.rsl sw 1 (Wl W)] (λt ht=>by
  rcases List.mem_cons.1 ht with rfl|ht
  ·exact⟨rfl,hr,λb hb=>by injection hb with e;subst e;exact B.pl⟩
  ·rw[List.mem_singleton.1 ht];exact⟨rfl,r.1,λb hb=>r.2 b hb⟩)
 repeat' (first|(refine w_callE (cng _ x (by omega)) ?_)|(with_reducible first|refine w_unC ?_|refine w_enK ?_|refine w_fieldA ?_|refine w_nil ?_|refine w_light0 ?_)|((with_reducible apply w_loadsR 0 H) ;rfl;rfl;rfl;rfl;(try dsimp only[List.drop_zero,List.drop_succ_cons,List.take_succ_cons,List.take_zero])))
 refine w_call (cbg _ (by omega) (H.rd 1 rfl) (by omega)) λv1 u1 n1=>?_
 have e1:=n1.1.1.1
 have e0:h.nx≤u1.nx:=e1
 have bl:=blockAt_len (l:=W) (i:=g.nodeAt n) (by omega)
 replace n1:=n1.ones
 rw[←Wl_ones] at n1
 replace H:=H.call n1
 repeat' (first|((with_reducible refine w_bar ?_ ?_) ;omega))
 refine w_call (cg (blockAt W (g.nodeAt n)) v1 _ (sm.block _) (by omega) (H.rd 0 rfl)) λv2 u2 n2=>?_
 show WP _ (QNode h p g sw sg so bn bs (g.n+1) NS SS l n (getNode (blockAt W (g.nodeAt n))))
 unfold QGet at n2
 cases hd:getNode (blockAt W (g.nodeAt n)) with
 |none=>
  rw[hd] at n2
  obtain⟨rfl,rfl⟩:=n2
  unfold Nd.v
  repeat' (first|(with_reducible first|refine w_jn ?_|refine w_cndT ?_|refine w_notF ?_)|((with_reducible apply w_extr) ;rfl)|((with_reducible refine w_bar ?_ ?_) ;omega)|((with_reducible refine w_allocM H ?_) ;(clear H;intro u H hu))|((with_reducible apply w_storeV 0 H) ;rfl;rfl;rfl;omega;rfl;(clear H;intro u H hu;(try dsimp only[List.set_cons_zero,List.set_cons_succ,cellsL,List.toList_toArray,splice,ev,rep,List.cons_append,List.nil_append] at H))))
  exact knTell ct B hl RW dj H rfl (by decide)
 | some d =>
  rw[hd] at n2
  obtain⟨a,c,rfl,n2⟩:=n2
  have e2:=n2.1.1.1
  replace H:=H.call n2
  have dm:=fits_mod (getNode_fits hd).1
  unfold Nd.v at *
  repeat' (first|(with_reducible first|refine w_jn ?_|refine w_cndF ?_|refine w_notT ?_|refine w_fieldA ?_|refine w_nil ?_)|((with_reducible apply w_extr) ;rfl)|((with_reducible refine w_bar ?_ ?_) ;omega)|((with_reducible refine w_allocM H ?_) ;(clear H;intro u H hu))|((with_reducible apply w_storeV 0 H) ;rfl;rfl;rfl;omega;rfl;(clear H;intro u H hu;(try dsimp only[List.set_cons_zero,List.set_cons_succ,cellsL,List.toList_toArray,splice,ev,rep,List.cons_append,List.nil_append] at H)))|((with_reducible apply w_loadsF 0 H) ;rfl;rfl;rfl)|((with_reducible apply w_loadsR 3 H) ;rfl;rfl;rfl;rfl;(try dsimp only[List.drop_zero,List.drop_succ_cons,List.take_succ_cons,List.take_zero])))
  refine w_call (cog d a c _ x dm (H.rdOR 1 rfl)) λv3 u3 hv=>?_
  obtain⟨rfl,b,rfl,hb⟩:=hv
  cases b with
  |false=>
   have ng:¬d.good g:=λq=>by have:=hb.2 q;cases this
   repeat' (first|(with_reducible first|refine w_jn ?_|refine w_cndT ?_|refine w_notF ?_)|((with_reducible refine w_bar ?_ ?_) ;omega))
   exact knTell ct B hl RW dj H (if_pos ng) (by decide)
  | true =>
   have gd:d.good g:=hb.1 rfl
   have hp:=B.pl
   have ra:=λz=>H.rat 3 4 (L:=lkC g sw (lkS (g.n+1) bn) (lkS (g.n+1) bs) sg so) (b:=p) (e:=69) (u:=0) (rw_:=true) (fl:=fl) z
   repeat' (first|((refine w_callB (clg _ _ _ _ dm (ra rfl) (by omega) (H.rdOR 1 rfl)) (λ_=>?_) (λ_=>?_))<;>first|(exfalso;omega)|skip)|((with_reducible apply w_loadDR 3 H) ;rfl;rfl;(intro _;simp only[HidOk,and_true];omega))|(with_reducible first|refine w_jn ?_|refine w_cndT ?_|refine w_cndF ?_|refine w_gTt ?_|refine w_gTf ?_|refine w_gFt ?_|refine w_gFf ?_|refine w_gFu ?_|refine w_pickT ?_|refine w_pickF ?_|refine w_notT ?_|refine w_notF ?_|refine w_fieldA ?_|refine w_nil ?_|refine w_blind ?_)|((with_reducible refine w_bar ?_ ?_) ;omega)|((with_reducible first|refine w_eql_NN (λ_=>?_) (λ_=>?_)|refine w_neq_NN (λ_=>?_) (λ_=>?_))<;>first|(exfalso;omega)|skip)|((with_reducible apply w_load 0 H) ;rfl;rfl;rfl)|((with_reducible apply w_loadsF 0 H) ;rfl;rfl;rfl))
   all_goals clear ra
   all_goals try (refine knTell ct B hl RW dj H ?_ (by decide);unfold kindN;simp_all;done)
   all_goals have k0:kindN g n (some d)=0:=by unfold kindN;simp_all
   all_goals refine w_lwF 0 H rfl λu4 H4 e4=>?_
   all_goals (have H0:=H;clear H;have H:=H4;clear H4;dsimp only[List.set_cons_zero] at H)
   all_goals repeat' (first|((with_reducible apply w_loadLF 0 H) ;rfl;rfl)|((with_reducible refine w_idx ?_ ?_) ;omega)|(with_reducible first|refine w_fieldA ?_|refine w_nil ?_)|((with_reducible refine w_neq_NN (λ_=>?_) (λ_=>?_))<;>first|(exfalso;omega)|skip)|((with_reducible apply w_loadsF 0 H) ;rfl;rfl;rfl)|((with_reducible apply w_loadR 3 H) ;rfl;rfl;rfl))
   all_goals (
    obtain⟨f1,q1⟩:=RW.r1
    obtain⟨f2,q2⟩:=RW.r2
    have old:∀b,b<h.nx→u4.hp.get b=h.hp.get b:=λb hb=>H.fr b hb (λq=>by cases q)
    have G:=H.sel [0,1] 5 rfl (by decide) (by decide)
    dsimp only[List.filterMap_cons,List.filterMap_nil,List.getElem?_cons_zero,List.getElem?_cons_succ] at G
    have gx:∀s ∈ [Th.blk u2.nx (.row 53 0 false (andB (flatL [.int .i64 (.ofNat 0),.int .i64 (.ofNat 0),.int .i64 (.ofNat 0),.slice none 0 0]) (flatL (neC d a c))) (neC d a c)),OR (.slice a d.rs.length c) d.rs],s.ex=true:=λs hs=>by
     rcases List.mem_cons.1 hs with rfl|hs
     ·rfl
     ·rw[List.mem_singleton.1 hs];rfl
    have i1:=G.newIds gx RW.n1
    have i2:=G.newIds gx RW.n2
    have G2:=(G.wide [bn,bs]).own (b:=bs) RW.n2 (by simp) (by rw[old bs RW.n2];exact q2) i2
    have G3:=G2.own (b:=bn) RW.n1 (by simp) (by rw[old bn RW.n1];exact q1) (λs hs=>by
     rcases List.mem_cons.1 hs with rfl|hs
     ·intro e;injection e with e;exact RW.ne e.symm
     ·exact i1 s hs)
    clear H G G2
    have H:=G3
    clear G3
    have fl4:=flatten_len RW.u4
    have rl1:=RW.l1
    have rl2:=RW.l2
    refine w_storeN 0 H rfl rfl (by decide) (by rw[fl4];omega) rfl λu5 H5 e5=>?_
    clear H
    have H:=H5
    clear H5
    dsimp only[List.set_cons_zero] at H
    have sf:setL NS.flatten (n*4) (cellsL (.agg #[.int .i64 (.ofNat d.ty),.int .i64 (.ofNat d.ln),.int .i64 (.ofNat d.sz),.slice a d.rs.length c]))=(NS.set n (neC d a c)).flatten:=setL_flat RW.u4 (l:=neC d a c) rfl (by omega)
    rw[Nat.zero_add,sf] at H
    repeat' (first|((with_reducible first|refine w_idx ?_ ?_|refine w_bar ?_ ?_) ;omega))
    refine w_store1 1 H rfl (by rw[List.length_map];omega) rfl λu6 H6 e6=>?_
    clear H
    have H:=H6
    clear H6
    dsimp only[List.set_cons_zero,List.set_cons_succ] at H
    rw[Nat.zero_add,Nat.mul_one,←List.map_set] at H
    repeat' (first|((with_reducible refine w_bar ?_ ?_) ;omega))
    refine w_lwFES 0 2 H0 rfl H rfl λu7 H7 e7=>?_
    clear H
    have H:=H7
    clear H7
    dsimp only[List.set_cons_zero,List.set_cons_succ] at H)
   all_goals exact knEnd B RW dj H rfl k0 dm hs (by omega) (by simp_all)
set_option linter.unusedSimpArgs false
structure NdsAt (h:Hs) (T:List Nat) (sn ss:Value) (k:Nat) (D:Nat→Option Nd) (NS:List (List Value)):Prop where
 l1:NS.length=k
 rn:Rd h sn 4 NS
 xn:∀b,Th.id (.rsl sn 4 NS)=some b→b∉T
 rs:Rd h ss 1 (ones ((List.range k).map λn=>.bool (D n).isSome))
 xs:∀b,Th.id (.rsl ss 1 (ones ((List.range k).map λn=>.bool (D n).isSome)))=some b→b∉T
 nd:∀n d,n<k→D n=some d→d.Mod∧∃a c,NS[n]?=some (neC d a c)∧Rd h (.slice a d.rs.length c) 2 (Rl d.rs)∧∀b,Th.id (.rsl (.slice a d.rs.length c) 2 (Rl d.rs))=some b→b∉T
theorem NdsAt.mut{h u:Hs}{T T':List Nat}{sn ss:Value}{k:Nat}{D:Nat→Option Nd}{NS:List (List Value)}(A:NdsAt h T sn ss k D NS)(M:MutS T h u)(hT:∀b,b<h.nx→b∉T→b∉T'):NdsAt u T' sn ss k D NS:=by
 refine⟨A.l1,M.rd A.rn A.xn,λb hb=>hT b (A.rn.2 b hb) (A.xn b hb),M.rd A.rs A.xs,λb hb=>hT b (A.rs.2 b hb) (A.xs b hb),λn d hn hd=>?_⟩
 obtain⟨dm,a,c,h1,h2,h3⟩:=A.nd n d hn hd
 exact⟨dm,a,c,h1,M.rd h2 h3,λb hb=>hT b (h2.2 b hb) (h3 b hb)⟩
theorem bools_get{k n:Nat}{f:Nat→Bool}(hn:n<k):(ones ((List.range k).map λn=>Value.bool (f n)))[n]?=some [.bool (f n)]:=by
 unfold ones
 rw[List.getElem?_map,List.getElem?_map,List.getElem?_range hn];rfl
def runB(r:Nat × Nat):List Nat:=(List.range r.2).map λi=>r.1+i
def blkN(D:Option Nd):List Nat:=match D with
 |some d=>d.rs.flatMap runB
 |none=>[]
def Nv(l:List Nat):List Value:=l.map λn=>.int .i64 (.ofNat n)
theorem Nv_app(a b:List Nat):Nv (a++b)=Nv a++Nv b:=List.map_append
abbrev ON(v:Value)(l:List Nat):Th:=.osl v 3 1 true l.length (Nv l)
theorem ON_snoc(v:Value)(L:List Nat)(x:Nat):ON v (L ++ [x])=.osl v 3 1 true (L.length+1) (Nv L ++ [.int .i64 (.ofNat x)]):=by
 show Th.osl v _ 1 true (L ++ [x]).length (Nv (L ++ [x]))=_
 rw[List.length_append,Nv_app];rfl
def CKBlocks(R:RnK):Prop:=∀(h:Hs)(T:List Nat)(p:Nat)(g:Geo)(sw sn ss sg so:Value)(l:List Fnd)(k:Nat)(D:Nat→Option Nd)(NS:List (List Value))(n:Nat),LkAt h p g sw sn ss sg so l→NdsAt h T sn ss k D NS→n<k→(∀d,D n=some d→d.rs.length≤4∧∀r∈d.rs,r.1≤4096∧r.2≤4096) →
 WP (R 50 [.pointer (some ⟨p,0,none⟩),.int .i64 (.ofNat n)] h) λv u=>New h u (ON v (blkN (D n)))
theorem blkN_take{d:Nd}{i:Nat}(hi:i<d.rs.length):(d.rs.take (i+1)).flatMap runB=(d.rs.take i).flatMap runB++runB d.rs[i]:=by
 rw[List.take_add_one,List.getElem?_eq_getElem hi,List.flatMap_append];simp
theorem runB_succ(a i:Nat):runB (a,i+1)=runB (a,i) ++ [a+i]:=by unfold runB;rw[List.range_succ,List.map_append];rfl
theorem runB_len(r:Nat × Nat):(runB r).length=r.2:=by unfold runB;rw[List.length_map,List.length_range]
theorem flat_len{l:List (Nat × Nat)}(h:∀r∈l,r.1≤4096∧r.2≤4096):(l.flatMap runB).length≤l.length*4096:=by
 induction l with
 |nil=>exact Nat.zero_le _
 |cons x l ih=>
  rw[List.flatMap_cons,List.length_append,runB_len,List.length_cons]
  have:=(h x List.mem_cons_self).2
  have:=ih λr hr=>h r (List.mem_cons_of_mem _ hr)
  omega
theorem kblocks_ok{R:RnK}{N:Nat}(hN:100000<N){h:Hs}{T:List Nat}{p:Nat}{g:Geo}{sw sn ss sg so:Value}{l:List Fnd}{k:Nat}{D:Nat→Option Nd}{NS:List (List Value)}{n:Nat}(B:LkAt h p g sw sn ss sg so l)(A:NdsAt h T sn ss k D NS)(hn:n<k)(hd4:∀d,D n=some d→d.rs.length≤4∧∀r∈d.rs,r.1≤4096∧r.2≤4096) :
 WP (r50 R N [.pointer (some ⟨p,0,none⟩),.int .i64 (.ofNat n)] h) λv u=>New h u (ON v (blkN (D n))):=by
 unfold r50
 obtain⟨fl,hr⟩:=B.row
 have gb:=bools_get (f:=λn=>(D n).isSome) hn
 have H0:=Sto.enterR h [.rob p (lkO fl g sw sn ss sg so),.rsl ss 1 (ones ((List.range k).map λn=>.bool (D n).isSome))] (λt ht=>by
  rcases List.mem_cons.1 ht with rfl|ht
  ·exact⟨rfl,hr,λb hb=>by injection hb with e;subst e;exact B.pl⟩
  ·rw[List.mem_singleton.1 ht];exact⟨rfl,A.rs.1,λb hb=>A.rs.2 b hb⟩)
 have H:=H0.nilS 3 1
 replace H:=H.pick [1,2,0] (by decide) (m':=[.rob p (lkO fl g sw sn ss sg so),.rsl ss 1 (ones ((List.range k).map λn=>.bool (D n).isSome)),ON (.slice none 0 0) []]) rfl
 repeat' (first|(with_reducible first|refine w_unC ?_|refine w_enK ?_|refine w_fieldA ?_|refine w_nil ?_)|((with_reducible apply w_loadR 0 H) ;rfl;rfl;rfl))
 refine w_at1 1 H rfl gb rfl rfl ?_
 cases hd:D n with
 |none=>
  rw[show blkN none = [] from rfl]
  repeat' (first|(with_reducible refine w_jn ?_))
  exact w_clrO 2 H rfl λv' h' q=>q
 | some d =>
  obtain⟨dm,a,c,g1,g2,_⟩:=A.nd n d hn hd
  have g3:=hd4 d hd
  replace H:=H.addR A.rn (λb _ q=>by cases q)
  replace H:=H.addR g2 (λb _ q=>by cases q)
  refine w_cndT ?_
  repeat' (first|(with_reducible first|refine w_fieldA ?_|refine w_nil ?_)|((with_reducible apply w_loadR 2 H) ;rfl;rfl;rfl))
  refine w_idxR 1 H rfl g1 λbq oq H1=>?_
  refine w_fieldA ?_
  refine w_loadE (j:=3) 0 H1 rfl rfl rfl ?_
  clear H1
  repeat' (first|(with_reducible first|refine w_jn ?_|refine w_lenV ?_))
  replace H:=H.sel [4,0] 5 rfl (by decide) (by decide);dsimp only[List.filterMap_cons,List.filterMap_nil,List.getElem?_cons_zero,List.getElem?_cons_succ] at H
  have rl:=Rl_len d.rs
  have fl4:=flat_len g3.2
  refine lp_ind (Good:=λn' (self:L8)=>∀(i:Nat)(y1 y2 y3 y4 y5 acc y6:Value)(w:Hs),i+n'=d.rs.length→Sto h [] w [ON acc ((d.rs.take i).flatMap runB),.rsl (.slice a d.rs.length c) 2 (Rl d.rs)]→WP (self (.int .i64 (.ofNat i)) y1 y2 y3 y4 y5 acc y6 w) (λv u=>New h u (ON v (blkN (some d))))) (λn' self ih i y1 y2 y3 y4 y5 acc y6 w hi H1=>?_) N d.rs.length (by omega) 0 _ _ _ _ _ _ _ _ (by omega) H
  clear H
  have H:=H1
  clear H1
  repeat' (first|(with_reducible first|refine w_jn ?_|refine w_cndT ?_|refine w_cndF ?_)|((with_reducible refine w_lss_NN (λ_=>?_) (λ_=>?_))<;>first|(exfalso;omega)|skip))
  ·have ii:i<d.rs.length:=by omega
   refine w_at 1 H rfl (Rl_get ii) rfl rfl ?_
   have bd:=g3.2 _ (List.getElem_mem ii)
   have tk:=blkN_take ii
   have fli:((d.rs.take i).flatMap runB).length≤4*4096:=
    Nat.le_trans (flat_len (l:=d.rs.take i) (λr hr=>g3.2 r (List.mem_of_mem_take hr))) (Nat.mul_le_mul_right _ (Nat.le_trans (by rw[List.length_take];exact Nat.min_le_right _ _) g3.1))
   repeat' (first|(with_reducible first|refine w_jn ?_|refine w_fieldA ?_)|((with_reducible refine w_alloc H ?_) ;(clear H;intro u H hu))|((with_reducible apply w_load 0 H) ;rfl;rfl;rfl)|((with_reducible apply w_storeV 0 H) ;rfl;rfl;rfl;omega;rfl;(clear H;intro u H hu;(try dsimp only[List.set_cons_zero,List.set_cons_succ,cellsL,List.toList_toArray,splice,ev,rep,List.cons_append,List.nil_append] at H))))
   generalize d.rs[i]=r at *
   obtain⟨from_,many⟩:=r
   dsimp only at *
   replace H:=H.sel [1,2,0] 3 rfl (by decide) (by decide);dsimp only[List.filterMap_cons,List.filterMap_nil,List.getElem?_cons_zero,List.getElem?_cons_succ] at H
   refine lp_ind (Good:=λn2 (self2:L4)=>∀(j:Nat)(y1 acc y6:Value)(w:Hs),j+n2=many→Sto h [] w [ON acc ((d.rs.take i).flatMap runB++runB (from_,j)),.rsl (.slice a d.rs.length c) 2 (Rl d.rs),.blk _ (.row 55 0 true _ [.int .i64 (.ofNat from_),.int .i64 (.ofNat many)])]→WP (self2 (.int .i64 (.ofNat j)) y1 acc y6 w) (λv u=>New h u (ON v (blkN (some d))))) (λn2 self2 ih2 j y1 acc y6 w hj H1=>?_) N many (by omega) 0 _ _ _ _ (by omega) (by rw[show runB (from_,0) = [] from rfl,List.append_nil];exact H)
   clear H
   have H:=H1
   clear H1
   repeat' (first|(with_reducible first|refine w_jn ?_|refine w_cndT ?_|refine w_cndF ?_|refine w_fieldA ?_)|((with_reducible apply w_mkrow H) ;rfl;(clear H;intro u H hu;(try dsimp only[List.set_cons_zero,List.set_cons_succ,cellsL,List.toList_toArray,splice,ev,rep,List.cons_append,List.nil_append] at H)))|((with_reducible refine w_lss_NN (λ_=>?_) (λ_=>?_))<;>first|(exfalso;omega)|skip)|((with_reducible refine w_add_NN ?_ ?_) ;omega)|((with_reducible apply w_load 2 H) ;rfl;rfl;rfl))
   ·have rs:=runB_succ from_ j
    have rbl:=runB_len (from_,j)
    dsimp only at rbl
    refine w_appendB 1 0 H rfl rfl rfl rfl (by omega) (by rw[List.length_append];omega) λv3 u4 H4 hn4=>?_
    clear H
    have H:=H4.tail
    clear H4
    dsimp only[List.set_cons_zero,List.set_cons_succ] at H
    repeat' (first|((with_reducible refine w_add_NN ?_ ?_) ;omega))
    exact ih2 (n2-1) (by omega) (j+1) _ _ _ _ (by omega) (by rw[rs,←List.append_assoc,ON_snoc];exact H)
   ·rw[show j=many from by omega] at H
    exact ih (n'-1) (by omega) (i+1) _ _ _ _ _ _ _ _ (by omega) (by rw[tk];exact H.pick [0,1] (by decide) rfl)
  ·rw[show i=d.rs.length from by omega,List.take_length] at H
   exact w_clrO 0 H rfl λv' h' q=>q
set_option linter.unusedSimpArgs false
theorem _root_.Go.Gev.Sto.nds{h0 h:Hs}{S:List Nat}{m:List Th}{sn ss:Value}{k:Nat}{D:Nat→Option Nd}{NS:List (List Value)}(H:Sto h0 S h m)(A:NdsAt h0 S sn ss k D NS):NdsAt h S sn ss k D NS:=by
 refine⟨A.l1,H.rd0 A.rn A.xn,A.xn,H.rd0 A.rs A.xs,A.xs,λn d hn hd=>?_⟩
 obtain⟨dm,a,c,h1,h2,h3⟩:=A.nd n d hn hd
 exact⟨dm,a,c,h1,H.rd0 h2 h3,h3⟩
abbrev kI(n:Nat):Value:=.int .i64 (.ofNat n)
def MapV{α:Type}[DecidableEq α](K:α→Value)(z:Value)(g:α→Value)(n:Nat)(es:List MapEntry)(cl:Nat):Prop:=∃f,MapK K f n es cl∧∀a,(f a).getD z=g a
theorem MapV.nil{α:Type}[DecidableEq α](K:α→Value)(z:Value):MapV K z (λ_=>z) 0 [] 0:=⟨_,MapK.nil K,λ_=>rfl⟩
theorem w_lkV{α:Type}[DecidableEq α]{Q:Value→Hs→Prop}{h0 h:Hs}{S:List Nat}{m:List Th}{K:α→Value}{b:Bool}(hK:KeyK K b)(k:Nat){g:α→Value}{n id cl:Nat}{es:List MapEntry}{a:α}{z:Value}{F:KV}(H:Sto h0 S h m)(hk:m[k]?=some (.blk id (.mp es cl)))(M:MapV K z g n es cl)(w:WP (F (g a) h) Q) :
 WP (after F (ret1 h (lk1 b h z false (K a) (.map (some id))))) Q:=by
 obtain⟨f,M,e⟩:=M
 exact w_lkK hK k H hk M (by rw[e];exact w)
theorem w_upV{α:Type}[DecidableEq α]{Q:Value→Hs→Prop}{h0 h:Hs}{S:List Nat}{m:List Th}{K:α→Value}{b:Bool}(hK:KeyK K b)(k:Nat){z:Value}{g:α→Value}{n id cl:Nat}{es:List MapEntry}{a:α}{v:Value}{F:KV}(H:Sto h0 S h m)(hk:m[k]?=some (.blk id (.mp es cl)))(M:MapV K z g n es cl)(hn:n<1000000000000)
 (kk:∀h' es' cl',Sto h0 S h' (m.set k (.blk id (.mp es' cl')))→h'.nx=h.nx→MapV K z (λx=>if x=a then v else g x) (n+1) es' cl'→WP (F undef' h') Q):WP (after F (mapup1 b h (K a) v (.map (some id)))) Q:=by
 obtain⟨f,M,e⟩:=M
 refine w_mapupK hK k H hk M hn λh' es' cl' H' hx M'=>kk h' es' cl' H' hx ⟨_,M',λx=>?_⟩
 show _=if x=a then v else g x
 by_cases q:x=a
 ·rw[if_pos q,if_pos q];rfl
 ·rw[if_neg q,if_neg q];exact e x
def shStep(n:Nat)(s:(Nat→Nat) × Nat)(b:Nat):(Nat→Nat) × Nat:=if s.1 b=0 then (λx=>if x=b then n else s.1 x,s.2) else if s.2=0∨s.1 b<s.2 then (s.1,s.1 b) else s
def shAll(D:Nat→Option Nd):Nat→(Nat→Nat) × List Fnd
 |0=>(λ_=>0,[])
 |n+1=>(((blkN (D n)).foldl (shStep n) ((shAll D n).1,0)).1,(shAll D n).2++if ((blkN (D n)).foldl (shStep n) ((shAll D n).1,0)).2≠0 then [(3,1,n,((blkN (D n)).foldl (shStep n) ((shAll D n).1,0)).2)] else [])
theorem shAll_len(D:Nat→Option Nd):∀n,(shAll D n).2.length≤n:=by
 intro n
 induction n with
 |zero=>exact Nat.le_refl _
 |succ n ih=>
  show ((shAll D n).2++_).length≤n+1
  rw[List.length_append]
  have:∀(p:Prop)[Decidable p](x:Fnd),(if p then [x] else []).length≤1:=λp _ x=>by split<;>simp
  have:=this (((blkN (D n)).foldl (shStep n) ((shAll D n).1,0)).2≠0) (3,1,n,((blkN (D n)).foldl (shStep n) ((shAll D n).1,0)).2)
  omega
structure DOk (g:Geo) (k:Nat) (D:Nat→Option Nd):Prop where
 x:g.Ok
 k1:k≤65
 ok:∀n d,n<k→D n=some d→d.good g∧d.ty≠0
theorem good4{g:Geo}(x:g.Ok){d:Nd}(gd:d.good g):d.rs.length≤4∧∀r∈d.rs,r.1≤4096∧r.2≤4096:=by
 have gr:=good_runs x gd
 have b2:=x.1.b2
 refine⟨?_,λr hr=>by have:=gr r hr;omega⟩
 unfold Nd.good at gd
 split at gd
 ·rw[gd.2.2.2];exact Nat.zero_le _
 ·exact gd.2.2.2.2.2.1
theorem DOk.runs{g:Geo}{k:Nat}{D:Nat→Option Nd}(x:DOk g k D){n:Nat}{d:Nd}(hn:n<k)(hd:D n=some d):d.rs.length≤4∧∀r∈d.rs,r.1≤4096∧r.2≤4096:=good4 x.x (x.ok n d hn hd).1
theorem sumR_flat(l:List (Nat × Nat)):(l.flatMap runB).length=sumR l:=by
 induction l with
 |nil=>rfl
 |cons x l ih=>rw[List.flatMap_cons,List.length_append,runB_len,ih];unfold sumR;rw[List.map_cons,List.sum_cons]
theorem DOk.blk{g:Geo}{k:Nat}{D:Nat→Option Nd}(x:DOk g k D){n:Nat}(hn:n<k):(blkN (D n)).length≤1024:=by
 cases hd:D n with
 |none=>exact Nat.zero_le _
 | some d =>
  show (d.rs.flatMap runB).length≤_
  rw[sumR_flat]
  have b2:=x.x.1.b2
  obtain⟨gd,t0⟩:=x.ok n d hn hd
  unfold Nd.good at gd
  rw[if_neg t0] at gd
  obtain⟨g1,g2,_,_,gs,_,_,gn⟩:=gd
  rw[gn]
  unfold Nd.sizedP at gs
  have nd:d.needs=if d.ty=2 then d.sz else if d.ty=1∨d.ty=3 then d.sz/64+min (d.sz%64) 1 else 0:=rfl
  split at gs
  ·rw[nd,if_neg (by omega),if_pos (by omega)];omega
  ·split at gs
   ·rw[nd,if_pos (by omega)];omega
   ·rw[nd,if_neg (by omega),if_pos (by omega)];omega
theorem DOk.lt{g:Geo}{k:Nat}{D:Nat→Option Nd}(x:DOk g k D){n b:Nat}(hn:n<k)(hb:b∈blkN (D n)):b<g.b:=by
 cases hd:D n with
 |none=>rw[hd] at hb;cases hb
 |some d=>
  rw[hd] at hb
  obtain⟨r,hr,hb⟩:=List.mem_flatMap.1 (show b∈d.rs.flatMap runB from hb)
  have:=good_runs x.x (x.ok n d hn hd).1 r hr
  unfold runB at hb
  obtain⟨i,hi,rfl⟩:=List.mem_map.1 hb
  have:=List.mem_range.1 hi
  omega
theorem Nv_get0{l:List Nat}{i:Nat}(h:i<l.length):(Nv l)[i]?=some (.int .i64 (.ofNat l[i])):=by unfold Nv;rw[List.getElem?_map,List.getElem?_eq_getElem h];rfl
theorem foldl_take{α β:Type}(f:β→α→β)(x:β)(l:List α){i:Nat}(h:i<l.length):(l.take (i+1)).foldl f x=f ((l.take i).foldl f x) l[i]:=by
 rw[List.take_add_one,List.getElem?_eq_getElem h,List.foldl_append];rfl
theorem shared_ok{R:RnK}{N:Nat}(hN:100000<N)(cb:CKBlocks R)(ct:CTell R){h:Hs}{p:Nat}{g:Geo}{sw sn ss sg so:Value}{l:List Fnd}{k:Nat}{D:Nat→Option Nd}{NS:List (List Value)}(B:LkAt h p g sw sn ss sg so l)(hl:l.length≤90000)(A:NdsAt h (p::idsOf so) sn ss k D NS)(dk:DOk g k D) :
 WP (r27 R N [.pointer (some ⟨p,0,none⟩)] h) (QTell h p g sw sn ss sg so (l++(shAll D k).2)):=by
 unfold r27
 have k100:=dk.k1
 obtain⟨fl,fl2,H⟩:=B.enter
 refine w_unC ?_
 refine w_enK ?_
 refine w_mkmap H λu1 H1 hu1=>?_
 clear H
 have H:=H1.addR A.rs A.xs
 clear H1
 replace H:=H.pick [2,3,1,0] (by decide) (m':=[.blk p (lkO fl g sw sn ss sg so),.osl so 37 4 fl2 l.length (Fc l),.blk h.nx (.mp [] 0),.rsl ss 1 (ones ((List.range k).map λn=>.bool (D n).isSome))]) rfl
 repeat' (first|(with_reducible first|refine w_jn ?_|refine w_fieldA ?_|refine w_nil ?_)|((with_reducible apply w_load 0 H) ;rfl;rfl;rfl)|((with_reducible apply w_lenR 3 H) ;rfl))
 rw[ones_len,List.length_map,List.length_range]
 clear hu1
 refine lp_ind (Good:=λr (self:L13)=>∀(n:Nat)(y1 y2 y3 y4 y5 y6 y7 y8 y9 y10 y11 y12:Value)(w:Hs)(fl fl2:Bool)(s:Value)(es:List MapEntry)(cl c:Nat),n+r=k→c≤n*20000→MapV kI (kI 0) (λx=>kI ((shAll D n).1 x)) c es cl→Sto h (p::idsOf so) w [.blk p (lkO fl g sw sn ss sg s),.osl s 37 4 fl2 (l++(shAll D n).2).length (Fc (l++(shAll D n).2)),.blk h.nx (.mp es cl)]→WP (self (kI n) y1 y2 y3 y4 y5 y6 y7 y8 y9 y10 y11 y12 w) (QTell h p g sw sn ss sg so (l++(shAll D k).2))) (λr self ih n y1 y2 y3 y4 y5 y6 y7 y8 y9 y10 y11 y12 w fl fl2 s es cl c hi hc M H1=>?_) N k (by omega) 0 _ _ _ _ _ _ _ _ _ _ _ _ _ fl fl2 so [] 0 0 (by omega) (by omega) (MapV.nil kI (kI 0)) (by show Sto _ _ _ [_,.osl so _ _ _ (l ++ []).length (Fc (l ++ [])),_];rw[List.append_nil];exact H.pick [0,1,2] (by decide) rfl)
 clear H
 have H:=H1
 clear H1
 have shl:=shAll_len D n
 repeat' (first|(with_reducible first|refine w_jn ?_|refine w_cndT ?_|refine w_cndF ?_)|((with_reducible refine w_lss_NN (λ_=>?_) (λ_=>?_))<;>first|(exfalso;omega)|skip))
 ·have nk:n<k:=by omega
  have bb:=dk.blk nk
  refine w_call (cb w (p::idsOf so) p g sw sn ss sg s _ k D NS n (LkAt.of H) (H.nds A) nk (λd hd=>dk.runs nk hd)) λv1 u1 n1=>?_
  replace H:=H.call n1
  replace H:=H.pick [1,2,3,0] (by decide) (m':=[.blk p (lkO fl g sw sn ss sg s),.osl s 37 4 fl2 (l++(shAll D n).2).length (Fc (l++(shAll D n).2)),.blk h.nx (.mp es cl),ON v1 (blkN (D n))]) rfl
  repeat' (first|(with_reducible refine w_jn ?_)|((with_reducible apply w_lenO 3 H) ;rfl))
  have sa:∀r,r=(blkN (D n)).foldl (shStep n) ((shAll D n).1,0)→shAll D (n+1)=(r.1,(shAll D n).2++if r.2≠0 then [(3,1,n,r.2)] else []):=λr e=>by rw[e];rfl
  generalize hL:blkN (D n)=L at *
  refine lp_ind (Good:=λr2 (self2:L7)=>∀(j:Nat)(y1 y2 y3 y4 y6:Value)(w:Hs)(es:List MapEntry)(cl c2:Nat),j+r2=L.length→c2≤c+j→MapV kI (kI 0) (λx=>kI (((L.take j).foldl (shStep n) ((shAll D n).1,0)).1 x)) c2 es cl→Sto h (p::idsOf so) w [.blk p (lkO fl g sw sn ss sg s),.osl s 37 4 fl2 (l++(shAll D n).2).length (Fc (l++(shAll D n).2)),.blk h.nx (.mp es cl),ON v1 L]→WP (self2 (kI j) y1 y2 y3 y4 (kI ((L.take j).foldl (shStep n) ((shAll D n).1,0)).2) y6 w) (QTell h p g sw sn ss sg so (l++(shAll D k).2))) (λr2 self2 ih2 j y1 y2 y3 y4 y6 w es cl c2 hj hc2 M2 H1=>?_) N L.length (by omega) 0 _ _ _ _ _ _ es cl c (by omega) (by omega) M H
  clear H
  have H:=H1
  clear H1 M
  repeat' (first|(with_reducible first|refine w_jn ?_|refine w_cndT ?_|refine w_cndF ?_)|((with_reducible first|refine w_lss_NN (λ_=>?_) (λ_=>?_)|refine w_neq_NN (λ_=>?_) (λ_=>?_))<;>first|(exfalso;omega)|skip)|((with_reducible refine w_add_NN ?_ ?_) ;omega))
  ·have jj:j<L.length:=by omega
   refine w_atO 3 H rfl (Nv_get0 jj) rfl ?_
   have ft:=foldl_take (shStep n) ((shAll D n).1,0) L jj
   generalize hst:(L.take j).foldl (shStep n) ((shAll D n).1,0)=st at *
   refine w_lkV keyN 2 H rfl M2 ?_
   obtain⟨sw_,sl⟩:=st
   dsimp only at *
   repeat' (first|(with_reducible first|refine w_jn ?_|refine w_cndT ?_|refine w_cndF ?_|refine w_gFt ?_|refine w_gFf ?_|refine w_pickT ?_|refine w_pickF ?_)|((with_reducible first|refine w_lss_NN (λ_=>?_) (λ_=>?_)|refine w_eql_NN (λ_=>?_) (λ_=>?_))<;>first|(exfalso;omega)|skip)|((with_reducible refine w_add_NN ?_ ?_) ;omega))
   ·refine w_upV keyN 2 H rfl M2 (by omega) λu es' cl' H1 hu M3=>?_
    clear H
    have H:=H1
    clear H1
    dsimp only[List.set_cons_zero,List.set_cons_succ] at H
    repeat' (first|((with_reducible refine w_add_NN ?_ ?_) ;omega))
    rw[show shStep n (sw_,sl) L[j]=(λx=>if x=L[j] then n else sw_ x,sl) from if_pos ‹_›] at ft
    have e2:kI sl=kI ((L.take (j+1)).foldl (shStep n) ((shAll D n).1,0)).2:=by rw[ft]
    rw[e2]
    exact ih2 (r2-1) (by omega) (j+1) _ _ _ _ _ _ es' cl' (c2+1) (by omega) (by omega) (by rw[ft];obtain⟨f,m1,m2⟩:=M3;exact⟨f,m1,λa=>by rw[m2];show (if a=L[j] then kI n else kI (sw_ a))=kI (if a=L[j] then n else sw_ a);split<;>rfl⟩) H
   ·rw[show shStep n (sw_,sl) L[j]=(sw_,sw_ L[j]) from (if_neg ‹¬sw_ L[j]=0›).trans (if_pos (.inl ‹sl=0›))] at ft
    have e2:kI (sw_ L[j])=kI ((L.take (j+1)).foldl (shStep n) ((shAll D n).1,0)).2:=by rw[ft]
    rw[e2]
    exact ih2 (r2-1) (by omega) (j+1) _ _ _ _ _ _ es cl c2 (by omega) (by omega) (by rw[ft];exact M2) H
   ·rw[show shStep n (sw_,sl) L[j]=(sw_,sw_ L[j]) from (if_neg ‹¬sw_ L[j]=0›).trans (if_pos (.inr ‹sw_ L[j]<sl›))] at ft
    have e2:kI (sw_ L[j])=kI ((L.take (j+1)).foldl (shStep n) ((shAll D n).1,0)).2:=by rw[ft]
    rw[e2]
    exact ih2 (r2-1) (by omega) (j+1) _ _ _ _ _ _ es cl c2 (by omega) (by omega) (by rw[ft];exact M2) H
   ·rw[show shStep n (sw_,sl) L[j]=(sw_,sl) from (if_neg ‹¬sw_ L[j]=0›).trans (if_neg λq=>q.elim ‹¬sl=0› ‹¬sw_ L[j]<sl›)] at ft
    have e2:kI sl=kI ((L.take (j+1)).foldl (shStep n) ((shAll D n).1,0)).2:=by rw[ft]
    rw[e2]
    exact ih2 (r2-1) (by omega) (j+1) _ _ _ _ _ _ es cl c2 (by omega) (by omega) (by rw[ft];exact M2) H
  ·have sb:=sa _ rfl
   rw[show L.take j=L from by rw[show j=L.length from by omega,List.take_length]] at *
   rw[if_neg (by simpa using ‹_=0›),List.append_nil] at sb
   exact ih (r-1) (by omega) (n+1) _ _ _ _ _ _ _ _ _ _ _ _ _ fl fl2 s es cl c2 (by omega) (by omega) (by rw[sb];exact M2) (by rw[sb];exact H.pick [0,1,2] (by decide) rfl)
  ·have sb:=sa _ rfl
   rw[show L.take j=L from by rw[show j=L.length from by omega,List.take_length]] at *
   rw[if_pos ‹_›] at sb
   refine w_tell ct H (by rw[List.length_append];omega) λu fl fl2 s' H hu=>?_
   repeat' (first|((with_reducible refine w_add_NN ?_ ?_) ;omega))
   exact ih (r-1) (by omega) (n+1) _ _ _ _ _ _ _ _ _ _ _ _ _ fl fl2 s' es cl c2 (by omega) (by omega) (by rw[sb];exact M2) (by rw[sb];dsimp only;rw[←List.append_assoc];exact H.pick [0,1,2] (by decide) rfl)
 ·rw[show n=k from by omega] at H
  exact lkEnd B H
set_option linter.unusedSimpArgs false
def numS(n:Nat):List UInt8:=if n<10 then [UInt8.ofNat (48+n)] else [UInt8.ofNat (48+n/10),UInt8.ofNat (48+n%10)]
def aIt(n:Nat):List Value:=[kI n]
def KIt(R0:List Value→Hs→An):Runs0:=KI (λk=>k<100) aIt (λ_=>[]) R0
noncomputable def qIt(n:Nat)(v:Value)(h:Hs):Bool:=andK (eqV v (sV (numS n))) (andK (Nat.beq h.nx 0) (Nat.ble 0 h.lo))
def ItR(R0:FuncId→List Value→Hs→An):Prop:=∀n,n<100→chkRun (R0 71) (aIt n) [] (qIt n)=true
def ItF(R:RnK)(R0:FuncId→List Value→Hs→An):Prop:=∀a h o,fmG (KIt (R0 71)) a h=some o→R 71 a h=some o
def CItoa(R:RnK):Prop:=∀(n:Nat)(h:Hs),n<100→WP (R 71 [kI n] h) λr u=>r=sV (numS n)∧Sm h u
theorem itoa_ok{R:RnK}{R0:FuncId→List Value→Hs→An}(rn:ItR R0)(fm:ItF R R0):CItoa R:=λn h hn=>by
 have E:Emb (λ_=>0) (smallH []) h:=by
  refine⟨λi b0 hb0=>?_,λi hi=>absurd hi (Nat.not_lt_zero _),λi i' b b' hb hb' hr _=>?_⟩
  ·rw[smallH_get] at hb0;cases hb0
  ·rw[smallH_get] at hb;cases hb
 obtain⟨v0,h0',r,hq⟩:=chkRun_ok (rn n hn)
 obtain⟨a1,a2⟩:=andK_true hq
 obtain⟨a2,a3⟩:=andK_true a2
 have e0:=eqV_eq a1
 subst e0
 have ar:VWs 0 (λ_=>0) (aIt n) [kI n]:=.cons (.int _ _) .nil
 refine(w_fm (λo ho=>fm _ _ o ho) n hn E ar rfl (λj s2 hj E2 w2=>?_) r).mono λv u ⟨g1,g2⟩=>?_
 ·cases w2 with
  |cons x _=>cases x;exact⟨rfl,rfl⟩
 ·refine⟨?_,g2.sm (Nat.eq_of_beq_eq_true a2) (Nat.le_of_ble_eq_true a3)⟩
  cases g1
  rfl
theorem numS_len(n:Nat):(numS n).length≤2:=by unfold numS;split<;>simp
def lostS:List UInt8:=[108,111,115,116,43,102,111,117,110,100]
def kindS(k:Nat)(D:Nat→Option Nd)(dir at_ n:Nat)(s:List UInt8)(twice:Bool):Nat:=
 if k≤n∨¬(D n).isSome then 2 else if n≤2 then 3 else if twice=true∨(dir=1∧s=lostS) then 4 else if dir=2∧(n≠at_+1∨s≠35::numS n) then 5 else 0
def CKSlot(R:RnK):Prop:=∀(h:Hs)(T:List Nat)(p:Nat)(g:Geo)(sw sn ss sg so:Value)(l:List Fnd)(k:Nat)(D:Nat→Option Nd)(NS:List (List Value))(dir at_ n:Nat)(s:List UInt8)(tw:Bool),LkAt h p g sw sn ss sg so l→NdsAt h T sn ss k D NS→k≤100→at_≤1000000 →
 R 52 [.pointer (some ⟨p,0,none⟩),.agg #[kI dir,kI at_,kI n,sV s],.bool tw] h=some (.val (kI (kindS k D dir at_ n s tw)) h)
theorem kslot_ok{R:RnK}{N:Nat}(ci:CItoa R){h:Hs}{T:List Nat}{p:Nat}{g:Geo}{sw sn ss sg so:Value}{l:List Fnd}{k:Nat}{D:Nat→Option Nd}{NS:List (List Value)}{dir at_ n:Nat}{s:List UInt8}{tw:Bool}(B:LkAt h p g sw sn ss sg so l)(A:NdsAt h T sn ss k D NS)(hk:k≤100)(ha:at_≤1000000) :
 r52 R N [.pointer (some ⟨p,0,none⟩),.agg #[kI dir,kI at_,kI n,sV s],.bool tw] h=some (.val (kI (kindS k D dir at_ n s tw)) h):=by
 refine WP.eqn ?_
 unfold r52
 obtain⟨fl,hr⟩:=B.row
 have H:=Sto.enterR h [.rob p (lkO fl g sw sn ss sg so),.rsl ss 1 (ones ((List.range k).map λn=>.bool (D n).isSome))] (λt ht=>by
  rcases List.mem_cons.1 ht with rfl|ht
  ·exact⟨rfl,hr,λb hb=>by injection hb with e;subst e;exact B.pl⟩
  ·rw[List.mem_singleton.1 ht];exact⟨rfl,A.rs.1,λb hb=>A.rs.2 b hb⟩)
 have lk:(ones ((List.range k).map λn=>Value.bool (D n).isSome)).length=k:=by rw[ones_len,List.length_map,List.length_range]
 refine w_unC ?_
 refine w_unC ?_
 refine w_unC ?_
 refine w_enK ?_
 refine w_boxA H ?_
 clear H;intro u1 H hu1
 repeat' (first|(with_reducible first|refine w_jn ?_|refine w_cndT ?_|refine w_gFt ?_|refine w_gFf ?_|refine w_pickT ?_|refine w_fieldA ?_|refine w_nil ?_)|((with_reducible refine w_geq_NN (λ_=>?_) (λ_=>?_))<;>first|(exfalso;omega)|skip)|((with_reducible apply w_load 0 H) ;rfl;rfl;rfl)|((with_reducible apply w_loadR 1 H) ;rfl;rfl;rfl)|((with_reducible apply w_lenR 2 H) ;rfl))
 ·exact w_clr H rfl ⟨(show kindS k D dir at_ n s tw=2 from if_pos (.inl (by omega))) ▸ rfl,rfl⟩
 have nk:n<k:=by omega
 have gb:=bools_get (f:=λn=>(D n).isSome) nk
 refine w_at1 2 H rfl gb rfl rfl ?_
 cases hd:(D n).isSome
 ·repeat' (first|(with_reducible first|refine w_jn ?_|refine w_cndT ?_|refine w_gFf ?_|refine w_pickF ?_|refine w_notF ?_))
  exact w_clr H rfl ⟨(show kindS k D dir at_ n s tw=2 from if_pos (.inr (by rw[hd];exact Bool.false_ne_true))) ▸ rfl,rfl⟩
 repeat' (first|(with_reducible first|refine w_jn ?_|refine w_cndT ?_|refine w_cndF ?_|refine w_gFf ?_|refine w_pickF ?_|refine w_notT ?_)|((with_reducible refine w_leq_NN (λ_=>?_) (λ_=>?_))<;>first|(exfalso;omega)|skip))
 ·exact w_clr H rfl ⟨(show kindS k D dir at_ n s tw=3 from (if_neg λq=>q.elim (λe=>by omega) (λe=>e hd)).trans (if_pos (by omega))) ▸ rfl,rfl⟩
 have kb:kindS k D dir at_ n s tw=if tw=true∨(dir=1∧s=lostS) then 4 else if dir=2∧(n≠at_+1∨s≠35::numS n) then 5 else 0:=(if_neg λq=>q.elim (λe=>by omega) (λe=>e hd)).trans (if_neg (by omega))
 rw[kb]
 clear kb
 have nl:=numS_len n
 cases tw
 all_goals repeat' (first|((with_reducible apply w_eqS)<;>first|rfl|intro _)|(with_reducible first|refine w_jn ?_|refine w_cndT ?_|refine w_cndF ?_|refine w_gTt ?_|refine w_gTf ?_|refine w_gFt ?_|refine w_gFf ?_|refine w_gFu ?_|refine w_pickT ?_|refine w_pickF ?_|refine w_fieldA ?_|refine w_blind ?_)|((with_reducible first|refine w_eql_NN (λ_=>?_) (λ_=>?_)|refine w_neq_NN (λ_=>?_) (λ_=>?_))<;>first|(exfalso;omega)|skip)|((with_reducible refine w_add_NN ?_ ?_) ;omega)|((with_reducible apply w_load 0 H) ;rfl;rfl;rfl))
 all_goals try (refine w_clr H rfl ⟨?_,rfl⟩;simp_all [lostS];done)
 refine w_call (ci n _ (by omega)) λv u hv=>?_
 obtain⟨rfl,sm⟩:=hv
 refine w_lightS sm.same λu2 sm2=>?_
 replace H:=H.same sm2
 repeat' (first|(with_reducible refine w_gFf ?_))
 refine w_addS (a:=[35]) (by show 1+_≤_;omega) ?_
 repeat' (first|((with_reducible apply w_neS)<;>first|rfl|intro _)|(with_reducible first|refine w_jn ?_|refine w_cndT ?_|refine w_cndF ?_|refine w_gTt ?_|refine w_gFf ?_|refine w_pickT ?_|refine w_pickF ?_|refine w_blind ?_))
 all_goals (refine w_clr H rfl ⟨?_,rfl⟩;simp_all [lostS])
set_option linter.unusedSimpArgs false
abbrev Plc:=Nat × Nat × Nat × List UInt8
def plC(x:Plc):List Value:=[kI x.1,kI x.2.1,kI x.2.2.1,sV x.2.2.2]
def Pc(l:List Plc):List Value:=(l.map plC).flatten
theorem Pc_snoc(l:List Plc)(x:Plc):Pc (l ++ [x])=Pc l++plC x:=by unfold Pc;rw[List.map_append,List.flatten_append];simp
structure SlS where
 had:Nat→Bool
 F:List Fnd
 G:List Plc
def isDir(D:Nat→Option Nd)(m:Nat):Bool:=match D m with
 |some d=>d.ty==2
 |none=>false
def slStep (k : Nat) (D : Nat → Option Nd) (W : List Nat) (n : Nat) (s : SlS × (List UInt8 → Bool)) (ab : Nat × Nat) : SlS × (List UInt8 → Bool) :=
 match getSlot (blockAt W ab.2) with
 |none=>(⟨s.1.had,s.1.F ++ [(4,1,n,ab.1)],s.1.G⟩,s.2)
 | some x => if x.1 = 0 then s else
  let kd:=kindS k D n ab.1 x.1 x.2 (s.2 x.2)
  let nm:List UInt8→Bool:=λy=>if y=x.2 then true else s.2 y
  if kd=0 then
   if isDir D x.1=true then
    if s.1.had x.1=true then (⟨λy=>if y=x.1 then true else s.1.had y,s.1.F ++ [(4,6,n,ab.1)],s.1.G⟩,nm)
    else (⟨λy=>if y=x.1 then true else s.1.had y,s.1.F,s.1.G ++ [(n,ab.1,x.1,x.2)]⟩,nm)
   else (⟨s.1.had,s.1.F,s.1.G ++ [(n,ab.1,x.1,x.2)]⟩,nm)
  else (⟨s.1.had,s.1.F ++ [(4,kd,n,ab.1)],s.1.G⟩,nm)
def enumF(l:List Nat):List (Nat × Nat):=(List.range l.length).zip l
def slDir(k:Nat)(D:Nat→Option Nd)(W:List Nat)(s:SlS)(n:Nat):SlS:=if isDir D n=true then ((enumF (blkN (D n))).foldl (slStep k D W n) (s,λ_=>false)).1 else s
def slAll(k:Nat)(D:Nat→Option Nd)(W:List Nat)(n:Nat):SlS:=(List.range n).foldl (slDir k D W) ⟨λ_=>false,[],[]⟩
theorem slAll_succ(k:Nat)(D:Nat→Option Nd)(W:List Nat)(n:Nat):slAll k D W (n+1)=slDir k D W (slAll k D W n) n:=by unfold slAll;rw[List.range_succ,List.foldl_append];rfl
theorem slStep_len{k:Nat}{D:Nat→Option Nd}{W:List Nat}{n:Nat}(s:SlS × (List UInt8→Bool))(ab:Nat × Nat):(slStep k D W n s ab).1.F.length+(slStep k D W n s ab).1.G.length≤s.1.F.length+s.1.G.length+1:=by
 unfold slStep
 split
 ·simp;omega
 ·split
  ·omega
  ·dsimp only
   split
   ·split
    ·split
     ·simp;omega
     ·simp;omega
    ·simp;omega
   ·simp;omega
theorem slFold_len{k:Nat}{D:Nat→Option Nd}{W:List Nat}{n:Nat}:∀(l:List (Nat × Nat))(s:SlS × (List UInt8→Bool)),(l.foldl (slStep k D W n) s).1.F.length+(l.foldl (slStep k D W n) s).1.G.length≤s.1.F.length+s.1.G.length+l.length:=by
 intro l
 induction l with
 |nil=>intro s;exact Nat.le_refl _
 |cons x l ih=>
  intro s
  have h1:=ih (slStep k D W n s x)
  have h2:=slStep_len (k:=k) (D:=D) (W:=W) (n:=n) s x
  show (l.foldl _ (slStep k D W n s x)).1.F.length+(l.foldl _ (slStep k D W n s x)).1.G.length≤_
  rw[List.length_cons]
  omega
theorem enumF_len(l:List Nat):(enumF l).length=l.length:=by unfold enumF;rw[List.length_zip,List.length_range];omega
theorem enumF_get{l:List Nat}{i:Nat}(h:i<(enumF l).length):(enumF l)[i]=(i,l[i]'(by rw[enumF_len] at h;exact h)):=by simp[enumF]
theorem slDir_len{g:Geo}{k:Nat}{D:Nat→Option Nd}(dk:DOk g k D){W:List Nat}{n:Nat}(hn:n<k)(s:SlS):(slDir k D W s n).F.length+(slDir k D W s n).G.length≤s.F.length+s.G.length+1024:=by
 unfold slDir
 split
 ·have h1:=slFold_len (k:=k) (D:=D) (W:=W) (n:=n) (enumF (blkN (D n))) (s,λ_=>false)
  have h2:=dk.blk hn
  rw[enumF_len] at h1
  dsimp only at h1
  omega
 ·omega
theorem slAll_len{g:Geo}{k:Nat}{D:Nat→Option Nd}(dk:DOk g k D){W:List Nat}:∀n,n≤k→(slAll k D W n).F.length+(slAll k D W n).G.length≤n*1024:=by
 intro n
 induction n with
 |zero=>intro _;exact Nat.le_refl _
 |succ n ih=>
  intro hn
  have h1:=ih (by omega)
  have h2:=slDir_len dk (W:=W) (show n<k by omega) (slAll k D W n)
  rw[slAll_succ]
  omega
set_option linter.unusedSimpArgs false
theorem MapV.cg{α:Type}[DecidableEq α]{K:α→Value}{z:Value}{g g':α→Value}{n:Nat}{es:List MapEntry}{cl:Nat}(M:MapV K z g n es cl)(e:∀a,g a=g' a):MapV K z g' n es cl:=by
 obtain⟨f,m,h⟩:=M
 exact⟨f,m,λa=>(h a).trans (e a)⟩
abbrev nilV:Value:=.slice none 0 0
abbrev GS(v:Value)(fl:Bool)(G:List Plc):Th:=.osl v 102 4 fl G.length (Pc G)
theorem lkRow2{B1 B2:Option Blk}{g:Geo}{sw sn ss sg so sg' so':Value}{fl fl':Bool}(h1:Holds B1 (lkO fl g sw sn ss sg so))(h2:Holds B2 (lkO fl' g sw sn ss sg' so'))(e:B1=B2):sg=sg'∧so=so':=by
 obtain⟨c1,f1,e1,_,g1⟩:=h1
 obtain⟨c2,f2,e2,_,g2⟩:=h2
 rw[e,e2] at e1
 injection e1 with e1
 injection e1 with e1
 have a:=g1 8
 have b:=g1 7
 rw[←e1,g2 8] at a
 rw[←e1,g2 7] at b
 injection a with a
 injection b with b
 exact⟨b.symm,a.symm⟩
structure QSlots (h:Hs) (p:Nat) (g:Geo) (sw sn ss so:Value) (l:List Fnd) (G:List Plc) (r:Value) (u:Hs):Prop where
 rt:r=.tuple #[]
 mu:MutS (p::idsOf so) h u
 st:∃so' sg' fl,LkAt u p g sw sn ss sg' so' l∧(∀b,vId so'=some b→h.nx≤b∨vId so=some b)∧OwnSl u sg' 102 4 fl G.length (Pc G)∧∀b,vId sg'=some b→b≠p∧b<u.nx∧vId so'≠some b
theorem slEnd{h u:Hs}{m:List Th}{p:Nat}{fl fl2 fl3:Bool}{g:Geo}{sw sn ss sg so0 so:Value}{l0 l:List Fnd}{G:List Plc}(B:LkAt h p g sw sn ss nilV so0 l0)(H:Sto h (p::idsOf so0) u (.blk p (lkO fl g sw sn ss sg so)::.osl so 37 4 fl2 l.length (Fc l)::GS sg fl3 G::m)) :
 WP (clrK h (.tuple #[]) u) (QSlots h p g sw sn ss so0 l G):=by
 have i1:=λb hb=>H.ids _ (List.mem_of_getElem? (i:=1) rfl) b hb
 have i2:=λb hb=>H.ids _ (List.mem_of_getElem? (i:=2) rfl) b hb
 have C:=LkAt.of H
 have og:OwnSl u sg 102 4 fl3 G.length (Pc G):=H.ok _ (List.mem_of_getElem? (i:=2) rfl)
 refine w_clrS H (λs hs=>?_) rfl (λh'' mu e1 e2=>⟨rfl,mu,so,sg,fl3,⟨by rw[e2];exact C.pl,by rw[e1];exact C.row,?_,λb hb=>by rw[e2];exact C.bid b hb⟩,λb hb=>?_,OwnSl.congr og λb _=>by rw[e1],λb hb=>⟨?_,by rw[e2];exact(i2 b hb).1,λe=>H.dj 1 2 _ _ rfl rfl (by decide) rfl b e hb⟩⟩) λe=>?_
 ·rcases List.mem_cons.1 hs with rfl|hs
  ·exact B.pl
  ·exact(B.bid s (idsOf_mem.1 hs)).1
 ·obtain⟨f,hb⟩:=C.buf
  exact⟨f,OwnSl.congr hb λb _=>by rw[e1]⟩
 ·rcases (i1 b hb).2 rfl with g|g
  ·exact .inl g
  ·rcases List.mem_cons.1 g with rfl|g
   ·exact absurd rfl (C.bid _ hb).2
   ·exact .inr (idsOf_mem.1 g)
 ·rintro rfl
  exact H.dj 0 2 _ _ rfl rfl (by decide) rfl _ rfl hb
 ·obtain⟨f1,r1⟩:=B.row
  obtain⟨f2,r2⟩:=C.row
  obtain⟨e1,e2⟩:=lkRow2 r1 r2 (e p B.pl).symm
  subst e1 e2
  obtain⟨f,hb⟩:=C.buf
  refine⟨rfl,MutS.refl _ _,so0,nilV,fl3,⟨B.pl,B.row,⟨f,OwnSl.congr hb λb hb=>(e b (B.bid b hb).1).symm⟩,B.bid⟩,λb hb=>.inr hb,OwnSl.congr og λb hb=>(by cases hb),λb hb=>(by cases hb)⟩
theorem w_kidx{Q:Value→Hs→Prop}{h0 h:Hs}{S:List Nat}{m:List Th}{v:Value}{u i j:Nat}{L:List (List Value)}{l:List Value}{x:Value}{K:Value→An}(k:Nat){hh:Hs}(H:Sto h0 S h m)(hk:m[k]?=some (.rsl v u L))(hi:L[i]?=some l)(hp:hh.hp=h.hp)(hv:l[j]?=some x)(w:WP (K x) Q) :
 WP (kIdxA u v (.int .i64 (.ofNat i)) (λp=>kFieldA j p (λq=>kLoad q hh K))) Q:=by
 refine w_idxR k H hk hi λb o H1=>?_
 refine w_fieldA ?_
 exact w_loadE 0 H1 rfl (by rw[hp]) hv w
theorem kindS_zero(k:Nat)(D:Nat→Option Nd)(dir at_ n:Nat)(s:List UInt8)(tw:Bool)(h:kindS k D dir at_ n s tw=0):n<k∧(D n).isSome=true:=by
 unfold kindS at h
 split at h
 ·cases h
 ·rename_i q
  exact⟨Nat.lt_of_not_le λz=>q (.inl z),Classical.byContradiction λz=>q (.inr z)⟩
theorem oneC_of{h:Hs}{v:Value}{e u n:Nat}{fl:Bool}{L:List Value}(o:OwnSl h v e u fl n L):oneC v=true:=by
 obtain⟨a,c,rfl⟩:=o.form
 rfl
theorem GS_snoc(v:Value)(fl:Bool)(G:List Plc)(x:Plc):GS v fl (G ++ [x])=.osl v 102 4 fl (G.length+1) (Pc G++plC x):=by
 show Th.osl v _ 4 fl (G ++ [x]).length (Pc (G ++ [x]))=_
 rw[List.length_append,Pc_snoc];rfl
theorem kslots_ok {R : RnK} {N : Nat} (hN : 100000 < N) (ck : CKBlocks R) (ct : CTell R) (cb : CBlock R) (cs : CSlotGet R) (cl : CKSlot R) {h : Hs} {p : Nat} {g : Geo} {sw sn ss so : Value} {l : List Fnd} {k : Nat} {D : Nat → Option Nd} {NS : List (List Value)} {W : List Nat} (B : LkAt h p g sw sn ss nilV so l) (hl : l.length ≤ 1000) (A : NdsAt h (p :: idsOf so) sn ss k D NS) (dk : DOk g k D)
 (hW:W.length=8*g.b) (sm:Small W) (r:Rd h sw 1 (Wl W)) (rx:∀b,Th.id (.rsl sw 1 (Wl W))=some b→b∉p::idsOf so) :
 WP (r28 R N [.pointer (some ⟨p,0,none⟩)] h) (QSlots h p g sw sn ss so (l++(slAll k D W k).F) (slAll k D W k).G):=by
 unfold r28
 have k65:=dk.k1
 have gb2:=dk.x.1.b2
 have cbg:=cb g W sw
 unfold imgV at cbg
 obtain⟨fl,fl2,H⟩:=B.enter
 refine w_unC ?_
 refine w_enK ?_
 refine w_mkmap H λu1 H1 hu1=>?_
 clear H
 have lk:(ones ((List.range k).map λn=>Value.bool (D n).isSome)).length=k:=by rw[ones_len,List.length_map,List.length_range]
 have H:=(H1.addR A.rs A.xs).nilS 102 4
 clear H1 hu1
 replace H:=H.pick [3,4,0,2,1] (by decide) (m':=[.blk p (lkO fl g sw sn ss nilV so),.osl so 37 4 fl2 l.length (Fc l),GS nilV true [],.blk h.nx (.mp [] 0),.rsl ss 1 (ones ((List.range k).map λn=>.bool (D n).isSome))]) rfl
 repeat' (first|(with_reducible first|refine w_jn ?_|refine w_fieldA ?_|refine w_nil ?_)|((with_reducible apply w_load 0 H) ;rfl;rfl;rfl)|((with_reducible apply w_lenR 4 H) ;rfl))
 rw[lk]
 refine lp_ind (Good:=λrr (self:L19)=>∀(n:Nat)(y1 y2 y3 y4 y5 y6 y7 y8 y9 y10 y11 y12 y13 y14 y15 y16 y17 y18:Value)(w:Hs)(fl fl2 fl3:Bool)(s sg:Value)(es:List MapEntry)(c cl:Nat)(st:SlS),n+rr=k→st=slAll k D W n→c≤n*2000→MapV kI (.bool false) (λx=>.bool (st.had x)) c es cl→Sto h (p::idsOf so) w [.blk p (lkO fl g sw sn ss sg s),.osl s 37 4 fl2 (l++st.F).length (Fc (l++st.F)),GS sg fl3 st.G,.blk h.nx (.mp es cl)]→WP (self (kI n) y1 y2 y3 y4 y5 y6 y7 y8 y9 y10 y11 y12 y13 y14 y15 y16 y17 y18 w) (QSlots h p g sw sn ss so (l++(slAll k D W k).F) (slAll k D W k).G)) (λrr self ih n y1 y2 y3 y4 y5 y6 y7 y8 y9 y10 y11 y12 y13 y14 y15 y16 y17 y18 w fl fl2 fl3 s sg es c cl_ st hi hst hc M H1=>?_) N k (by omega) 0 _ _ _ _ _ _ _ _ _ _ _ _ _ _ _ _ _ _ _ fl fl2 true so nilV [] 0 0 ⟨λ_=>false,[],[]⟩ (by omega) rfl (by omega) (MapV.nil kI (.bool false)) (by show Sto _ _ _ [_,.osl so _ _ _ (l ++ []).length (Fc (l ++ [])),_,_];rw[List.append_nil];exact H.pick [0,1,2,3] (by decide) rfl)
 clear H
 have H:=H1
 clear H1
 have stl:=slAll_len dk (W:=W) n (by omega)
 rw[←hst] at stl
 have sa:=slAll_succ k D W n
 rw[←hst] at sa
 unfold slDir at sa
 repeat' (first|(with_reducible first|refine w_jn ?_|refine w_cndT ?_|refine w_cndF ?_|refine w_fieldA ?_|refine w_nil ?_)|((with_reducible refine w_lss_NN (λ_=>?_) (λ_=>?_))<;>first|(exfalso;omega)|skip)|((with_reducible apply w_load 0 H) ;rfl;rfl;rfl))
 ·have nk : n < k := by omega
  have gb:=bools_get (f:=λn=>(D n).isSome) nk
  refine w_at1 0 (H.addR A.rs A.xs) rfl gb rfl rfl ?_
  cases hd:D n with
  |none=>
   rw[show isDir D n=false from by unfold isDir;rw[hd],if_neg Bool.false_ne_true] at sa
   refine w_notF ?_
   repeat' (first|(with_reducible first|refine w_jn ?_|refine w_cndT ?_|refine w_gFt ?_|refine w_pickT ?_)|((with_reducible refine w_add_NN ?_ ?_) ;omega))
   exact ih (rr-1) (by omega) (n+1) _ _ _ _ _ _ _ _ _ _ _ _ _ _ _ _ _ _ _ fl fl2 fl3 s sg es c cl_ st (by omega) sa.symm (Nat.le_trans hc (Nat.mul_le_mul_right _ (Nat.le_succ n))) M H
  | some d =>
   obtain⟨dm,a,c0,g1,g2,_⟩:=A.nd n d nk hd
   refine w_notT ?_
   repeat' (first|(with_reducible first|refine w_gFf ?_|refine w_fieldA ?_|refine w_nil ?_)|((with_reducible apply w_load 0 H) ;rfl;rfl;rfl))
   refine w_kidx 0 (H.addR A.rn A.xn) rfl g1 rfl rfl ?_
   have idr:isDir D n=(d.ty==2):=by unfold isDir;rw[hd]
   refine w_gFf ?_
   refine w_neq_NN (λt2=>?_) (λt2=>?_)
   rotate_left
   ·rw[idr,if_neg (by simpa using t2)] at sa
    repeat' (first|(with_reducible first|refine w_jn ?_|refine w_cndT ?_|refine w_pickF ?_)|((with_reducible refine w_add_NN ?_ ?_) ;omega))
    exact ih (rr-1) (by omega) (n+1) _ _ _ _ _ _ _ _ _ _ _ _ _ _ _ _ _ _ _ fl fl2 fl3 s sg es c cl_ st (by omega) sa.symm (Nat.le_trans hc (Nat.mul_le_mul_right _ (Nat.le_succ n))) M H
   rw[idr,if_pos (by simpa using t2)] at sa
   repeat' (first|(with_reducible first|refine w_jn ?_|refine w_cndF ?_|refine w_pickF ?_))
   refine w_mkmap H λu2 H2 hu2=>?_
   clear H
   have H:=H2
   clear H2
   refine w_call (ck u2 (p::idsOf so) p g sw sn ss sg s (l++st.F) k D NS n (LkAt.of H.tail) (H.nds A) nk (λd hd=>dk.runs nk hd)) λv1 u1 n1=>?_
   replace H:=H.call n1
   replace H:=H.pick [2,3,4,5,1,0] (by decide) (m':=[.blk p (lkO fl g sw sn ss sg s),.osl s 37 4 fl2 (l++st.F).length (Fc (l++st.F)),GS sg fl3 st.G,.blk h.nx (.mp es cl_),.blk w.nx (.mp [] 0),ON v1 (blkN (D n))]) rfl
   have bb:=dk.blk nk
   have bl:=λb (hb:b∈blkN (D n))=>dk.lt nk hb
   generalize hL:blkN (D n)=L at *
   repeat' (first|(with_reducible refine w_jn ?_)|((with_reducible apply w_lenO 5 H) ;rfl))
   have eL:=enumF_len L
   refine lp_ind (Good:=λr2 (self2:L12)=>∀(j:Nat)(y1 y2 y3 y4 y5 y6 y7 y8 y9 y10 y11:Value)(w2:Hs)(fl fl2 fl3:Bool)(s sg:Value)(es nes:List MapEntry)(c2 cl nc ncl:Nat)(sj:SlS × (List UInt8→Bool)),j+r2=L.length→sj=((enumF L).take j).foldl (slStep k D W n) (st,λ_=>false)→c2≤c+j→nc≤j→MapV kI (.bool false) (λx=>.bool (sj.1.had x)) c2 es cl→MapV sV (.bool false) (λx=>.bool (sj.2 x)) nc nes ncl→Sto h (p::idsOf so) w2 [.blk p (lkO fl g sw sn ss sg s),.osl s 37 4 fl2 (l++sj.1.F).length (Fc (l++sj.1.F)),GS sg fl3 sj.1.G,.blk h.nx (.mp es cl),.blk w.nx (.mp nes ncl),ON v1 L]→WP (self2 (kI j) y1 y2 y3 y4 y5 y6 y7 y8 y9 y10 y11 w2) (QSlots h p g sw sn ss so (l++(slAll k D W k).F) (slAll k D W k).G))
    (λr2 self2 ih2 j y1 y2 y3 y4 y5 y6 y7 y8 y9 y10 y11 w2 fl fl2 fl3 s sg es nes c2 cl_ nc ncl sj hj hsj hc2 hnc M2 MN H1=>?_) N L.length (by omega) 0 _ _ _ _ _ _ _ _ _ _ _ _ fl fl2 fl3 s sg es [] c cl_ 0 0 (st,λ_=>false) (by omega) rfl (by omega) (by omega) M (MapV.nil sV (.bool false)) H
   clear H
   have H:=H1
   clear H1 M
   repeat' (first|(with_reducible first|refine w_jn ?_|refine w_cndT ?_|refine w_cndF ?_)|((with_reducible refine w_lss_NN (λ_=>?_) (λ_=>?_))<;>first|(exfalso;omega)|skip)|((with_reducible refine w_add_NN ?_ ?_) ;omega))
   ·have jj:j<L.length:=by omega
    have ft:slStep k D W n sj (j,L[j])=((enumF L).take (j+1)).foldl (slStep k D W n) (st,λ_=>false):=by
     rw[foldl_take _ _ _ (by rw[eL];exact jj),←hsj,enumF_get]
    have bj:=bl L[j] (List.getElem_mem jj)
    have sjl:=slFold_len (k:=k) (D:=D) (W:=W) (n:=n) ((enumF L).take j) (st,λ_=>false)
    rw[←hsj,List.length_take] at sjl
    dsimp only at sjl
    refine w_atO 5 H rfl (Nv_get0 jj) rfl ?_
    generalize L[j]=b at *
    repeat' (first|(with_reducible first|refine w_fieldA ?_|refine w_nil ?_)|((with_reducible apply w_loads 0 H) ;rfl;rfl;rfl;rfl;(try dsimp only[List.drop_zero,List.drop_succ_cons,List.take_succ_cons,List.take_zero])))
    refine w_call (cbg b _ (by omega) ((H.addR r rx).rd 0 rfl) (by omega)) λv3 u3 n3=>?_
    replace n3:=n3.ones
    rw[←Wl_ones] at n3
    replace H:=H.call n3
    refine w_callE (cs (blockAt W b) v3 _ (sm.block _) (by rw[blockAt_len (by omega)];decide) (H.rd 0 rfl)) ?_
    replace H:=H.tail
    have fsj:sj.1.F.length+sj.1.G.length≤90000:=by omega
    unfold slStep at ft
    cases hs:getSlot (blockAt W b) with
    |none=>
     unfold slotR
     refine w_extr (v:=.agg #[kI 0,sV []]) rfl ?_
     refine w_extr (v:=.bool false) rfl ?_
     repeat' (first|(with_reducible first|refine w_jn ?_|refine w_cndT ?_|refine w_notF ?_)|((with_reducible refine w_alloc H ?_) ;(clear H;intro u H hu))|((with_reducible apply w_storeV 0 H) ;rfl;rfl;rfl;omega;rfl;(clear H;intro u H hu;(try dsimp only[List.set_cons_zero,List.set_cons_succ,cellsL,List.toList_toArray,splice,ev,rep,List.cons_append,List.nil_append] at H))))
     refine w_tell ct H.tail (by rw[List.length_append];omega) λu' fl fl2 s' H hu=>?_
     repeat' (first|((with_reducible refine w_add_NN ?_ ?_) ;omega))
     rw[hs] at ft
     dsimp only at ft
     exact ih2 (r2-1) (by omega) (j+1) _ _ _ _ _ _ _ _ _ _ _ _ fl fl2 fl3 s' sg es nes c2 cl_ nc ncl _ (by omega) ft (by omega) (by omega) M2 MN (by (try dsimp only);rw[←List.append_assoc];exact H)
    | some x =>
     obtain⟨m,nm⟩:=x
     unfold slotR
     refine w_extr (v:=.agg #[kI m,sV nm]) rfl ?_
     refine w_extr (v:=.bool true) rfl ?_
     repeat' (first|(with_reducible first|refine w_jn ?_|refine w_cndT ?_|refine w_cndF ?_|refine w_notT ?_|refine w_fieldA ?_)|((with_reducible apply w_build) ;rfl;(try dsimp only[splice,ev,cellsL,rep,List.cons_append,List.nil_append]))|((with_reducible refine w_alloc H ?_) ;(clear H;intro u H hu))|((with_reducible refine w_eql_NN (λ_=>?_) (λ_=>?_))<;>first|(exfalso;omega)|skip)|((with_reducible refine w_add_NN ?_ ?_) ;omega)|((with_reducible apply w_load 0 H) ;rfl;rfl;rfl)|((with_reducible apply w_storeV 0 H) ;rfl;rfl;rfl;omega;rfl;(clear H;intro u H hu;(try dsimp only[List.set_cons_zero,List.set_cons_succ,cellsL,List.toList_toArray,splice,ev,rep,List.cons_append,List.nil_append] at H)))|((with_reducible apply w_loadsF 0 H) ;rfl;rfl;rfl))
     ·rw[hs] at ft
      dsimp only at ft
      rw[if_pos ‹m=0›] at ft
      exact ih2 (r2-1) (by omega) (j+1) _ _ _ _ _ _ _ _ _ _ _ _ fl fl2 fl3 s sg es nes c2 cl_ nc ncl sj (by omega) ft (by omega) (by omega) M2 MN H.tail
     ·rw[hs] at ft
      dsimp only at ft
      rw[if_neg ‹¬m=0›] at ft
      refine w_lkV keyS 5 H rfl MN ?_
      refine w_callE (cl _ (p::idsOf so) p g sw sn ss sg s (l++sj.1.F) k D NS n j m nm (sj.2 nm) (LkAt.of H.tail) (H.nds A) (by omega) (by omega)) ?_
      have kz:=kindS_zero k D n j m nm (sj.2 nm)
      generalize kindS k D n j m nm (sj.2 nm)=kd at *
      repeat' (first|(with_reducible refine w_fieldA ?_)|((with_reducible apply w_load 0 H) ;rfl;rfl;rfl))
      refine w_upV keyS 5 H rfl MN (by omega) λu4 nes' ncl' H4 hu4 MN'=>?_
      clear H
      have H:=H4
      clear H4
      dsimp only[List.set_cons_zero,List.set_cons_succ] at H
      have MN2:=MN'.cg (g':=λy=>.bool (if y=nm then true else sj.2 y)) (λy=>by (try dsimp only);split<;>rfl)
      clear MN'
      refine w_eql_NN (λk0=>?_) (λk0=>?_)
      rotate_left
      ·rw[if_neg k0] at ft
       repeat' (first|(with_reducible first|refine w_jn ?_|refine w_cndT ?_|refine w_cndF ?_|refine w_gTf ?_|refine w_pickF ?_|refine w_blind ?_)|((with_reducible refine w_neq_NN (λ_=>?_) (λ_=>?_))<;>first|(exfalso;omega)|skip))
       refine w_tell ct H.tail (by rw[List.length_append];omega) λu9 fl fl2 s' H hu=>?_
       repeat' (first|((with_reducible refine w_add_NN ?_ ?_) ;omega))
       exact ih2 (r2-1) (by omega) (j+1) _ _ _ _ _ _ _ _ _ _ _ _ fl fl2 fl3 s' sg _ _ _ _ _ _ _ (by omega) ft (by omega) (by omega) M2 MN2 (by (try dsimp only);rw[←List.append_assoc];exact H)
      obtain⟨mk,ms⟩:=kz k0
      obtain⟨dd,hdd⟩:=Option.isSome_iff_exists.1 ms
      obtain⟨_,am,cm,gm,_,_⟩:=A.nd m dd mk hdd
      rw[if_pos k0,show isDir D m=(dd.ty==2) from by unfold isDir;rw[hdd]] at ft
      subst k0
      repeat' (first|(with_reducible first|refine w_gTt ?_|refine w_fieldA ?_|refine w_nil ?_)|((with_reducible apply w_load 0 H) ;rfl;rfl;rfl)|((with_reducible apply w_load 1 H) ;rfl;rfl;rfl))
      refine w_idxR 0 (H.addR A.rn A.xn) rfl gm λbq oq H1=>?_
      repeat' (first|(with_reducible first|refine w_gTt ?_|refine w_fieldA ?_))
      refine w_loadE (j:=0) 0 H1 rfl rfl rfl ?_
      clear H1
      refine w_gTt ?_
      refine w_eql_NN (λt2=>?_) (λt2=>?_)
      ·rw[if_pos (by simpa using t2)] at ft
       repeat' (first|(with_reducible first|refine w_jn ?_|refine w_cndT ?_|refine w_pickT ?_|refine w_fieldA ?_|refine w_blind ?_)|((with_reducible apply w_load 0 H) ;rfl;rfl;rfl))
       refine w_lkV keyN 4 H rfl M2 ?_
       cases hh:sj.1.had m
       ·rw[hh,if_neg Bool.false_ne_true] at ft
        repeat' (first|(with_reducible first|refine w_jn ?_|refine w_cndF ?_|refine w_fieldA ?_)|((with_reducible apply w_load 0 H) ;rfl;rfl;rfl))
        refine w_upV keyN 4 H rfl M2 (by omega) λu5 es' cl' H5 hu5 M'=>?_
        clear H
        have H:=H5
        clear H5
        dsimp only[List.set_cons_zero,List.set_cons_succ] at H
        have M3:=M'.cg (g':=λy=>.bool (if y=m then true else sj.1.had y)) (λy=>by (try dsimp only);split<;>rfl)
        repeat' (first|(with_reducible first|refine w_jn ?_|refine w_cndF ?_|refine w_fieldA ?_|refine w_nil ?_|refine w_blind ?_)|((with_reducible apply w_build) ;rfl;(try dsimp only[splice,ev,cellsL,rep,List.cons_append,List.nil_append]))|((with_reducible refine w_neq_NN (λ_=>?_) (λ_=>?_))<;>first|(exfalso;omega)|skip)|((with_reducible apply w_loadsF 0 H) ;rfl;rfl;rfl)|((with_reducible apply w_load 1 H) ;rfl;rfl;rfl))
        refine w_mkrowL H rfl λu7 H7 hu7=>?_
        clear H
        have H:=H7
        clear H7
        refine w_appendB 4 0 H rfl rfl rfl rfl (by decide) (by omega) λv8 u8 H8 hn8=>?_
        clear H
        have H:=H8.tail
        clear H8
        dsimp only[List.set_cons_zero,List.set_cons_succ] at H
        repeat' (first|(with_reducible first|refine w_fieldA ?_|refine w_nil ?_)|((with_reducible refine w_bar ?_ ?_) ;omega))
        refine w_store1 1 H rfl (by show 7<9;decide) (oneC_of (H.ok _ (List.mem_of_getElem? (i:=3) rfl))) λu9 H9 hu9=>?_
        clear H
        have H:=H9.tail
        clear H9
        dsimp only[List.set_cons_zero,List.set_cons_succ] at H
        repeat' (first|((with_reducible first|refine w_bar ?_ ?_|refine w_add_NN ?_ ?_) ;omega))
        exact ih2 (r2-1) (by omega) (j+1) _ _ _ _ _ _ _ _ _ _ _ _ _ fl2 _ s v8 _ _ _ _ _ _ _ (by omega) ft (by omega) (by omega) M3 MN2 (by (try dsimp only);rw[GS_snoc];exact H)
       ·rw[hh,if_pos rfl] at ft
        repeat' (first|(with_reducible first|refine w_jn ?_|refine w_cndT ?_|refine w_fieldA ?_)|((with_reducible apply w_load 0 H) ;rfl;rfl;rfl))
        refine w_upV keyN 4 H rfl M2 (by omega) λu5 es' cl' H5 hu5 M'=>?_
        clear H
        have H:=H5
        clear H5
        dsimp only[List.set_cons_zero,List.set_cons_succ] at H
        have M3:=M'.cg (g':=λy=>.bool (if y=m then true else sj.1.had y)) (λy=>by (try dsimp only);split<;>rfl)
        repeat' (first|(with_reducible first|refine w_jn ?_|refine w_cndT ?_)|((with_reducible refine w_neq_NN (λ_=>?_) (λ_=>?_))<;>first|(exfalso;omega)|skip))
        refine w_tell ct H.tail (by rw[List.length_append];omega) λu9 fl fl2 s' H hu=>?_
        repeat' (first|((with_reducible refine w_add_NN ?_ ?_) ;omega))
        exact ih2 (r2-1) (by omega) (j+1) _ _ _ _ _ _ _ _ _ _ _ _ fl fl2 fl3 s' sg _ _ _ _ _ _ _ (by omega) ft (by omega) (by omega) M3 MN2 (by (try dsimp only);rw[←List.append_assoc];exact H)
      ·rw[if_neg (by simpa using t2)] at ft
       repeat' (first|(with_reducible first|refine w_jn ?_|refine w_cndF ?_|refine w_pickT ?_|refine w_fieldA ?_|refine w_nil ?_|refine w_blind ?_)|((with_reducible apply w_build) ;rfl;(try dsimp only[splice,ev,cellsL,rep,List.cons_append,List.nil_append]))|((with_reducible refine w_neq_NN (λ_=>?_) (λ_=>?_))<;>first|(exfalso;omega)|skip)|((with_reducible apply w_loadsF 0 H) ;rfl;rfl;rfl)|((with_reducible apply w_load 1 H) ;rfl;rfl;rfl))
       refine w_mkrowL H rfl λu7 H7 hu7=>?_
       clear H
       have H:=H7
       clear H7
       refine w_appendB 4 0 H rfl rfl rfl rfl (by decide) (by omega) λv8 u8 H8 hn8=>?_
       clear H
       have H:=H8.tail
       clear H8
       dsimp only[List.set_cons_zero,List.set_cons_succ] at H
       repeat' (first|(with_reducible first|refine w_fieldA ?_|refine w_nil ?_)|((with_reducible refine w_bar ?_ ?_) ;omega))
       refine w_store1 1 H rfl (by show 7<9;decide) (oneC_of (H.ok _ (List.mem_of_getElem? (i:=3) rfl))) λu9 H9 hu9=>?_
       clear H
       have H:=H9.tail
       clear H9
       dsimp only[List.set_cons_zero,List.set_cons_succ] at H
       repeat' (first|((with_reducible first|refine w_bar ?_ ?_|refine w_add_NN ?_ ?_) ;omega))
       exact ih2 (r2-1) (by omega) (j+1) _ _ _ _ _ _ _ _ _ _ _ _ _ fl2 _ s v8 _ _ _ _ _ _ _ (by omega) ft (by omega) (by omega) M2 MN2 (by (try dsimp only);rw[GS_snoc];exact H)
   ·rw[show j=L.length from by omega,←eL,List.take_length] at hsj
    exact ih (rr-1) (by omega) (n+1) _ _ _ _ _ _ _ _ _ _ _ _ _ _ _ _ _ _ _ fl fl2 fl3 s sg es c2 cl_ sj.1 (by omega) (by rw[sa,hsj]) (by omega) M2 (H.pick [0,1,2,3] (by decide) rfl)
 ·rw[show n=k from by omega] at hst
  subst hst
  exact slEnd B H
end Go.Proofs.YtjddgepodiabkaaGreatDoor.checkSpoils
