/- Contracts of functions, by the logic of residual programs. -/
import Derived.Test.YtjddgepodiabkaaGreatDoorCheckSpoilsC
namespace Go.Proofs.YtjddgepodiabkaaGreatDoor.checkSpoils
open Go Go.Gev
set_option linter.unusedVariables false
set_option linter.unusedSimpArgs false
def rcStep(D:Nat→Option Nd)(s:(Nat→Bool) × Bool)(x:Plc):(Nat→Bool) × Bool:=if s.1 x.1=true∧(D x.1).isSome=true∧s.1 x.2.2.1=false then (λy=>if y=x.2.2.1 then true else s.1 y,true) else s
def rcRound(D:Nat→Option Nd)(G:List Plc)(got:Nat→Bool):(Nat→Bool) × Bool:=G.foldl (rcStep D) (got,false)
def rcFin(D:Nat→Option Nd)(G:List Plc):Nat→(Nat→Bool)→(Nat→Bool)
 |0,got=>got
 |n+1,got=>if (rcRound D G got).2=true then rcFin D G n (rcRound D G got).1 else (rcRound D G got).1
def got0:Nat→Bool:=λy=>if y=2 then true else if y=1 then true else false
def rcAll(D:Nat→Option Nd)(G:List Plc):Nat→Bool:=rcFin D G 100 got0
def cntN(k:Nat)(got:Nat→Bool):Nat:=((List.range k).filter λy=>!got y).length
theorem cntN_le(k:Nat)(got:Nat→Bool):cntN k got≤k:=by
 have:=List.length_filter_le (λy=>!got y) (List.range k)
 rw[List.length_range] at this
 exact this
theorem cntN_set{k:Nat}{got:Nat→Bool}{m:Nat}(hm:m<k)(hg:got m=false):cntN k (λy=>if y=m then true else got y)<cntN k got:=by
 unfold cntN
 induction k with
 |zero=>omega
 | succ k ih =>
  rw[List.range_succ,List.filter_append,List.filter_append,List.length_append,List.length_append]
  by_cases e:m=k
  ·subst e
   have h1:((List.range m).filter λy=>!(if y=m then true else got y))=(List.range m).filter λy=>!got y:=by
    apply List.filter_congr
    intro y hy
    have:=List.mem_range.1 hy
    rw[if_neg (by omega)]
   rw[h1]
   simp[hg]
  ·have:=ih (by omega)
   have h1:([k].filter λy=>!(if y=m then true else got y)) = [k].filter λy=>!got y:=by
    apply List.filter_congr
    intro y hy
    rw[List.mem_singleton.1 hy,if_neg (λz=>e z.symm)]
   rw[h1]
   omega
theorem rc_cnt{D:Nat→Option Nd}{k:Nat}:∀(G:List Plc),(∀x∈G,x.2.2.1<k)→∀s:(Nat→Bool) × Bool,cntN k (G.foldl (rcStep D) s).1≤cntN k s.1∧((G.foldl (rcStep D) s).2=true→s.2=true∨cntN k (G.foldl (rcStep D) s).1<cntN k s.1):=by
 intro G
 induction G with
 |nil=>intro _ s;exact⟨Nat.le_refl _,λh=>.inl h⟩
 | cons x G ih =>
  intro hG s
  obtain⟨h1,h2⟩:=ih (λy hy=>hG y (List.mem_cons_of_mem _ hy)) (rcStep D s x)
  show cntN k (G.foldl (rcStep D) (rcStep D s x)).1≤_∧((G.foldl (rcStep D) (rcStep D s x)).2=true→_∨cntN k (G.foldl (rcStep D) (rcStep D s x)).1<_)
  by_cases q:s.1 x.1=true∧(D x.1).isSome=true∧s.1 x.2.2.1=false
  ·have e:rcStep D s x=(λy=>if y=x.2.2.1 then true else s.1 y,true):=if_pos q
   have lt:=cntN_set (hG x List.mem_cons_self) q.2.2
   rw[e] at h1 h2 ⊢
   exact⟨Nat.le_trans h1 (Nat.le_of_lt lt),λ_=>.inr (Nat.lt_of_le_of_lt h1 lt)⟩
  ·have e:rcStep D s x=s:=if_neg q
   rw[e] at h1 h2 ⊢
   exact⟨h1,h2⟩
def reachF(D:Nat→Option Nd)(got:Nat→Bool)(n:Nat):List Fnd:=(List.range n).flatMap λn=>if (D n).isSome=true∧got n=false then [(5,1,n,0)] else []
theorem reachF_succ(D:Nat→Option Nd)(got:Nat→Bool)(n:Nat):reachF D got (n+1)=reachF D got n++if (D n).isSome=true∧got n=false then [(5,1,n,0)] else []:=by unfold reachF;rw[List.range_succ,List.flatMap_append];simp
theorem one_len{p:Prop}[Decidable p](f:Fnd):(if p then [f] else []).length≤1:=by split<;>simp
theorem reachF_len(D:Nat→Option Nd)(got:Nat→Bool):∀n,(reachF D got n).length≤n:=by
 intro n
 induction n with
 |zero=>exact Nat.le_refl _
 |succ n ih=>
  rw[reachF_succ,List.length_append]
  have:=one_len (p:=(D n).isSome=true∧got n=false) (5,1,n,0)
  omega
theorem Plc_get{G:List Plc}{i:Nat}(h:i<G.length):(G.map plC)[i]?=some (plC G[i]):=by rw[List.getElem?_map,List.getElem?_eq_getElem h];rfl
theorem kreach_ok{R:RnK}{N:Nat}(hN:100000<N)(ct:CTell R){h:Hs}{p:Nat}{g:Geo}{sw sn ss sg so:Value}{l:List Fnd}{k:Nat}{D:Nat→Option Nd}{NS:List (List Value)}{G:List Plc}(B:LkAt h p g sw sn ss sg so l)(hl:l.length≤90000)(A:NdsAt h (p::idsOf so) sn ss k D NS)(k65:k≤65)
 (rg:Rd h sg 4 (G.map plC)) (xg:∀b,Th.id (.rsl sg 4 (G.map plC))=some b→b∉p::idsOf so) (gl:G.length≤90000) (gk:∀x∈G,x.1<k∧x.2.2.1<k) :
 WP (r29 R N [.pointer (some ⟨p,0,none⟩)] h) (QTell h p g sw sn ss sg so (l++reachF D (rcAll D G) k)):=by
 unfold r29
 have lk:(ones ((List.range k).map λn=>Value.bool (D n).isSome)).length=k:=by rw[ones_len,List.length_map,List.length_range]
 obtain⟨fl,fl2,H⟩:=B.enter
 refine w_unC ?_
 refine w_enK ?_
 refine w_mkmap H λu1 H1 hu1=>?_
 refine w_upV keyN 0 H1 rfl (MapV.nil kI (.bool false)) (by decide) λu2 es2 cl2 H2 hu2 M2=>?_
 refine w_upV keyN 0 H2 rfl M2 (by decide) λu3 es3 cl3 H3 hu3 M3=>?_
 clear H H1 H2 M2
 have M:=M3.cg (g':=λy=>.bool (got0 y)) (λy=>by unfold got0;(try dsimp only);split<;>(try split)<;>rfl)
 have H:=H3
 clear H3 M3
 dsimp only[List.set_cons_zero,List.set_cons_succ] at H
 clear hu3 hu2 hu1
 refine w_jn ?_
 have bk:=λy=>cntN_le k y
 refine lp_ind (Good:=λn (self:L8)=>∀(more:Bool)(y1 y2 y3 y4 y5 y6 y7:Value)(w:Hs)(got:Nat→Bool)(es:List MapEntry)(c cl:Nat),(more=true→cntN k got<n∧rcAll D G=rcFin D G n got)→(more=false→rcAll D G=got)→c+n*100000≤20000000→MapV kI (.bool false) (λy=>.bool (got y)) c es cl→Sto h (p::idsOf so) w [.blk h.nx (.mp es cl),.blk p (lkO fl g sw sn ss sg so),.osl so 37 4 fl2 l.length (Fc l)]→WP (self (.bool more) y1 y2 y3 y4 y5 y6 y7 w) (QTell h p g sw sn ss sg so (l++reachF D (rcAll D G) k)))
  (λn self ih more y1 y2 y3 y4 y5 y6 y7 w got es c cl hm1 hm2 hc M H1=>?_) N 100 (by omega) true _ _ _ _ _ _ _ _ got0 es3 2 cl3 (λ_=>⟨by have:=bk got0;omega,rfl⟩) (λe=>by cases e) (by decide) M H
 clear H
 have H:=H1
 clear H1
 cases more with
 | true =>
  obtain⟨hn,hf⟩:=hm1 rfl
  clear hm1 hm2
  obtain⟨n,rfl⟩:∃q,n=q+1:=⟨n-1,by omega⟩
  have rs:rcFin D G (n+1) got=if (rcRound D G got).2=true then rcFin D G n (rcRound D G got).1 else (rcRound D G got).1:=rfl
  have rcc:=rc_cnt (D:=D) (k:=k) G (λx hx=>(gk x hx).2) (got,false)
  rw[rs] at hf
  clear rs
  unfold rcRound at hf
  replace H:=H.addR rg xg
  replace H:=H.pick [2,3,1,0] (by decide) (m':=[.blk p (lkO fl g sw sn ss sg so),.osl so 37 4 fl2 l.length (Fc l),.blk h.nx (.mp es cl),.rsl sg 4 (G.map plC)]) rfl
  repeat' (first|(with_reducible first|refine w_jn ?_|refine w_cndT ?_|refine w_fieldA ?_|refine w_nil ?_)|((with_reducible apply w_load 0 H) ;rfl;rfl;rfl)|((with_reducible apply w_lenR 3 H) ;rfl))
  rw[List.length_map]
  refine lp_ind (Good:=λr2 (self2:L5)=>∀(j:Nat)(y3 y4 y5:Value)(w:Hs)(es:List MapEntry)(c2 cl:Nat)(st:(Nat→Bool) × Bool),j+r2=G.length→st=(G.take j).foldl (rcStep D) (got,false)→c2≤c+j→MapV kI (.bool false) (λy=>.bool (st.1 y)) c2 es cl→Sto h (p::idsOf so) w [.blk p (lkO fl g sw sn ss sg so),.osl so 37 4 fl2 l.length (Fc l),.blk h.nx (.mp es cl),.rsl sg 4 (G.map plC)]→WP (self2 (.bool st.2) (kI j) y3 y4 y5 w) (QTell h p g sw sn ss sg so (l++reachF D (rcAll D G) k)))
   (λr2 self2 ih2 j y3 y4 y5 w es c2 cl st hj hst hc2 M H1=>?_) N G.length (by omega) 0 _ _ _ _ es c cl (got,false) (by omega) rfl (by omega) M H
  clear H
  have H:=H1
  clear H1
  repeat' (first|(with_reducible first|refine w_jn ?_|refine w_cndT ?_|refine w_cndF ?_)|((with_reducible refine w_lss_NN (λ_=>?_) (λ_=>?_))<;>first|(exfalso;omega)|skip))
  ·have jj:j<G.length:=by omega
   have ft:=foldl_take (rcStep D) (got,false) G jj
   rw[←hst] at ft
   have gj:=gk _ (List.getElem_mem jj)
   refine w_at 3 H rfl (Plc_get jj) rfl rfl ?_
   generalize G[j]=x at *
   obtain⟨dir,at_,m,nm⟩:=x
   unfold plC
   dsimp only at gj ft ⊢
   obtain⟨gd,gm⟩:=gj
   repeat' (first|(with_reducible refine w_fieldA ?_)|((with_reducible refine w_alloc H ?_) ;(clear H;intro u H hu))|((with_reducible apply w_load 0 H) ;rfl;rfl;rfl)|((with_reducible apply w_storeV 0 H) ;rfl;rfl;rfl;omega;rfl;(clear H;intro u H hu;(try dsimp only[List.set_cons_zero,List.set_cons_succ,cellsL,List.toList_toArray,splice,ev,rep,List.cons_append,List.nil_append] at H))))
   refine w_lkV keyN 3 H rfl M ?_
   have e0:¬(st.1 dir=true∧(D dir).isSome=true∧st.1 m=false)→rcStep D st (dir,at_,m,nm)=st:=λq=>if_neg q
   have e1:(st.1 dir=true∧(D dir).isSome=true∧st.1 m=false)→rcStep D st (dir,at_,m,nm)=(λy=>if y=m then true else st.1 y,true):=λq=>if_pos q
   cases h1:st.1 dir with
   |false=>
    rw[e0 (λq=>by rw[h1] at q;cases q.1)] at ft
    repeat' (first|(with_reducible first|refine w_jn ?_|refine w_cndF ?_|refine w_gTf ?_|refine w_pickF ?_|refine w_blind ?_)|((with_reducible first|refine w_bar ?_ ?_|refine w_add_NN ?_ ?_) ;omega))
    exact ih2 (r2-1) (by omega) (j+1) _ _ _ _ es c2 cl st (by omega) ft.symm (by omega) M H.tail
   | true =>
    repeat' (first|(with_reducible first|refine w_gTt ?_|refine w_fieldA ?_|refine w_nil ?_)|((with_reducible refine w_bar ?_ ?_) ;omega)|((with_reducible apply w_load 0 H) ;rfl;rfl;rfl)|((with_reducible apply w_load 1 H) ;rfl;rfl;rfl))
    refine w_idxR 0 (H.addR A.rs A.xs) rfl (bools_get (f:=λn=>(D n).isSome) gd) λbq oq H1=>?_
    repeat' (first|(with_reducible refine w_gTt ?_))
    refine w_loadE0 0 H1 rfl rfl rfl ?_
    clear H1
    cases h2:(D dir).isSome with
    |false=>
     rw[e0 (λq=>by rw[h2] at q;cases q.2.1)] at ft
     repeat' (first|(with_reducible first|refine w_jn ?_|refine w_cndF ?_|refine w_gTf ?_|refine w_pickT ?_|refine w_pickF ?_|refine w_blind ?_)|((with_reducible refine w_add_NN ?_ ?_) ;omega))
     exact ih2 (r2-1) (by omega) (j+1) _ _ _ _ es c2 cl st (by omega) ft.symm (by omega) M H.tail
    | true =>
     repeat' (first|(with_reducible first|refine w_gTt ?_|refine w_pickT ?_|refine w_fieldA ?_|refine w_blind ?_)|((with_reducible apply w_load 0 H) ;rfl;rfl;rfl))
     refine w_lkV keyN 3 H rfl M ?_
     cases h3:st.1 m with
     |true=>
      rw[e0 (λq=>by rw[h3] at q;cases q.2.2)] at ft
      repeat' (first|(with_reducible first|refine w_jn ?_|refine w_cndF ?_|refine w_gTt ?_|refine w_pickT ?_|refine w_notT ?_|refine w_blind ?_)|((with_reducible first|refine w_bar ?_ ?_|refine w_add_NN ?_ ?_) ;omega))
      exact ih2 (r2-1) (by omega) (j+1) _ _ _ _ es c2 cl st (by omega) ft.symm (by omega) M H.tail
     |false=>
      rw[e1 ⟨h1,h2,h3⟩] at ft
      repeat' (first|(with_reducible first|refine w_jn ?_|refine w_cndT ?_|refine w_gTt ?_|refine w_pickT ?_|refine w_notF ?_|refine w_fieldA ?_|refine w_blind ?_)|((with_reducible refine w_bar ?_ ?_) ;omega)|((with_reducible apply w_load 0 H) ;rfl;rfl;rfl))
      refine w_upV keyN 3 H rfl M (by omega) λu4 es4 cl4 H4 hu4 M4=>?_
      clear H
      have H:=H4
      clear H4
      dsimp only[List.set_cons_zero,List.set_cons_succ] at H
      have M5:=M4.cg (g':=λy=>.bool (if y=m then true else st.1 y)) (λy=>by (try dsimp only);split<;>rfl)
      repeat' (first|((with_reducible refine w_add_NN ?_ ?_) ;omega))
      exact ih2 (r2-1) (by omega) (j+1) _ _ _ _ es4 (c2+1) cl4 (λy=>if y=m then true else st.1 y,true) (by omega) ft.symm (by omega) M5 H.tail
  ·rw[show j=G.length from by omega,List.take_length] at hst
   rw[←hst] at hf rcc
   replace H:=H.pick [2,0,1] (by decide) (m':=[.blk h.nx (.mp es cl),.blk p (lkO fl g sw sn ss sg so),.osl so 37 4 fl2 l.length (Fc l)]) rfl
   refine ih n (by omega) st.2 _ _ _ _ _ _ _ _ st.1 es c2 cl (λe=>?_) (λe=>?_) (by omega) M H
   ·rw[if_pos e] at hf
    refine⟨?_,hf⟩
    have:=(rcc.2 e).resolve_left (λz=>by cases z)
    show cntN k st.1<n
    have h9:cntN k st.1<cntN k got:=this
    omega
   ·rw[if_neg (by rw[e];exact Bool.false_ne_true)] at hf
    exact hf
 | false =>
  rw[←hm2 rfl] at M
  replace H:=H.addR A.rs A.xs
  replace H:=H.pick [2,3,1,0] (by decide) (m':=[.blk p (lkO fl g sw sn ss sg so),.osl so 37 4 fl2 l.length (Fc l),.blk h.nx (.mp es cl),.rsl ss 1 (ones ((List.range k).map λn=>.bool (D n).isSome))]) rfl
  repeat' (first|(with_reducible first|refine w_jn ?_|refine w_cndF ?_|refine w_fieldA ?_|refine w_nil ?_)|((with_reducible apply w_load 0 H) ;rfl;rfl;rfl)|((with_reducible apply w_lenR 3 H) ;rfl))
  rw[lk]
  refine lp_ind (Good:=λr2 (self2:L5)=>∀(n:Nat)(y2 y3 y4 y5:Value)(w:Hs)(fl fl2:Bool)(s:Value),n+r2=k→Sto h (p::idsOf so) w [.blk p (lkO fl g sw sn ss sg s),.osl s 37 4 fl2 (l++reachF D (rcAll D G) n).length (Fc (l++reachF D (rcAll D G) n)),.blk h.nx (.mp es cl),.rsl ss 1 (ones ((List.range k).map λn=>.bool (D n).isSome))]→WP (self2 (kI n) y2 y3 y4 y5 w) (QTell h p g sw sn ss sg so (l++reachF D (rcAll D G) k)))
   (λr2 self2 ih2 n y2 y3 y4 y5 w fl fl2 s hj H1=>?_) N k (by omega) 0 _ _ _ _ _ fl fl2 so (by omega) (by show Sto _ _ _ [_,.osl so _ _ _ (l ++ []).length (Fc (l ++ [])),_,_];rw[List.append_nil];exact H)
  clear H
  have H:=H1
  clear H1
  have rl:=reachF_len D (rcAll D G) n
  have rsu:=reachF_succ D (rcAll D G) n
  repeat' (first|(with_reducible first|refine w_jn ?_|refine w_cndT ?_|refine w_cndF ?_)|((with_reducible refine w_lss_NN (λ_=>?_) (λ_=>?_))<;>first|(exfalso;omega)|skip))
  ·have nk:n<k:=by omega
   refine w_at1 3 H rfl (bools_get (f:=λn=>(D n).isSome) nk) rfl rfl ?_
   cases h2:(D n).isSome with
   |false=>
    rw[if_neg (λq=>by rw[h2] at q;cases q.1),List.append_nil] at rsu
    repeat' (first|(with_reducible first|refine w_jn ?_|refine w_cndF ?_|refine w_gTf ?_|refine w_pickF ?_)|((with_reducible refine w_add_NN ?_ ?_) ;omega))
    exact ih2 (r2-1) (by omega) (n+1) _ _ _ _ _ fl fl2 s (by omega) (by rw[rsu];exact H)
   | true =>
    repeat' (first|(with_reducible refine w_gTt ?_))
    refine w_lkV keyN 2 H rfl M ?_
    cases h3:rcAll D G n with
    |true=>
     rw[if_neg (λq=>by rw[h3] at q;cases q.2),List.append_nil] at rsu
     repeat' (first|(with_reducible first|refine w_jn ?_|refine w_cndF ?_|refine w_gTt ?_|refine w_pickT ?_|refine w_notT ?_)|((with_reducible refine w_add_NN ?_ ?_) ;omega))
     exact ih2 (r2-1) (by omega) (n+1) _ _ _ _ _ fl fl2 s (by omega) (by rw[rsu];exact H)
    |false=>
     rw[if_pos ⟨h2,h3⟩] at rsu
     repeat' (first|(with_reducible first|refine w_jn ?_|refine w_cndT ?_|refine w_gTt ?_|refine w_pickT ?_|refine w_notF ?_))
     refine w_tell ct H (by rw[List.length_append];omega) λu' fl fl2 s' H hu=>?_
     repeat' (first|((with_reducible refine w_add_NN ?_ ?_) ;omega))
     exact ih2 (r2-1) (by omega) (n+1) _ _ _ _ _ fl fl2 s' (by omega) (by rw[rsu,←List.append_assoc];exact H)
  ·rw[show n=k from by omega] at H
   exact lkEnd B H
set_option linter.unusedSimpArgs false
theorem w_lkVL{α:Type}[DecidableEq α]{Q:Value→Hs→Prop}{h0 h:Hs}{S:List Nat}{m:List Th}{K:α→Value}{b:Bool}(hK:KeyK K b)(k:Nat){lm:List Bool}{hist:List (Option (Nat × Nat))}{g:α→Value}{n id cl:Nat}{es:List MapEntry}{a:α}{z:Value}{F:KV}(H:Sto h0 S h m)(hk:m[k]?=some (.blk id (.mp es cl)))(M:MapV K z g n es cl)(hq:id<h.nx→HidOk id hist)(w:WP (F (g a) h) Q) :
 WP (after (λv u=>dPut F v (dNext h u .light) (andB (dFit h u .light) (Nat.ble 0 u.lo))) (ret1 (dHidS .light lm hist h) (lk1 b (dHidS .light lm hist h) z false (K a) (.map (some id))))) Q:=by
 have hb:h.hp.get id=some (.mp es cl):=H.ok _ (List.mem_of_getElem? hk)
 have hb2:(dHidS .light lm hist h).hp.get id=some (.mp es cl):=(hideS_get _ _ _ _ (hq ((H.ids _ (List.mem_of_getElem? hk) id rfl).1))).trans hb
 obtain⟨f,M,e⟩:=M
 obtain⟨l,rfl,hl⟩:=M.ex
 obtain⟨r,h1,h2,_⟩:=findM_look hK a l 0
 have:lk1 b (dHidS .light lm hist h) z false (K a) (.map (some id))=some ((f a).getD z):=by
  show (match keyish b (K a) with|true=>lk2 z false (K a) ((dHidS .light lm hist h).hp.get id)|false=>none)=_
  rw[hK.ish,hb2]
  show Gev.lkO z false (findM (K a) (mkE K l) 0)=_
  rw[h1]
  show some (lkV z false r)=_
  rw[←hl a,←h2]
  cases r<;>rfl
 refine w_ret1 this ?_
 rw[e]
 exact w_lightH w
def lkCnt(G:List Plc):Nat→Nat:=G.foldl (λc x=>λy=>if y=x.2.2.1 then c x.2.2.1+1 else c y) (λ_=>0)
theorem lkCnt_succ{G:List Plc}{i:Nat}(h:i<G.length):lkCnt (G.take (i+1))=λy=>if y=G[i].2.2.1 then lkCnt (G.take i) G[i].2.2.1+1 else lkCnt (G.take i) y:=by unfold lkCnt;rw[foldl_take _ _ _ h]
theorem lkCnt_le:∀(n:Nat)(G:List Plc),G.length=n→∀y,lkCnt G y≤n:=by
 intro n
 induction n with
 |zero=>intro G h y;rw[List.eq_nil_of_length_eq_zero h];exact Nat.le_refl _
 | succ n ih =>
  intro G h y
  have e:G.take n ++ [G[n]]=G:=by
   have:=List.take_add_one (l:=G) (i:=n)
   rw[List.getElem?_eq_getElem (by omega),List.take_of_length_le (by omega)] at this
   exact this.symm
  have:=lkCnt_succ (G:=G) (i:=n) (by omega)
  rw[List.take_of_length_le (by omega)] at this
  rw[this]
  dsimp only
  have h1:=ih (G.take n) (by rw[List.length_take];omega)
  split
  ·have:=h1 G[n].2.2.1;omega
  ·have:=h1 y;omega
def linkF1(D:Nat→Option Nd)(c:Nat→Nat)(n:Nat):List Fnd:=match D n with
 |some d=>if d.ty≠2∧c n≠d.ln then [(6,1,n,c n)] else []
 |none=>[]
def linkF(D:Nat→Option Nd)(c:Nat→Nat)(n:Nat):List Fnd:=(List.range n).flatMap (linkF1 D c)
theorem linkF_succ(D:Nat→Option Nd)(c:Nat→Nat)(n:Nat):linkF D c (n+1)=linkF D c n++linkF1 D c n:=by unfold linkF;rw[List.range_succ,List.flatMap_append];simp
theorem linkF_len(D:Nat→Option Nd)(c:Nat→Nat):∀n,(linkF D c n).length≤n:=by
 intro n
 induction n with
 |zero=>exact Nat.le_refl _
 | succ n ih =>
  rw[linkF_succ,List.length_append]
  have:(linkF1 D c n).length≤1:=by
   unfold linkF1
   split
   ·exact one_len _
   ·exact Nat.zero_le _
  omega
theorem klinks_ok{R:RnK}{N:Nat}(hN:100000<N)(ct:CTell R){h:Hs}{p:Nat}{g:Geo}{sw sn ss sg so:Value}{l:List Fnd}{k:Nat}{D:Nat→Option Nd}{NS:List (List Value)}{G:List Plc}(B:LkAt h p g sw sn ss sg so l)(hl:l.length≤90000)(A:NdsAt h (p::idsOf so) sn ss k D NS)(k65:k≤65)
 (rg:Rd h sg 4 (G.map plC)) (xg:∀b,Th.id (.rsl sg 4 (G.map plC))=some b→b∉p::idsOf so) (gl:G.length≤90000) :
 WP (r30 R N [.pointer (some ⟨p,0,none⟩)] h) (QTell h p g sw sn ss sg so (l++linkF D (lkCnt G) k)):=by
 unfold r30
 have lk:(ones ((List.range k).map λn=>Value.bool (D n).isSome)).length=k:=by rw[ones_len,List.length_map,List.length_range]
 obtain⟨fl,fl2,H⟩:=B.enter
 refine w_unC ?_
 refine w_enK ?_
 refine w_mkmap H λu1 H1 hu1=>?_
 clear H
 have M0:MapV kI (kI 0) (λy=>kI (lkCnt (G.take 0) y)) 0 [] 0:=MapV.nil kI (kI 0)
 have H:=H1.addR rg xg
 clear H1 hu1
 replace H:=H.pick [2,3,1,0] (by decide) (m':=[.blk p (lkO fl g sw sn ss sg so),.osl so 37 4 fl2 l.length (Fc l),.blk h.nx (.mp [] 0),.rsl sg 4 (G.map plC)]) rfl
 repeat' (first|(with_reducible first|refine w_jn ?_|refine w_fieldA ?_|refine w_nil ?_)|((with_reducible apply w_load 0 H) ;rfl;rfl;rfl)|((with_reducible apply w_lenR 3 H) ;rfl))
 rw[List.length_map]
 refine lp_ind (Good:=λr2 (self2:L3)=>∀(j:Nat)(y2 y3:Value)(w:Hs)(es:List MapEntry)(cl:Nat),j+r2=G.length→MapV kI (kI 0) (λy=>kI (lkCnt (G.take j) y)) j es cl→Sto h (p::idsOf so) w [.blk p (lkO fl g sw sn ss sg so),.osl so 37 4 fl2 l.length (Fc l),.blk h.nx (.mp es cl),.rsl sg 4 (G.map plC)]→WP (self2 (kI j) y2 y3 w) (QTell h p g sw sn ss sg so (l++linkF D (lkCnt G) k)))
  (λr2 self2 ih2 j y2 y3 w es cl hj M H1=>?_) N G.length (by omega) 0 _ _ _ [] 0 (by omega) M0 H
 clear H M0
 have H:=H1
 clear H1
 repeat' (first|(with_reducible first|refine w_jn ?_|refine w_cndT ?_|refine w_cndF ?_|refine w_fieldA ?_|refine w_nil ?_)|((with_reducible refine w_lss_NN (λ_=>?_) (λ_=>?_))<;>first|(exfalso;omega)|skip)|((with_reducible apply w_load 0 H) ;rfl;rfl;rfl))
 ·have jj:j<G.length:=by omega
  have ls:=lkCnt_succ jj
  have lb:=lkCnt_le j (G.take j) (by rw[List.length_take];omega)
  refine w_at 3 H rfl (Plc_get jj) rfl rfl ?_
  generalize G[j]=x at *
  obtain⟨dir,at_,m,nm⟩:=x
  unfold plC
  dsimp only at ls ⊢
  have lbm:=lb m
  repeat' (first|(with_reducible refine w_fieldA ?_)|((with_reducible refine w_alloc H ?_) ;(clear H;intro u H hu))|((with_reducible apply w_load 0 H) ;rfl;rfl;rfl)|((with_reducible apply w_storeV 0 H) ;rfl;rfl;rfl;omega;rfl;(clear H;intro u H hu;(try dsimp only[List.set_cons_zero,List.set_cons_succ,cellsL,List.toList_toArray,splice,ev,rep,List.cons_append,List.nil_append] at H))))
  refine w_lkV keyN 3 H rfl M ?_
  repeat' (first|((with_reducible refine w_add_NN ?_ ?_) ;omega))
  refine w_upV keyN 3 H rfl M (by omega) λu4 es4 cl4 H4 hu4 M4=>?_
  clear H
  have H:=H4
  clear H4
  dsimp only[List.set_cons_zero,List.set_cons_succ] at H
  repeat' (first|((with_reducible refine w_add_NN ?_ ?_) ;omega))
  exact ih2 (r2-1) (by omega) (j+1) _ _ _ es4 cl4 (by omega) (M4.cg λy=>by rw[ls];dsimp only;split<;>rfl) H.tail
 ·rw [show j = G.length from by omega, List.take_length] at M
  have cle:=lkCnt_le _ G rfl
  replace H:=H.addR A.rs A.xs
  replace H:=H.pick [1,2,3,0] (by decide) (m':=[.blk p (lkO fl g sw sn ss sg so),.osl so 37 4 fl2 l.length (Fc l),.blk h.nx (.mp es cl),.rsl ss 1 (ones ((List.range k).map λn=>.bool (D n).isSome))]) rfl
  repeat' (first|(with_reducible refine w_jn ?_)|((with_reducible apply w_lenR 3 H) ;rfl))
  rw[lk]
  refine lp_ind (Good:=λr2 (self2:L5)=>∀(n:Nat)(y2 y3 y4 y5:Value)(w:Hs)(fl fl2:Bool)(s:Value),n+r2=k→Sto h (p::idsOf so) w [.blk p (lkO fl g sw sn ss sg s),.osl s 37 4 fl2 (l++linkF D (lkCnt G) n).length (Fc (l++linkF D (lkCnt G) n)),.blk h.nx (.mp es cl),.rsl ss 1 (ones ((List.range k).map λn=>.bool (D n).isSome))]→WP (self2 (kI n) y2 y3 y4 y5 w) (QTell h p g sw sn ss sg so (l++linkF D (lkCnt G) k)))
   (λr2 self2 ih2 n y2 y3 y4 y5 w fl fl2 s hj H1=>?_) N k (by omega) 0 _ _ _ _ _ fl fl2 so (by omega) (by show Sto _ _ _ [_,.osl so _ _ _ (l ++ []).length (Fc (l ++ [])),_,_];rw[List.append_nil];exact H)
  clear H
  have H:=H1
  clear H1
  have rl:=linkF_len D (lkCnt G) n
  have rsu:=linkF_succ D (lkCnt G) n
  have cn:=cle n
  repeat' (first|(with_reducible first|refine w_jn ?_|refine w_cndT ?_|refine w_cndF ?_)|((with_reducible refine w_lss_NN (λ_=>?_) (λ_=>?_))<;>first|(exfalso;omega)|skip))
  ·have nk:n<k:=by omega
   refine w_at1 3 H rfl (bools_get (f:=λn=>(D n).isSome) nk) rfl rfl ?_
   unfold linkF1 at rsu
   cases h2:(D n).isSome with
   | false =>
    have hd:D n=none:=by cases q:D n with
     |none=>rfl
     |some d=>rw[q] at h2;cases h2
    rw[hd] at rsu
    dsimp only at rsu
    rw[List.append_nil] at rsu
    repeat' (first|(with_reducible first|refine w_jn ?_|refine w_cndF ?_|refine w_gTf ?_|refine w_pickF ?_|refine w_blind ?_)|((with_reducible refine w_add_NN ?_ ?_) ;omega))
    exact ih2 (r2-1) (by omega) (n+1) _ _ _ _ _ fl fl2 s (by omega) (by rw[rsu];exact H)
   | true =>
    obtain⟨d,hd⟩:=Option.isSome_iff_exists.1 h2
    rw[hd] at rsu
    dsimp only at rsu
    obtain⟨dm,a,c0,g1,g2,_⟩:=A.nd n d nk hd
    repeat' (first|(with_reducible first|refine w_gTt ?_|refine w_fieldA ?_|refine w_nil ?_)|((with_reducible apply w_load 0 H) ;rfl;rfl;rfl))
    refine w_idxR 0 (H.addR A.rn A.xn) rfl g1 λbq oq H1=>?_
    repeat' (first|(with_reducible first|refine w_gTt ?_|refine w_fieldA ?_))
    refine w_loadE (j:=0) 0 H1 rfl rfl rfl ?_
    refine w_gTt ?_
    refine w_neq_NN (λt2=>?_) (λt2=>?_)
    ·clear H1
     rw[if_neg (λq=>q.1 t2),List.append_nil] at rsu
     repeat' (first|(with_reducible first|refine w_jn ?_|refine w_cndF ?_|refine w_gTf ?_|refine w_pickT ?_|refine w_pickF ?_|refine w_blind ?_)|((with_reducible refine w_add_NN ?_ ?_) ;omega))
     exact ih2 (r2-1) (by omega) (n+1) _ _ _ _ _ fl fl2 s (by omega) (by rw[rsu];exact H)
    ·clear H1
     repeat' (first|(with_reducible first|refine w_gTt ?_|refine w_pickT ?_|refine w_blind ?_))
     refine w_lkVL keyN 2 H rfl M (by intro _;simp only[HidOk,and_true];omega) ?_
     repeat' (first|(with_reducible first|refine w_gTt ?_|refine w_fieldA ?_|refine w_nil ?_)|((with_reducible apply w_loadD 0 H) ;rfl;rfl;(intro _;simp only[HidOk,and_true];omega)))
     refine w_idxR 0 (H.addR A.rn A.xn) rfl g1 λbq oq H1=>?_
     have hbq:=(H1.ids _ (List.mem_of_getElem? (i:=0) rfl) bq rfl).1
     repeat' (first|(with_reducible first|refine w_gTt ?_|refine w_fieldA ?_))
     refine w_loadE (j:=1) 0 H1 rfl (hideS_get _ _ _ _ (by simp only[HidOk,and_true];omega)) rfl ?_
     clear H1
     refine w_gTt ?_
     refine w_neq_NN (λt3=>?_) (λt3=>?_)
     ·rw[if_neg (λq=>q.2 t3),List.append_nil] at rsu
      repeat' (first|(with_reducible first|refine w_jn ?_|refine w_cndF ?_|refine w_pickT ?_|refine w_blind ?_)|((with_reducible refine w_add_NN ?_ ?_) ;omega))
      exact ih2 (r2-1) (by omega) (n+1) _ _ _ _ _ fl fl2 s (by omega) (by rw[rsu];exact H)
     ·rw[if_pos ⟨t2,t3⟩] at rsu
      repeat' (first|(with_reducible first|refine w_jn ?_|refine w_cndT ?_|refine w_pickT ?_|refine w_blind ?_))
      refine w_lkV keyN 2 H rfl M ?_
      refine w_tell ct H (by rw[List.length_append];omega) λu' fl fl2 s' H hu=>?_
      repeat' (first|((with_reducible refine w_add_NN ?_ ?_) ;omega))
      exact ih2 (r2-1) (by omega) (n+1) _ _ _ _ _ fl fl2 s' (by omega) (by rw[rsu,←List.append_assoc];exact H)
  ·rw[show n=k from by omega] at H
   exact lkEnd B H
set_option linter.unusedSimpArgs false
def usedN(D:Nat→Option Nd)(n:Nat)(b:Nat):Bool:=(List.range n).any λm=>decide (b∈blkN (D m))
theorem usedN_succ(D:Nat→Option Nd)(n b:Nat):usedN D (n+1) b=(usedN D n b||decide (b∈blkN (D n))):=by unfold usedN;rw[List.range_succ,List.any_append];simp
def wantB(g:Geo)(u:Nat→Bool)(i:Nat):Bool:=decide (i<g.dataAt)||decide (g.dataAt+g.dataN≤i)||u i
def takF1(g:Geo)(bw:List Nat)(u:Nat→Bool)(i:Nat):List Fnd:=
 if g.b≤i then (if hasBit bw i=true then [(7,2,i,0)] else [])
 else if hasBit bw i=wantB g u i then [] else if wantB g u i=true then [(7,1,i,1)] else [(7,1,i,0)]
def takF(g:Geo)(bw:List Nat)(u:Nat→Bool)(n:Nat):List Fnd:=(List.range n).flatMap (takF1 g bw u)
theorem takF_succ(g:Geo)(bw:List Nat)(u:Nat→Bool)(n:Nat):takF g bw u (n+1)=takF g bw u n++takF1 g bw u n:=by unfold takF;rw[List.range_succ,List.flatMap_append];simp
theorem takF_len(g:Geo)(bw:List Nat)(u:Nat→Bool):∀n,(takF g bw u n).length≤n:=by
 intro n
 induction n with
 |zero=>exact Nat.le_refl _
 | succ n ih =>
  rw[takF_succ,List.length_append]
  have:(takF1 g bw u n).length≤1:=by
   unfold takF1
   split
   ·exact one_len _
   ·split
    ·exact Nat.zero_le _
    ·split<;>simp
  omega
theorem mem_take_succ{L:List Nat}{j:Nat}(h:j<L.length)(y:Nat):decide (y∈L.take (j+1))=(decide (y∈L.take j)||decide (y=L[j])):=by
 have e:L.take (j+1)=L.take j ++ [L[j]]:=by rw[List.take_add_one,List.getElem?_eq_getElem h];rfl
 have q:y∈L.take (j+1)↔(y∈L.take j∨y=L[j]):=by rw[e,List.mem_append,List.mem_singleton]
 rw[decide_eq_decide.2 q,Bool.decide_or]
theorem ktaken_ok{R:RnK}{N:Nat}(hN:100000<N)(ck:CKBlocks R)(ct:CTell R)(cd:CDataF R)(ci:CImgBits R)(ch:CHas R){h:Hs}{p:Nat}{g:Geo}{sw sn ss sg so:Value}{l:List Fnd}{k:Nat}{D:Nat→Option Nd}{NS:List (List Value)}{W:List Nat}(B:LkAt h p g sw sn ss sg so l)(hl:l.length≤90000)(A:NdsAt h (p::idsOf so) sn ss k D NS)(dk:DOk g k D)
 (hW:W.length=8*g.b) (sm:Small W) (r:Rd h sw 1 (Wl W)) (rx:∀b,Th.id (.rsl sw 1 (Wl W))=some b→b∉p::idsOf so) :
 WP (r31 R N [.pointer (some ⟨p,0,none⟩)] h) (QTell h p g sw sn ss sg so (l++takF g (bitsW g W) (usedN D k) (512*g.bitsN))):=by
 unfold r31
 have k65:=dk.k1
 have x:=dk.x
 have gb2:=x.1.b2
 have gnum:=x.1.num
 have h3:=x.2
 have cdg:=cd g
 have cig:=ci g W sw
 unfold Geo.v at cdg
 unfold imgV at cig
 have lk:(ones ((List.range k).map λn=>Value.bool (D n).isSome)).length=k:=by rw[ones_len,List.length_map,List.length_range]
 obtain⟨fl,fl2,H⟩:=B.enter
 repeat' (first|(refine w_callE (cdg _ x) ?_)|(with_reducible first|refine w_unC ?_|refine w_enK ?_|refine w_fieldA ?_|refine w_nil ?_)|((with_reducible apply w_extr) ;rfl)|((with_reducible apply w_loads 0 H) ;rfl;rfl;rfl;rfl;(try dsimp only[List.drop_zero,List.drop_succ_cons,List.take_succ_cons,List.take_zero])))
 refine w_mkmap H λu1 H1 hu1=>?_
 have M0:MapV kI (.bool false) (λy=>.bool (usedN D 0 y)) 0 [] 0:=MapV.nil kI (.bool false)
 clear H
 have H:=H1.addR A.rs A.xs
 clear H1 hu1
 replace H:=H.pick [2,3,1,0] (by decide) (m':=[.blk p (lkO fl g sw sn ss sg so),.osl so 37 4 fl2 l.length (Fc l),.blk h.nx (.mp [] 0),.rsl ss 1 (ones ((List.range k).map λn=>.bool (D n).isSome))]) rfl
 repeat' (first|(with_reducible first|refine w_jn ?_|refine w_fieldA ?_|refine w_nil ?_)|((with_reducible apply w_load 0 H) ;rfl;rfl;rfl)|((with_reducible apply w_lenR 3 H) ;rfl))
 rw[lk]
 refine lp_ind (Good:=λr2 (self2:L8)=>∀(n:Nat)(y2 y3 y4 y5 y6 y7 y8:Value)(w:Hs)(es:List MapEntry)(c cl:Nat),n+r2=k→c≤n*2000→MapV kI (.bool false) (λy=>.bool (usedN D n y)) c es cl→Sto h (p::idsOf so) w [.blk p (lkO fl g sw sn ss sg so),.osl so 37 4 fl2 l.length (Fc l),.blk h.nx (.mp es cl)]→WP (self2 (kI n) y2 y3 y4 y5 y6 y7 y8 w) (QTell h p g sw sn ss sg so (l++takF g (bitsW g W) (usedN D k) (512*g.bitsN))))
  (λr2 self2 ih2 n y2 y3 y4 y5 y6 y7 y8 w es c cl hj hc M H1=>?_) N k (by omega) 0 _ _ _ _ _ _ _ _ [] 0 0 (by omega) (by omega) M0 (H.pick [0,1,2] (by decide) rfl)
 clear H M0
 have H:=H1
 clear H1
 repeat' (first|(with_reducible first|refine w_jn ?_|refine w_cndT ?_|refine w_cndF ?_|refine w_fieldA ?_|refine w_nil ?_)|((with_reducible refine w_lss_NN (λ_=>?_) (λ_=>?_))<;>first|(exfalso;omega)|skip)|((with_reducible apply w_loads 0 H) ;rfl;rfl;rfl;rfl;(try dsimp only[List.drop_zero,List.drop_succ_cons,List.take_succ_cons,List.take_zero])))
 ·have nk:n<k:=by omega
  have us:=usedN_succ D n
  refine w_call (ck w (p::idsOf so) p g sw sn ss sg so l k D NS n (LkAt.of H) (H.nds A) nk (λd hd=>dk.runs nk hd)) λv1 u1 n1=>?_
  replace H:=H.call n1
  replace H:=H.pick [1,2,3,0] (by decide) (m':=[.blk p (lkO fl g sw sn ss sg so),.osl so 37 4 fl2 l.length (Fc l),.blk h.nx (.mp es cl),ON v1 (blkN (D n))]) rfl
  have bb:=dk.blk nk
  generalize blkN (D n)=L at *
  repeat' (first|(with_reducible refine w_jn ?_)|((with_reducible apply w_lenO 3 H) ;rfl))
  refine lp_ind (Good:=λr3 (self3:L3)=>∀(j:Nat)(y2 y3:Value)(w:Hs)(es:List MapEntry)(c3 cl:Nat),j+r3=L.length→c3≤c+j→MapV kI (.bool false) (λy=>.bool (usedN D n y||decide (y∈L.take j))) c3 es cl→Sto h (p::idsOf so) w [.blk p (lkO fl g sw sn ss sg so),.osl so 37 4 fl2 l.length (Fc l),.blk h.nx (.mp es cl),ON v1 L]→WP (self3 (kI j) y2 y3 w) (QTell h p g sw sn ss sg so (l++takF g (bitsW g W) (usedN D k) (512*g.bitsN))))
   (λr3 self3 ih3 j y2 y3 w es c3 cl hj3 hc3 M H1=>?_) N L.length (by omega) 0 _ _ _ es c cl (by omega) (by omega) (M.cg λy=>by simp) H
  clear H
  have H:=H1
  clear H1
  repeat' (first|(with_reducible first|refine w_jn ?_|refine w_cndT ?_|refine w_cndF ?_)|((with_reducible refine w_lss_NN (λ_=>?_) (λ_=>?_))<;>first|(exfalso;omega)|skip)|((with_reducible refine w_add_NN ?_ ?_) ;omega))
  ·have jj:j<L.length:=by omega
   refine w_atO 3 H rfl (Nv_get0 jj) rfl ?_
   refine w_upV keyN 2 H rfl M (Nat.lt_of_le_of_lt hc3 (Nat.lt_of_le_of_lt (Nat.add_le_add hc (Nat.le_of_lt jj)) (by omega))) λu5 es' cl' H5 hu5 M'=>?_
   clear H
   have H:=H5
   clear H5
   dsimp only[List.set_cons_zero,List.set_cons_succ] at H
   repeat' (first|((with_reducible refine w_add_NN ?_ ?_) ;omega))
   refine ih3 (r3-1) (by omega) (j+1) _ _ _ es' (c3+1) cl' (by omega) (by omega) (M'.cg λy=>?_) H
   rw[mem_take_succ jj]
   by_cases q:y=L[j]
   ·rw[if_pos q,decide_eq_true q,Bool.or_true,Bool.or_true]
   ·rw[if_neg q,decide_eq_false q,Bool.or_false]
  ·rw[show j=L.length from by omega,List.take_length] at M
   exact ih2 (r2-1) (by omega) (n+1) _ _ _ _ _ _ _ _ es c3 cl (by omega) (by omega) (M.cg λy=>by rw[us]) (H.pick [0,1,2] (by decide) rfl)
 ·rw [show n = k from by omega] at M
  skip
  refine w_call (cig _ x hW ((H.addR r rx).rd 0 rfl)) λv1 u1 hv=>?_
  obtain⟨sb,rfl,n1⟩:=hv
  replace n1:New _ u1 (OW sb (bitsW g W)):=n1
  obtain⟨ab,cb_,rfl⟩:=n1.2.1.form
  replace n1:=n1.ones
  rw[←Wl_ones] at n1
  replace H:=H.call n1
  have bwl:(bitsW g W).length=8*g.bitsN:=by unfold bitsW;rw[List.length_take,List.length_drop];omega
  have bsm:Small (bitsW g W):=(sm.drop _).take _
  have bwL:=Wl_len (bitsW g W)
  generalize bitsW g W=bw at *
  clear n1
  repeat' (first|(with_reducible first|refine w_jn ?_|refine w_fieldA ?_|refine w_lenV ?_|refine w_st1A ?_)|((with_reducible refine w_alloc H ?_) ;(clear H;intro u H hu))|((with_reducible refine w_mul_NN ?_ ?_) ;omega)|((with_reducible apply w_load 0 H) ;rfl;rfl;rfl)|((with_reducible apply w_storeV 0 H) ;rfl;rfl;rfl;omega;rfl;(clear H;intro u H hu;(try dsimp only[List.set_cons_zero,List.set_cons_succ,cellsL,List.toList_toArray,splice,ev,rep,List.cons_append,List.nil_append] at H))))
  rw[show 64*bw.length=512*g.bitsN from by omega]
  refine lp_ind (Good:=λr2 (self2:L8)=>∀(i:Nat)(y2 y3 y4 y5 y6 y7 y8:Value)(w:Hs)(fl fl2 fl9:Bool)(s:Value),i+r2=512*g.bitsN→Sto h (p::idsOf so) w [.blk p (lkO fl g sw sn ss sg s),.osl s 37 4 fl2 (l++takF g bw (usedN D k) i).length (Fc (l++takF g bw (usedN D k) i)),.blk h.nx (.mp es cl),.blk u1.nx (.row 57 0 true fl9 [.slice ab bw.length cb_]),.rsl (.slice ab bw.length cb_) 1 (Wl bw)]→WP (self2 (kI i) y2 y3 y4 y5 y6 y7 y8 w) (QTell h p g sw sn ss sg so (l++takF g bw (usedN D k) (512*g.bitsN))))
   (λr2 self2 ih2 i y2 y3 y4 y5 y6 y7 y8 w fl fl2 fl9 s hj H1=>?_) N (512*g.bitsN) (by omega) 0 _ _ _ _ _ _ _ _ fl fl2 _ so (by omega) (by show Sto _ _ _ [_,.osl so _ _ _ (l ++ []).length (Fc (l ++ [])),_,_,_];rw[List.append_nil];exact H.pick [2,3,4,0,1] (by decide) rfl)
  clear H
  have H:=H1
  clear H1
  have rl:=takF_len g bw (usedN D k) i
  have rsu:=takF_succ g bw (usedN D k) i
  have wb:wantB g (usedN D k) i=(decide (i<g.dataAt)||decide (g.dataAt+g.dataN≤i)||usedN D k i):=rfl
  have gdn:g.dataN=g.b-1-g.dataAt:=rfl
  unfold takF1 at rsu
  repeat' (first|(with_reducible first|refine w_jn ?_|refine w_cndT ?_|refine w_cndF ?_|refine w_gFt ?_|refine w_gFf ?_|refine w_pickT ?_|refine w_pickF ?_|refine w_fieldA ?_|refine w_nil ?_)|((with_reducible first|refine w_lss_NN (λ_=>?_) (λ_=>?_)|refine w_geq_NN (λ_=>?_) (λ_=>?_))<;>first|(exfalso;omega)|skip)|((with_reducible refine w_add_NN ?_ ?_) ;omega)|((with_reducible apply w_load 0 H) ;rfl;rfl;rfl)|((with_reducible apply w_loadsF 3 H) ;rfl;rfl;rfl))
  rotate_left 3
  ·cases hu:usedN D k i with
   | true =>
    have w1:wantB g (usedN D k) i=true:=by rw[wb,hu,Bool.or_true]
    rw[w1] at rsu
    refine w_lkV keyN 2 H rfl M ?_
    rw[hu]
    repeat' (first|(with_reducible first|refine w_jn ?_|refine w_cndF ?_|refine w_pickF ?_|refine w_fieldA ?_|refine w_nil ?_)|((with_reducible refine w_geq_NN (λ_=>?_) (λ_=>?_))<;>first|(exfalso;omega)|skip)|((with_reducible apply w_load 0 H) ;rfl;rfl;rfl)|((with_reducible apply w_loadsF 3 H) ;rfl;rfl;rfl))
    all_goals (
     cases hb:hasBit bw i
     all_goals (
      have chb:=λu z=>ch bw i (.slice ab bw.length cb_) u bsm (by omega) (by omega) z
      rw[hb] at chb rsu
      repeat' (first|(refine w_callE (chb _ (H.rd 4 rfl)) ?_)|((with_reducible refine w_ob (v:=Value.bool true) ?_ ?_);rfl;skip)|((with_reducible refine w_ob (v:=Value.bool false) ?_ ?_);rfl;skip)|((with_reducible refine w_tell ct H (by rw[List.length_append];omega) ?_);clear H;intro u' fl fl2 s' H hu')|(with_reducible first|refine w_jn ?_|refine w_cndT ?_|refine w_cndF ?_|refine w_gTt ?_|refine w_gTf ?_|refine w_pickT ?_|refine w_pickF ?_)|((with_reducible refine w_add_NN ?_ ?_) ;omega)|((with_reducible apply w_loadsF 3 H) ;rfl;rfl;rfl))
      first|rw[if_pos ‹g.b≤i›] at rsu|rw[if_neg ‹¬g.b≤i›] at rsu
      simp only[if_true,if_false,List.append_nil,Bool.false_eq_true,reduceCtorEq,not_true_eq_false,not_false_eq_true] at rsu
      exact ih2 (r2-1) (by omega) (i+1) _ _ _ _ _ _ _ _ _ _ _ _ (by omega) (by rw[rsu];(try rw[←List.append_assoc]);exact H)))
   | false =>
    have w1:wantB g (usedN D k) i=false:=by rw[wb,hu,decide_eq_false ‹_›,decide_eq_false ‹_›];rfl
    rw[w1] at rsu
    refine w_lkV keyN 2 H rfl M ?_
    rw[hu]
    repeat' (first|(with_reducible first|refine w_jn ?_|refine w_cndF ?_|refine w_pickF ?_|refine w_fieldA ?_|refine w_nil ?_)|((with_reducible refine w_geq_NN (λ_=>?_) (λ_=>?_))<;>first|(exfalso;omega)|skip)|((with_reducible apply w_load 0 H) ;rfl;rfl;rfl)|((with_reducible apply w_loadsF 3 H) ;rfl;rfl;rfl))
    all_goals (
     cases hb:hasBit bw i
     all_goals (
      have chb:=λu z=>ch bw i (.slice ab bw.length cb_) u bsm (by omega) (by omega) z
      rw[hb] at chb rsu
      repeat' (first|(refine w_callE (chb _ (H.rd 4 rfl)) ?_)|((with_reducible refine w_ob (v:=Value.bool true) ?_ ?_);rfl;skip)|((with_reducible refine w_ob (v:=Value.bool false) ?_ ?_);rfl;skip)|((with_reducible refine w_tell ct H (by rw[List.length_append];omega) ?_);clear H;intro u' fl fl2 s' H hu')|(with_reducible first|refine w_jn ?_|refine w_cndT ?_|refine w_cndF ?_|refine w_gTt ?_|refine w_gTf ?_|refine w_pickT ?_|refine w_pickF ?_)|((with_reducible refine w_add_NN ?_ ?_) ;omega)|((with_reducible apply w_loadsF 3 H) ;rfl;rfl;rfl))
      first|rw[if_pos ‹g.b≤i›] at rsu|rw[if_neg ‹¬g.b≤i›] at rsu
      simp only[if_true,if_false,List.append_nil,Bool.false_eq_true,reduceCtorEq,not_true_eq_false,not_false_eq_true] at rsu
      exact ih2 (r2-1) (by omega) (i+1) _ _ _ _ _ _ _ _ _ _ _ _ (by omega) (by rw[rsu];(try rw[←List.append_assoc]);exact H)))
  ·rw[show i=512*g.bitsN from by omega] at H
   exact lkEnd B H
  ·have w1:wantB g (usedN D k) i=true:=by rw[wb,decide_eq_true ‹i<g.dataAt›];rfl
   rw[w1] at rsu
   all_goals (
    cases hb:hasBit bw i
    all_goals (
     have chb:=λu z=>ch bw i (.slice ab bw.length cb_) u bsm (by omega) (by omega) z
     rw[hb] at chb rsu
     repeat' (first|(refine w_callE (chb _ (H.rd 4 rfl)) ?_)|((with_reducible refine w_ob (v:=Value.bool true) ?_ ?_);rfl;skip)|((with_reducible refine w_ob (v:=Value.bool false) ?_ ?_);rfl;skip)|((with_reducible refine w_tell ct H (by rw[List.length_append];omega) ?_);clear H;intro u' fl fl2 s' H hu')|(with_reducible first|refine w_jn ?_|refine w_cndT ?_|refine w_cndF ?_|refine w_gTt ?_|refine w_gTf ?_|refine w_pickT ?_|refine w_pickF ?_)|((with_reducible refine w_add_NN ?_ ?_) ;omega)|((with_reducible apply w_loadsF 3 H) ;rfl;rfl;rfl))
     first|rw[if_pos ‹g.b≤i›] at rsu|rw[if_neg ‹¬g.b≤i›] at rsu
     simp only[if_true,if_false,List.append_nil,Bool.false_eq_true,reduceCtorEq,not_true_eq_false,not_false_eq_true] at rsu
     exact ih2 (r2-1) (by omega) (i+1) _ _ _ _ _ _ _ _ _ _ _ _ (by omega) (by rw[rsu];(try rw[←List.append_assoc]);exact H)))
  ·have w1:wantB g (usedN D k) i=true:=by rw[wb,decide_eq_true ‹g.dataAt+g.dataN≤i›,Bool.or_true];rfl
   rw[w1] at rsu
   all_goals (
    cases hb:hasBit bw i
    all_goals (
     have chb:=λu z=>ch bw i (.slice ab bw.length cb_) u bsm (by omega) (by omega) z
     rw[hb] at chb rsu
     repeat' (first|(refine w_callE (chb _ (H.rd 4 rfl)) ?_)|((with_reducible refine w_tell ct H (by rw[List.length_append];omega) ?_);clear H;intro u' fl fl2 s' H hu')|(with_reducible first|refine w_jn ?_|refine w_cndT ?_|refine w_cndF ?_)|((with_reducible refine w_add_NN ?_ ?_) ;omega))
     first|rw[if_pos ‹g.b≤i›] at rsu|rw[if_neg ‹¬g.b≤i›] at rsu
     simp only[if_true,if_false,List.append_nil,Bool.false_eq_true,reduceCtorEq,not_true_eq_false,not_false_eq_true] at rsu
     exact ih2 (r2-1) (by omega) (i+1) _ _ _ _ _ _ _ _ _ _ _ _ (by omega) (by rw[rsu];(try rw[←List.append_assoc]);exact H)))
  ·have w1:wantB g (usedN D k) i=true:=by rw[wb,decide_eq_true ‹g.dataAt+g.dataN≤i›,Bool.or_true];rfl
   rw[w1] at rsu
   all_goals (
    cases hb:hasBit bw i
    all_goals (
     have chb:=λu z=>ch bw i (.slice ab bw.length cb_) u bsm (by omega) (by omega) z
     rw[hb] at chb rsu
     repeat' (first|(refine w_callE (chb _ (H.rd 4 rfl)) ?_)|((with_reducible refine w_ob (v:=Value.bool true) ?_ ?_);rfl;skip)|((with_reducible refine w_ob (v:=Value.bool false) ?_ ?_);rfl;skip)|((with_reducible refine w_tell ct H (by rw[List.length_append];omega) ?_);clear H;intro u' fl fl2 s' H hu')|(with_reducible first|refine w_jn ?_|refine w_cndT ?_|refine w_cndF ?_|refine w_gTt ?_|refine w_gTf ?_|refine w_pickT ?_|refine w_pickF ?_)|((with_reducible refine w_add_NN ?_ ?_) ;omega)|((with_reducible apply w_loadsF 3 H) ;rfl;rfl;rfl))
     first|rw[if_pos ‹g.b≤i›] at rsu|rw[if_neg ‹¬g.b≤i›] at rsu
     simp only[if_true,if_false,List.append_nil,Bool.false_eq_true,reduceCtorEq,not_true_eq_false,not_false_eq_true] at rsu
     exact ih2 (r2-1) (by omega) (i+1) _ _ _ _ _ _ _ _ _ _ _ _ (by omega) (by rw[rsu];(try rw[←List.append_assoc]);exact H)))
set_option linter.unusedSimpArgs false
def lenT:List UInt8:=[0,1,2,2,3,3,3,3,4,4,4,4,4,4,4,4,5,5,5,5,5,5,5,5,5,5,5,5,5,5,5,5,6,6,6,6,6,6,6,6,6,6,6,6,6,6,6,6,6,6,6,6,6,6,6,6,6,6,6,6,6,6,6,6]++List.replicate 64 7++List.replicate 128 8
theorem lenT_pos:∀n,n<256→1≤n→1≤(lenT.getD n 0).toNat:=by decide +kernel
theorem lenT_le:∀n,n<256→(lenT.getD n 0).toNat≤8:=by decide +kernel
theorem w_idxLen{Q:Value→Hs→Prop}{s:ByteArray}{k:Nat}{en:En}{h:Hs}{K:KV}(hs:s=⟨lenT.toArray⟩)(hk:k<256)(w:WP (K (.int .u8 (.ofNat (lenT.getD k 0).toNat)) h) Q):WP (after K (oIdxS (.c (.string s)) (.c (.int .u8 (.ofNat k))) en h)) Q:=by
 subst hs
 have lt:lenT.length=256:=by decide +kernel
 have e:lenT[k]'(by omega)=lenT.getD k 0:=by rw[List.getD_eq_getElem?_getD,List.getElem?_eq_getElem (by omega)];rfl
 rw[←e] at w
 exact w_idxSt (D:=lenT) (j:=k) (by omega) w
def CLen64(R:RnK):Prop:=∀(n:Nat)(h:Hs),n<1000000→WP (R 81 [.int .u64 (.ofNat n)] h) λr u=>u=h∧∃k,r=kI k∧(1≤n→1≤k)∧k≤100
theorem len64_ok{R:RnK}{N:Nat}{n:Nat}{h:Hs}(h2:n<1000000):WP (r81 R N [.int .u64 (.ofNat n)] h) λr u=>u=h∧∃k,r=kI k∧(1≤n→1≤k)∧k≤100:=by
 unfold r81
 have H:=Sto.enter h
 have lt:lenT.length=256:=by decide +kernel
 have tb:∀(k c:Nat)(s:ByteArray),s=⟨lenT.toArray⟩→k<256→c≤50→∀Q:Value→Hs→Prop,(∀d,(1≤k∨1≤c→1≤d)→d≤100→Q (kI d) h)→WP (kTo8 (.int .u64 (.ofNat k)) λx15=>after (λx16 h17=>kTo64 x16 λx18=>kI64 BinOp.add (kI c) x18 λx19=>clrK h x19 h17) (oIdxS (.c (.string s)) (.c x15) enE ⟨h.hp,h.nx,h.nx⟩)) Q:=λk c s hs hk h2 Q hq=>by
  refine w_to8 ?_
  rw[Nat.mod_eq_of_lt hk]
  refine w_idxLen hs hk ?_
  have p1:=lenT_pos k hk
  have p2:=lenT_le k hk
  generalize (lenT.getD k 0).toNat=t at *
  repeat' (first|((with_reducible first|refine w_add_NN ?_ ?_|refine w_to64 ?_ ?_) ;omega))
  exact w_clr H rfl (hq _ (by omega) (by omega))
 repeat' (first|(with_reducible first|refine w_jn ?_|refine w_cndT ?_|refine w_cndF ?_|refine w_unC ?_|refine w_enK ?_)|((with_reducible refine w_ugeq (λ_=>?_) (λ_=>?_))<;>first|(exfalso;omega)|skip)|((with_reducible first|refine w_add_NN ?_ ?_|refine w_shr ?_ ?_) ;omega))
 all_goals (refine tb _ _ _ ?_ (by omega) (by omega) _ (λd h1 h2=>⟨rfl,d,rfl,λ_=>h1 (by omega),h2⟩))
 all_goals kernel_rfl
def CLen(R:RnK):Prop:=∀(n:Nat)(h:Hs),n<1000000→WP (R 56 [.int .u64 (.ofNat n)] h) λr u=>u=h∧∃k,r=kI k∧(1≤n→1≤k)∧k≤100
theorem len_ok{R:RnK}{N:Nat}(c:CLen64 R){n:Nat}{h:Hs}(h2:n<1000000):WP (r56 R N [.int .u64 (.ofNat n)] h) λr u=>u=h∧∃k,r=kI k∧(1≤n→1≤k)∧k≤100:=by
 unfold r56
 have H:=Sto.enter h
 repeat' (first|(with_reducible first|refine w_jn ?_|refine w_cndF ?_|refine w_unC ?_|refine w_enK ?_))
 refine w_call (c n _ h2) λv u hv=>?_
 obtain⟨rfl,k,rfl,a,b⟩:=hv
 exact w_clr H rfl ⟨rfl,k,rfl,a,b⟩
set_option linter.unusedSimpArgs false
def firstNZ:List Int→Int
 |[]=>0
 |x::l=>if x=0 then firstNZ l else x
theorem firstNZ_drop{l:List Int}{i:Nat}(h:i<l.length):firstNZ (l.drop i)=if l[i]=0 then firstNZ (l.drop (i+1)) else l[i]:=by rw[List.drop_eq_getElem_cons h];rfl
def COr(R:RnK):Prop:=∀(l:List Int)(v:Value)(h:Hs),l.length≤100→Rd h v 1 (Il l)→R 34 [v] h=some (.val (.int .i64 (firstNZ l)) h)
theorem or_ok{R:RnK}{N:Nat}(hN:1000<N){l:List Int}{v:Value}{h:Hs}(hl:l.length≤100)(r:Rd h v 1 (Il l)):r34 R N [v] h=some (.val (.int .i64 (firstNZ l)) h):=by
 refine WP.eqn ?_
 unfold r34
 have H:=Sto.enter1 r
 have il:(Il l).length=l.length:=List.length_map _
 obtain⟨a,c,rfl⟩:=r.1.formN il
 repeat' (first|(with_reducible first|refine w_jn ?_|refine w_unC ?_|refine w_enK ?_|refine w_lenV ?_))
 refine lp_ind (Good:=λn (self:L5)=>∀(i:Nat)(y1 y2 y3 y4:Value)(w:Hs),i+n=l.length→firstNZ (l.drop i)=firstNZ l→Sto h [] w [.rsl (.slice a l.length c) 1 (Il l)]→WP (self (kI i) y1 y2 y3 y4 w) (λv' h'=>v'=.int .i64 (firstNZ l)∧h'=h)) (λn self ih i y1 y2 y3 y4 w hi hf H1=>?_) N l.length (by omega) 0 _ _ _ _ _ (by omega) rfl H
 clear H
 have H:=H1
 clear H1
 repeat' (first|(with_reducible first|refine w_jn ?_|refine w_cndT ?_|refine w_cndF ?_)|((with_reducible refine w_lss_NN (λ_=>?_) (λ_=>?_))<;>first|(exfalso;omega)|skip))
 ·have ii:i<l.length:=by omega
  have fd:=firstNZ_drop ii
  refine w_at1 0 H rfl (Il_get ii) rfl rfl ?_
  refine w_neq_II (λe=>?_) (λe=>?_)
  ·rw[if_pos (show l[i]=0 from e)] at fd
   repeat' (first|(with_reducible first|refine w_jn ?_|refine w_cndF ?_)|((with_reducible refine w_add_NN ?_ ?_) ;omega))
   exact ih (n-1) (by omega) (i+1) _ _ _ _ _ (by omega) (by rw[←fd];exact hf) H
  ·rw[if_neg (show ¬l[i]=0 from e)] at fd
   refine w_jn ?_
   refine w_cndT ?_
   exact w_clr H rfl ⟨by rw[←hf,fd],rfl⟩
 ·rw[List.drop_of_length_le (by omega)] at hf
  exact w_clr H rfl ⟨by rw[←hf];rfl,rfl⟩
def fLt(a b:Fnd):Prop:=a.1<b.1∨a.1=b.1∧(a.2.2.1<b.2.2.1∨a.2.2.1=b.2.2.1∧(a.2.2.2<b.2.2.2∨a.2.2.2=b.2.2.2∧a.2.1<b.2.1))
def cmpF(a b:Fnd):Int:=firstNZ [(a.1:Int)-b.1,(a.2.2.1:Int)-b.2.2.1,(a.2.2.2:Int)-b.2.2.2,(a.2.1:Int)-b.2.1]
theorem cmpF_pos{a b:Fnd}(h:fLt a b):0<cmpF b a:=by
 unfold cmpF firstNZ firstNZ firstNZ firstNZ
 unfold fLt at h
 repeat' split
 all_goals omega
structure Fb (f:Fnd):Prop where
 a:f.1≤1000000
 b:f.2.1≤1000000
 c:f.2.2.1≤1000000
 d:f.2.2.2≤1000000
def CCmp(R:RnK):Prop:=∀(f g:Fnd)(h:Hs),Fb f→Fb g→R 33 [.agg (fC f).toArray,.agg (fC g).toArray] h=some (.val (.int .i64 (cmpF f g)) h)
theorem cmp_ok{R:RnK}{N:Nat}(co:COr R){f g:Fnd}{h:Hs}(bf:Fb f)(bg:Fb g):r33 R N [.agg (fC f).toArray,.agg (fC g).toArray] h=some (.val (.int .i64 (cmpF f g)) h):=by
 refine WP.eqn ?_
 unfold r33
 obtain⟨f1,f2,f3,f4⟩:=f
 obtain⟨g1,g2,g3,g4⟩:=g
 have:=bf.a;have:=bf.b;have:=bf.c;have:=bf.d
 have:=bg.a;have:=bg.b;have:=bg.c;have:=bg.d
 dsimp only at *
 have H:=Sto.enter h
 refine w_unC ?_
 refine w_unC ?_
 refine w_enK ?_
 refine w_boxA H ?_
 clear H;intro u1 H hu1
 refine w_boxA H ?_
 clear H;intro u2 H hu2
 unfold fC at H
 dsimp only at H
 have subst_:∀{Q:Value→Hs→Prop}{a b:Nat}{K:Value→An}(_:a≤1000000)(_:b≤1000000)(_:WP (K (.int .i64 ((a:Int)-(b:Int)))) Q),WP (kI64 .sub (.int .i64 (.ofNat a)) (.int .i64 (.ofNat b)) K) Q:=λh1 h2 w=>w_sub_NNI (by omega) (by omega) w
 repeat' (first|((with_reducible refine subst_ ?_ ?_ ?_);omega;omega)|(with_reducible refine w_fieldA ?_)|((with_reducible apply w_mkrow H) ;rfl;(clear H;intro u H hu;(try dsimp only[List.set_cons_zero,List.set_cons_succ,cellsL,List.toList_toArray,splice,ev,rep,List.cons_append,List.nil_append] at H)))|((with_reducible apply w_load 0 H) ;rfl;rfl;rfl)|((with_reducible apply w_load 1 H) ;rfl;rfl;rfl))
 refine w_callE (co [(f1:Int)-g1,(f3:Int)-g3,(f4:Int)-g4,(f2:Int)-g2] _ _ (by show 4≤100;decide) (H.rdB 0 rfl rfl (by decide))) ?_
 exact w_clr H rfl ⟨rfl,rfl⟩
abbrev fnV:Value:=.func (.func 33) #[] #[]
structure Srt (l:List Fnd):Prop where
 b:∀f∈l,Fb f
 s:∀i j (hj:j<l.length) (hij:i<j),fLt (l[i]'(by omega)) l[j]
 n:l.length<1000000
theorem Fl_get2{l:List Fnd}{i:Nat}(h:i<l.length):(Fl l)[i]?=some (fC l[i]):=by unfold Fl;rw[List.getElem?_map,List.getElem?_eq_getElem h];rfl
theorem Srt.pos{l:List Fnd}(s:Srt l){i j:Nat}(hj:j<l.length)(hij:i<j):0<cmpF l[j] (l[i]'(by omega)):=cmpF_pos (s.s i j hj hij)
theorem w_cmpS{R:RnK}(cc:CCmp R){Q:Value→Hs→Prop}{l:List Fnd}(s:Srt l){i j:Nat}(hj:j<l.length)(hij:i<j){h:Hs}{K:KV}(w:∀x:Int,0<x→WP (K (.int .i64 x) h) Q):WP (isVal K (callV (toRn R) [.agg (fC l[j]).toArray,.agg (fC (l[i]'(by omega))).toArray] h fnV)) Q:=by
 refine w_isVal (cap:=[]) ?_
 refine w_callE (cc l[j] (l[i]'(by omega)) h (s.b _ (List.getElem_mem _)) (s.b _ (List.getElem_mem _))) ?_
 exact w _ (s.pos hj hij)
def COrd2(R:RnK):Prop:=∀(l:List Fnd)(v p:Value)(i j:Nat)(h:Hs),Srt l→i<j→j<l.length→Rd h v 4 (Fl l)→R 95 [v,kI i,kI j,p,fnV] h=some (.val (.tuple #[kI i,kI j]) h)
theorem ord2_ok{R:RnK}{N:Nat}(cc:CCmp R){l:List Fnd}{v p:Value}{i j:Nat}{h:Hs}(s:Srt l)(hij:i<j)(hj:j<l.length)(r:Rd h v 4 (Fl l)):r95 R N [v,kI i,kI j,p,fnV] h=some (.val (.tuple #[kI i,kI j]) h):=by
 refine WP.eqn ?_
 unfold r95
 have H:=Sto.enter1 r
 refine w_unC ?_
 refine w_unC ?_
 refine w_unC ?_
 refine w_unC ?_
 refine w_unC ?_
 refine w_enK ?_
 refine w_at 0 H rfl (Fl_get2 hj) rfl rfl ?_
 refine w_at 0 H rfl (Fl_get2 (show i<l.length by omega)) rfl rfl ?_
 refine w_cmpS cc s hj hij λx hx=>?_
 repeat' (first|(with_reducible first|refine w_jn ?_|refine w_cndF ?_)|((with_reducible refine w_bar ?_ ?_) ;omega)|((with_reducible refine w_lss_IN (λ_=>?_) (λ_=>?_))<;>first|(exfalso;omega)|skip))
 exact w_clr H rfl ⟨rfl,rfl⟩
def CMed(R:RnK):Prop:=∀(l:List Fnd)(v p:Value)(i j k:Nat)(h:Hs),Srt l→i<j→j<k→k<l.length→Rd h v 4 (Fl l)→R 91 [v,kI i,kI j,kI k,p,fnV] h=some (.val (kI j) h)
theorem med_ok{R:RnK}{N:Nat}(co:COrd2 R){l:List Fnd}{v p:Value}{i j k:Nat}{h:Hs}(s:Srt l)(hij:i<j)(hjk:j<k)(hk:k<l.length)(r:Rd h v 4 (Fl l)):r91 R N [v,kI i,kI j,kI k,p,fnV] h=some (.val (kI j) h):=by
 refine WP.eqn ?_
 unfold r91
 have H:=Sto.enter1 r
 repeat' (first|(refine w_callE (co l v p i j _ s hij (by omega) (H.rd 0 rfl)) ?_)|(refine w_callE (co l v p j k _ s hjk hk (H.rd 0 rfl)) ?_)|((with_reducible apply w_extr) ;rfl))
 exact w_clr H rfl ⟨rfl,rfl⟩
def CMedA(R:RnK):Prop:=∀(l:List Fnd)(v p:Value)(i:Nat)(h:Hs),Srt l→1≤i→i+1<l.length→Rd h v 4 (Fl l)→R 90 [v,kI i,p,fnV] h=some (.val (kI i) h)
theorem medA_ok{R:RnK}{N:Nat}(cm:CMed R){l:List Fnd}{v p:Value}{i:Nat}{h:Hs}(s:Srt l)(hi:1≤i)(hk:i+1<l.length)(r:Rd h v 4 (Fl l)):r90 R N [v,kI i,p,fnV] h=some (.val (kI i) h):=by
 refine WP.eqn ?_
 unfold r90
 have H:=Sto.enter1 r
 have sn:=s.n
 repeat' (first|(refine w_callE (cm l v p (i-1) i (i+1) _ s (by omega) (by omega) hk (H.rd 0 rfl)) ?_)|(with_reducible first|refine w_unC ?_|refine w_enK ?_)|((with_reducible refine w_add_NN ?_ ?_) ;omega)|((with_reducible refine w_sub_NN ?_ ?_ ?_) ;omega;omega))
 exact w_clr H rfl ⟨rfl,rfl⟩
def CChoose(R:RnK):Prop:=∀(l:List Fnd)(v:Value)(h:Hs),Srt l→12<l.length→Rd h v 4 (Fl l)→WP (R 75 [v,kI 0,kI l.length,fnV] h) λr u=>u=h∧∃j,r=.tuple #[kI j,kI 1]
theorem choose_ok{R:RnK}{N:Nat}(cm:CMed R)(ca:CMedA R){l:List Fnd}{v:Value}{h:Hs}(s:Srt l)(hl:12<l.length)(r:Rd h v 4 (Fl l)):WP (r75 R N [v,kI 0,kI l.length,fnV] h) λr u=>u=h∧∃j,r=.tuple #[kI j,kI 1]:=by
 unfold r75
 have H:=Sto.enter1 r
 have sn:=s.n
 repeat' (first|(refine w_callE (ca l v _ (0+l.length/4*1) _ s (by omega) (by omega) (H.rd 1 rfl)) ?_)|(refine w_callE (ca l v _ (0+l.length/4*2) _ s (by omega) (by omega) (H.rd 1 rfl)) ?_)|(refine w_callE (ca l v _ (0+l.length/4*3) _ s (by omega) (by omega) (H.rd 1 rfl)) ?_)|(refine w_callE (cm l v _ (0+l.length/4*1) (0+l.length/4*2) (0+l.length/4*3) _ s (by omega) (by omega) (by omega) (H.rd 1 rfl)) ?_)|(with_reducible first|refine w_jn ?_|refine w_cndT ?_|refine w_unC ?_|refine w_enK ?_)|((with_reducible refine w_alloc H ?_) ;(clear H;intro u H hu))|((with_reducible first|refine w_geq_NN (λ_=>?_) (λ_=>?_)|refine w_eql_NN (λ_=>?_) (λ_=>?_))<;>first|(exfalso;omega)|skip)|((with_reducible first|refine w_add_NN ?_ ?_|refine w_mul_NN ?_ ?_) ;omega)|((with_reducible refine w_sub_NN ?_ ?_ ?_) ;omega;omega)|((with_reducible refine w_quo_NN ?_ ?_ ?_) ;omega;omega)|((with_reducible apply w_load 0 H) ;rfl;rfl;rfl))
 all_goals exact w_clr H rfl ⟨rfl,_,rfl⟩
def CPart(R:RnK):Prop:=∀(l:List Fnd)(v:Value)(h:Hs),Srt l→12<l.length→Rd h v 4 (Fl l)→R 77 [v,kI 0,kI l.length,fnV] h=some (.val (.bool true) h)
theorem part_ok{R:RnK}{N:Nat}(hN:1000000≤N)(cc:CCmp R){l:List Fnd}{v:Value}{h:Hs}(s:Srt l)(hl:12<l.length)(r:Rd h v 4 (Fl l)):r77 R N [v,kI 0,kI l.length,fnV] h=some (.val (.bool true) h):=by
 refine WP.eqn ?_
 unfold r77
 have H:=Sto.enter1 r
 have sn:=s.n
 obtain⟨N,rfl⟩:∃q,N=q+1:=⟨N-1,by omega⟩
 refine w_unC ?_
 refine w_unC ?_
 refine w_unC ?_
 refine w_unC ?_
 refine w_enK ?_
 repeat' (first|(with_reducible refine w_jn ?_)|((with_reducible refine w_add_NN ?_ ?_) ;omega))
 rw[lpT_succ]
 repeat' (first|(with_reducible first|refine w_jn ?_|refine w_cndT ?_)|((with_reducible refine w_lss_NN (λ_=>?_) (λ_=>?_))<;>first|(exfalso;omega)|skip))
 refine lp_ind (Good:=λn (self:L2)=>∀(i:Nat)(y1:Value)(w:Hs),1≤i→i+n=l.length→Sto h [] w [.rsl v 4 (Fl l)]→WP (self (kI i) y1 w) (λv' h'=>v'=.bool true∧h'=h)) (λn self ih i y1 w h1 hi H1=>?_) (N+1) (l.length-1) (by omega) 1 _ _ (by omega) (by omega) H
 clear H
 have H:=H1
 clear H1
 repeat' (first|(with_reducible first|refine w_jn ?_|refine w_cndT ?_|refine w_cndF ?_|refine w_gTt ?_|refine w_gTf ?_|refine w_pickF ?_|refine w_blind ?_)|((with_reducible first|refine w_lss_NN (λ_=>?_) (λ_=>?_)|refine w_eql_NN (λ_=>?_) (λ_=>?_))<;>first|(exfalso;omega)|skip))
 ·have ii:i<l.length:=by omega
  refine w_idxR 0 H rfl (Fl_get2 ii) λb1 o1 H1=>?_
  repeat' (first|(with_reducible refine w_gTt ?_))
  refine w_loadsE 0 H1 rfl rfl rfl ?_
  clear H1
  repeat' (first|(with_reducible refine w_gTt ?_)|((with_reducible refine w_sub_NN ?_ ?_ ?_) ;omega;omega))
  refine w_idxR 0 H rfl (Fl_get2 (show i-1<l.length by omega)) λb1 o1 H1=>?_
  repeat' (first|(with_reducible refine w_gTt ?_))
  refine w_loadsE 0 H1 rfl rfl rfl ?_
  clear H1
  repeat' (first|(with_reducible refine w_gTt ?_))
  refine w_cmpS cc s ii (show i-1<i by omega) λx hx=>?_
  repeat' (first|(with_reducible first|refine w_jn ?_|refine w_cndT ?_|refine w_gTt ?_|refine w_pickT ?_|refine w_notF ?_|refine w_blind ?_)|((with_reducible first|refine w_bar ?_ ?_|refine w_add_NN ?_ ?_) ;omega)|((with_reducible refine w_lss_IN (λ_=>?_) (λ_=>?_))<;>first|(exfalso;omega)|skip))
  exact ih (n-1) (by omega) (i+1) _ _ (by omega) (by omega) H
 ·exact w_clr H rfl ⟨rfl,rfl⟩
def CIns(R:RnK):Prop:=∀(l:List Fnd)(v:Value)(h:Hs),Srt l→Rd h v 4 (Fl l)→R 72 [v,kI 0,kI l.length,fnV] h=some (.val (.tuple #[]) h)
theorem ins_ok{R:RnK}{N:Nat}(hN:1000000≤N)(cc:CCmp R){l:List Fnd}{v:Value}{h:Hs}(s:Srt l)(r:Rd h v 4 (Fl l)):r72 R N [v,kI 0,kI l.length,fnV] h=some (.val (.tuple #[]) h):=by
 refine WP.eqn ?_
 unfold r72
 have H:=Sto.enter1 r
 have sn:=s.n
 obtain⟨N,rfl⟩:∃q,N=q+1:=⟨N-1,by omega⟩
 refine w_unC ?_
 refine w_unC ?_
 refine w_unC ?_
 refine w_unC ?_
 refine w_enK ?_
 repeat' (first|(with_reducible refine w_jn ?_)|((with_reducible refine w_add_NN ?_ ?_) ;omega))
 refine lp_ind (Good:=λn (self:L4)=>∀(i:Nat)(y1 y2 y3:Value)(w:Hs),1≤i→l.length≤i+n→Sto h [] w [.rsl v 4 (Fl l)]→WP (self (kI i) y1 y2 y3 w) (λv' h'=>v'=.tuple #[]∧h'=h)) (λn self ih i y1 y2 y3 w h1 hi H1=>?_) (N+1) l.length (by omega) 1 _ _ _ _ (by omega) (by omega) H
 clear H
 have H:=H1
 clear H1
 repeat' (first|(with_reducible first|refine w_jn ?_|refine w_cndT ?_|refine w_cndF ?_)|((with_reducible refine w_lss_NN (λ_=>?_) (λ_=>?_))<;>first|(exfalso;omega)|skip))
 ·have ii:i<l.length:=by omega
  rw[lpT_succ]
  repeat' (first|(with_reducible refine w_gTt ?_)|((with_reducible refine w_gtr_NN (λ_=>?_) (λ_=>?_))<;>first|(exfalso;omega)|skip))
  refine w_idxR 0 H rfl (Fl_get2 ii) λb1 o1 H1=>?_
  repeat' (first|(with_reducible refine w_gTt ?_))
  refine w_loadsE 0 H1 rfl rfl rfl ?_
  clear H1
  repeat' (first|(with_reducible refine w_gTt ?_)|((with_reducible refine w_sub_NN ?_ ?_ ?_) ;omega;omega))
  refine w_idxR 0 H rfl (Fl_get2 (show i-1<l.length by omega)) λb1 o1 H1=>?_
  repeat' (first|(with_reducible refine w_gTt ?_))
  refine w_loadsE 0 H1 rfl rfl rfl ?_
  clear H1
  repeat' (first|(with_reducible refine w_gTt ?_))
  refine w_cmpS cc s ii (show i-1<i by omega) λx hx=>?_
  repeat' (first|(with_reducible first|refine w_jn ?_|refine w_cndF ?_|refine w_gTt ?_|refine w_pickT ?_|refine w_blind ?_)|((with_reducible first|refine w_bar ?_ ?_|refine w_add_NN ?_ ?_) ;omega)|((with_reducible refine w_lss_IN (λ_=>?_) (λ_=>?_))<;>first|(exfalso;omega)|skip))
  exact ih (n-1) (by omega) (i+1) _ _ _ _ (by omega) (by omega) H
 ·exact w_clr H rfl ⟨rfl,rfl⟩
def CPdq(R:RnK):Prop:=∀(l:List Fnd)(v:Value)(k:Nat)(h:Hs),Srt l→(12<l.length→1≤k)→Rd h v 4 (Fl l)→R 55 [v,kI 0,kI l.length,kI k,fnV] h=some (.val (.tuple #[]) h)
theorem pdq_ok{R:RnK}{N:Nat}(hN:0<N)(ci:CIns R)(ch:CChoose R)(cp:CPart R){l:List Fnd}{v:Value}{k:Nat}{h:Hs}(s:Srt l)(hk:12<l.length→1≤k)(r:Rd h v 4 (Fl l)):r55 R N [v,kI 0,kI l.length,kI k,fnV] h=some (.val (.tuple #[]) h):=by
 refine WP.eqn ?_
 unfold r55
 have H:=Sto.enter1 r
 have sn:=s.n
 obtain⟨N,rfl⟩:∃q,N=q+1:=⟨N-1,by omega⟩
 refine w_unC ?_
 refine w_unC ?_
 refine w_unC ?_
 refine w_unC ?_
 refine w_unC ?_
 refine w_enK ?_
 refine w_jn ?_
 rw[lpT_succ]
 repeat' (first|(refine w_callE (ci l v _ s (H.rd 0 rfl)) ?_)|(with_reducible first|refine w_jn ?_|refine w_cndF ?_|refine w_notT ?_)|((with_reducible first|refine w_leq_NN (λ_=>?_) (λ_=>?_)|refine w_eql_NN (λ_=>?_) (λ_=>?_))<;>first|(exfalso;omega)|skip)|((with_reducible refine w_sub_NN ?_ ?_ ?_) ;omega;omega))
 ·exact w_clr H rfl ⟨rfl,rfl⟩
 refine w_call (ch l v _ s (by omega) (H.rd 0 rfl)) λv2 u2 hv=>?_
 obtain⟨rfl,j,rfl⟩:=hv
 repeat' (first|(refine w_callE (cp l v _ s (by omega) (H.rd 0 rfl)) ?_)|(with_reducible first|refine w_jn ?_|refine w_cndT ?_))
 exact w_clr H rfl ⟨rfl,rfl⟩
def CSort(R:RnK):Prop:=∀(l:List Fnd)(v:Value)(h:Hs),Srt l→Rd h v 4 (Fl l)→R 32 [v,fnV] h=some (.val (.tuple #[]) h)
theorem sort_ok{R:RnK}{N:Nat}(cl:CLen R)(cp:CPdq R){l:List Fnd}{v:Value}{h:Hs}(s:Srt l)(r:Rd h v 4 (Fl l)):r32 R N [v,fnV] h=some (.val (.tuple #[]) h):=by
 refine WP.eqn ?_
 unfold r32
 have H:=Sto.enter1 r
 have sn:=s.n
 have lf:=Fl_len l
 refine w_unC ?_
 refine w_unC ?_
 refine w_enK ?_
 repeat' (first|((with_reducible refine w_toU ?_ ?_) ;omega)|((with_reducible apply w_lenR 0 H) ;rfl))
 rw[lf]
 refine w_call (cl l.length _ sn) λv2 u2 hv=>?_
 obtain⟨rfl,k,rfl,k1,k2⟩:=hv
 repeat' (first|(refine w_callE (cp l v k _ s (λz=>k1 (by omega)) (H.rd 0 rfl)) ?_))
 exact w_clr H rfl ⟨rfl,rfl⟩
set_option linter.unusedSimpArgs false
noncomputable def nodeF1(g:Geo)(W:List Nat)(n:Nat):List Fnd:=if kindN g n (ndAt g W n)=0 then [] else [(2,kindN g n (ndAt g W n),n,0)]
noncomputable def nodesF(g:Geo)(W:List Nat)(n:Nat):List Fnd:=(List.range n).flatMap λi=>nodeF1 g W (i+1)
theorem nodesF_succ(g:Geo)(W:List Nat)(n:Nat):nodesF g W (n+1)=nodesF g W n++nodeF1 g W (n+1):=by unfold nodesF;rw[List.range_succ,List.flatMap_append];simp
theorem nodesF_len(g:Geo)(W:List Nat):∀n,(nodesF g W n).length≤n:=by
 intro n
 induction n with
 |zero=>exact Nat.le_refl _
 |succ n ih=>
  rw[nodesF_succ,List.length_append]
  have:(nodeF1 g W (n+1)).length≤1:=by unfold nodeF1;split<;>simp
  omega
noncomputable def sndN(g:Geo)(W:List Nat)(n:Nat):Option Nd:=if 1≤n∧n≤g.n∧kindN g n (ndAt g W n)=0 then (ndAt g W n).bind λd=>if d.ty=0 then none else some d else none
noncomputable def checkG(g:Geo)(W:List Nat):List Fnd:=
 headF1 g W++headF2 g W++booksF g W g.c++nodesF g W g.n++(shAll (sndN g W) (g.n+1)).2++(slAll (g.n+1) (sndN g W) W (g.n+1)).F++reachF (sndN g W) (rcAll (sndN g W) (slAll (g.n+1) (sndN g W) W (g.n+1)).G) (g.n+1)++linkF (sndN g W) (lkCnt (slAll (g.n+1) (sndN g W) W (g.n+1)).G) (g.n+1)++takF g (bitsW g W) (usedN (sndN g W) (g.n+1)) (512*g.bitsN)
noncomputable def checkR(W:List Nat):List Fnd:=if W.length%8≠0∨W.length/8<64∨1024<W.length/8 then [(0,1,0,0)] else match opened W with
 |none=>[(0,2,0,0)]
 |some g=>checkG g W
theorem sndN_ok{g:Geo}(x:g.Ok)(W:List Nat):DOk g (g.n+1) (sndN g W):=by
 refine⟨x,by have:=x.1.n2;omega,λn d hn hd=>?_⟩
 unfold sndN at hd
 split at hd
 ·rename_i q
  cases hz:ndAt g W n with
  |none=>rw[hz] at hd;cases hd
  | some e =>
   rw[hz] at hd q
   have hd:(if e.ty=0 then none else some e)=some d:=hd
   split at hd
   ·cases hd
   ·injection hd with hd
    subst hd
    refine⟨Classical.byContradiction λz=>?_,by assumption⟩
    have:=q.2.2
    rw[show kindN g n (some e)=2 from if_pos z] at this
    cases this
 ·cases hd
set_option linter.unusedSimpArgs false
structure Seg (p n:Nat) (l:List Fnd):Prop where
 pw:l.Pairwise fLt
 at_:∀f∈l,f.1=p∧f.2.2.1<n∧f.2.1≤1000000∧f.2.2.2≤1000000
theorem Seg.nil(p n:Nat):Seg p n []:=⟨List.Pairwise.nil,λf hf=>by cases hf⟩
theorem Seg.snoc{p n:Nat}{l l2:List Fnd}(s:Seg p n l)(h:l2.length≤1)(hf:∀f∈l2,f.1=p∧f.2.2.1=n∧f.2.1≤1000000∧f.2.2.2≤1000000):Seg p (n+1) (l++l2):=by
 refine⟨List.pairwise_append.2 ⟨s.pw,?_,λa ha b hb=>?_⟩,λf hf'=>?_⟩
 ·match l2,h with
  |[],_=>exact List.Pairwise.nil
  |[x],_=>exact List.pairwise_singleton _ _
 ·have h1:=s.at_ a ha
  have h2:=hf b hb
  unfold fLt
  omega
 ·rcases List.mem_append.1 hf' with q|q
  ·have:=s.at_ f q;omega
  ·have:=hf f q;omega
theorem seg_range{p:Nat}{F:Nat→List Fnd}(h1:∀i,(F i).length≤1)(h2:∀i,∀f∈F i,f.1=p∧f.2.2.1=i∧f.2.1≤1000000∧f.2.2.2≤1000000):∀n,Seg p n ((List.range n).flatMap F):=by
 intro n
 induction n with
 |zero=>exact Seg.nil _ _
 |succ n ih=>
  rw[List.range_succ,List.flatMap_append,show [n].flatMap F=F n from by simp]
  exact ih.snoc (h1 n) (h2 n)
theorem seg_range1{p:Nat}{F:Nat→List Fnd}(h1:∀i,(F i).length≤1)(h2:∀i,∀f∈F i,f.1=p∧f.2.2.1=i∧f.2.1≤1000000∧f.2.2.2≤1000000):∀n,Seg p (n+1) ((List.range n).flatMap λi=>F (i+1)):=by
 intro n
 induction n with
 |zero=>exact Seg.nil _ _
 |succ n ih=>
  rw[List.range_succ,List.flatMap_append,show [n].flatMap (λi=>F (i+1))=F (n+1) from by simp]
  exact ih.snoc (h1 (n+1)) (h2 (n+1))
theorem Seg.app{p n:Nat}{l l2:List Fnd}(q:Nat)(h:l.Pairwise fLt)(hq:∀f∈l,f.1≤q)(s:Seg p n l2)(hp:q<p):(l++l2).Pairwise fLt∧∀f∈l++l2,f.1≤p:=by
 refine⟨List.pairwise_append.2 ⟨h,s.pw,λa ha b hb=>?_⟩,λf hf=>?_⟩
 ·have h1:=hq a ha
  have h2:=(s.at_ b hb).1
  unfold fLt
  omega
 ·rcases List.mem_append.1 hf with z|z
  ·have:=hq f z;omega
  ·have:=(s.at_ f z).1;omega
theorem one_mem{P:Prop}[Decidable P]{f x:Fnd}(h:f∈(if P then [] else [x])):f=x:=by
 split at h
 ·cases h
 ·exact List.mem_singleton.1 h
theorem one_mem2{P:Prop}[Decidable P]{f x:Fnd}(h:f∈(if P then [x] else [])):f=x:=by
 split at h
 ·exact List.mem_singleton.1 h
 ·cases h
theorem headF1_eq(g:Geo)(W:List Nat):headF1 g W = []∨headF1 g W = [(0,5,0,0)]∨headF1 g W = [(0,3,0,0)]:=by
 unfold headF1
 split
 ·split
  ·split
   ·exact .inl rfl
   ·exact .inr (.inl rfl)
  ·exact .inr (.inr rfl)
 ·exact .inr (.inr rfl)
theorem headF2_eq(g:Geo)(W:List Nat):headF2 g W = []∨headF2 g W = [(0,5,g.b-1,0)]∨headF2 g W = [(0,4,g.b-1,0)]:=by
 unfold headF2
 split
 ·split
  ·split
   ·exact .inl rfl
   ·exact .inr (.inl rfl)
  ·exact .inr (.inr rfl)
 ·exact .inr (.inr rfl)
theorem seg_heads{g:Geo}(x:g.Ok)(W:List Nat):Seg 0 g.b (headF1 g W++headF2 g W):=by
 have h1:=x.1.b1
 have h2:=x.1.b2
 rcases headF1_eq g W with a|a|a<;>rcases headF2_eq g W with b|b|b<;>rw[a,b]
 all_goals refine⟨?_,λf hf=>?_⟩
 all_goals first|(simp[fLt,List.pairwise_cons];done)|(simp[fLt,List.pairwise_cons];omega)|(simp at hf;done)|(simp at hf;first|(rcases hf with rfl|rfl<;>refine⟨rfl,?_,?_,?_⟩<;>dsimp only<;>omega)|(subst hf;refine⟨rfl,?_,?_,?_⟩<;>dsimp only<;>omega))
theorem kindN_le(g:Geo)(n:Nat)(o:Option Nd):kindN g n o≤6:=by
 unfold kindN
 split
 ·omega
 ·repeat' split
  all_goals omega
theorem seg_books(g:Geo)(W:List Nat)(n:Nat):Seg 1 n (booksF g W n):=seg_range (λi=>by unfold bookF;split<;>simp) (λi f hf=>by
 unfold bookF at hf
 rw[one_mem hf];exact⟨rfl,rfl,by simp,by simp⟩) n
theorem seg_nodes(g:Geo)(W:List Nat)(n:Nat):Seg 2 (n+1) (nodesF g W n):=seg_range1 (F:=nodeF1 g W) (λi=>by unfold nodeF1;split<;>simp) (λi f hf=>by
 unfold nodeF1 at hf
 rw[one_mem hf]
 have:=kindN_le g i (ndAt g W i)
 exact⟨rfl,rfl,by dsimp only;omega,by simp⟩) n
theorem shStep_le{n m:Nat}(hn:n≤m)(s:(Nat→Nat) × Nat)(b:Nat)(h:(∀x,s.1 x≤m)∧s.2≤m):(∀x,(shStep n s b).1 x≤m)∧(shStep n s b).2≤m:=by
 unfold shStep
 split
 ·exact⟨λx=>by dsimp only;split;exact hn;exact h.1 x,h.2⟩
 ·split
  ·exact⟨h.1,h.1 b⟩
  ·exact h
theorem shFold_le{n m:Nat}(hn:n≤m):∀(l:List Nat)(s:(Nat→Nat) × Nat),(∀x,s.1 x≤m)∧s.2≤m→(∀x,(l.foldl (shStep n) s).1 x≤m)∧(l.foldl (shStep n) s).2≤m:=by
 intro l
 induction l with
 |nil=>intro s h;exact h
 |cons x l ih=>intro s h;exact ih _ (shStep_le hn s x h)
theorem seg_shared(D:Nat→Option Nd):∀n,n≤1000→Seg 3 n (shAll D n).2∧∀x,(shAll D n).1 x≤n:=by
 intro n
 induction n with
 |zero=>intro _;exact⟨Seg.nil _ _,λx=>Nat.le_refl _⟩
 |succ n ih=>
  intro hn
  obtain⟨h1,h2⟩:=ih (by omega)
  have h3:=shFold_le (Nat.le_refl n) (blkN (D n)) ((shAll D n).1,0) ⟨h2,Nat.zero_le _⟩
  refine⟨h1.snoc (one_len _) (λf hf=>?_),λx=>Nat.le_succ_of_le (h3.1 x)⟩
  rw[one_mem2 hf]
  exact⟨rfl,rfl,by simp,by dsimp only;omega⟩
theorem kindS_le(k:Nat)(D:Nat→Option Nd)(dir at_ n:Nat)(s:List UInt8)(tw:Bool):kindS k D dir at_ n s tw≤5:=by
 unfold kindS
 repeat' split
 all_goals omega
structure SlOk (k:Nat) (D:Nat→Option Nd) (n j:Nat) (s:SlS):Prop where
 pw:s.F.Pairwise fLt
 at_:∀f∈s.F,f.1=4∧(f.2.2.1<n∨f.2.2.1=n∧f.2.2.2<j)∧f.2.1≤6∧f.2.2.2≤100000
 gd:∀x∈s.G,(x.1<n∨x.1=n∧0<j)∧x.2.2.1<k
theorem SlOk.tell{k:Nat}{D:Nat→Option Nd}{n j kd:Nat}{s:SlS}(o:SlOk k D n j s)(hj:j≤100000)(hk:kd≤6)(hd:Nat→Bool):SlOk k D n (j+1) ⟨hd,s.F ++ [(4,kd,n,j)],s.G⟩:=by
 refine⟨List.pairwise_append.2 ⟨o.pw,List.pairwise_singleton _ _,λa ha b hb=>?_⟩,λf hf=>?_,λx hx=>by have:=o.gd x hx;omega⟩
 ·rw[List.mem_singleton.1 hb]
  have:=o.at_ a ha
  unfold fLt
  dsimp only
  omega
 ·rcases List.mem_append.1 hf with q|q
  ·have:=o.at_ f q;omega
  ·rw[List.mem_singleton.1 q]
   exact⟨rfl,.inr ⟨rfl,Nat.lt_succ_self _⟩,hk,hj⟩
theorem SlOk.same{k:Nat}{D:Nat→Option Nd}{n j:Nat}{s:SlS}(o:SlOk k D n j s)(hd:Nat→Bool):SlOk k D n (j+1) ⟨hd,s.F,s.G⟩:=⟨o.pw,λf hf=>by have:=o.at_ f hf;omega,λx hx=>by have:=o.gd x hx;omega⟩
theorem SlOk.good{k:Nat}{D:Nat→Option Nd}{n j m:Nat}{nm:List UInt8}{s:SlS}(o:SlOk k D n j s)(hm:m<k)(hd:Nat→Bool):SlOk k D n (j+1) ⟨hd,s.F,s.G ++ [(n,j,m,nm)]⟩:=⟨o.pw,λf hf=>by have:=o.at_ f hf;omega,λx hx=>by
 rcases List.mem_append.1 hx with q|q
 ·have:=o.gd x q;omega
 ·rw[List.mem_singleton.1 q];exact⟨.inr ⟨rfl,Nat.succ_pos _⟩,hm⟩⟩
theorem SlOk.step{k:Nat}{D:Nat→Option Nd}{W:List Nat}{n j b:Nat}{s:SlS × (List UInt8→Bool)}(o:SlOk k D n j s.1)(hj:j≤100000):SlOk k D n (j+1) (slStep k D W n s (j,b)).1:=by
 unfold slStep
 split
 ·exact o.tell hj (by decide) _
 ·rename_i x _
  split
  ·exact o.same _
  ·dsimp only
   have kz:=kindS_zero k D n j x.1 x.2 (s.2 x.2)
   have kl:=kindS_le k D n j x.1 x.2 (s.2 x.2)
   generalize kindS k D n j x.1 x.2 (s.2 x.2)=kd at *
   split
   ·rename_i k0
    have mk:=(kz k0).1
    split
    ·split
     ·exact o.tell hj (by decide) _
     ·exact o.good mk _
    ·exact o.good mk _
   ·exact o.tell hj (by omega) _
theorem SlOk.fold{k:Nat}{D:Nat→Option Nd}{W:List Nat}{n:Nat}{L:List Nat}(hL:L.length≤100000){s:SlS × (List UInt8→Bool)}(o:SlOk k D n 0 s.1):∀j,j≤L.length→SlOk k D n j (((enumF L).take j).foldl (slStep k D W n) s).1:=by
 intro j
 induction j with
 |zero=>intro _;exact o
 |succ j ih=>
  intro hj
  rw[foldl_take _ _ _ (by rw[enumF_len];omega),enumF_get]
  exact(ih (by omega)).step (by omega)
theorem SlOk.next{k:Nat}{D:Nat→Option Nd}{n j:Nat}{s:SlS}(o:SlOk k D n j s):SlOk k D (n+1) 0 s:=⟨o.pw,λf hf=>by have:=o.at_ f hf;omega,λx hx=>by have:=o.gd x hx;omega⟩
theorem slAll_ok{g:Geo}{k:Nat}{D:Nat→Option Nd}(dk:DOk g k D)(W:List Nat):∀n,n≤k→SlOk k D n 0 (slAll k D W n):=by
 intro n
 induction n with
 |zero=>intro _;exact⟨List.Pairwise.nil,λf (hf:f ∈ [])=>(by cases hf),λx (hx:x ∈ [])=>(by cases hx)⟩
 | succ n ih =>
  intro hn
  rw[slAll_succ]
  unfold slDir
  split
  ·have bl:=dk.blk (show n<k by omega)
   have:=SlOk.fold (W:=W) (L:=blkN (D n)) (by omega) (s:=(slAll k D W n,λ_=>false)) (ih (by omega)) (blkN (D n)).length (Nat.le_refl _)
   rw[←enumF_len,List.take_length] at this
   exact this.next
  ·exact(ih (by omega)).next
theorem seg_reach(D:Nat→Option Nd)(got:Nat→Bool)(n:Nat):Seg 5 n (reachF D got n):=seg_range (λi=>one_len _) (λi f hf=>by
 rw[one_mem2 hf];exact⟨rfl,rfl,by simp,by simp⟩) n
theorem seg_links(D:Nat→Option Nd){c:Nat→Nat}(hc:∀x,c x≤1000000)(n:Nat):Seg 6 n (linkF D c n):=seg_range (F:=linkF1 D c) (λi=>by unfold linkF1;split;exact one_len _;exact Nat.zero_le _) (λi f hf=>by
 unfold linkF1 at hf
 split at hf
 ·rw[one_mem2 hf];exact⟨rfl,rfl,by simp,hc i⟩
 ·cases hf) n
theorem seg_taken(g:Geo)(bw:List Nat)(u:Nat→Bool)(n:Nat):Seg 7 n (takF g bw u n):=seg_range (F:=takF1 g bw u) (λi=>by
 unfold takF1
 split
 ·exact one_len _
 ·split
  ·exact Nat.zero_le _
  ·split<;>simp) (λi f hf=>by
 unfold takF1 at hf
 split at hf
 ·rw[one_mem2 hf];exact⟨rfl,rfl,by simp,by simp⟩
 ·split at hf
  ·cases hf
  ·split at hf<;>(rw[List.mem_singleton.1 hf];exact⟨rfl,rfl,by simp,by simp⟩)) n
set_option linter.unusedSimpArgs false
theorem rep_flat(z:List Value):∀n,rep z n=(List.replicate n z).flatten:=by
 intro n
 induction n with
 |zero=>rfl
 |succ n ih=>show z++rep z n=_;rw[ih,List.replicate_succ,List.flatten_cons]
theorem rep_bool:∀n,rep [Value.bool false] n=(List.replicate n false).map .bool:=by
 intro n
 induction n with
 |zero=>rfl
 |succ n ih=>show .bool false::rep [Value.bool false] n=_;rw[ih];rfl
theorem Holds.rd{h:Hs}{b e u n:Nat}{rw_ fl:Bool}{Ls:List (List Value)}(o:Holds (h.hp.get b) (.row e u rw_ fl Ls.flatten))(hb:b<h.nx)(hu:∀l∈Ls,l.length=u)(hn:Ls.length=n):Rd h (.slice (some ⟨b,0,none⟩) n n) u Ls:=by
 obtain⟨c,f,hg,_,hc⟩:=o
 refine⟨⟨hu,.inr ⟨b,0,n,c,_,e,u,rw_,f,by rw[hn],by omega,hg,.inr rfl,λi j l hi hj=>?_⟩⟩,λb' hb'=>?_⟩
 ·rw[Nat.zero_add,hc,flatten_get hu i j hj,hi];rfl
 ·unfold Th.id at hb'
  cases q:Ls with
  |nil=>rw[q] at hb';cases hb'
  |cons x y=>rw[q] at hb';injection hb' with hb';subst hb';exact hb
structure NdPart (w:Hs) (T:List Nat) (k n:Nat) (D:Nat→Option Nd) (NS:List (List Value)) (SS:List Bool):Prop where
 s:∀m,m<k→SS[m]?=some (if m≤n then (D m).isSome else false)
 d:∀m d,m≤n→D m=some d→d.Mod∧∃a c,NS[m]?=some (neC d a c)∧Rd w (.slice a d.rs.length c) 2 (Rl d.rs)∧∀b,Th.id (.rsl (.slice a d.rs.length c) 2 (Rl d.rs))=some b→b∉T
structure RunA (h:Hs) (c0 bx:Nat) (w:Hs) (p:Nat) (g:Geo) (sw so:Value) (bn bs:Nat) (W:List Nat) (l:List Fnd) (NS:List (List Value)) (SS:List Bool) (fl:Bool):Prop where
 B:LkAt w p g sw (lkS (g.n+1) bn) (lkS (g.n+1) bs) nilV so l
 A:RowsAt w bn bs (g.n+1) NS SS
 H:Sto h [] w [.blk bx (.row 61 0 true fl [kI g.b,kI g.n,kI g.c,kI g.k,sw])]
 r:Rd w sw 1 (Wl W)
 xr:∀b,Th.id (.rsl sw 1 (Wl W))=some b→b<c0
 pc:c0≤p
 nc:c0≤bn
 bc:c0≤bs
 sc:∀b,vId so=some b→c0≤b
 xc:bx<c0
 hc:h.nx≤c0
 cw:c0≤w.nx
 dj:bn≠p∧bs≠p∧vId so≠some bn∧vId so≠some bs
theorem boxKeep{h:Hs}{w u:Hs}{T:List Nat}{m:List Th}(H:Sto h [] w m)(M:MutS T w u){c0:Nat}(hT:∀b∈T,c0≤b)(hc:h.nx≤c0)(hm:∀t∈m,∀b,t.id=some b→b<c0):Sto h [] u m:=
 H.mutS M (λs hs=>.inl (Nat.le_trans hc (hT s hs))) λt ht b hb q=>by
  have:=hm t ht b hb
  have:=hT b q
  omega
structure RunB (h:Hs) (c0:Nat) (w:Hs) (p:Nat) (g:Geo) (sw sn ss sg so:Value) (D:Nat→Option Nd) (NS:List (List Value)) (W:List Nat) (l:List Fnd):Prop where
 B:LkAt w p g sw sn ss sg so l
 A:NdsAt w (p::idsOf so) sn ss (g.n+1) D NS
 H:Sto h [] w []
 r:Rd w sw 1 (Wl W)
 xr:∀b,Th.id (.rsl sw 1 (Wl W))=some b→b<c0
 pc:c0≤p
 sc:∀b,vId so=some b→c0≤b
 hc:h.nx≤c0
 cw:c0≤w.nx
theorem RunB.xw{h:Hs}{c0:Nat}{w:Hs}{p:Nat}{g:Geo}{sw sn ss sg so:Value}{D:Nat→Option Nd}{NS:List (List Value)}{W:List Nat}{l:List Fnd}(S:RunB h c0 w p g sw sn ss sg so D NS W l):∀b,Th.id (.rsl sw 1 (Wl W))=some b→b∉p::idsOf so:=λb hb q=>by
 have h1:=S.xr b hb
 rcases List.mem_cons.1 q with rfl|q
 ·have:=S.pc;omega
 ·have:=S.sc b (idsOf_mem.1 q);omega
theorem idsNext{w:Hs}{p:Nat}{so so':Value}(ni:∀b,vId so'=some b→w.nx≤b∨vId so=some b):∀b,b<w.nx→b∉p::idsOf so→b∉p::idsOf so':=λb hb hn q=>by
 rcases List.mem_cons.1 q with rfl|q
 ·exact hn List.mem_cons_self
 ·rcases ni b (idsOf_mem.1 q) with z|z
  ·omega
  ·exact hn (List.mem_cons_of_mem _ (idsOf_mem.2 z))
theorem RunB.step{h:Hs}{c0:Nat}{w u:Hs}{p:Nat}{g:Geo}{sw sn ss sg sg' so so':Value}{D:Nat→Option Nd}{NS:List (List Value)}{W:List Nat}{l l':List Fnd}(S:RunB h c0 w p g sw sn ss sg so D NS W l)(mu:MutS (p::idsOf so) w u)(B':LkAt u p g sw sn ss sg' so' l')(ni:∀b,vId so'=some b→w.nx≤b∨vId so=some b):RunB h c0 u p g sw sn ss sg' so' D NS W l':=
 ⟨B',S.A.mut mu (idsNext ni),boxKeep S.H mu (c0:=c0) (λb hb=>by
  rcases List.mem_cons.1 hb with rfl|hb
  ·exact S.pc
  ·exact S.sc b (idsOf_mem.1 hb)) S.hc (λt ht=>by cases ht),mu.rd S.r S.xw,S.xr,S.pc,λb hb=>by
  rcases ni b hb with z|z
  ·exact Nat.le_trans S.cw z
  ·exact S.sc b z,S.hc,Nat.le_trans S.cw mu.1⟩
theorem RunB.pass{R:RnK}{f:FuncId}{K:KV}{Q:Value→Hs→Prop}{h:Hs}{c0:Nat}{w:Hs}{p:Nat}{g:Geo}{sw sn ss sg so:Value}{D:Nat→Option Nd}{NS:List (List Value)}{W:List Nat}{l l':List Fnd}(S:RunB h c0 w p g sw sn ss sg so D NS W l)
 (q:WP (R f [.pointer (some ⟨p,0,none⟩)] w) (QTell w p g sw sn ss sg so l')) (k:∀u so',RunB h c0 u p g sw sn ss sg so' D NS W l'→MutS (p::idsOf so) w u→(∀b,vId so'=some b→w.nx≤b∨vId so=some b)→WP (K (.tuple #[]) u) Q):WP (kCall R f [.pointer (some ⟨p,0,none⟩)] w K) Q:=by
 refine w_call q λv u hq=>?_
 obtain⟨rfl,mu,so',B',ni⟩:=hq
 exact k u so' (S.step mu B' ni) mu ni
set_option linter.unusedSimpArgs false
def CKHeads(R:RnK):Prop:=∀(h:Hs)(p:Nat)(g:Geo)(sw sn ss sg so:Value)(l:List Fnd)(W:List Nat),g.Ok→W.length=8*g.b→Small W→Rd h sw 1 (Wl W)→(∀b,Th.id (.rsl sw 1 (Wl W))=some b→b∉p::idsOf so)→LkAt h p g sw sn ss sg so l→l.length≤1000 →
 WP (R 24 [.pointer (some ⟨p,0,none⟩)] h) (QTell h p g sw sn ss sg so (l++headF1 g W++headF2 g W))
def CKBooks(R:RnK):Prop:=∀(h:Hs)(p:Nat)(g:Geo)(sw sn ss sg so:Value)(l:List Fnd)(W:List Nat),g.Ok→W.length=8*g.b→Small W→Rd h sw 1 (Wl W)→(∀b,Th.id (.rsl sw 1 (Wl W))=some b→b∉p::idsOf so)→LkAt h p g sw sn ss sg so l→l.length≤1000 →
 WP (R 25 [.pointer (some ⟨p,0,none⟩)] h) (QTell h p g sw sn ss sg so (l++booksF g W g.c))
def CKNode(R:RnK):Prop:=∀(h:Hs)(p:Nat)(g:Geo)(sw sg so:Value)(bn bs:Nat)(NS:List (List Value))(SS:List Bool)(l:List Fnd)(W:List Nat)(n:Nat),g.Ok→W.length=8*g.b→Small W→Rd h sw 1 (Wl W)→LkAt h p g sw (lkS (g.n+1) bn) (lkS (g.n+1) bs) sg so l→l.length≤1000→RowsAt h bn bs (g.n+1) NS SS→(bn≠p∧bs≠p∧vId so≠some bn∧vId so≠some bs) →
 (∀b,Th.id (.rsl sw 1 (Wl W))=some b→b∉p::bn::bs::idsOf so)→(1≤n∧n≤g.n)→SS[n]?=some false→WP (R 26 [.pointer (some ⟨p,0,none⟩),kI n] h) (QNode h p g sw sg so bn bs (g.n+1) NS SS l n (ndAt g W n))
def CKShared(R:RnK):Prop:=∀(h:Hs)(p:Nat)(g:Geo)(sw sn ss sg so:Value)(l:List Fnd)(k:Nat)(D:Nat→Option Nd)(NS:List (List Value)),LkAt h p g sw sn ss sg so l→l.length≤90000→NdsAt h (p::idsOf so) sn ss k D NS→DOk g k D →
 WP (R 27 [.pointer (some ⟨p,0,none⟩)] h) (QTell h p g sw sn ss sg so (l++(shAll D k).2))
def CKSlots(R:RnK):Prop:=∀(h:Hs)(p:Nat)(g:Geo)(sw sn ss so:Value)(l:List Fnd)(k:Nat)(D:Nat→Option Nd)(NS:List (List Value))(W:List Nat),LkAt h p g sw sn ss nilV so l→l.length≤1000→NdsAt h (p::idsOf so) sn ss k D NS→DOk g k D→W.length=8*g.b→Small W→Rd h sw 1 (Wl W)→(∀b,Th.id (.rsl sw 1 (Wl W))=some b→b∉p::idsOf so) →
 WP (R 28 [.pointer (some ⟨p,0,none⟩)] h) (QSlots h p g sw sn ss so (l++(slAll k D W k).F) (slAll k D W k).G)
def CKReach(R:RnK):Prop:=∀(h:Hs)(p:Nat)(g:Geo)(sw sn ss sg so:Value)(l:List Fnd)(k:Nat)(D:Nat→Option Nd)(NS:List (List Value))(G:List Plc),LkAt h p g sw sn ss sg so l→l.length≤90000→NdsAt h (p::idsOf so) sn ss k D NS→k≤65→Rd h sg 4 (G.map plC)→(∀b,Th.id (.rsl sg 4 (G.map plC))=some b→b∉p::idsOf so)→G.length≤90000→(∀x∈G,x.1<k∧x.2.2.1<k) →
 WP (R 29 [.pointer (some ⟨p,0,none⟩)] h) (QTell h p g sw sn ss sg so (l++reachF D (rcAll D G) k))
def CKLinks(R:RnK):Prop:=∀(h:Hs)(p:Nat)(g:Geo)(sw sn ss sg so:Value)(l:List Fnd)(k:Nat)(D:Nat→Option Nd)(NS:List (List Value))(G:List Plc),LkAt h p g sw sn ss sg so l→l.length≤90000→NdsAt h (p::idsOf so) sn ss k D NS→k≤65→Rd h sg 4 (G.map plC)→(∀b,Th.id (.rsl sg 4 (G.map plC))=some b→b∉p::idsOf so)→G.length≤90000 →
 WP (R 30 [.pointer (some ⟨p,0,none⟩)] h) (QTell h p g sw sn ss sg so (l++linkF D (lkCnt G) k))
def CKTaken(R:RnK):Prop:=∀(h:Hs)(p:Nat)(g:Geo)(sw sn ss sg so:Value)(l:List Fnd)(k:Nat)(D:Nat→Option Nd)(NS:List (List Value))(W:List Nat),LkAt h p g sw sn ss sg so l→l.length≤90000→NdsAt h (p::idsOf so) sn ss k D NS→DOk g k D→W.length=8*g.b→Small W→Rd h sw 1 (Wl W)→(∀b,Th.id (.rsl sw 1 (Wl W))=some b→b∉p::idsOf so) →
 WP (R 31 [.pointer (some ⟨p,0,none⟩)] h) (QTell h p g sw sn ss sg so (l++takF g (bitsW g W) (usedN D k) (512*g.bitsN)))
theorem RunA.xw{h:Hs}{c0 bx:Nat}{w:Hs}{p:Nat}{g:Geo}{sw so:Value}{bn bs:Nat}{W:List Nat}{l:List Fnd}{NS:List (List Value)}{SS:List Bool}{fl:Bool}(S:RunA h c0 bx w p g sw so bn bs W l NS SS fl):∀b,b<c0→b∉p::bn::bs::idsOf so:=λb hb q=>by
 have:=S.pc;have:=S.nc;have:=S.bc
 rcases List.mem_cons.1 q with rfl|q
 ·omega
 rcases List.mem_cons.1 q with rfl|q
 ·omega
 rcases List.mem_cons.1 q with rfl|q
 ·omega
 ·have:=S.sc b (idsOf_mem.1 q);omega
theorem RunA.node{R:RnK}(kn:CKNode R){K:KV}{Q:Value→Hs→Prop}{h:Hs}{c0 bx:Nat}{w:Hs}{p:Nat}{g:Geo}{sw so:Value}{bn bs:Nat}{W:List Nat}{l:List Fnd}{NS:List (List Value)}{SS:List Bool}{fl:Bool}(S:RunA h c0 bx w p g sw so bn bs W l NS SS fl)(x:g.Ok)(hW:W.length=8*g.b)(sm:Small W)(hl:l.length≤1000){n:Nat}(P:NdPart w (p::bn::bs::idsOf so) (g.n+1) n (sndN g W) NS SS)(hn:n<g.n)
 (k:∀u so' NS' SS',RunA h c0 bx u p g sw so' bn bs W (l++nodeF1 g W (n+1)) NS' SS' fl→NdPart u (p::bn::bs::idsOf so') (g.n+1) (n+1) (sndN g W) NS' SS'→WP (K (.tuple #[]) u) Q):WP (kCall R 26 [.pointer (some ⟨p,0,none⟩),kI (n+1)] w K) Q:=by
 have s0:=P.s (n+1) (by omega)
 rw[if_neg (by omega)] at s0
 refine w_call (kn w p g sw nilV so bn bs NS SS l W (n+1) x hW sm S.r S.B hl S.A S.dj (λb hb=>S.xw b (S.xr b hb)) ⟨by omega,by omega⟩ s0) λv u hq=>?_
 obtain⟨rfl,mu,so',l',NS',SS',B',A',ni,hc⟩:=hq
 have hT:∀b∈p::bn::bs::idsOf so,c0≤b:=λb hb=>Nat.le_of_not_lt λz=>S.xw b z hb
 have H':=boxKeep S.H mu hT S.hc (λt ht b hb=>by rw[List.mem_singleton.1 ht] at hb;injection hb with hb;subst hb;exact S.xc)
 have xr':∀b,Th.id (.rsl sw 1 (Wl W))=some b→b∉p::bn::bs::idsOf so:=λb hb=>S.xw b (S.xr b hb)
 have sc':∀b,vId so'=some b→c0≤b:=λb hb=>(ni b hb).elim (λz=>Nat.le_trans S.cw z) (λz=>S.sc b z)
 have dj':bn≠p∧bs≠p∧vId so'≠some bn∧vId so'≠some bs:=⟨S.dj.1,S.dj.2.1,λe=>(ni _ e).elim (λz=>by have:=S.A.n1;omega) (λz=>S.dj.2.2.1 z),λe=>(ni _ e).elim (λz=>by have:=S.A.n2;omega) (λz=>S.dj.2.2.2 z)⟩
 have tn:∀b,b<w.nx→b∉p::bn::bs::idsOf so→b∉p::bn::bs::idsOf so':=λb hb hn q=>by
  rcases List.mem_cons.1 q with rfl|q
  ·exact hn List.mem_cons_self
  rcases List.mem_cons.1 q with rfl|q
  ·exact hn (List.mem_cons_of_mem _ List.mem_cons_self)
  rcases List.mem_cons.1 q with rfl|q
  ·exact hn (List.mem_cons_of_mem _ (List.mem_cons_of_mem _ List.mem_cons_self))
  ·rcases ni b (idsOf_mem.1 q) with z|z
   ·omega
   ·exact hn (List.mem_cons_of_mem _ (List.mem_cons_of_mem _ (List.mem_cons_of_mem _ (idsOf_mem.2 z))))
 have old:∀m d,m≤n→sndN g W m=some d→d.Mod∧∃a c,NS[m]?=some (neC d a c)∧Rd u (.slice a d.rs.length c) 2 (Rl d.rs)∧∀b,Th.id (.rsl (.slice a d.rs.length c) 2 (Rl d.rs))=some b→b∉p::bn::bs::idsOf so':=λm d hm hd=>by
  obtain⟨dm,a,c,h1,h2,h3⟩:=P.d m d hm hd
  exact⟨dm,a,c,h1,mu.rd h2 h3,λb hb=>tn b (h2.2 b hb) (h3 b hb)⟩
 rcases hc with⟨k0,rfl,rfl,rfl⟩|⟨k0,d,a,c,hd,dm,rfl,rfl,rfl,rfl,rd,ri⟩
 ·have e1:nodeF1 g W (n+1) = [(2,kindN g (n+1) (ndAt g W (n+1)),n+1,0)]:=if_neg k0
  have e2:sndN g W (n+1)=none:=if_neg λq=>k0 q.2.2
  refine k u so' NS' SS' ⟨by rw[e1];exact B',A',H',mu.rd S.r xr',S.xr,S.pc,S.nc,S.bc,sc',S.xc,S.hc,Nat.le_trans S.cw mu.1,dj'⟩ ⟨λm hm=>?_,λm d hm hd=>?_⟩
  ·by_cases q:m=n+1
   ·subst q
    rw[if_pos (Nat.le_refl _),e2]
    exact s0
   ·rw[P.s m hm]
    by_cases z:m≤n
    ·rw[if_pos z,if_pos (by omega)]
    ·rw[if_neg z,if_neg (by omega)]
  ·by_cases q:m=n+1
   ·subst q
    rw[e2] at hd;cases hd
   ·exact old m d (by omega) hd
 ·have e1:nodeF1 g W (n+1) = []:=if_pos k0
  have e2:sndN g W (n+1)=if d.ty=0 then none else some d:=by
   unfold sndN
   rw[if_pos ⟨by omega,by omega,k0⟩,hd];rfl
  have ln:n+1<NS.length:=by rw[S.A.l1];omega
  have ls:n+1<SS.length:=by rw[S.A.l2];omega
  refine k u so' _ _ ⟨by rw[e1,List.append_nil];exact B',A',H',mu.rd S.r xr',S.xr,S.pc,S.nc,S.bc,sc',S.xc,S.hc,Nat.le_trans S.cw mu.1,dj'⟩ ⟨λm hm=>?_,λm d' hm hd'=>?_⟩
  ·rw[List.getElem?_set]
   by_cases q:n+1=m
   ·subst q
    rw[if_pos rfl,if_pos ls,if_pos (Nat.le_refl _),e2]
    by_cases z:d.ty=0
    ·rw[if_pos z];simp[z]
    ·rw[if_neg z];simp[z]
   ·rw[if_neg q,P.s m hm]
    by_cases z:m≤n
    ·rw[if_pos z,if_pos (by omega)]
    ·rw[if_neg z,if_neg (by omega)]
  ·by_cases q:m=n+1
   ·subst q
    rw[e2] at hd'
    split at hd'
    ·cases hd'
    ·injection hd' with hd'
     subst hd'
     refine⟨dm,a,c,by rw[List.getElem?_set_self ln],rd,λb hb z=>?_⟩
     have h1:=ri b hb
     have h2:=rd.2 b hb
     rcases List.mem_cons.1 z with rfl|z
     ·have:=S.B.pl;omega
     rcases List.mem_cons.1 z with rfl|z
     ·have:=S.A.n1;omega
     rcases List.mem_cons.1 z with rfl|z
     ·have:=S.A.n2;omega
     ·have:=(S.B.bid b (idsOf_mem.1 z)).1;omega
   ·obtain⟨dm',a',c',h1,h2⟩:=old m d' (by omega) hd'
    exact⟨dm',a',c',by rw[List.getElem?_set,if_neg (λe=>q e.symm)];exact h1,h2⟩
set_option linter.unusedSimpArgs false
abbrev OF(v:Value)(fl:Bool)(l:List Fnd):Th:=.osl v 37 4 fl l.length (Fc l)
theorem headOf_ok{n:Nat}{l:List Nat}{p:Geo × Nat}(h:headOf n l=some p):p.1.Ok∧p.1.b=n:=by
 unfold headOf at h
 obtain⟨h1,h2⟩:=Option.filter_eq_some_iff.1 h
 exact⟨(getHead_some h1).1,by simpa using h2⟩
theorem head1_ok{l:List Nat}{p:Geo × Nat}(h:head1 l=some p):p.1.Ok∧p.1.b=l.length/8:=by
 unfold head1 at h
 split at h
 ·exact headOf_ok h
 ·cases h
theorem head2_ok{l:List Nat}{p:Geo × Nat}(h:head2 l=some p):p.1.Ok∧p.1.b=l.length/8:=by
 unfold head2 at h
 split at h
 ·exact headOf_ok h
 ·cases h
theorem opened_ok{W:List Nat}{g:Geo}(h:opened W=some g)(h8:W.length%8=0):g.Ok∧W.length=8*g.b:=by
 unfold opened at h
 cases h1:head1 W with
 |some p=>
  rw[h1] at h
  injection h with h
  subst h
  have:=head1_ok h1
  exact⟨this.1,by have:=this.2;show W.length=8*p.1.b;omega⟩
 | none =>
  rw[h1] at h
  cases h2:head2 W with
  |some p=>
   rw[h2] at h
   injection h with h
   subst h
   have:=head2_ok h2
   exact⟨this.1,by have:=this.2;show W.length=8*p.1.b;omega⟩
  |none=>rw[h2] at h;cases h
theorem OwnSl.rd{h:Hs}{v:Value}{e u n:Nat}{fl:Bool}{Ls:List (List Value)}(o:OwnSl h v e u fl n Ls.flatten)(hu:∀l∈Ls,l.length=u)(hn:Ls.length=n)(hb:∀b,vId v=some b→b<h.nx):Rd h v u Ls:=by
 obtain⟨_,o⟩:=o
 have fl4:=flatten_len hu
 rcases o with⟨rfl,rfl⟩|⟨id,c,cs,sz,f,rfl,hc,hg,_,hsz,hh⟩
 ·rw[List.eq_nil_of_length_eq_zero hn]
  exact⟨⟨λl hl=>(by cases hl),.inl ⟨_,_,rfl,rfl⟩⟩,λb hb=>(by cases hb)⟩
 ·subst hn
  refine⟨⟨hu,.inr ⟨id,0,c,cs,sz,e,u,true,f,rfl,hc,hg,.inr rfl,λi j l hi hj=>?_⟩⟩,λb hb'=>?_⟩
  ·have li:=(List.getElem?_eq_some_iff.1 hi).1
   have:(i+1)*u≤Ls.length*u:=Nat.mul_le_mul_right _ li
   rw[Nat.succ_mul] at this
   rw[Nat.zero_add,hh _ (by omega),flatten_get hu i j hj,hi];rfl
  ·unfold Th.id at hb'
   cases q:Ls with
   |nil=>rw[q] at hb';cases hb'
   |cons x y=>rw[q] at hb';exact hb b hb'
theorem rslId{v:Value}{u:Nat}{L:List (List Value)}{b:Nat}(h:Th.id (.rsl v u L)=some b):vId v=some b:=by
 unfold Th.id at h
 cases L with
 |nil=>cases h
 |cons x y=>exact h
theorem checkG_srt{g:Geo}(x:g.Ok)(W:List Nat):(checkG g W).Pairwise fLt∧(∀f∈checkG g W,Fb f∧f.1≤7)∧(checkG g W).length<90000:=by
 have dk:=sndN_ok x W
 have n2:=x.1.n2
 have c2:=x.1.c2
 have b2:=x.1.b2
 have nm:=x.1.num
 have s0:=seg_heads x W
 have s1:=seg_books g W g.c
 have s2:=seg_nodes g W g.n
 have s3:=(seg_shared (sndN g W) (g.n+1) (by omega)).1
 have o4:=slAll_ok dk W (g.n+1) (Nat.le_refl _)
 have l4:=slAll_len dk (W:=W) (g.n+1) (Nat.le_refl _)
 have s4:Seg 4 (g.n+1) (slAll (g.n+1) (sndN g W) W (g.n+1)).F:=⟨o4.pw,λf hf=>by have:=o4.at_ f hf;omega⟩
 have s5:=seg_reach (sndN g W) (rcAll (sndN g W) (slAll (g.n+1) (sndN g W) W (g.n+1)).G) (g.n+1)
 have lk:=lkCnt_le _ (slAll (g.n+1) (sndN g W) W (g.n+1)).G rfl
 have s6:=seg_links (sndN g W) (c:=lkCnt (slAll (g.n+1) (sndN g W) W (g.n+1)).G) (λy=>by have:=lk y;omega) (g.n+1)
 have s7:=seg_taken g (bitsW g W) (usedN (sndN g W) (g.n+1)) (512*g.bitsN)
 have l0:(headF1 g W++headF2 g W).length≤2:=by
  rcases headF1_eq g W with q|q|q<;>rcases headF2_eq g W with q2|q2|q2<;>rw[q,q2]<;>simp
 have l1:=booksF_len g W g.c
 have l2:=nodesF_len g W g.n
 have l3:=shAll_len (sndN g W) (g.n+1)
 have l5:=reachF_len (sndN g W) (rcAll (sndN g W) (slAll (g.n+1) (sndN g W) W (g.n+1)).G) (g.n+1)
 have l6:=linkF_len (sndN g W) (lkCnt (slAll (g.n+1) (sndN g W) W (g.n+1)).G) (g.n+1)
 have l7:=takF_len g (bitsW g W) (usedN (sndN g W) (g.n+1)) (512*g.bitsN)
 have a1:=Seg.app 0 s0.pw (λf hf=>by have:=(s0.at_ f hf).1;omega) s1 (by omega)
 have a2:=Seg.app 1 a1.1 a1.2 s2 (by omega)
 have a3:=Seg.app 2 a2.1 a2.2 s3 (by omega)
 have a4:=Seg.app 3 a3.1 a3.2 s4 (by omega)
 have a5:=Seg.app 4 a4.1 a4.2 s5 (by omega)
 have a6:=Seg.app 5 a5.1 a5.2 s6 (by omega)
 have a7:=Seg.app 6 a6.1 a6.2 s7 (by omega)
 refine⟨a7.1,λf hf=>?_,?_⟩
 ·have fb:∀{p n:Nat}{l:List Fnd},p≤7→n≤2000→Seg p n l→f∈l→Fb f∧f.1≤7:=λhp hn s hf=>by
   have:=s.at_ f hf
   exact⟨⟨by omega,by omega,by omega,by omega⟩,by omega⟩
  unfold checkG at hf
  rcases List.mem_append.1 hf with hf|hf
  rcases List.mem_append.1 hf with hf|hf
  rcases List.mem_append.1 hf with hf|hf
  rcases List.mem_append.1 hf with hf|hf
  rcases List.mem_append.1 hf with hf|hf
  rcases List.mem_append.1 hf with hf|hf
  rcases List.mem_append.1 hf with hf|hf
  ·exact fb (by omega) (by omega) s0 hf
  ·exact fb (by omega) (by omega) s1 hf
  ·exact fb (by omega) (by omega) s2 hf
  ·exact fb (by omega) (by omega) s3 hf
  ·exact fb (by omega) (by omega) s4 hf
  ·exact fb (by omega) (by omega) s5 hf
  ·exact fb (by omega) (by omega) s6 hf
  ·exact fb (by omega) (by omega) s7 hf
 ·unfold checkG
  rw[List.length_append,List.length_append,List.length_append,List.length_append,List.length_append,List.length_append,List.length_append]
  omega
theorem RunA.tell{R:RnK}{f:FuncId}{K:KV}{Q:Value→Hs→Prop}{h:Hs}{c0 bx:Nat}{w:Hs}{p:Nat}{g:Geo}{sw so:Value}{bn bs:Nat}{W:List Nat}{l l':List Fnd}{NS:List (List Value)}{SS:List Bool}{fl:Bool}(S:RunA h c0 bx w p g sw so bn bs W l NS SS fl)
 (q:WP (R f [.pointer (some ⟨p,0,none⟩)] w) (QTell w p g sw (lkS (g.n+1) bn) (lkS (g.n+1) bs) nilV so l')) (k:∀u so',RunA h c0 bx u p g sw so' bn bs W l' NS SS fl→WP (K (.tuple #[]) u) Q):WP (kCall R f [.pointer (some ⟨p,0,none⟩)] w K) Q:=by
 refine w_call q λv u hq=>?_
 obtain⟨rfl,mu,so',B',ni⟩:=hq
 have hT:∀b∈p::idsOf so,c0≤b:=λb hb=>Nat.le_of_not_lt λz=>S.xw b z (by
  rcases List.mem_cons.1 hb with rfl|hb
  ·exact List.mem_cons_self
  ·exact List.mem_cons_of_mem _ (List.mem_cons_of_mem _ (List.mem_cons_of_mem _ hb)))
 have H':=boxKeep S.H mu hT S.hc (λt ht b hb=>by rw[List.mem_singleton.1 ht] at hb;injection hb with hb;subst hb;exact S.xc)
 have m1:bn∉p::idsOf so:=λq=>(List.mem_cons.1 q).elim (λe=>S.dj.1 e) λe=>S.dj.2.2.1 (idsOf_mem.1 e)
 have m2:bs∉p::idsOf so:=λq=>(List.mem_cons.1 q).elim (λe=>S.dj.2.1 e) λe=>S.dj.2.2.2 (idsOf_mem.1 e)
 exact k u so' ⟨B',S.A.ext mu.1 (mu.2.1 bn S.A.n1 m1) (mu.2.1 bs S.A.n2 m2),H',mu.rd S.r (λb hb q=>by have:=hT b q;have:=S.xr b hb;omega),S.xr,S.pc,S.nc,S.bc,λb hb=>(ni b hb).elim (λz=>Nat.le_trans S.cw z) (λz=>S.sc b z),S.xc,S.hc,Nat.le_trans S.cw mu.1,
  ⟨S.dj.1,S.dj.2.1,λe=>(ni _ e).elim (λz=>by have:=S.A.n1;omega) (λz=>S.dj.2.2.1 z),λe=>(ni _ e).elim (λz=>by have:=S.A.n2;omega) (λz=>S.dj.2.2.2 z)⟩⟩
theorem RunA.xq{h:Hs}{c0 bx:Nat}{w:Hs}{p:Nat}{g:Geo}{sw so:Value}{bn bs:Nat}{W:List Nat}{l:List Fnd}{NS:List (List Value)}{SS:List Bool}{fl:Bool}(S:RunA h c0 bx w p g sw so bn bs W l NS SS fl):∀b,Th.id (.rsl sw 1 (Wl W))=some b→b∉p::idsOf so:=λb hb q=>S.xw b (S.xr b hb) (by
 rcases List.mem_cons.1 q with rfl|q
 ·exact List.mem_cons_self
 ·exact List.mem_cons_of_mem _ (List.mem_cons_of_mem _ (List.mem_cons_of_mem _ q)))
theorem RunA.all{h:Hs}{c0 bx:Nat}{w:Hs}{p:Nat}{g:Geo}{sw so:Value}{bn bs:Nat}{W:List Nat}{l:List Fnd}{NS:List (List Value)}{SS:List Bool}{fl:Bool}(S:RunA h c0 bx w p g sw so bn bs W l NS SS fl){D:Nat→Option Nd}(P:NdPart w (p::bn::bs::idsOf so) (g.n+1) g.n D NS SS):RunB h c0 w p g sw (lkS (g.n+1) bn) (lkS (g.n+1) bs) nilV so D NS W l:=by
 have eS:SS.map Value.bool=((List.range (g.n+1)).map λn=>.bool (D n).isSome):=by
  apply List.ext_getElem?
  intro i
  rw[List.getElem?_map,List.getElem?_map]
  by_cases hi:i<g.n+1
  ·rw[P.s i hi,if_pos (by omega),List.getElem?_range hi];rfl
  ·rw[List.getElem?_eq_none (by rw[S.A.l2];omega),List.getElem?_eq_none (by rw[List.length_range];omega)];rfl
 obtain⟨f1,r1⟩:=S.A.r1
 obtain⟨f2,r2⟩:=S.A.r2
 rw[eS] at r2
 have sub:∀b,b∉p::bn::bs::idsOf so→b∉p::idsOf so:=λb hb q=>hb (by
  rcases List.mem_cons.1 q with rfl|q
  ·exact List.mem_cons_self
  ·exact List.mem_cons_of_mem _ (List.mem_cons_of_mem _ (List.mem_cons_of_mem _ q)))
 have ix:∀{b n:Nat}{u:Nat}{L:List (List Value)}{b':Nat},Th.id (.rsl (lkS n b) u L)=some b'→b'=b:=λ{b n u L b'} hb=>by
  unfold Th.id at hb
  cases L with
  |nil=>cases hb
  |cons x y=>injection hb with hb;exact hb.symm
 refine⟨S.B,⟨S.A.l1,Holds.rd r1 S.A.n1 S.A.u4 S.A.l1,λb hb q=>?_,Holds.rd (by rw[ones_flatten];exact r2) S.A.n2 (ones_one _) (by rw[ones_len,List.length_map,List.length_range]),λb hb q=>?_,λn d hn hd=>?_⟩,S.H.sel [] 1 rfl (λi hi=>by cases hi) List.nodup_nil,S.r,S.xr,S.pc,S.sc,S.hc,S.cw⟩
 ·rw[ix hb] at q
  exact(List.mem_cons.1 q).elim (λe=>S.dj.1 e) λe=>S.dj.2.2.1 (idsOf_mem.1 e)
 ·rw[ix hb] at q
  exact(List.mem_cons.1 q).elim (λe=>S.dj.2.1 e) λe=>S.dj.2.2.2 (idsOf_mem.1 e)
 ·obtain⟨dm,a,c,g1,g2,g3⟩:=P.d n d (by omega) hd
  exact⟨dm,a,c,g1,g2,λb hb=>sub b (g3 b hb)⟩
theorem retOne{h u:Hs}{m:List Th}{b:Nat}{fl:Bool}{f:Fnd}{l:List Fnd}(e:l = [f])(H:Sto h [] u (.blk b (.row 37 4 true fl (fC f))::m)):WP (clrK h (.slice (some ⟨b,0,none⟩) 1 1) u) λr u=>∃fl,New h u (OF r fl l):=by
 subst e
 have H2:=H.osl 0 (n:=1) (c:=1) rfl rfl (by decide)
 exact w_clrO 0 H2 rfl λv' h' q=>⟨fl,q⟩
def CRun(R:RnK):Prop:=∀(W:List Nat)(v:Value)(h:Hs),Small W→W.length<100000→Rd h v 1 (Wl W)→WP (R 9 [v] h) λr u=>∃fl,New h u (OF r fl (checkR W))
theorem run_ok{R:RnK}{N:Nat}(hN:100000<N)(co:COpen R)(ch:CKHeads R)(cb:CKBooks R)(cn:CKNode R)(cs:CKShared R)(cl:CKSlots R)(cr:CKReach R)(ci:CKLinks R)(ct:CKTaken R)(cz:CSort R){W:List Nat}{v:Value}{h:Hs}(sm:Small W)(hW:W.length<100000)(r:Rd h v 1 (Wl W)) :
 WP (r9 R N [v] h) λr u=>∃fl,New h u (OF r fl (checkR W)):=by
 unfold r9
 have e:=Wl_len W
 obtain⟨a,c,rfl⟩:=r.1.formN e
 have H:=Sto.enter1 r
 have bad:(W.length%8≠0∨W.length/8<64∨1024<W.length/8)→checkR W = [(0,1,0,0)]:=λq=>if_pos q
 repeat' (first|(with_reducible first|refine w_jn ?_|refine w_cndT ?_|refine w_cndF ?_|refine w_gFt ?_|refine w_gFf ?_|refine w_pickT ?_|refine w_pickF ?_|refine w_unC ?_|refine w_enK ?_|refine w_lenV ?_)|((with_reducible apply w_build) ;rfl;(try dsimp only[splice,ev,cellsL,rep,List.cons_append,List.nil_append]))|((with_reducible apply w_mkrow H) ;rfl;(clear H;intro u H hu;(try dsimp only[List.set_cons_zero,List.set_cons_succ,cellsL,List.toList_toArray,splice,ev,rep,List.cons_append,List.nil_append] at H)))|((with_reducible first|refine w_lss_NN (λ_=>?_) (λ_=>?_)|refine w_gtr_NN (λ_=>?_) (λ_=>?_)|refine w_neq_NN (λ_=>?_) (λ_=>?_))<;>first|(exfalso;omega)|skip)|((with_reducible refine w_rem_NN ?_ ?_) ;omega)|((with_reducible refine w_quo_NN ?_ ?_ ?_) ;omega;omega))
 ·exact retOne (bad (.inr (.inl (by assumption)))) H
 ·exact retOne (bad (.inr (.inr (by assumption)))) H
 rotate_left
 ·exact retOne (bad (.inl (by assumption))) H
 clear bad
 have ck:checkR W=match opened W with|none=>[(0,2,0,0)]|some g=>checkG g W:=if_neg (by omega)
 obtain⟨co1,co2⟩:=co W (.slice a W.length c) ⟨h.hp,h.nx,h.nx⟩ sm hW (H.rd 0 rfl)
 cases ho:opened W with
 |none=>
  rw[ho] at ck
  refine w_callE (co2 ho) ?_
  unfold imgV
  repeat' (first|(with_reducible first|refine w_jn ?_|refine w_cndT ?_)|((with_reducible apply w_extr) ;rfl)|((with_reducible apply w_build) ;rfl;(try dsimp only[splice,ev,cellsL,rep,List.cons_append,List.nil_append]))|((with_reducible refine w_alloc H ?_) ;(clear H;intro u H hu))|((with_reducible apply w_mkrow H) ;rfl;(clear H;intro u H hu;(try dsimp only[List.set_cons_zero,List.set_cons_succ,cellsL,List.toList_toArray,splice,ev,rep,List.cons_append,List.nil_append] at H)))|((with_reducible refine w_neq_NN (λ_=>?_) (λ_=>?_))<;>first|(exfalso;omega)|skip)|((with_reducible apply w_storeV 0 H) ;rfl;rfl;rfl;omega;rfl;(clear H;intro u H hu;(try dsimp only[List.set_cons_zero,List.set_cons_succ,cellsL,List.toList_toArray,splice,ev,rep,List.cons_append,List.nil_append] at H))))
  exact retOne ck H
 | some g =>
  rw[ho] at ck
  obtain⟨x,hWg⟩:=opened_ok ho (by omega)
  refine w_call (co1 g ho) λv1 u1 hv=>?_
  obtain⟨sw,rfl,n1⟩:=hv
  obtain⟨as_,cs_,rfl⟩:=n1.2.1.form
  have e1:h.nx≤u1.nx:=n1.1.1.1
  have idw:=n1.2.2
  replace n1:=n1.ones
  rw[←Wl_ones] at n1
  replace H:=H.call n1
  have n2:=x.1.n2
  unfold imgV
  repeat' (first|(with_reducible first|refine w_jn ?_|refine w_cndF ?_|refine w_fieldA ?_)|((with_reducible apply w_extr) ;rfl)|((with_reducible refine w_alloc H ?_) ;(clear H;intro u H hu))|((with_reducible refine w_neq_NN (λ_=>?_) (λ_=>?_))<;>first|(exfalso;omega)|skip)|((with_reducible refine w_add_NN ?_ ?_) ;omega)|((with_reducible apply w_load 0 H) ;rfl;rfl;rfl)|((with_reducible apply w_storeV 0 H) ;rfl;rfl;rfl;omega;rfl;(clear H;intro u H hu;(try dsimp only[List.set_cons_zero,List.set_cons_succ,cellsL,List.toList_toArray,splice,ev,rep,List.cons_append,List.nil_append] at H)))|((with_reducible apply w_loadsF 0 H) ;rfl;rfl;rfl))
  refine w_mksliceM H (by omega) rfl λu2 H2 hu2=>?_
  clear H
  have H:=H2
  clear H2
  repeat' (first|(with_reducible refine w_fieldA ?_)|((with_reducible refine w_add_NN ?_ ?_) ;omega)|((with_reducible apply w_loadD 1 H) ;rfl;rfl;(intro _;simp only[HidOk,and_true];omega)))
  refine w_mksliceM H (by omega) rfl λu3 H3 hu3=>?_
  clear H
  have H:=H3
  clear H3
  repeat' (first|(with_reducible refine w_blind ?_)|((with_reducible apply w_build) ;rfl;(try dsimp only[splice,ev,cellsL,rep,List.cons_append,List.nil_append]))|((with_reducible refine w_boxM H ?_) ;(clear H;intro u H hu)))
  rename_i ua hua ub hub hz
  have z4:∀k,(rep [kI 0,kI 0,kI 0,nilV] k)=(List.replicate k [kI 0,kI 0,kI 0,nilV]).flatten:=rep_flat _
  obtain⟨flb,S0⟩:∃flb,RunA h (u1.nx+1) u1.nx u u3.nx g (.slice as_ W.length cs_) nilV ub.nx u2.nx W [] (List.replicate (g.n+1) [kI 0,kI 0,kI 0,nilV]) (List.replicate (g.n+1) false) flb:=by
   have i0:=H.lt 0 rfl
   have i1:=H.lt 1 rfl
   have i2:=H.lt 2 rfl
   have w0:=H.rd 4 rfl
   refine⟨_,⟨i0,⟨_,H.holds 0 rfl⟩,⟨true,rfl,.inl ⟨rfl,rfl⟩⟩,λb hb=>by cases hb⟩,⟨List.length_replicate,List.length_replicate,λl hl=>by rw[(List.mem_replicate.1 hl).2];rfl,i2,i1,by omega,⟨true,?_⟩,⟨true,?_⟩⟩,H.sel [3] 6 rfl (by decide) (by decide),w0,λb hb=>?_,by omega,by omega,by omega,λb hb=>(by cases hb),Nat.lt_succ_self _,by omega,by omega,⟨by omega,by omega,λe=>(by cases e),λe=>(by cases e)⟩⟩
   ·rw[←z4];exact H.holds 2 rfl
   ·rw[←rep_bool];exact H.holds 1 rfl
   ·have:=n1.2.2 b hb
    omega
  clear H idw n1
  refine S0.tell (ch _ _ g _ _ _ _ _ _ W x hWg sm S0.r S0.xq S0.B (by decide)) λu4 so4 S1=>?_
  have hd:=seg_heads x W
  have hl:(headF1 g W++headF2 g W).length≤2:=by
   rcases headF1_eq g W with q|q|q<;>rcases headF2_eq g W with q2|q2|q2<;>rw[q,q2]<;>simp
  rw[List.nil_append] at S1
  refine S1.tell (cb _ _ g _ _ _ _ _ _ W x hWg sm S1.r S1.xq S1.B (by omega)) λu5 so5 S2=>?_
  have bl:=booksF_len g W g.c
  have c2:=x.1.c2
  have n1:=x.1.n1
  have P0:NdPart u5 (u3.nx::ub.nx::u2.nx::idsOf so5) (g.n+1) 0 (sndN g W) (List.replicate (g.n+1) [kI 0,kI 0,kI 0,nilV]) (List.replicate (g.n+1) false):=by
   have d0:sndN g W 0=none:=if_neg λq=>by omega
   refine⟨λm hm=>?_,λm d hm hd=>?_⟩
   ·rw[List.getElem?_replicate,if_pos hm]
    by_cases q:m≤0
    ·rw[if_pos q,show m=0 from by omega,d0];rfl
    ·rw[if_neg q]
   ·rw[show m=0 from by omega,d0] at hd;cases hd
  refine w_jn ?_
  refine lp_ind (Good:=λr2 (self:L2)=>∀(n:Nat)(y1:Value)(w:Hs)(so:Value)(NS:List (List Value))(SS:List Bool),n+r2=g.n→RunA h (u1.nx+1) u1.nx w u3.nx g (.slice as_ W.length cs_) so ub.nx u2.nx W (headF1 g W++headF2 g W++booksF g W g.c++nodesF g W n) NS SS flb→NdPart w (u3.nx::ub.nx::u2.nx::idsOf so) (g.n+1) n (sndN g W) NS SS→WP (self (kI (n+1)) y1 w) (λr u=>∃fl,New h u (OF r fl (checkR W))))
   (λr2 self ih n y1 w so NS SS hi S P=>?_) N g.n (by omega) 0 _ _ _ _ _ (by omega) (by rw[show nodesF g W 0 = [] from rfl,List.append_nil];exact S2) P0
  clear S0 S1 S2 P0
  have H:=S.H
  repeat' (first|(with_reducible first|refine w_jn ?_|refine w_cndT ?_|refine w_cndF ?_|refine w_fieldA ?_)|((with_reducible refine w_leq_NN (λ_=>?_) (λ_=>?_))<;>first|(exfalso;omega)|skip)|((with_reducible apply w_load 0 H) ;rfl;rfl;rfl))
  ·have nl:=nodesF_len g W n
   have tl:(headF1 g W++headF2 g W++booksF g W g.c++nodesF g W n).length≤1000:=by rw[List.length_append,List.length_append];omega
   refine S.node cn x hWg sm tl P (by omega) λu6 so6 NS6 SS6 S6 P6=>?_
   repeat' (first|((with_reducible refine w_add_NN ?_ ?_) ;omega))
   exact ih (r2-1) (by omega) (n+1) _ _ so6 NS6 SS6 (by omega) (by rw[nodesF_succ,←List.append_assoc];exact S6) P6
  ·have en:n=g.n:=by omega
   subst en
   have dk:=sndN_ok x W
   obtain⟨cpw,cfb,cln⟩:=checkG_srt x W
   have l1:(headF1 g W++headF2 g W++booksF g W g.c++nodesF g W g.n).length≤500:=by
    have:=nodesF_len g W g.n
    rw[List.length_append,List.length_append];omega
   have l2:=shAll_len (sndN g W) (g.n+1)
   have l3:=slAll_len dk (W:=W) (g.n+1) (Nat.le_refl _)
   have o3:=slAll_ok dk W (g.n+1) (Nat.le_refl _)
   have T:=S.all P
   clear S P H ih
   have l4:=reachF_len (sndN g W) (rcAll (sndN g W) (slAll (g.n+1) (sndN g W) W (g.n+1)).G) (g.n+1)
   have l5:=linkF_len (sndN g W) (lkCnt (slAll (g.n+1) (sndN g W) W (g.n+1)).G) (g.n+1)
   unfold checkG at ck cpw cfb cln
   dsimp only at ck
   rw[ck]
   generalize headF1 g W++headF2 g W++booksF g W g.c++nodesF g W g.n=L1 at *
   refine T.pass (cs _ _ g _ _ _ _ _ _ _ _ _ T.B (by omega) T.A dk) λu6 so6 T2 _ _=>?_
   clear T
   generalize (shAll (sndN g W) (g.n+1)).2=L2 at *
   refine w_call (cl _ _ g _ _ _ _ _ _ _ _ W T2.B (by rw[List.length_append];omega) T2.A dk hWg sm T2.r T2.xw) λv7 u7 hq=>?_
   obtain⟨rfl,mu,so7,sg,fl7,B7,ni,og,ig⟩:=hq
   have T3:=T2.step mu B7 ni
   clear T2 mu
   have rg:Rd u7 sg 4 ((slAll (g.n+1) (sndN g W) W (g.n+1)).G.map plC):=OwnSl.rd og (λl hl=>by obtain⟨y,_,rfl⟩:=List.mem_map.1 hl;rfl) (List.length_map _) (λb hb=>(ig b hb).2.1)
   have xg:∀b,Th.id (.rsl sg 4 ((slAll (g.n+1) (sndN g W) W (g.n+1)).G.map plC))=some b→b∉u3.nx::idsOf so7:=λb hb q=>by
    have:=ig b (rslId hb)
    rcases List.mem_cons.1 q with rfl|q
    ·exact this.1 rfl
    ·exact this.2.2 (idsOf_mem.1 q)
   clear og ig ni
   have gk:=o3.gd
   generalize slAll (g.n+1) (sndN g W) W (g.n+1)=sl at *
   refine T3.pass (cr _ _ g _ _ _ _ _ _ _ _ _ _ T3.B (by rw[List.length_append,List.length_append];omega) T3.A (by omega) rg xg (by omega) (λy hy=>by have:=gk y hy;omega)) λu8 so8 T4 mu4 ni4=>?_
   have xg8:∀b,Th.id (.rsl sg 4 (sl.G.map plC))=some b→b∉u3.nx::idsOf so8:=λb hb=>idsNext ni4 b (rg.2 b hb) (xg b hb)
   have rg8:=mu4.rd rg xg
   clear T3 mu4 ni4 rg xg
   refine T4.pass (ci _ _ g _ _ _ _ _ _ _ _ _ _ T4.B (by rw[List.length_append,List.length_append,List.length_append];omega) T4.A (by omega) rg8 xg8 (by omega)) λu9 so9 T5 _ _=>?_
   clear T4 rg8 xg8
   refine T5.pass (ct _ _ g _ _ _ _ _ _ _ _ _ W T5.B (by rw[List.length_append,List.length_append,List.length_append,List.length_append];omega) T5.A dk hWg sm T5.r T5.xw) λu10 so10 T6 _ _=>?_
   clear T5
   generalize L1++L2++sl.F++reachF (sndN g W) (rcAll (sndN g W) sl.G) (g.n+1)++linkF (sndN g W) (lkCnt sl.G) (g.n+1)++takF g (bitsW g W) (usedN (sndN g W) (g.n+1)) (512*g.bitsN)=L at *
   obtain⟨flr,hr⟩:=T6.B.row
   obtain⟨flo,hb⟩:=T6.B.buf
   have hnx:h.nx≤u3.nx:=Nat.le_trans T6.hc T6.pc
   have H:Sto h [] u10 [.rob u3.nx (lkO flr g (.slice as_ W.length cs_) (lkS (g.n+1) ub.nx) (lkS (g.n+1) u2.nx) sg so10),OF so10 flo L]:=by
    refine(T6.H.cons (OF so10 flo L) hb (λb hb=>⟨(T6.B.bid b hb).1,λ_=>.inl (Nat.le_trans T6.hc (T6.sc b hb))⟩) (λt ht=>by cases ht)).cons (.rob u3.nx _) hr (λb hb=>by injection hb with hb;subst hb;exact⟨T6.B.pl,λe=>by cases e⟩) λt ht _ b hb1 hb2=>?_
    rw[List.mem_singleton.1 ht] at hb2
    injection hb1 with hb1
    subst hb1
    exact(T6.B.bid _ hb2).2 rfl
   have rl:Rd u10 so10 4 (Fl L):=OwnSl.rd hb (λl hl=>by obtain⟨y,_,rfl⟩:=List.mem_map.1 hl;rfl) (List.length_map _) (λb hb=>(T6.B.bid b hb).1)
   have srt:Srt L:=⟨λf hf=>(cfb f hf).1,λi j hj hij=>List.pairwise_iff_getElem.1 cpw i j (by omega) hj hij,by omega⟩
   repeat' (first|(refine w_callE (cz L so10 _ srt rl) ?_)|(with_reducible first|refine w_fieldA ?_|refine w_nil ?_)|((with_reducible apply w_loadR 0 H) ;rfl;rfl;rfl))
   exact w_clrO 1 H rfl λv' h' q=>⟨flo,q⟩
def CFine(R:RnK):Prop:=∀(W:List Nat)(v:Value)(h:Hs),Small W→W.length<100000→Rd h v 1 (Wl W)→WP (R 8 [v] h) λr u=>u=h∧∃b,r=.bool b∧(b=true↔checkR W = [])
theorem X_o{R:RnK}{N:Nat}(cr:CRun R){W:List Nat}{v:Value}{h:Hs}(sm:Small W)(hW:W.length<100000)(r:Rd h v 1 (Wl W)):WP (r8 R N [v] h) λr u=>u=h∧∃b,r=.bool b∧(b=true↔checkR W = []):=by
 unfold r8
 have H:=Sto.enter1 r
 refine w_unC ?_
 refine w_enK ?_
 refine w_call (cr W v _ sm hW (H.rd 0 rfl)) λv1 u1 hv=>?_
 obtain⟨fl,n1⟩:=hv
 replace H:=H.call n1
 repeat' (first|((with_reducible refine w_eql_NN (λ_=>?_) (λ_=>?_))<;>first|(exfalso;omega)|skip)|((with_reducible apply w_lenO 0 H) ;rfl))
 ·exact w_clr H rfl ⟨rfl,_,rfl,by simp;exact List.eq_nil_of_length_eq_zero (by assumption)⟩
 ·have hh:¬(checkR W).length=0:=by assumption
  exact w_clr H rfl ⟨rfl,false,rfl,⟨λz=>(by cases z),λq=>absurd (by rw[q];rfl) hh⟩⟩
set_option linter.unusedSimpArgs false
theorem rot9(x:Nat):rot x 9=512*(x%36028797018963968)+x/36028797018963968%512∨18446744073709551616≤x:=by
 by_cases h:x<18446744073709551616
 ·refine .inl ?_
  unfold rot
  have e1:x*2^9%18446744073709551616=2^9*(x%36028797018963968):=by
   rw[show (18446744073709551616:Nat)=36028797018963968*512 from by decide,show (2:Nat)^9=512 from by decide,Nat.mul_mod_mul_right,Nat.mul_comm]
  have e2:x/2^(64-9)=x/36028797018963968:=by
   congr 1
  have lt:x/36028797018963968<2^9:=by
   have:(2:Nat)^9=512:=by decide
   omega
  rw[e1,e2,←Nat.two_pow_add_eq_or_of_lt lt]
  have p9:(2:Nat)^9=512:=by decide
  rw[p9] at lt ⊢
  omega
 ·exact .inr (by omega)
theorem Y_3{a b:Nat}(ha:a<18446744073709551616)(hb:b<18446744073709551616)(e:rot a 9=rot b 9):a=b:=by
 have h1:=rot9 a
 have h2:=rot9 b
 generalize rot a 9=x at *
 generalize rot b 9=y at *
 omega
theorem T_i{a b c:Nat}(e:a ^^^ c=b ^^^ c):a=b:=by
 have:=congrArg (· ^^^ c) e
 simpa [Nat.xor_assoc] using this
theorem M_n{a b c:Nat}(e:c ^^^ a=c ^^^ b):a=b:=T_i (c:=c) (by rw[Nat.xor_comm a,Nat.xor_comm b];exact e)
theorem N_5:∀(l:List Nat)(s s':Nat),Small l→s<18446744073709551616→s'<18446744073709551616→sealOn s l=sealOn s' l→s=s':=by
 intro l
 induction l with
 |nil=>intro s s' _ _ _ e;exact e
 |cons x l ih=>
  intro s s' hl h1 h2 e
  have hx:=hl x List.mem_cons_self
  have:=ih (rot s 9 ^^^ x) (rot s' 9 ^^^ x) (λn hn=>hl n (List.mem_cons_of_mem _ hn)) (xor_lt (rot_lt h1) hx) (xor_lt (rot_lt h2) hx) e
  exact Y_3 h1 h2 (T_i this)
theorem N_6:∀(l:List Nat)(j:Nat)(s x:Nat),Small l→s<18446744073709551616→x<18446744073709551616→(hj:j<l.length)→sealOn s (l.set j x)=sealOn s l→x=l[j]:=by
 intro l
 induction l with
 |nil=>intro j s x _ _ _ hj;exact absurd hj (by simp)
 | cons y l ih =>
  intro j s x hl hs hx hj e
  have hy:=hl y List.mem_cons_self
  have hl2:Small l:=λn hn=>hl n (List.mem_cons_of_mem _ hn)
  cases j with
  |zero=>
   have:=N_5 l (rot s 9 ^^^ x) (rot s 9 ^^^ y) hl2 (xor_lt (rot_lt hs) hx) (xor_lt (rot_lt hs) hy) e
   exact M_n this
  |succ j=>exact ih j (rot s 9 ^^^ y) x hl2 (xor_lt (rot_lt hs) hy) hx (by simpa using hj) e
theorem J_g{l:List Nat}(k:Nat)(hk:k≤7)(h8:l.length=8)(hl:Small l)(hs:l[7]?=some (sealOf (l.take k))){j x:Nat}(hj:j<k∨j=7)(hx:l[j]?≠some x)(x64:x<18446744073709551616):(l.set j x)[7]?≠some (sealOf ((l.set j x).take k)):=by
 intro e
 rcases hj with hj|rfl
 ·rw[List.getElem?_set_ne (by omega),hs,List.take_set] at e
  injection e with e
  have jl:j<(l.take k).length:=by rw[List.length_take];omega
  have:=N_6 (l.take k) j _ x (λn hn=>hl n (List.mem_of_mem_take hn)) (by decide) x64 jl e.symm
  rw[this,List.getElem_take] at hx
  exact hx (List.getElem?_eq_getElem (by omega))
 ·rw[List.getElem?_set_self (by omega),List.take_set_of_le hk] at e
  exact hx (hs.trans e.symm)
theorem I_x(g:Geo)(ph:Nat):(headW g ph)[7]?=some (sealOf ((headW g ph).take 6)):=rfl
theorem D_v{g:Geo}{ph j x:Nat}(hl:Small (headW g ph))(hj:j<8)(h6:j≠6)(hx:(headW g ph)[j]?≠some x)(x64:x<18446744073709551616):getHead ((headW g ph).set j x)=none:=by
 cases h:getHead ((headW g ph).set j x) with
 |none=>rfl
 |some p=>
  exfalso
  have e:=(getHead_some h).2
  refine J_g 6 (by omega) rfl hl (I_x g ph) (show j<6∨j=7 by omega) hx x64 ?_
  rw[e]
  exact I_x _ _
theorem R_e{d:Nd}(h:d.ty≠0)(h4:d.rs.length≤4):(nodeW d)[7]?=some (sealOf ((nodeW d).take 7)):=by
 have bl:=body_len h4
 unfold nodeW
 rw[if_neg h,List.getElem?_append_right (by omega),bl,List.take_append_of_le_length (by omega),List.take_of_length_le (by omega)]
 rfl
theorem F_v{l:List Nat}(h8:l.length=8)(hl:Small l)(hs:l[7]?=some (sealOf (l.take 7))){j x:Nat}(hj:j<8)(hx:l[j]?≠some x)(x64:x<18446744073709551616)(nz:∃i,i<8∧i≠j∧l[i]?≠some 0):getNode (l.set j x)=none:=by
 cases h:getNode (l.set j x) with
 |none=>rfl
 | some d =>
  exfalso
  obtain⟨hf,e⟩:=getNode_fits h
  by_cases t:d.ty=0
  ·obtain⟨i,i8,ij,hi⟩:=nz
   have:(l.set j x)[i]?=some 0:=by
    rw[←e]
    unfold nodeW
    rw[if_pos t,List.getElem?_replicate,if_pos i8]
   rw[List.getElem?_set_ne (λq=>ij q.symm)] at this
   exact hi this
  ·refine J_g 7 (by omega) h8 hl hs (show j<7∨j=7 by omega) hx x64 ?_
   rw[←e]
   unfold Nd.fits at hf
   rw[if_neg t] at hf
   exact R_e t hf.2.2.2.1
set_option linter.unusedSimpArgs false
def gP:Geo:=⟨64,10,1,20⟩
theorem X_r:gP.Ok:=by decide
abbrev W0:List Nat:=N_o gP
theorem G_l:W0.length=512:=by decide +kernel
theorem W0_small:Small W0:=by
 have:W0.all (λn=>decide (n<18446744073709551616))=true:=by decide +kernel
 intro n hn
 simpa using List.all_eq_true.1 this n hn
theorem C_e:blockAt W0 0=headW gP 0∧blockAt W0 63=headW gP 0:=by decide +kernel
theorem E_7:blockAt W0 22=nodeW rootN∧blockAt W0 23=nodeW (C_9 gP):=by decide +kernel
theorem E_j:∀b,b<63→24≤b→blockAt W0 b=List.replicate 8 0:=by decide +kernel
theorem O_p:W0[8]?=some 0:=by decide +kernel
theorem O_o:∀i,i<512→hasBit (bitsW gP W0) i=(decide (i<64)&&decide (i<42∨63≤i)):=by decide +kernel
theorem V_c:getNode (nodeW rootN)=some rootN:=by kernel_rfl
theorem U_s:getNode (nodeW (C_9 gP))=some (C_9 gP):=by kernel_rfl
theorem V_6:getNode (List.replicate 8 0)=some nd0:=by kernel_rfl
theorem J_y:getSlot (List.replicate 8 0)=some (0,[]):=by decide +kernel
theorem B_6:Small (nodeW rootN)∧Small (nodeW (C_9 gP))∧Small (headW gP 0):=by
 have h1:(nodeW rootN).all (λn=>decide (n<18446744073709551616))=true:=by decide +kernel
 have h2:(nodeW (C_9 gP)).all (λn=>decide (n<18446744073709551616))=true:=by decide +kernel
 have h3:(headW gP 0).all (λn=>decide (n<18446744073709551616))=true:=by decide +kernel
 exact⟨λn hn=>by simpa using List.all_eq_true.1 h1 n hn,λn hn=>by simpa using List.all_eq_true.1 h2 n hn,λn hn=>by simpa using List.all_eq_true.1 h3 n hn⟩
theorem I_g{W:List Nat}{j x b:Nat}(hj:j<W.length):blockAt (W.set j x) b=if j/8=b then (blockAt W b).set (j%8) x else blockAt W b:=by
 unfold blockAt
 apply List.ext_getElem?
 intro i
 by_cases q:j/8=b
 ·rw[if_pos q,List.getElem?_set]
  by_cases i8:i<8
  ·rw[List.getElem?_take_of_lt i8,List.getElem?_drop,List.getElem?_set]
   by_cases z:j%8=i
   ·rw[if_pos z,if_pos (by omega),if_pos (by omega),if_pos (by rw[List.length_take,List.length_drop];omega)]
   ·rw[if_neg z,if_neg (by omega),List.getElem?_take_of_lt i8,List.getElem?_drop]
  ·rw[List.getElem?_take_eq_none (by omega)]
   by_cases z:j%8=i
   ·omega
   ·rw[if_neg z,List.getElem?_take_eq_none (by omega)]
 ·rw[if_neg q]
  by_cases i8:i<8
  ·rw[List.getElem?_take_of_lt i8,List.getElem?_drop,List.getElem?_set_ne (by omega),List.getElem?_take_of_lt i8,List.getElem?_drop]
  ·rw[List.getElem?_take_eq_none (by omega),List.getElem?_take_eq_none (by omega)]
def D0(n:Nat):Option Nd:=if n=1 then some rootN else if n=2 then some (C_9 gP) else none
theorem S_a:rootN.good gP:=by
 unfold Nd.good
 rw[if_neg (by decide)]
 refine⟨by decide,by decide,by decide,by decide,by decide,by decide,.inr λi hi=>absurd hi (Nat.not_lt_zero _),by decide⟩
theorem Q_9:(C_9 gP).good gP:=by
 unfold Nd.good
 rw[if_neg (by decide)]
 refine⟨by decide,by decide,by decide,by decide,by decide,by decide,.inl ⟨rfl,rfl⟩,by decide⟩
theorem T_j:nd0.good gP:=by
 unfold Nd.good
 rw[if_pos (show nd0.ty=0 from rfl)]
 exact⟨rfl,rfl,rfl,rfl⟩
theorem Q_0:kindN gP 1 (some rootN)=0:=by
 unfold kindN
 dsimp only
 rw[if_neg (λq=>q S_a),if_neg (by decide),if_neg (by decide),if_neg (by decide),if_neg (by decide)]
theorem Q_z:kindN gP 2 (some (C_9 gP))=0:=by
 unfold kindN
 dsimp only
 rw[if_neg (λq=>q Q_9),if_neg (by decide),if_neg (by decide),if_neg (by decide),if_neg (by decide)]
theorem Q_1{n:Nat}(h:3≤n):kindN gP n (some nd0)=0:=by
 unfold kindN
 dsimp only
 rw[if_neg (λq=>q T_j),if_neg (by omega),if_neg (by omega),if_neg (by simp[nd0]),if_neg (by simp[nd0])]
theorem R_f{n:Nat}(h1:1≤n)(h2:n≤10):gP.nodeAt n=21+n:=by
 unfold Geo.nodeAt
 rw[if_pos ⟨h1,h2⟩]
 show 21+1+n-1=21+n
 omega
theorem E_i{W:List Nat}{n:Nat}(h:1≤n→n≤10→blockAt W (21+n)=blockAt W0 (21+n)):sndN gP W n=D0 n∧(1≤n→n≤10→kindN gP n (ndAt gP W n)=0):=by
 by_cases h1:1≤n∧n≤10
 ·have e:ndAt gP W n=getNode (blockAt W0 (21+n)):=by unfold ndAt;rw[R_f h1.1 h1.2,h h1.1 h1.2]
  have k:kindN gP n (ndAt gP W n)=0∧((ndAt gP W n).bind λd=>if d.ty=0 then none else some d)=D0 n:=by
   rw[e]
   by_cases q1:n=1
   ·subst q1
    rw[E_7.1,V_c]
    exact⟨Q_0,rfl⟩
   by_cases q2:n=2
   ·subst q2
    rw[E_7.2,U_s]
    exact⟨Q_z,rfl⟩
   ·rw[E_j (21+n) (by omega) (by omega),V_6]
    refine⟨Q_1 (by omega),?_⟩
    unfold D0
    rw[if_neg q1,if_neg q2];rfl
  refine⟨?_,λ_ _=>k.1⟩
  unfold sndN
  rw[if_pos ⟨h1.1,h1.2,k.1⟩]
  exact k.2
 ·refine⟨?_,λa b=>absurd ⟨a,b⟩ h1⟩
  unfold sndN D0
  rw[if_neg (λq=>h1 ⟨q.1,q.2.1⟩),if_neg (by omega),if_neg (by omega)]
set_option linter.unusedSimpArgs false
theorem K_9{k:Nat}{D:Nat→Option Nd}{W:List Nat}{n:Nat}:∀(l:List (Nat × Nat))(s:SlS × (List UInt8→Bool)),(∀ab∈l,∃nm,getSlot (blockAt W ab.2)=some (0,nm))→l.foldl (slStep k D W n) s=s:=by
 intro l
 induction l with
 |nil=>intro s _;rfl
 |cons x l ih=>
  intro s h
  obtain⟨nm,e⟩:=h x List.mem_cons_self
  have:slStep k D W n s x=s:=by unfold slStep;rw[e];rfl
  show l.foldl _ (slStep k D W n s x)=s
  rw[this]
  exact ih s λab hab=>h ab (List.mem_cons_of_mem _ hab)
theorem P_p{l:List Nat}{ab:Nat × Nat}(h:ab∈enumF l):ab.2∈l:=by
 unfold enumF at h
 exact(List.of_mem_zip h).2
theorem G_9{k:Nat}{D:Nat→Option Nd}{W:List Nat}(h:∀n,isDir D n=true→∀b∈blkN (D n),∃nm,getSlot (blockAt W b)=some (0,nm)):∀n,slAll k D W n=⟨λ_=>false,[],[]⟩:=by
 intro n
 induction n with
 |zero=>rfl
 |succ n ih=>
  rw[slAll_succ,ih]
  unfold slDir
  split
  ·rw[K_9 _ _ λab hab=>h n (by assumption) ab.2 (P_p hab)]
  ·rfl
theorem S_h{k:Nat}{D:Nat→Option Nd}{W:List Nat}{n:Nat}(s:SlS × (List UInt8→Bool))(ab:Nat × Nat)(h:s.1.F ≠ []):(slStep k D W n s ab).1.F ≠ []:=by
 have a:∀x:List Fnd,s.1.F++x ≠ []:=λx q=>h (List.append_eq_nil_iff.1 q).1
 unfold slStep
 split
 ·exact a _
 ·split
  ·exact h
  ·dsimp only
   split
   ·split
    ·split
     ·exact a _
     ·exact h
    ·exact h
   ·exact a _
theorem J_r{k:Nat}{D:Nat→Option Nd}{W:List Nat}{n:Nat}:∀(l:List (Nat × Nat))(s:SlS × (List UInt8→Bool)),(s.1.F ≠ []∨∃ab∈l,∀s,(slStep k D W n s ab).1.F ≠ [])→(l.foldl (slStep k D W n) s).1.F ≠ []:=by
 intro l
 induction l with
 |nil=>intro s h;exact h.elim id λ⟨ab,q,_⟩=>(by cases q)
 | cons x l ih =>
  intro s h
  refine ih (slStep k D W n s x) ?_
  rcases h with h|⟨ab,hab,h⟩
  ·exact .inl (S_h s x h)
  ·rcases List.mem_cons.1 hab with rfl|hab
   ·exact .inl (h s)
   ·exact .inr ⟨ab,hab,h⟩
theorem V_h{k:Nat}{D:Nat→Option Nd}{W:List Nat}{m:Nat}(hd:isDir D m=true){ab:Nat × Nat}(hab:ab∈enumF (blkN (D m)))(h:∀s,(slStep k D W m s ab).1.F ≠ []):∀n,m<n→(slAll k D W n).F ≠ []:=by
 intro n
 induction n with
 |zero=>intro q;omega
 | succ n ih =>
  intro hn
  rw[slAll_succ]
  unfold slDir
  by_cases q:n=m
  ·subst q
   rw[if_pos hd]
   exact J_r _ _ (.inr ⟨ab,hab,h⟩)
  ·have:=ih (by omega)
   split
   ·exact J_r _ _ (.inl this)
   ·exact this
theorem flatMap_nil{α β:Type}{l:List α}{f:α→List β}:l.flatMap f = []↔∀a∈l,f a = []:=List.flatMap_eq_nil_iff
theorem W_c{n:Nat}(h:isDir D0 n=true):n=1∨n=2:=by
 unfold isDir D0 at h
 by_cases q1:n=1
 ·exact .inl q1
 ·by_cases q2:n=2
  ·exact .inr q2
  ·rw[if_neg q1,if_neg q2] at h;cases h
theorem blk0:blkN (D0 2) = [32,33,34,35,36,37,38,39,40,41]:=by decide +kernel
theorem blk0r:blkN (D0 1) = []:=by decide +kernel
theorem used0:∀i,i<512→usedN D0 11 i=true→i<42:=by decide +kernel
theorem want0{i:Nat}(h:i<512):wantB gP (usedN D0 11) i=decide (i<42∨63≤i):=by
 have u:=used0 i h
 have e:wantB gP (usedN D0 11) i=(decide (i<42)||decide (63≤i)||usedN D0 11 i):=rfl
 rw[e]
 cases q:usedN D0 11 i with
 |false=>rw[Bool.or_false,←Bool.decide_or]
 |true=>have:=u q;rw[Bool.or_true,decide_eq_true (by omega)]
theorem sh0:(shAll D0 11).2 = []:=by decide +kernel
theorem rc0(D:Nat→Option Nd):rcAll D []=got0:=rfl
theorem reach0:reachF D0 got0 11 = []:=by decide +kernel
theorem links0:linkF D0 (lkCnt []) 11 = []:=by decide +kernel
theorem head0:getHead (headW gP 0)=some (gP,0):=by
 unfold getHead headW
 dsimp only
 exact if_pos ⟨X_r,rfl⟩
theorem C_i(W:List Nat):bitsW gP W=blockAt W 21:=rfl
theorem T_m{W:List Nat}(hb:∀b,b=0∨b=63∨(21≤b∧b≤41)→blockAt W b=blockAt W0 b)(h8:W[8]?=some 0):checkG gP W = []:=by
 have hD:sndN gP W=D0:=funext λn=>(E_i λh1 h2=>hb (21+n) (by omega)).1
 have hK:∀n,1≤n→n≤10→kindN gP n (ndAt gP W n)=0:=λn h1 h2=>(E_i λh1 h2=>hb (21+n) (by omega)).2 h1 h2
 have f1:headF1 gP W = []:=by unfold headF1;rw[hb 0 (by omega),C_e.1,head0];rfl
 have f2:headF2 gP W = []:=by
  unfold headF2
  rw[show gP.b-1=63 from rfl,hb 63 (by omega),C_e.2,head0];rfl
 have f3:booksF gP W gP.c = []:=by
  refine flatMap_nil.2 λc hc=>?_
  have:c=0:=by have:=List.mem_range.1 hc;have:gP.c=1:=rfl;omega
  subst this
  unfold bookF
  rw[show 8*(1+0*gP.k)=8 from rfl,h8];rfl
 have f4:nodesF gP W gP.n = []:=by
  refine flatMap_nil.2 λi hi=>?_
  have:i<10:=List.mem_range.1 hi
  exact if_pos (hK (i+1) (by omega) (by omega))
 have sz:∀n,slAll 11 D0 W n=⟨λ_=>false,[],[]⟩:=G_9 λn hd b hbm=>by
  rcases W_c hd with rfl|rfl
  ·rw[blk0r] at hbm;cases hbm
  ·have:32≤b∧b≤41:=by
    rw[blk0] at hbm
    simp only[List.mem_cons,List.not_mem_nil,or_false] at hbm
    omega
   rw[hb b (by omega),E_j b (by omega) (by omega),J_y]
   exact⟨_,rfl⟩
 have f9:takF gP (bitsW gP W) (usedN D0 11) 512 = []:=by
  refine flatMap_nil.2 λi hi=>?_
  have hi:i<512:=List.mem_range.1 hi
  have e:=O_o i hi
  rw[C_i,hb 21 (by omega),←C_i W0]
  unfold takF1
  rw[e,want0 hi,show gP.b=64 from rfl]
  by_cases q:64≤i
  ·rw[if_pos q,decide_eq_false (by omega),Bool.false_and];rfl
  ·rw[if_neg q,decide_eq_true (show i<64 by omega),Bool.true_and,if_pos rfl]
 unfold checkG
 rw[hD,f1,f2,f3,f4,show gP.n+1=11 from rfl,show 512*gP.bitsN=512 from rfl,sz,sh0,rc0,reach0,links0,f9]
 rfl
set_option linter.unusedSimpArgs false
theorem B_7{g:Geo}{W:List Nat}(h:checkG g W = []):headF1 g W = []∧headF2 g W = []∧booksF g W g.c = []∧nodesF g W g.n = []∧(slAll (g.n+1) (sndN g W) W (g.n+1)).F = []∧reachF (sndN g W) (rcAll (sndN g W) (slAll (g.n+1) (sndN g W) W (g.n+1)).G) (g.n+1) = []∧takF g (bitsW g W) (usedN (sndN g W) (g.n+1)) (512*g.bitsN) = []:=by
 unfold checkG at h
 obtain⟨h,h9⟩:=List.append_eq_nil_iff.1 h
 obtain⟨h,h8⟩:=List.append_eq_nil_iff.1 h
 obtain⟨h,h7⟩:=List.append_eq_nil_iff.1 h
 obtain⟨h,h6⟩:=List.append_eq_nil_iff.1 h
 obtain⟨h,h5⟩:=List.append_eq_nil_iff.1 h
 obtain⟨h,h4⟩:=List.append_eq_nil_iff.1 h
 obtain⟨h,h3⟩:=List.append_eq_nil_iff.1 h
 obtain⟨h1,h2⟩:=List.append_eq_nil_iff.1 h
 exact⟨h1,h2,h3,h4,h6,h7,h9⟩
theorem G_2{W:List Nat}{n:Nat}(h1:1≤n)(h2:n≤10)(hk:kindN gP n (ndAt gP W n)≠0):checkG gP W ≠ []:=λh=>by
 have:=flatMap_nil.1 (B_7 h).2.2.2.1 (n-1) (List.mem_range.2 (by show n-1<10;omega))
 rw[show n-1+1=n from by omega] at this
 rw[show nodeF1 gP W n=_ from if_neg hk] at this
 cases this
theorem head6(x:Nat):(headW gP 0).set 6 x=headW gP x:=rfl
theorem headx(x:Nat):getHead (headW gP x)=some (gP,x):=by
 unfold getHead headW
 try dsimp only
 exact if_pos ⟨X_r,rfl⟩
theorem Q_d{A B:List Nat}(hA:A.length=8)(hB:B.length=8)(sA:Small A)(sB:Small B)(h:∀i,i<512→hasBit A i=hasBit B i):A=B:=by
 apply List.ext_getElem (by omega)
 intro q h1 h2
 apply Nat.eq_of_testBit_eq
 intro k
 by_cases hk:k<64
 ·have:=h (64*q+k) (by omega)
  unfold hasBit at this
  rw[show (64*q+k)/64=q from by omega,show (64*q+k)%64=k from by omega,decide_eq_true h1,decide_eq_true h2,Bool.true_and,Bool.true_and,List.getD_eq_getElem?_getD,List.getElem?_eq_getElem h1,List.getD_eq_getElem?_getD,List.getElem?_eq_getElem h2,Option.getD_some,Option.getD_some] at this
  have t:∀x:Nat,x.testBit k=decide (x/2^k&&&1=1):=λx=>by
   rw[Nat.testBit_eq_decide_div_mod_eq,Nat.and_one_is_mod]
  rw[t,t];exact this
 ·have e:(18446744073709551616:Nat)=2^64:=by decide
  have a:=sA A[q] (List.getElem_mem h1)
  have b:=sB B[q] (List.getElem_mem h2)
  rw[e] at a b
  have p:2^64≤2^k:=Nat.pow_le_pow_right (by decide) (by omega)
  rw[Nat.testBit_lt_two_pow (Nat.lt_of_lt_of_le a p),Nat.testBit_lt_two_pow (Nat.lt_of_lt_of_le b p)]
theorem U_b{d:Nd}(hd:d.good gP)(t:d.ty≠0):∀b∈blkN (some d),32≤b∧b≤62:=by
 unfold Nd.good at hd
 rw[if_neg t] at hd
 intro b hb
 obtain⟨r,hr,hb⟩:=List.mem_flatMap.1 (show b∈d.rs.flatMap runB from hb)
 unfold runB at hb
 obtain⟨i,hi,rfl⟩:=List.mem_map.1 hb
 have hi:=List.mem_range.1 hi
 rcases hd.2.2.2.2.2.2.1 with⟨_,e⟩|p
 ·rw[e,List.mem_singleton] at hr
  subst hr
  have:gP.lostAt=32:=rfl
  have:gP.n=10:=rfl
  dsimp only at hi ⊢
  omega
 ·obtain⟨q,hq⟩:=List.getElem?_of_mem hr
  have:=(p q (List.getElem?_eq_some_iff.1 hq).1 r hq).1
  unfold inData at this
  have:gP.dataAt=42:=rfl
  have:gP.dataN=21:=rfl
  omega
theorem spoilt {j x : Nat} (hj : j < 512) (hx : W0[j]? ≠ some x) (x64 : x < 18446744073709551616) : checkG gP (W0.set j x) = [] ↔ ((42 ≤ j / 8 ∧ j / 8 < 63) ∨ (1 ≤ j / 8 ∧ j / 8 ≤ 20 ∧ j ≠ 8)) := by
 have jl:j<W0.length:=by rw[G_l];exact hj
 have bs:∀b,blockAt (W0.set j x) b=if j/8=b then (blockAt W0 b).set (j%8) x else blockAt W0 b:=λb=>I_g jl
 have at_:∀b,j/8=b→(blockAt W0 b)[j%8]?=W0[j]?:=λb e=>by
  unfold blockAt
  rw[List.getElem?_take_of_lt (Nat.mod_lt _ (by decide)),List.getElem?_drop]
  congr 1;omega
 have j8:j%8<8:=Nat.mod_lt _ (by decide)
 constructor
 ·intro h
  refine Decidable.byContradiction λhf=>?_
  by_cases b0:j/8=0
  ·-- the first head
   have hb:=bs 0
   rw[if_pos b0,C_e.1] at hb
   have hv:=at_ 0 b0
   rw[C_e.1] at hv
   have p:=(B_7 h).1
   unfold headF1 at p
   rw[hb] at p
   by_cases q:j%8=6
   ·rw[q,head6,headx] at p
    try dsimp only at p
    rw[if_pos rfl] at p
    have x0:x≠0:=λe=>hx (by rw[←hv,q,e];rfl)
    rw[if_neg x0] at p
    cases p
   ·rw[D_v B_6.2.2 j8 q (by rw[hv];exact hx) x64] at p
    cases p
  by_cases b63:j/8=63
  ·have hb:=bs 63
   rw[if_pos b63,C_e.2] at hb
   have hv:=at_ 63 b63
   rw[C_e.2] at hv
   have p:=(B_7 h).2.1
   unfold headF2 at p
   rw[show gP.b-1=63 from rfl,hb] at p
   by_cases q:j%8=6
   ·rw[q,head6,headx] at p
    try dsimp only at p
    rw[if_pos ⟨rfl,rfl,rfl,rfl⟩] at p
    have x0:x≠0:=λe=>hx (by rw[←hv,q,e];rfl)
    rw[if_neg x0] at p
    cases p
   ·rw[D_v B_6.2.2 j8 q (by rw[hv];exact hx) x64] at p
    cases p
  by_cases e8:j=8
  ·subst e8
   have p:=flatMap_nil.1 (B_7 h).2.2.1 0 (List.mem_range.2 (by decide))
   unfold bookF at p
   rw[show 8*(1+0*gP.k)=8 from rfl,List.getElem?_set_self jl] at p
   have x0:x≠0:=λe=>hx (by rw[e];exact O_p)
   rw[if_neg (show ¬(some x).getD 0=0 from x0)] at p
   cases p
  have r1:21≤j/8∧j/8≤41:=by omega
  by_cases b21:j/8=21
  ·-- bits
   have hD:sndN gP (W0.set j x)=D0:=funext λn=>(E_i λh1 h2=>by rw[bs,if_neg (by omega)]).1
   have p:=(B_7 h).2.2.2.2.2.2
   rw[hD,C_i,bs 21,if_pos b21,show gP.n+1=11 from rfl,show 512*gP.bitsN=512 from rfl] at p
   have hv:=at_ 21 b21
   have l8:(blockAt W0 21).length=8:=blockAt_len (by rw[G_l];decide)
   have sm:Small (blockAt W0 21):=W0_small.block _
   have eq:(blockAt W0 21).set (j%8) x=blockAt W0 21:=by
    refine Q_d (by rw[List.length_set];exact l8) l8 (sm.set _ _ x64) sm λi hi=>?_
    have p:=flatMap_nil.1 p i (List.mem_range.2 hi)
    unfold takF1 at p
    rw[want0 hi,show gP.b=64 from rfl] at p
    rw[←C_i W0,O_o i hi]
    rw[←C_i W0] at p
    by_cases q:64≤i
    ·rw[if_pos q] at p
     rw[decide_eq_false (show ¬i<64 by omega),Bool.false_and]
     cases z:hasBit ((bitsW gP W0).set (j%8) x) i with
     |false=>rfl
     |true=>rw[z,if_pos rfl] at p;cases p
    ·rw[if_neg q] at p
     rw[decide_eq_true (show i<64 by omega),Bool.true_and]
     refine Decidable.byContradiction λz=>?_
     rw[if_neg z] at p
     split at p<;>cases p
   have:=congrArg (λl=>l[j%8]?) eq
   try dsimp only at this
   rw[List.getElem?_set_self (by omega),hv] at this
   exact hx this.symm
  by_cases bn:j/8≤31
  ·-- nodes
   obtain⟨n,hn⟩:∃n,n=j/8-21:=⟨_,rfl⟩
   have n1:1≤n:=by omega
   have n2:n≤10:=by omega
   have eb:j/8=21+n:=by omega
   have hb:=bs (21+n)
   rw[if_pos eb] at hb
   have hv:=at_ (21+n) eb
   have hN:ndAt gP (W0.set j x) n=getNode ((blockAt W0 (21+n)).set (j%8) x):=by unfold ndAt;rw[R_f n1 n2,hb]
   have none_:ndAt gP (W0.set j x) n=none→False:=λe=>G_2 n1 n2 (by rw[e];show (1:Nat)≠0;decide) h
   have nz:∀l:List Nat,l[0]?≠some 0→l[7]?≠some 0→∃i,i<8∧i≠j%8∧l[i]?≠some 0:=λl h0 h7=>by
    by_cases q:j%8=0
    ·exact⟨7,by omega,by omega,h7⟩
    ·exact⟨0,by omega,by omega,h0⟩
   by_cases q1:n=1
   ·subst q1
    rw[E_7.1] at hN hv
    exact none_ (hN.trans (F_v (by decide +kernel) B_6.1 (by decide +kernel) j8 (by rw[hv];exact hx) x64 (nz _ (by decide +kernel) (by decide +kernel))))
   by_cases q2:n=2
   ·subst q2
    rw[E_7.2] at hN hv
    exact none_ (hN.trans (F_v (by decide +kernel) B_6.2.1 (by decide +kernel) j8 (by rw[hv];exact hx) x64 (nz _ (by decide +kernel) (by decide +kernel))))
   rw[E_j (21+n) (by omega) (by omega)] at hN hv
   have x0:x≠0:=λe=>hx (by rw[←hv,e,List.getElem?_replicate,if_pos j8])
   cases hg:getNode ((List.replicate 8 0).set (j%8) x) with
   |none=>exact none_ (hN.trans hg)
   | some d =>
    obtain⟨hf,ew⟩:=getNode_fits hg
    rw[hg] at hN
    have t:d.ty≠0:=λt=>by
     unfold nodeW at ew
     rw[if_pos t] at ew
     have:=congrArg (λl=>l[j%8]?) ew
     try dsimp only at this
     rw[List.getElem?_set_self (by rw[List.length_replicate];exact j8),List.getElem?_replicate,if_pos j8] at this
     injection this with this
     exact x0 this.symm
    by_cases hk:kindN gP n (some d)=0
    ·-- it is sound, and not reached
     have gd:d.good gP:=Classical.byContradiction λz=>by
      rw[show kindN gP n (some d)=2 from if_pos z] at hk;cases hk
     have hS:sndN gP (W0.set j x) n=some d:=by
      unfold sndN
      rw[hN,if_pos ⟨n1,n2,hk⟩]
      show (if d.ty=0 then none else some d)=some d
      rw[if_neg t]
     have hO:∀m,m≠n→sndN gP (W0.set j x) m=D0 m:=λm hm=>(E_i λh1 h2=>by rw[bs,if_neg (by omega)]).1
     have sz:=G_9 (k:=11) (D:=sndN gP (W0.set j x)) (W:=W0.set j x) (λm hd b hbm=>by
      have rng:32≤b∧b≤62:=by
       by_cases q:m=n
       ·subst q;rw[hS] at hbm;exact U_b gd t b hbm
       ·rw[hO m q] at hbm
        unfold isDir at hd
        rw[hO m q] at hd
        rcases W_c hd with rfl|rfl
        ·rw[blk0r] at hbm;cases hbm
        ·rw[blk0] at hbm
         simp only[List.mem_cons,List.not_mem_nil,or_false] at hbm
         omega
      rw[bs,if_neg (by omega),E_j b (by omega) (by omega),J_y]
      exact⟨_,rfl⟩) 11
     have p:=(B_7 h).2.2.2.2.2.1
     rw[show gP.n+1=11 from rfl,sz,rc0] at p
     have p:=flatMap_nil.1 p n (List.mem_range.2 (by omega))
     try dsimp only at p
     rw[hS,if_pos ⟨rfl,show got0 n=false from by unfold got0;rw[if_neg q2,if_neg q1]⟩] at p
     cases p
    ·exact G_2 n1 n2 (by rw[hN];exact hk) h
  ·-- slots
   have hD:sndN gP (W0.set j x)=D0:=funext λn=>(E_i λh1 h2=>by rw[bs,if_neg (by omega)]).1
   have p:=(B_7 h).2.2.2.2.1
   rw[hD,show gP.n+1=11 from rfl] at p
   have hv:=at_ (j/8) rfl
   rw[E_j (j/8) (by omega) (by omega)] at hv
   have x0:x≠0:=λe=>hx (by rw[←hv,e,List.getElem?_replicate,if_pos j8])
   have hm:(j/8-32,j/8)∈enumF (blkN (D0 2)):=by
    rw[blk0]
    have:j/8=32∨j/8=33∨j/8=34∨j/8=35∨j/8=36∨j/8=37∨j/8=38∨j/8=39∨j/8=40∨j/8=41:=by omega
    rcases this with e|e|e|e|e|e|e|e|e|e<;>rw[e]<;>decide
   refine V_h (D:=D0) (m:=2) (by decide +kernel) hm (λs=>?_) 11 (by decide) p
   have hb:=bs (j/8)
   rw[if_pos rfl,E_j (j/8) (by omega) (by omega)] at hb
   unfold slStep
   rw[hb]
   have ap:∀f:Fnd,s.1.F ++ [f] ≠ []:=λf q=>by have:=(List.append_eq_nil_iff.1 q).2;cases this
   cases hg:getSlot ((List.replicate 8 0).set (j%8) x) with
   |none=>exact ap _
   | some y =>
    obtain⟨m,nm⟩:=y
    have m0:m≠0:=λe=>by
     subst e
     unfold getSlot at hg
     split at hg
     ·rename_i q
      injection hg with hg
      injection hg with hg1 hg2
      have:=q.2.2.2.2
      rw[hg1] at this
      unfold slotW at this
      rw[if_pos rfl] at this
      have:=congrArg (λl=>l[j%8]?) this
      try dsimp only at this
      rw[List.getElem?_set_self (by rw[List.length_replicate];exact j8),List.getElem?_replicate,if_pos j8] at this
      injection this with this
      exact x0 this.symm
     ·cases hg
    try dsimp only
    rw[if_neg m0]
    have kk:kindS 11 D0 2 (j/8-32) m nm (s.2 nm)≠0:=by
     unfold kindS
     by_cases c1:11≤m∨¬(D0 m).isSome
     ·rw[if_pos c1];decide
     ·rw[if_neg c1]
      by_cases c2:m≤2
      ·rw[if_pos c2];decide
      ·exfalso
       refine c1 (.inr ?_)
       unfold D0
       rw[if_neg (by omega),if_neg (by omega)]
       simp
    rw[if_neg kk]
    exact ap _
 ·intro hf
  refine T_m (λb hb=>?_) ?_
  ·rw[bs,if_neg (by omega)]
  ·rw[List.getElem?_set_ne (by omega)];exact O_p
set_option linter.unusedSimpArgs false
def CPlain64(R:RnK):Prop:=∀h:Hs,R 7 [kI 64] h=some (.val gP.v h)
theorem N_z{R:RnK}{N:Nat}{h:Hs}:r7 R N [kI 64] h=some (.val gP.v h):=by
 refine WP.eqn ?_
 unfold r7
 have H:=Sto.enter h
 repeat' (first|(with_reducible first|refine w_unC ?_|refine w_enK ?_)|((with_reducible apply w_build) ;rfl;(try dsimp only[splice,ev,cellsL,rep,List.cons_append,List.nil_append]))|((with_reducible refine w_alloc H ?_) ;(clear H;intro u H hu))|((with_reducible apply w_storeV 0 H) ;rfl;rfl;rfl;omega;rfl;(clear H;intro u H hu;(try dsimp only[List.set_cons_zero,List.set_cons_succ,cellsL,List.toList_toArray,splice,ev,rep,List.cons_append,List.nil_append] at H)))|((with_reducible apply w_retC 0 H) ;rfl;rfl;rfl))
 exact w_clr H rfl ⟨rfl,rfl⟩
theorem N_x{j x:Nat}(hj:j<512)(hx:W0[j]?≠some x)(x64:x<18446744073709551616):checkR (W0.set j x)=checkG gP (W0.set j x):=by
 have jl:j<W0.length:=by rw[G_l];exact hj
 have ln:(W0.set j x).length=512:=by rw[List.length_set];exact G_l
 have bs:∀b,blockAt (W0.set j x) b=if j/8=b then (blockAt W0 b).set (j%8) x else blockAt W0 b:=λb=>I_g jl
 have sz:sized (W0.set j x):=by unfold sized;rw[ln];decide
 have e1:head1 (W0.set j x)=headOf 64 (blockAt (W0.set j x) 0):=by
  unfold head1
  rw[if_pos sz,ln];rfl
 have e2:head2 (W0.set j x)=headOf 64 (blockAt (W0.set j x) 63):=by
  unfold head2
  rw[if_pos sz,ln]
  congr 1
  unfold blockAt
  rw[List.take_of_length_le (by rw[List.length_drop,ln];decide)]
 have ok:∀y,headOf 64 (headW gP y)=some (gP,y):=λy=>by
  unfold headOf
  rw[headx];rfl
 have op : opened (W0.set j x) = some gP := by
  unfold opened
  rw[e1,e2]
  by_cases b0:j/8=0
  ·rw [bs 63, if_neg (by omega), C_e.2, ok, bs 0, if_pos b0, C_e.1]
   by_cases q:j%8=6
   ·rw[q,head6,ok];rfl
   ·have hv:(headW gP 0)[j%8]?≠some x:=by
     have:(blockAt W0 0)[j%8]?=W0[j]?:=by
      unfold blockAt
      rw[List.getElem?_take_of_lt (Nat.mod_lt _ (by decide)),List.getElem?_drop]
      congr 1;omega
     rw[←C_e.1,this];exact hx
    have:headOf 64 ((headW gP 0).set (j%8) x)=none:=by
     unfold headOf
     rw[D_v B_6.2.2 (Nat.mod_lt _ (by decide)) q hv x64];rfl
    rw[this];rfl
  ·rw[bs 0,if_neg b0,C_e.1,ok];rfl
 unfold checkR
 rw[if_neg (by rw[ln];decide),op]
def X_q(j:Nat):Bool:=decide ((42≤j/8∧j/8<63)∨(1≤j/8∧j/8≤20∧j≠8))
theorem O_l{R:RnK}{N:Nat}(cp:CPlain64 R)(cm:CMake R)(cr:CRun R)(cf:CFine R){at_:Int}{v:Nat}{h:Hs}(hv:v<18446744073709551616)(aw:R 5 [] ⟨h.hp,h.nx,h.nx⟩=some (.val (.bool true) ⟨h.hp,h.nx,h.nx⟩)) :
 r3 R N [.int .i64 at_,.int .u64 (.ofNat v)] h=some (.val (.bool true) h):=by
 refine WP.eqn ?_
 unfold r3
 have H:=Sto.enter h
 repeat' (first|(refine w_callE (aw) ?_)|(refine w_callE (cp _) ?_))
 refine w_call (cm gP _ X_r) λr u1 hm=>?_
 obtain⟨s,rfl,n1⟩:=hm
 rw[show 8*gP.b=512 from rfl] at n1
 obtain⟨sa,sc,rfl⟩:=n1.2.1.form
 replace H:=H.call n1
 by_cases ha:0≤at_∧at_<512
 ·obtain⟨j,rfl⟩:=Int.eq_ofNat_of_zero_le ha.1
  rw[show (Value.int .i64 (j:Int))=.int .i64 (.ofNat j) from rfl]
  have hj:j<512:=by omega
  repeat' (first|(with_reducible first|refine w_jn ?_|refine w_cndT ?_|refine w_cndF ?_|refine w_gTt ?_|refine w_gFf ?_|refine w_pickT ?_|refine w_pickF ?_|refine w_lenV ?_)|((with_reducible apply w_extr) ;rfl)|((with_reducible apply w_mkrow H) ;rfl;(clear H;intro u H hu;(try dsimp only[List.set_cons_zero,List.set_cons_succ,cellsL,List.toList_toArray,splice,ev,rep,List.cons_append,List.nil_append] at H)))|((with_reducible first|refine w_lss_NN (λ_=>?_) (λ_=>?_)|refine w_geq_NN (λ_=>?_) (λ_=>?_)|refine w_eql_NN (λ_=>?_) (λ_=>?_)|refine w_neq_NN (λ_=>?_) (λ_=>?_)|refine w_ueql (λ_=>?_) (λ_=>?_))<;>first|(exfalso;omega)|skip))
  ·exact w_clr H rfl ⟨rfl,rfl⟩
  replace H:=H.osl 0 rfl (n:=0) (c:=0) rfl (Nat.le_refl _)
  dsimp only[List.set_cons_zero] at H
  refine w_appendO 0 1 H rfl rfl (Wc_one _) (by omega) λv1 u2 H1 _=>?_
  clear H
  rw[Wc_flatL,Nat.zero_add] at H1
  have H:=H1
  clear H1
  dsimp only[List.set_cons_zero,List.nil_append] at H
  have lj:j<W0.length:=by rw[G_l];exact hj
  skip
  refine w_atO 0 H rfl (Wc_get lj) rfl ?_
  have wj:=W0_small _ (List.getElem_mem lj)
  have xw:=xor_lt wj hv
  repeat' (first|((with_reducible refine w_uxor ?_ ?_ ?_) ;omega;omega))
  refine w_storeO 0 H rfl (by rw[Wc_len];exact lj) rfl λu4 H1 _=>?_
  clear H;have H:=H1;clear H1
  rw[Wc_set] at H
  dsimp only[List.set_cons_zero,List.set_cons_succ] at H
  have v0:v≠0:=by assumption
  have hx:W0[j]?≠some (W0[j] ^^^ v):=by
   rw[List.getElem?_eq_getElem lj]
   intro q
   injection q with q
   have:W0[j] ^^^ 0=W0[j] ^^^ v:=by rw[Nat.xor_zero];exact q
   exact v0 (M_n this).symm
  have fr:checkR (W0.set j (W0[j] ^^^ v)) = []↔X_q j=true:=by
   rw[N_x hj hx xw,spoilt hj hx xw]
   unfold X_q
   rw[decide_eq_true_iff]
  have sm:=W0_small.set j _ xw
  have ln:(W0.set j (W0[j] ^^^ v)).length<100000:=by rw[List.length_set,G_l];decide
  have rd:=H.rdO 0 rfl
  rw[←Wl_ones] at rd
  generalize W0.set j (W0[j] ^^^ v)=W at *
  clear hx
  unfold X_q at fr
  repeat' (first|(with_reducible first|refine w_gTt ?_|refine w_gTf ?_|refine w_gTu ?_|refine w_gFt ?_|refine w_gFf ?_|refine w_pickT ?_|refine w_pickF ?_)|((with_reducible first|refine w_lss_NN (λ_=>?_) (λ_=>?_)|refine w_leq_NN (λ_=>?_) (λ_=>?_)|refine w_geq_NN (λ_=>?_) (λ_=>?_)|refine w_neq_NN (λ_=>?_) (λ_=>?_))<;>first|(exfalso;omega)|skip)|((with_reducible refine w_quo_NN ?_ ?_ ?_) ;omega;omega))
  all_goals (
   refine w_call (cf W v1 _ sm ln rd) λr3 u3 hv=>?_
   obtain⟨rfl,b,rfl,hb⟩:=hv
   rw[fr] at hb
   first
    | (have e : b = true := hb.2 (decide_eq_true (by omega))
       subst e
       refine w_ob (v:=.bool true) rfl ?_
       repeat' (first|(with_reducible first|refine w_gTt ?_|refine w_gFt ?_|refine w_pickT ?_))
       exact w_clr H rfl ⟨rfl,rfl⟩)
    | (have e : b = false := Bool.eq_false_iff.2 fun z => absurd (of_decide_eq_true (hb.1 z)) (by omega)
       subst e
       refine w_ob (v:=.bool true) rfl ?_
       have ne:checkR W ≠ []:=λz=>by have:=of_decide_eq_true (fr.1 z);omega
       repeat' (first|(with_reducible first|refine w_gTt ?_|refine w_gFf ?_))
       refine w_call (cr W v1 _ sm ln rd) λr5 u5 hv=>?_
       obtain⟨fl5,n5⟩:=hv
       replace H:=H.call n5
       have lp:1≤(checkR W).length:=List.length_pos_iff.2 ne
       repeat' (first|(with_reducible first|refine w_gTt ?_|refine w_gFf ?_|refine w_pickT ?_|refine w_pickF ?_)|((with_reducible refine w_geq_NN (λ_=>?_) (λ_=>?_))<;>first|(exfalso;omega)|skip)|((with_reducible apply w_lenO 0 H) ;rfl))
       exact w_clr H rfl ⟨rfl,rfl⟩))
 ·repeat' (first|(with_reducible first|refine w_jn ?_|refine w_cndT ?_|refine w_gTt ?_|refine w_gFt ?_|refine w_gFf ?_|refine w_pickT ?_|refine w_pickF ?_|refine w_lenV ?_)|((with_reducible apply w_extr) ;rfl)|((with_reducible first|refine w_lss_IN (λ_=>?_) (λ_=>?_)|refine w_geq_IN (λ_=>?_) (λ_=>?_)|refine w_eql_NN (λ_=>?_) (λ_=>?_)|refine w_neq_NN (λ_=>?_) (λ_=>?_))<;>first|(exfalso;omega)|skip))
  all_goals exact w_clr H rfl ⟨rfl,rfl⟩
end Go.Proofs.YtjddgepodiabkaaGreatDoor.checkSpoils
