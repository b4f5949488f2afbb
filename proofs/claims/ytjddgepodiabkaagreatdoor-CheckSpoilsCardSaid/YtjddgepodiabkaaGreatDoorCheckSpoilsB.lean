/- Contracts of functions, by the logic of residual programs. -/
import Derived.Test.YtjddgepodiabkaaGreatDoorCheckSpoilsA
namespace Go.Proofs.YtjddgepodiabkaaGreatDoor.checkSpoils
open Go Go.Gev
set_option linter.unusedVariables false
def blockAt(l:List Nat)(i:Nat):List Nat:=(l.drop (8*i)).take 8
theorem blockAt_len{l:List Nat}{i:Nat}(h:8*i+8≤l.length):(blockAt l i).length=8:=by
 unfold blockAt;rw[List.length_take,List.length_drop];omega
def CBlock(R:RnK):Prop:=∀(g:Geo)(l:List Nat)(s:Value)(i:Nat)(h:Hs),l.length<100000→Rd h s 1 (Wl l)→8*i+8≤l.length →
 WP (R 44 [imgV g s,.int .i64 (.ofNat i)] h) λv h'=>New h h' (OW v (blockAt l i))
theorem block_ok{R:RnK}{N:Nat}(cc:CCloneW R){g:Geo}{l:List Nat}{s:Value}{i:Nat}{h:Hs}(hb:l.length<100000)(r:Rd h s 1 (Wl l))(hi:8*i+8≤l.length) :
 WP (r44 R N [imgV g s,.int .i64 (.ofNat i)] h) λv h'=>New h h' (OW v (blockAt l i)):=by
 unfold r44 imgV
 obtain⟨a,c,rfl⟩:=r.1.form
 have H:=Sto.enter1 r
 have e:=Wl_len l
 repeat' (first|(with_reducible first|refine w_jn ?_|refine w_cndF ?_|refine w_gFf ?_|refine w_pickF ?_|refine w_unC ?_|refine w_enK ?_|refine w_fieldA ?_|refine w_lenV ?_)|((with_reducible refine w_boxA H ?_) ;(clear H;intro u H hu))|((with_reducible first|refine w_lss_NN (λ_=>?_) (λ_=>?_)|refine w_geq_NN (λ_=>?_) (λ_=>?_))<;>first|(exfalso;omega)|skip)|((with_reducible first|refine w_add_NN ?_ ?_|refine w_mul_NN ?_ ?_) ;omega)|((with_reducible refine w_quo_NN ?_ ?_ ?_) ;omega;omega)|((with_reducible apply w_load 0 H) ;rfl;rfl;rfl))
 refine w_slLH 1 H rfl (by omega) (by omega) λs2 H2=>?_
 clear H
 rw[Wl_drop,Wl_take,show 8*(i+1)-8*i=8 by omega] at H2
 refine w_call (cc _ _ _ (by rw[show (l.drop (8*i)).take 8=blockAt l i from rfl,blockAt_len hi];omega) (H2.rd 0 rfl)) λv' u2 n=>?_
 have H:=H2.call n
 exact w_clrO 0 H rfl λv' h' n=>n
def CImgBits(R:RnK):Prop:=∀(g:Geo)(l:List Nat)(s:Value)(h:Hs),g.Ok→l.length=8*g.b→Rd h s 1 (Wl l) →
 WP (R 53 [imgV g s] h) λv h'=>∃s',v=.agg #[s']∧New h h' (OW s' ((l.drop (8*g.bitsAt)).take (8*g.bitsN)))
theorem imgBits_ok{R:RnK}{N:Nat}(cb:CBitsF R)(ck:CBlock R){g:Geo}{l:List Nat}{s:Value}{h:Hs}(hN:100<N)(x:g.Ok)(hl:l.length=8*g.b)(r:Rd h s 1 (Wl l)) :
 WP (r53 R N [imgV g s] h) λv h'=>∃s',v=.agg #[s']∧New h h' (OW s' ((l.drop (8*g.bitsAt)).take (8*g.bitsN))):=by
 have cbg:=cb g
 unfold Geo.v at cbg
 have ckg:=ck g l s
 unfold r53 imgV
 unfold imgV at ckg
 obtain⟨a,c,rfl⟩:=r.1.form
 have H:=Sto.enter1 r
 have e:=Wl_len l
 have h1:=x.1.num
 have h2:=x.1.b2
 have h3:=x.2
 repeat' (first|(refine w_callE (cbg _ x) ?_)|(with_reducible first|refine w_jn ?_|refine w_unC ?_|refine w_enK ?_|refine w_fieldA ?_)|((with_reducible apply w_extr) ;rfl)|((with_reducible refine w_boxA H ?_) ;(clear H;intro u H hu))|((with_reducible refine w_alloc H ?_) ;(clear H;intro u H hu))|((with_reducible apply w_loads 1 H) ;rfl;rfl;rfl;rfl;(try dsimp only[List.drop_zero,List.drop_succ_cons,List.take_succ_cons,List.take_zero])))
 rename_i ua hua ub hub
 replace H:=H.nilS 22 1
 have P1:∀i,(l.drop (8*g.bitsAt)).take (8*(i+1))=(l.drop (8*g.bitsAt)).take (8*i)++blockAt l (g.bitsAt+i):=λi=>by
  rw[show 8*(i+1)=8*i+8 by omega,List.take_add,List.drop_drop]
  unfold blockAt
  rw[show 8*(g.bitsAt+i)=8*g.bitsAt+8*i by omega]
 obtain⟨m0,hm0,H0⟩:∃m0,m0=_∧Sto h [] u m0:=⟨_,rfl,H⟩
 clear H
 refine lp_ind (Good:=λn (self:L3)=>∀(i:Nat)(y1 y2 cur:Value)(fl:Bool)(w:Hs),i+n=g.bitsN→Sto h [] w ((m0.set 0 (.osl cur 22 1 true (8*i) (Wc ((l.drop (8*g.bitsAt)).take (8*i))))).set 1 (.blk ub.nx (.row 57 0 true fl [cur])))→WP (self (.int .i64 (.ofNat i)) y1 y2 w) (λv h'=>∃s',v=.agg #[s']∧New h h' (OW s' ((l.drop (8*g.bitsAt)).take (8*g.bitsN))))) (λn self ih i y1 y2 cur fl w hi H1=>?_) N g.bitsN (by omega) 0 _ _ (.slice none 0 0) true _ (by omega) (by rw[hm0];rw[hm0] at H0;exact H0)
 have hm1:=hm0
 rw[hm0] at H1
 have H:=H1
 clear H1
 dsimp only[List.set_cons_zero,List.set_cons_succ] at H
 obtain⟨ac,cc,rfl⟩:=(show OwnSl w cur 22 1 _ _ _ from H.ok _ (List.mem_of_getElem? (i:=0) rfl)).form
 repeat' (first|(with_reducible first|refine w_jn ?_|refine w_cndT ?_|refine w_cndF ?_|refine w_fieldA ?_|refine w_st1A ?_)|((with_reducible refine w_lss_NN (λ_=>?_) (λ_=>?_))<;>first|(exfalso;omega)|skip)|((with_reducible refine w_add_NN ?_ ?_) ;omega)|((with_reducible apply w_load 1 H) ;rfl;rfl;rfl)|((with_reducible apply w_loadsF 1 H) ;rfl;rfl;rfl)|((with_reducible apply w_storeV 2 H) ;rfl;rfl;rfl;omega;rfl;(clear H;intro u H hu;(try dsimp only[List.set_cons_zero,List.set_cons_succ,cellsL,List.toList_toArray,splice,ev,rep,List.cons_append,List.nil_append] at H)))|((with_reducible apply w_retC 2 H) ;rfl;rfl;rfl)|((with_reducible apply w_loadsF 3 H) ;rfl;rfl;rfl))
 ·refine w_call (ckg (g.bitsAt+i) _ (by omega) (Rd.lo (H.rd 4 rfl) _) (by omega)) λv' u2 n2=>?_
  refine w_light n2 λu3 n2=>?_
  have bl:=blockAt_len (l:=l) (i:=g.bitsAt+i) (by omega)
  obtain⟨a2,c2,rfl⟩:=n2.2.1.form
  replace H:=H.call n2
  refine w_appendO 1 0 H rfl rfl (Wc_one _) (by rw[bl];omega) λv3 u4 H4 hn4=>?_
  clear H
  rw[Wc_flatL,bl,show 8*i+8=8*(i+1) by omega] at H4
  have w1:Wc ((l.drop (8*g.bitsAt)).take (8*i))++Wc (blockAt l (g.bitsAt+i))=Wc ((l.drop (8*g.bitsAt)).take (8*(i+1))):=by rw[P1];unfold Wc;rw[List.map_append]
  rw[w1] at H4
  have H:=H4
  clear H4
  dsimp only[List.set_cons_zero,List.set_cons_succ] at H
  obtain⟨a3,c3,rfl⟩:=(show OwnSl u4 v3 22 1 _ _ _ from H.ok _ (List.mem_of_getElem? (i:=1) rfl)).form
  repeat' (first|(with_reducible refine w_fieldA ?_)|((with_reducible first|refine w_bar ?_ ?_|refine w_add_NN ?_ ?_) ;omega)|((with_reducible apply w_store1 2 H) ;rfl;(simp only[List.length_cons,List.length_nil];omega);rfl;(clear H;intro u H hu;(try dsimp only[List.set_cons_zero,List.set_cons_succ,cellsL,List.toList_toArray,splice,ev,rep,List.cons_append,List.nil_append] at H))))
  refine ih (n-1) (by omega) (i+1) _ _ (.slice a3 (8*(i+1)) c3) (andB fl (flat1 (.slice a3 (8*(i+1)) c3))) _ (by omega) ?_
  rw[hm1]
  replace H:=H.sel [1,2,3,4,5] 6 rfl (by decide) (by decide);dsimp only[List.filterMap_cons,List.filterMap_nil,List.getElem?_cons_zero,List.getElem?_cons_succ] at H
  exact H
 ·have ei:i=g.bitsN:=by omega
  subst ei
  have pl:((l.drop (8*g.bitsAt)).take (8*g.bitsN)).length=8*g.bitsN:=by rw[List.length_take,List.length_drop];omega
  exact w_clrC (λv=>.agg #[v]) 0 H rfl (λ_ _ _=>by simp[blkV,blkP,blkC]) (λ_ _ _ _=>rfl) λv' h' nn=>⟨_,rfl,by unfold OW;rw[pl];exact nn⟩
def decR(v:Nat):Nat × Nat:=(v&&&4294967295,v/2^32)
def decRs(l:List Nat):List (Nat × Nat):=(l.takeWhile λv=>v != 0).map decR
def decN(a b:Nat)(rs:List Nat):Nd:=⟨a&&&255,a/2^8,b,decRs rs⟩
theorem w_jnG{Q:Value→Hs→Prop}{T:Type}{k:T}{F:T→An}(w:∀K:T,K=k→WP (F K) Q):WP (jn k F) Q:=w k rfl
def getNode(l:List Nat):Option Nd:=match l with
 |[a,b,r0,r1,r2,r3,_,_]=>if a/2^32=0∧b≤1099511627776∧(decN a b [r0,r1,r2,r3]).fits∧nodeW (decN a b [r0,r1,r2,r3])=l then some (decN a b [r0,r1,r2,r3]) else none
 |_=>none
def Rc(l:List (Nat × Nat)):List Value:=(Rl l).flatten
theorem Rc_snoc(l:List (Nat × Nat))(x:Nat × Nat):Rc (l ++ [x])=Rc l++rv x:=by
 unfold Rc Rl;rw[List.map_append,List.flatten_append];show _++(rv x ++ [])=_;rw[List.append_nil]
theorem _root_.Go.Gev.Sto.rdOU{h0 h:Hs}{S:List Nat}{m:List Th}(k:Nat){v:Value}{e u n:Nat}{fl:Bool}{L:List Value}{Ls:List (List Value)}(H:Sto h0 S h m)(hk:m[k]?=some (.osl v e u fl n L))(hL:L=Ls.flatten)(hu:∀l∈Ls,l.length=u)(hn:Ls.length=n):Rd h v u Ls:=by
 obtain⟨hl,o⟩:=H.ok _ (List.mem_of_getElem? hk)
 have hid:=H.ids _ (List.mem_of_getElem? hk)
 rcases o with⟨rfl,rfl⟩|⟨id,c,cs,sz,f,rfl,hc,hb,hf,hsz,hc'⟩
 ·have:Ls = []:=List.eq_nil_of_length_eq_zero hn
  subst this
  exact Rd.none _ _
 ·refine⟨⟨hu,.inr ⟨id,0,c,cs,sz,e,u,true,f,by rw[hn],by omega,hb,.inr rfl,λi j l hi hj=>?_⟩⟩,λb' hb'=>?_⟩
  ·have hx:=flatten_get hu i j hj
   rw[hi] at hx
   have hll:=hu l (List.mem_of_getElem? hi)
   have hlt:i*u+j<L.length:=by
    have:=(List.getElem?_eq_some_iff.1 hi).1
    rw[hl]
    have:(i+1)*u≤n*u:=Nat.mul_le_mul_right _ (by omega)
    rw[Nat.add_mul] at this
    omega
   rw[Nat.zero_add,hc' _ hlt,hL,hx];rfl
  ·have:b'=id:=by
    cases hq:Ls with
    |nil=>rw[hq] at hb';cases hb'
    |cons x Ls'=>rw[hq] at hb';injection hb' with q;exact q.symm
   subst this
   exact(hid _ rfl).1
theorem _root_.Go.Gev.Sto.rdOR{h0 h:Hs}{S:List Nat}{m:List Th}(k:Nat){v:Value}{l:List (Nat × Nat)}(H:Sto h0 S h m)(hk:m[k]?=some (.osl v 55 2 true l.length (Rc l))):Rd h v 2 (Rl l):=
 H.rdOU k hk rfl (Rl_two l) (Rl_len l)
theorem decRs_at{l:List Nat}{i:Nat}(hi:i<l.length)(h:∀x∈l.take i,x≠0)(z:l[i]=0):decRs l=(l.take i).map decR:=by
 unfold decRs
 congr 1
 conv=>lhs;rw[←List.take_append_drop i l]
 rw[List.takeWhile_append_of_pos (by intro x hx;simpa using h x hx),List.drop_eq_getElem_cons hi,List.takeWhile_cons_of_neg (by simp[z]),List.append_nil]
theorem decRs_all{l:List Nat}(h:∀x∈l,x≠0):decRs l=l.map decR:=by
 unfold decRs
 congr 1
 have:=List.takeWhile_append_of_pos (p:=λv=>v != 0) (l₁:=l) (l₂:=[]) (by intro x hx;simpa using h x hx)
 simpa using this
def nd0:Nd:=⟨0,0,0,[]⟩
abbrev OR(v:Value)(l:List (Nat × Nat)):Th:=.osl v 55 2 true l.length (Rc l)
def QGet(l:List Nat)(h:Hs)(r:Value)(h':Hs):Prop:=match getNode l with
 |some d=>∃a c,r=.tuple #[d.v a c,.bool true]∧New h h' (OR (.slice a d.rs.length c) d.rs)
 |none=>r=.tuple #[nd0.v none 0,.bool false]∧h'=h
def CNodeGet(R:RnK):Prop:=∀(l:List Nat)(v:Value)(h:Hs),Small l→l.length<100000→Rd h v 1 (Wl l)→WP (R 47 [v] h) (QGet l h)
theorem getNode_len{l:List Nat}(h:l.length≠8):getNode l=none:=by
 unfold getNode
 split
 ·exact absurd rfl h
 ·rfl
theorem nodeGet_ok {R : RnK} {N : Nat} (cp : CNodePut R) (ce : CEqW R) {l : List Nat} {v : Value} {h : Hs} (hN : 100 < N) (hl : Small l) (hb : l.length < 100000) (r : Rd h v 1 (Wl l)) : WP (r47 R N [v] h) (QGet l h) := by
 unfold r47
 have H:=Sto.enter1 r
 have e:=Wl_len l
 obtain⟨a,c,rfl⟩:=r.1.formN e
 by_cases h8:l.length=8
 ·obtain ⟨x0, x1, x2, x3, x4, x5, x6, x7, rfl⟩ : ∃ x0 x1 x2 x3 x4 x5 x6 x7, l = [x0, x1, x2, x3, x4, x5, x6, x7] := by
   match l,h8 with
   |[x0,x1,x2,x3,x4,x5,x6,x7],_=>exact⟨_,_,_,_,_,_,_,_,rfl⟩
  have b0:x0<18446744073709551616:=hl x0 (by simp)
  have b1:x1<18446744073709551616:=hl x1 (by simp)
  have b2:x2<18446744073709551616:=hl x2 (by simp)
  have b3:x3<18446744073709551616:=hl x3 (by simp)
  have b4:x4<18446744073709551616:=hl x4 (by simp)
  have b5:x5<18446744073709551616:=hl x5 (by simp)
  repeat' (first|(with_reducible first|refine w_gFf ?_|refine w_unC ?_|refine w_enK ?_|refine w_lenV ?_)|((with_reducible refine w_alloc H ?_) ;(clear H;intro u H hu))|((with_reducible refine w_neq_NN (λ_=>?_) (λ_=>?_))<;>first|(exfalso;omega)|skip))
  ·have g0 : (Wl [x0, x1, x2, x3, x4, x5, x6, x7])[0]? = some [.int .u64 (.ofNat x0)] := rfl
   have g1:(Wl [x0,x1,x2,x3,x4,x5,x6,x7])[1]?=some [.int .u64 (.ofNat x1)]:=rfl
   refine w_idxR 1 H rfl g0 λbb oo H1=>?_
   repeat' (first|(with_reducible refine w_gFf ?_))
   refine w_loadE0 0 H1 rfl rfl rfl ?_
   clear H1
   repeat' (first|(with_reducible first|refine w_jn ?_|refine w_cndT ?_|refine w_gFt ?_|refine w_gFf ?_|refine w_pickT ?_|refine w_pickF ?_)|((with_reducible apply w_build) ;rfl;(try dsimp only[splice,ev,cellsL,rep,List.cons_append,List.nil_append]))|((with_reducible refine w_uneq (λ_=>?_) (λ_=>?_))<;>first|(exfalso;omega)|skip)|((with_reducible refine w_shr ?_ ?_) ;omega)|((with_reducible apply w_storeV 0 H) ;rfl;rfl;rfl;omega;rfl;(clear H;intro u H hu;(try dsimp only[List.set_cons_zero,List.set_cons_succ,cellsL,List.toList_toArray,splice,ev,rep,List.cons_append,List.nil_append] at H)))|((with_reducible apply w_retC 0 H) ;rfl;rfl;rfl))
   ·refine w_idxR 1 H rfl g1 λbb oo H1=>?_
    repeat' (first|(with_reducible refine w_gFf ?_))
    refine w_loadE0 0 H1 rfl rfl rfl ?_
    clear H1
    have c0:x0&&&255≤255:=Nat.and_le_right
    repeat' (first|(with_reducible first|refine w_jn ?_|refine w_cndT ?_|refine w_cndF ?_|refine w_gFf ?_|refine w_pickF ?_|refine w_blind ?_)|((with_reducible apply w_build) ;rfl;(try dsimp only[splice,ev,cellsL,rep,List.cons_append,List.nil_append]))|((with_reducible first|refine w_bar ?_ ?_|refine w_to64 ?_ ?_|refine w_shr ?_ ?_) ;omega)|((with_reducible refine w_allocM H ?_) ;(clear H;intro u H hu))|((with_reducible refine w_ugtr (λ_=>?_) (λ_=>?_))<;>first|(exfalso;omega)|skip)|((with_reducible refine w_uand ?_ ?_ ?_) ;omega;omega)|((with_reducible apply w_storeV 0 H) ;rfl;rfl;rfl;omega;rfl;(clear H;intro u H hu;(try dsimp only[List.set_cons_zero,List.set_cons_succ,cellsL,List.toList_toArray,splice,ev,rep,List.cons_append,List.nil_append] at H)))|((with_reducible apply w_retC 0 H) ;rfl;rfl;rfl)|((with_reducible apply w_at1 1 H) ;rfl;rfl;rfl;rfl))
    ·rw[show QGet [x0,x1,x2,x3,x4,x5,x6,x7] h=λr h'=>r=.tuple #[nd0.v none 0,.bool false]∧h'=h from by funext r h';unfold QGet;rw[show getNode [x0,x1,x2,x3,x4,x5,x6,x7]=none from if_neg (by omega)]]
     exact w_clr H rfl ⟨rfl,rfl⟩
    ·refine w_slLH 2 H rfl (by omega) (by simp[Wl_len]) λs H1=>?_
     clear H
     have H:=H1
     clear H1
     rw[Wl_drop,Wl_take] at H
     have hws:(List.drop 2 [x0,x1,x2,x3,x4,x5,x6,x7]).take (6-2) = [x2,x3,x4,x5]:=rfl
     rw[hws] at H
     obtain⟨aS,cs,rfl⟩:=(H.rd 0 rfl).1.formN (Wl_len [x2,x3,x4,x5])
     refine w_lenV ?_
     rename_i ua hua q8 bb oo q0 q1 ub hub
     refine w_jnG λK hK=>?_
     replace H:=H.nilS 55 2
     have tail:∀(y1 y2 y3 y4:Value)(fl:Bool)(ac:Option Addr)(cc:Nat)(w:Hs),Sto h [] w [OR (.slice ac (decRs [x2,x3,x4,x5]).length cc) (decRs [x2,x3,x4,x5]),.rsl (.slice aS [x2,x3,x4,x5].length cs) 1 (Wl [x2,x3,x4,x5]),.blk ua.nx (.row 53 0 true fl [.int .i64 (.ofNat (x0&&&255)),.int .i64 (.ofNat (x0/2^8)),.int .i64 (.ofNat x1),.slice ac (decRs [x2,x3,x4,x5]).length cc]),.blk h.nx (.row 53 0 true true [.int .i64 (.ofNat 0),.int .i64 (.ofNat 0),.int .i64 (.ofNat 0),.slice none 0 0]),.rsl (.slice a [x0,x1,x2,x3,x4,x5,x6,x7].length c) 1 (Wl [x0,x1,x2,x3,x4,x5,x6,x7])]→WP (K y1 y2 y3 y4 w) (QGet [x0,x1,x2,x3,x4,x5,x6,x7] h):=by
      clear H
      intro y1 y2 y3 y4 fl ac cc w H
      rw[hK]
      have dl:(decRs [x2,x3,x4,x5]).length≤4:=by
       unfold decRs
       rw[List.length_map]
       exact(List.takeWhile_sublist _).length_le
      repeat' (first|((with_reducible apply w_loadsF 2 H) ;rfl;rfl;rfl))
      have rd:=H.rdOR 0 rfl
      have cpd:=cp (decN x0 x1 [x2,x3,x4,x5]) ac cc w (by show (decRs _).length<_;omega) rd
      by_cases hf:(decN x0 x1 [x2,x3,x4,x5]).fits
      ·refine w_call (cpd.1 hf) λv2 u2 n2=>?_
       replace n2:=n2.ones
       rw[←Wl_ones] at n2
       replace H:=H.call n2
       refine w_callB (ce _ [x0,x1,x2,x3,x4,x5,x6,x7] _ _ _ (by rw[nodeW_len (show (decRs [x2,x3,x4,x5]).length≤4 from dl)];omega) (H.rd 0 rfl) (H.rd 5 rfl)) (λq=>?_) (λq=>?_)
       ·repeat' (first|(with_reducible first|refine w_jn ?_|refine w_cndF ?_|refine w_notT ?_)|((with_reducible apply w_loadsF 3 H) ;rfl;rfl;rfl)|((with_reducible apply w_storeV 4 H) ;rfl;rfl;rfl;omega;rfl;(clear H;intro u H hu;(try dsimp only[List.set_cons_zero,List.set_cons_succ,cellsL,List.toList_toArray,splice,ev,rep,List.cons_append,List.nil_append] at H)))|((with_reducible apply w_retC 4 H) ;rfl;rfl;rfl))
        rw[show QGet [x0,x1,x2,x3,x4,x5,x6,x7] h=λr h'=>∃a c,r=.tuple #[(decN x0 x1 [x2,x3,x4,x5]).v a c,.bool true]∧New h h' (OR (.slice a (decN x0 x1 [x2,x3,x4,x5]).rs.length c) (decN x0 x1 [x2,x3,x4,x5]).rs) from by
         funext r h';unfold QGet;rw[show getNode [x0,x1,x2,x3,x4,x5,x6,x7]=some (decN x0 x1 [x2,x3,x4,x5]) from if_pos ⟨q0,by omega,hf,q⟩]]
        exact w_clrC (λv=>.tuple #[.agg #[.int .i64 (.ofNat (x0&&&255)),.int .i64 (.ofNat (x0/2^8)),.int .i64 (.ofNat x1),v],.bool true]) 1 H rfl (λ_ _ _=>by simp[blkV,blkP,blkC]) (λ_ _ _ _=>rfl) λv' h' n'=>by
         obtain⟨a',c',rfl⟩:=n'.2.1.form
         exact⟨a',c',rfl,n'⟩
       ·repeat' (first|(with_reducible first|refine w_jn ?_|refine w_cndT ?_|refine w_notF ?_)|((with_reducible apply w_build) ;rfl;(try dsimp only[splice,ev,cellsL,rep,List.cons_append,List.nil_append]))|((with_reducible apply w_storeV 4 H) ;rfl;rfl;rfl;omega;rfl;(clear H;intro u H hu;(try dsimp only[List.set_cons_zero,List.set_cons_succ,cellsL,List.toList_toArray,splice,ev,rep,List.cons_append,List.nil_append] at H)))|((with_reducible apply w_retC 4 H) ;rfl;rfl;rfl))
        rw[show QGet [x0,x1,x2,x3,x4,x5,x6,x7] h=λr h'=>r=.tuple #[nd0.v none 0,.bool false]∧h'=h from by funext r h';unfold QGet;rw[show getNode [x0,x1,x2,x3,x4,x5,x6,x7]=none from if_neg λz=>q z.2.2.2]]
        exact w_clr H rfl ⟨rfl,rfl⟩
      ·refine w_callE (cpd.2 hf) ?_
       refine w_callB (ce [] [x0,x1,x2,x3,x4,x5,x6,x7] _ _ _ (by simp) (Rd.none _ _) (H.rd 4 rfl)) (λq=>by cases q) (λq=>?_)
       repeat' (first|(with_reducible first|refine w_jn ?_|refine w_cndT ?_|refine w_notF ?_)|((with_reducible apply w_build) ;rfl;(try dsimp only[splice,ev,cellsL,rep,List.cons_append,List.nil_append]))|((with_reducible apply w_storeV 3 H) ;rfl;rfl;rfl;omega;rfl;(clear H;intro u H hu;(try dsimp only[List.set_cons_zero,List.set_cons_succ,cellsL,List.toList_toArray,splice,ev,rep,List.cons_append,List.nil_append] at H)))|((with_reducible apply w_retC 3 H) ;rfl;rfl;rfl))
       rw[show QGet [x0,x1,x2,x3,x4,x5,x6,x7] h=λr h'=>r=.tuple #[nd0.v none 0,.bool false]∧h'=h from by funext r h';unfold QGet;rw[show getNode [x0,x1,x2,x3,x4,x5,x6,x7]=none from if_neg λz=>hf z.2.2.1]]
       exact w_clr H rfl ⟨rfl,rfl⟩
     clear hK
     have wl:[x2,x3,x4,x5].length=4:=rfl
     have wb:∀x ∈ [x2,x3,x4,x5],x<18446744073709551616:=λx hx=>hl x (by simp at hx ⊢;omega)
     clear hws
     generalize [x2,x3,x4,x5]=ws at *
     obtain⟨m0,hm0,H0⟩:∃m0,m0=_∧Sto h [] u m0:=⟨_,rfl,H⟩
     clear H
     refine lp_ind (Good:=λn (self:L4)=>∀(i:Nat)(y1 y2 y3:Value)(fl:Bool)(ac:Option Addr)(cc:Nat)(w:Hs),i+n=4→(∀x∈ws.take i,x≠0)→Sto h [] w ((m0.set 0 (.osl (.slice ac i cc) 55 2 true i (Rc ((ws.take i).map decR)))).set 2 (.blk ua.nx (.row 53 0 true fl [.int .i64 (.ofNat (x0&&&255)),.int .i64 (.ofNat (x0/2^8)),.int .i64 (.ofNat x1),.slice ac i cc])))→WP (self (.int .i64 (.ofNat i)) y1 y2 y3 w) (QGet [x0,x1,x2,x3,x4,x5,x6,x7] h)) (λn self ih i y1 y2 y3 fl ac cc w hi hq H1=>?_) N 4 (by omega) 0 _ _ _ true none 0 _ (by omega) (by simp) (by rw[hm0];rw[hm0] at H0;exact H0)
     have hm1:=hm0
     rw[hm0] at H1
     have H:=H1
     clear H1 H0
     dsimp only[List.set_cons_zero,List.set_cons_succ] at H
     have tk:∀q:i<ws.length,ws.take (i+1)=ws.take i ++ [ws[i]]:=λq=>by rw[List.take_add_one,List.getElem?_eq_getElem q];rfl
     repeat' (first|(with_reducible first|refine w_jn ?_|refine w_cndT ?_|refine w_cndF ?_)|((with_reducible refine w_lss_NN (λ_=>?_) (λ_=>?_))<;>first|(exfalso;omega)|skip))
     ·have ii:i<ws.length:=by omega
      refine w_at1 1 H rfl (Wl_get ii) rfl rfl ?_
      have wi:=wb ws[i] (List.getElem_mem ii)
      have a1:ws[i]&&&4294967295≤4294967295:=Nat.and_le_right
      repeat' (first|(with_reducible first|refine w_jn ?_|refine w_cndT ?_|refine w_cndF ?_|refine w_fieldA ?_)|((with_reducible apply w_build) ;rfl;(try dsimp only[splice,ev,cellsL,rep,List.cons_append,List.nil_append]))|((with_reducible apply w_mkrow H) ;rfl;(clear H;intro u H hu;(try dsimp only[List.set_cons_zero,List.set_cons_succ,cellsL,List.toList_toArray,splice,ev,rep,List.cons_append,List.nil_append] at H)))|((with_reducible refine w_ueql (λ_=>?_) (λ_=>?_))<;>first|(exfalso;omega)|skip)|((with_reducible first|refine w_to64 ?_ ?_|refine w_shr ?_ ?_) ;omega)|((with_reducible refine w_uand ?_ ?_ ?_) ;omega;omega)|((with_reducible apply w_load 2 H) ;rfl;rfl;rfl))
      ·have et:=decRs_at ii hq (by assumption)
       have el:(decRs ws).length=i:=by rw[et,List.length_map,List.length_take];omega
       refine tail _ _ _ _ fl ac cc _ ?_
       unfold OR
       rw[el,et]
       exact H
      ·refine w_appendB 1 0 H rfl rfl rfl rfl (by omega) (by omega) λv3 u4 H4 hn4=>?_
       clear H
       have H:=H4.tail
       clear H4
       dsimp only[List.set_cons_zero,List.set_cons_succ] at H
       have rc:Rc ((ws.take (i+1)).map decR)=Rc ((ws.take i).map decR) ++ [.int .i64 (.ofNat (ws[i]&&&4294967295)),.int .i64 (.ofNat (ws[i]/2^32))]:=by
        rw[tk ii,List.map_append,List.map_singleton,Rc_snoc];rfl
       obtain⟨a3,c3,rfl⟩:=(show OwnSl u4 v3 55 2 _ _ _ from H.ok _ (List.mem_of_getElem? (i:=0) rfl)).form
       repeat' (first|(with_reducible refine w_fieldA ?_)|((with_reducible refine w_add_NN ?_ ?_) ;omega)|((with_reducible apply w_store1 2 H) ;rfl;(simp only[List.length_cons,List.length_nil];omega);rfl;(clear H;intro u H hu;(try dsimp only[List.set_cons_zero,List.set_cons_succ,cellsL,List.toList_toArray,splice,ev,rep,List.cons_append,List.nil_append] at H))))
       refine ih (n-1) (by omega) (i+1) _ _ _ (andB fl (flat1 (.slice a3 (i+1) c3))) a3 c3 _ (by omega) (λx hx=>?_) ?_
       ·rw[tk ii,List.mem_append] at hx
        rcases hx with hx|hx
        ·exact hq x hx
        ·rw[List.mem_singleton.1 hx];assumption
       ·rw[hm1,rc]
        exact H
     ·have ie:i=ws.length:=by omega
      have et:decRs ws=(ws.take i).map decR:=by rw[ie,List.take_length];rw[ie,List.take_length] at hq;exact decRs_all hq
      have el:(decRs ws).length=i:=by rw[et,List.length_map,List.length_take];omega
      refine tail _ _ _ _ fl ac cc _ ?_
      unfold OR
      rw[el,et]
      exact H
   ·rw[show QGet [x0,x1,x2,x3,x4,x5,x6,x7] h=λr h'=>r=.tuple #[nd0.v none 0,.bool false]∧h'=h from by funext r h';unfold QGet;rw[show getNode [x0,x1,x2,x3,x4,x5,x6,x7]=none from if_neg (by omega)]]
    exact w_clr H rfl ⟨rfl,rfl⟩
 ·repeat' (first|(with_reducible first|refine w_jn ?_|refine w_cndT ?_|refine w_gFt ?_|refine w_pickT ?_|refine w_unC ?_|refine w_enK ?_|refine w_lenV ?_)|((with_reducible apply w_build) ;rfl;(try dsimp only[splice,ev,cellsL,rep,List.cons_append,List.nil_append]))|((with_reducible refine w_alloc H ?_) ;(clear H;intro u H hu))|((with_reducible refine w_neq_NN (λ_=>?_) (λ_=>?_))<;>first|(exfalso;omega)|skip)|((with_reducible apply w_storeV 0 H) ;rfl;rfl;rfl;omega;rfl;(clear H;intro u H hu;(try dsimp only[List.set_cons_zero,List.set_cons_succ,cellsL,List.toList_toArray,splice,ev,rep,List.cons_append,List.nil_append] at H)))|((with_reducible apply w_retC 0 H) ;rfl;rfl;rfl))
  rw[show QGet l h=λr h'=>r=.tuple #[nd0.v none 0,.bool false]∧h'=h from by funext r h';unfold QGet;rw[getNode_len h8]]
  exact w_clr H rfl ⟨rfl,rfl⟩
theorem e2_runs(neg:Bool)(p q:Nat × Nat):e2 neg (qA [.i,.i]) (.agg (rv p).toArray) (.agg (rv q).toArray)=some (.bool (if neg then !decide (p=q) else decide (p=q))):=by
 obtain⟨a,b⟩:=p
 obtain⟨c,d⟩:=q
 show boolO neg (match (some (Nat.beq a c):Option Bool) with|some t=>(match t with|true=>(match (some (Nat.beq b d):Option Bool) with|some t=>(match t with|true=>some true|false=>some false)|none=>none)|false=>some false)|none=>none)=_
 by_cases h1:a=c
 ·subst h1
  rw[Nat.beq_refl]
  by_cases h2:b=d
  ·subst h2
   rw[Nat.beq_refl]
   cases neg<;>simp[boolO,notB]
  ·rw[show Nat.beq b d=false from by rw[Bool.eq_false_iff];exactλe=>h2 (Nat.eq_of_beq_eq_true e)]
   cases neg<;>simp[boolO,notB,h2]
 ·rw[show Nat.beq a c=false from by rw[Bool.eq_false_iff];exactλe=>h1 (Nat.eq_of_beq_eq_true e)]
  cases neg<;>simp[boolO,notB,h1]
def CEqR(R:RnK):Prop:=∀(a b:List (Nat × Nat))(v w:Value)(h:Hs),a.length<100000→Rd h v 2 (Rl a)→Rd h w 2 (Rl b)→R 67 [v,w] h=some (.val (.bool (decide (a=b))) h)
theorem eqR_ok{R:RnK}{N:Nat}{a b:List (Nat × Nat)}{v w:Value}{h:Hs}(hN:100000<N)(ha:a.length<100000)(r1:Rd h v 2 (Rl a))(r2:Rd h w 2 (Rl b)):r67 R N [v,w] h=some (.val (.bool (decide (a=b))) h):=by
 refine WP.eqn ?_
 unfold r67
 have H:=Sto.enter2 r1 r2
 have l1:=Rl_len a
 have l2:=Rl_len b
 repeat' (first|(with_reducible first|refine w_jn ?_|refine w_cndT ?_|refine w_cndF ?_|refine w_unC ?_|refine w_enK ?_)|((with_reducible refine w_neq_NN (λ_=>?_) (λ_=>?_))<;>first|(exfalso;omega)|skip)|((with_reducible apply w_lenR 0 H) ;rfl)|((with_reducible apply w_lenR 1 H) ;rfl))
 ·refine lp_ind (Good:=λn (self:L5)=>∀(i:Nat)(x1 x2 x3 x4:Value),i+n=a.length→(∀j,j<i→a[j]?=b[j]?)→WP (self (.int .i64 (.ofNat i)) x1 x2 x3 x4 ⟨h.hp,h.nx,h.nx⟩) (λv' h'=>v'=.bool (decide (a=b))∧h'=h)) (λn self ih i x1 x2 x3 x4 hi hq=>?_) N a.length (by omega) 0 _ _ _ _ (by omega) (λj hj=>by omega)
  repeat' (first|(with_reducible first|refine w_jn ?_|refine w_cndT ?_|refine w_cndF ?_)|((with_reducible refine w_lss_NN (λ_=>?_) (λ_=>?_))<;>first|(exfalso;omega)|skip))
  ·have ia:i<a.length:=by omega
   have ib:i<b.length:=by omega
   refine w_at 0 H rfl (Rl_get ia) rfl rfl ?_
   refine w_at 1 H rfl (Rl_get ib) rfl rfl ?_
   refine w_ob (v:=.bool (!decide (a[i]=b[i]))) (e2_runs true a[i] b[i]) ?_
   cases hd:decide (a[i]=b[i]) with
   |true=>
    show WP (cnd (.bool false) _ _) _
    repeat' (first|(with_reducible refine w_cndF ?_)|((with_reducible refine w_add_NN ?_ ?_) ;omega))
    refine ih (n-1) (by omega) (i+1) _ _ _ _ (by omega) λj hj=>?_
    by_cases e:j=i
    ·subst e;rw[List.getElem?_eq_getElem ia,List.getElem?_eq_getElem ib];congr 1;exact of_decide_eq_true hd
    ·exact hq j (by omega)
   |false=>
    show WP (cnd (.bool true) _ _) _
    repeat' (first|(with_reducible refine w_cndT ?_))
    exact w_clrB H (by simp;intro e;subst e;exact of_decide_eq_false hd rfl)
  ·exact w_clrB H (by simp;exact List.ext_getElem? λj=>if hj:j<i then hq j hj else by rw[List.getElem?_eq_none (by omega),List.getElem?_eq_none (by omega)])
 ·exact w_clrB H (by simp;intro e;subst e;omega)
structure Nd.Mod (d:Nd):Prop where
 ty:d.ty≤100000
 ln:d.ln≤1099511627776
 sz:d.sz≤1099511627776
 rl:d.rs.length≤1000
 rs:∀r∈d.rs,r.1≤4294967296∧r.2≤4294967296
def sumR(l:List (Nat × Nat)):Nat:=(l.map λr=>r.2).sum
theorem sumR_snoc(l:List (Nat × Nat))(r:Nat × Nat):sumR (l ++ [r])=sumR l+r.2:=by unfold sumR;rw[List.map_append,List.sum_append];simp
theorem sumR_le{l:List (Nat × Nat)}(h:∀r∈l,r.1≤4294967296∧r.2≤4294967296):sumR l≤l.length*4294967296:=by
 induction l with
 |nil=>exact Nat.zero_le _
 |cons x l ih=>
  have h1:=(h x List.mem_cons_self).2
  have h2:=ih λr hr=>h r (List.mem_cons_of_mem _ hr)
  show x.2+sumR l≤(l.length+1)*4294967296
  omega
def CBlocks(R:RnK):Prop:=∀(d:Nd)(a:Option Addr)(c:Nat)(h:Hs),d.Mod→Rd h (.slice a d.rs.length c) 2 (Rl d.rs)→R 65 [d.v a c] h=some (.val (.int .i64 (.ofNat (sumR d.rs))) h)
theorem blocks_ok{R:RnK}{N:Nat}{d:Nd}{a:Option Addr}{c:Nat}{h:Hs}(hN:100000<N)(dm:d.Mod)(r:Rd h (.slice a d.rs.length c) 2 (Rl d.rs)):r65 R N [d.v a c] h=some (.val (.int .i64 (.ofNat (sumR d.rs))) h):=by
 refine WP.eqn ?_
 unfold r65 Nd.v
 have H:=Sto.enter1 r
 have l1:=Rl_len d.rs
 have m1:=dm.rl
 repeat' (first|(with_reducible first|refine w_jn ?_|refine w_unC ?_|refine w_enK ?_|refine w_fieldA ?_|refine w_lenV ?_)|((with_reducible refine w_boxA H ?_) ;(clear H;intro u H hu))|((with_reducible apply w_load 0 H) ;rfl;rfl;rfl))
 have H0:=H
 refine lp_ind (Good:=λn (self:L4)=>∀(i:Nat)(y1 y3:Value)(m:List Th)(w:Hs),i+n=d.rs.length→Sto h [] w (.rsl (.slice a d.rs.length c) 2 (Rl d.rs)::m)→WP (self (.int .i64 (.ofNat i)) y1 (.int .i64 (.ofNat (sumR (d.rs.take i)))) y3 w) (λv' h'=>v'=.int .i64 (.ofNat (sumR d.rs))∧h'=h)) (λn self ih i y1 y3 m w hi H=>?_) N d.rs.length (by omega) 0 _ _ [] _ (by omega) H.tail
 clear H0
 have sm:=sumR_le (l:=d.rs.take i) λr hr=>dm.rs r (List.mem_of_mem_take hr)
 rw[List.length_take] at sm
 repeat' (first|(with_reducible first|refine w_jn ?_|refine w_cndT ?_|refine w_cndF ?_)|((with_reducible refine w_lss_NN (λ_=>?_) (λ_=>?_))<;>first|(exfalso;omega)|skip))
 ·have ii:i<d.rs.length:=by omega
  refine w_at 0 H rfl (Rl_get ii) rfl rfl ?_
  have rb:=dm.rs _ (List.getElem_mem ii)
  have tk:sumR (d.rs.take (i+1))=sumR (d.rs.take i)+d.rs[i].2:=by rw[List.take_add_one,List.getElem?_eq_getElem ii];exact sumR_snoc _ _
  repeat' (first|(with_reducible refine w_fieldA ?_)|((with_reducible refine w_alloc H ?_) ;(clear H;intro u H hu))|((with_reducible refine w_add_NN ?_ ?_) ;omega)|((with_reducible apply w_load 0 H) ;rfl;rfl;rfl)|((with_reducible apply w_storeV 0 H) ;rfl;rfl;rfl;omega;rfl;(clear H;intro u H hu;(try dsimp only[List.set_cons_zero,List.set_cons_succ,cellsL,List.toList_toArray,splice,ev,rep,List.cons_append,List.nil_append] at H))))
  rw[←tk]
  exact ih (n-1) (by omega) (i+1) _ _ m _ (by omega) H.tail
 ·rw[List.take_of_length_le (by omega)]
  exact w_clr H rfl ⟨rfl,rfl⟩
def Nd.needs(d:Nd):Nat:=if d.ty=2 then d.sz else if d.ty=1∨d.ty=3 then d.sz/64+min (d.sz%64) 1 else 0
def CNeeds(R:RnK):Prop:=∀(d:Nd)(a:Option Addr)(c:Nat)(h:Hs),d.Mod→R 66 [d.v a c] h=some (.val (.int .i64 (.ofNat d.needs)) h)
theorem needs_ok{R:RnK}{N:Nat}{d:Nd}{a:Option Addr}{c:Nat}{h:Hs}(dm:d.Mod):r66 R N [d.v a c] h=some (.val (.int .i64 (.ofNat d.needs)) h):=by
 refine WP.eqn ?_
 unfold r66 Nd.v Nd.needs
 have H:=Sto.enter h
 have m1:=dm.sz
 repeat' (first|(with_reducible first|refine w_jn ?_|refine w_cndT ?_|refine w_cndF ?_|refine w_unC ?_|refine w_enK ?_|refine w_fieldA ?_|refine w_min_NN ?_)|((with_reducible refine w_boxA H ?_) ;(clear H;intro u H hu))|((with_reducible first|refine w_lss_NN (λ_=>?_) (λ_=>?_)|refine w_eql_NN (λ_=>?_) (λ_=>?_))<;>first|(exfalso;omega)|skip)|((with_reducible first|refine w_add_NN ?_ ?_|refine w_rem_NN ?_ ?_) ;omega)|((with_reducible refine w_quo_NN ?_ ?_ ?_) ;omega;omega)|((with_reducible apply w_load 0 H) ;rfl;rfl;rfl))
 all_goals (refine w_clr H rfl ⟨?_,rfl⟩;congr 2;clear H;(repeat' split)<;>omega)
def Nd.sizedP(d:Nd)(g:Geo):Prop:=if d.ty=1 then d.sz≤4096 else if d.ty=2 then d.sz≤min g.b 4096 else 1≤d.sz∧d.sz≤400
instance (d:Nd) (g:Geo):Decidable (d.sizedP g):=inferInstanceAs (Decidable (if d.ty=1 then _ else if d.ty=2 then _ else _∧_))
def CSized(R:RnK):Prop:=∀(g:Geo)(d:Nd)(a:Option Addr)(c:Nat)(h:Hs),d.Mod→R 63 [g.v,d.v a c] h=some (.val (.bool (decide (d.sizedP g))) h)
theorem sized_ok{R:RnK}{N:Nat}(ci:CNin R){g:Geo}{d:Nd}{a:Option Addr}{c:Nat}{h:Hs}(dm:d.Mod):r63 R N [g.v,d.v a c] h=some (.val (.bool (decide (d.sizedP g))) h):=by
 refine WP.eqn ?_
 unfold r63 Nd.v Geo.v
 have H:=Sto.enter h
 have m1:=dm.sz
 repeat' (first|(refine w_callE (ci.nat _ _ _ _) ?_)|(with_reducible first|refine w_jn ?_|refine w_cndT ?_|refine w_cndF ?_|refine w_unC ?_|refine w_enK ?_|refine w_fieldA ?_|refine w_min_NN ?_)|((with_reducible refine w_boxA H ?_) ;(clear H;intro u H hu))|((with_reducible refine w_eql_NN (λ_=>?_) (λ_=>?_))<;>first|(exfalso;omega)|skip)|((with_reducible apply w_load 0 H) ;rfl;rfl;rfl)|((with_reducible apply w_load 1 H) ;rfl;rfl;rfl))
 all_goals (refine w_clr H rfl ⟨congrArg _ (decide_eq_decide.2 ?_),rfl⟩;clear H;unfold Nd.sizedP;(repeat' split)<;>omega)
def inData(g:Geo)(r:Nat × Nat):Prop:=1≤r.2∧g.dataAt≤r.1∧r.1+r.2≤g.dataAt+g.dataN
def clash(r q:Nat × Nat):Prop:=r.1<q.1+q.2∧q.1<r.1+r.2
instance (g:Geo) (r:Nat × Nat):Decidable (inData g r):=inferInstanceAs (Decidable (_∧_∧_))
instance (r q:Nat × Nat):Decidable (clash r q):=inferInstanceAs (Decidable (_∧_))
def placedTo(g:Geo)(l:List (Nat × Nat))(k:Nat):Prop:=∀i,i<k→∀r,l[i]?=some r→inData g r∧∀j,j<i→∀q,l[j]?=some q→¬clash r q
def Nd.placedP(d:Nd)(g:Geo):Prop:=d.ty=2∧d.rs = [(g.lostAt,g.n)]∨placedTo g d.rs d.rs.length
theorem placedTo_bad{g:Geo}{l:List (Nat × Nat)}{i:Nat}(hi:i<l.length)(h:¬inData g l[i]):¬placedTo g l l.length:=λp=>h (p i hi _ (List.getElem?_eq_getElem hi)).1
theorem placedTo_clash{g:Geo}{l:List (Nat × Nat)}{i j:Nat}(hi:i<l.length)(hj:j<i)(h:clash l[i] l[j]):¬placedTo g l l.length:=λp=>(p i hi _ (List.getElem?_eq_getElem hi)).2 j hj _ (List.getElem?_eq_getElem _) h
theorem placedTo_succ{g:Geo}{l:List (Nat × Nat)}{i:Nat}(hi:i<l.length)(p:placedTo g l i)(h:inData g l[i])(q:∀j,(hj:j<i)→¬clash l[i] l[j]):placedTo g l (i+1):=λk hk r hr=>by
 by_cases e:k=i
 ·subst e
  rw[List.getElem?_eq_getElem hi] at hr
  injection hr with hr
  subst hr
  exact⟨h,λj hj x hx=>by rw[List.getElem?_eq_getElem (by omega)] at hx;injection hx with hx;subst hx;exact q j hj⟩
 ·exact p k (by omega) r hr
def CPlaced(R:RnK):Prop:=∀(g:Geo)(d:Nd)(a:Option Addr)(c:Nat)(h:Hs),g.Ok→d.Mod→Rd h (.slice a d.rs.length c) 2 (Rl d.rs)→WP (R 64 [g.v,d.v a c] h) λv h'=>h'=h∧∃b,v=.bool b∧(b=true↔d.placedP g)
theorem placed_ok{R:RnK}{N:Nat}(cl:CLost R)(ce:CEqR R)(cd:CDataF R){g:Geo}{d:Nd}{a:Option Addr}{c:Nat}{h:Hs}(hN:100000<N)(x:g.Ok)(dm:d.Mod)(r:Rd h (.slice a d.rs.length c) 2 (Rl d.rs)) :
 WP (r64 R N [g.v,d.v a c] h) λv h'=>h'=h∧∃b,v=.bool b∧(b=true↔d.placedP g):=by
 unfold r64 Nd.v Geo.v
 have clg:=cl g
 have cdg:=cd g
 unfold Geo.v at clg cdg
 have H:=Sto.enter1 r
 have l1:=Rl_len d.rs
 have m1:=dm.rl
 have h1:=x.1.b2
 have h2:=x.1.n2
 have h3:=x.1.num
 have h4:=x.2
 have h5:g.dataN=g.b-1-g.dataAt:=rfl
 have h6:g.lostAt=g.bitsAt+g.bitsN+g.n:=rfl
 refine w_unC ?_
 refine w_unC ?_
 refine w_enK ?_
 refine w_boxA H ?_
 clear H;intro u1 H hu1
 refine w_boxA H ?_
 clear H;intro u2 H hu2
 repeat' (first|(refine w_callE (clg _ x) ?_)|(refine w_callE (cdg _ x) ?_)|(with_reducible first|refine w_jn ?_|refine w_cndF ?_|refine w_gTt ?_|refine w_gTf ?_|refine w_pickF ?_|refine w_fieldA ?_|refine w_lenV ?_)|((with_reducible apply w_extr) ;rfl)|((with_reducible apply w_build) ;rfl;(try dsimp only[splice,ev,cellsL,rep,List.cons_append,List.nil_append]))|((with_reducible apply w_mkrow H) ;rfl;(clear H;intro u H hu;(try dsimp only[List.set_cons_zero,List.set_cons_succ,cellsL,List.toList_toArray,splice,ev,rep,List.cons_append,List.nil_append] at H)))|((with_reducible refine w_eql_NN (λ_=>?_) (λ_=>?_))<;>first|(exfalso;omega)|skip)|((with_reducible apply w_load 0 H) ;rfl;rfl;rfl)|((with_reducible apply w_loadsF 1 H) ;rfl;rfl;rfl))
 refine w_callB (ce d.rs [(g.lostAt,g.n)] _ _ _ (by omega) (H.rd 3 rfl) (H.rdU (Ls:=Rl [(g.lostAt,g.n)]) (n:=1) (c:=1) 0 rfl rfl (Rl_two _) rfl (by omega))) (λq=>?_) (λq=>?_)
 ·repeat' (first|(with_reducible first|refine w_jn ?_|refine w_cndT ?_|refine w_pickT ?_))
  exact w_clr H rfl ⟨rfl,_,rfl,⟨λ_=>.inl ⟨by omega,q⟩,λ_=>rfl⟩⟩
 replace H:=H.tail
 repeat' (first|(refine w_callE (cdg _ x) ?_)|(with_reducible first|refine w_jn ?_|refine w_cndF ?_|refine w_pickT ?_|refine w_fieldA ?_|refine w_lenV ?_)|((with_reducible apply w_extr) ;rfl)|((with_reducible apply w_load 0 H) ;rfl;rfl;rfl)|((with_reducible apply w_loadsF 1 H) ;rfl;rfl;rfl))
 all_goals
  have np:¬(d.ty=2∧d.rs = [(g.lostAt,g.n)]):=by first|exactλz=>q z.2|exactλz=>by omega
  obtain⟨m0,hm0,H0⟩:∃m0,m0=_∧Sto h [] _ m0:=⟨_,rfl,H⟩
  refine lp_ind (Good:=λn (self:L12)=>∀(i:Nat)(y1 y2 y3 y4 y5 y6 y7 y8 y9 y10 y11:Value)(w:Hs),i+n=d.rs.length→placedTo g d.rs i→Sto h [] w m0→WP (self (.int .i64 (.ofNat i)) y1 y2 y3 y4 y5 y6 y7 y8 y9 y10 y11 w) (λv h'=>h'=h∧∃b,v=.bool b∧(b=true↔d.placedP g))) (λn self ih i y1 y2 y3 y4 y5 y6 y7 y8 y9 y10 y11 w hi hq H1=>?_) N d.rs.length (by omega) 0 _ _ _ _ _ _ _ _ _ _ _ _ (by omega) (λi hi=>by omega) (by rw[hm0];exact H)
  clear H H0
  have hm1:=hm0
  rw[hm0] at H1
  have H:=H1
  clear H1
  repeat' (first|(with_reducible first|refine w_jn ?_|refine w_cndT ?_|refine w_cndF ?_)|((with_reducible refine w_lss_NN (λ_=>?_) (λ_=>?_))<;>first|(exfalso;omega)|skip))
  ·have ii:i<d.rs.length:=by omega
   refine w_at 2 H rfl (Rl_get ii) rfl rfl ?_
   have rb:=dm.rs _ (List.getElem_mem ii)
   have bad:¬inData g d.rs[i]→¬d.placedP g:=λz p=>p.elim np (placedTo_bad ii z)
   have no:∀z:¬d.placedP g,(false=true↔d.placedP g):=λz=>⟨λy=>(by cases y),λy=>absurd y z⟩
   repeat' (first|(with_reducible first|refine w_jn ?_|refine w_cndT ?_|refine w_cndF ?_|refine w_gFt ?_|refine w_gFf ?_|refine w_pickT ?_|refine w_pickF ?_|refine w_fieldA ?_)|((with_reducible refine w_alloc H ?_) ;(clear H;intro u H hu))|((with_reducible first|refine w_lss_NN (λ_=>?_) (λ_=>?_)|refine w_gtr_NN (λ_=>?_) (λ_=>?_)|refine w_geq_NN (λ_=>?_) (λ_=>?_))<;>first|(exfalso;omega)|skip)|((with_reducible refine w_sub_NN ?_ ?_ ?_) ;omega;omega)|((with_reducible apply w_load 0 H) ;rfl;rfl;rfl)|((with_reducible apply w_storeV 0 H) ;rfl;rfl;rfl;omega;rfl;(clear H;intro u H hu;(try dsimp only[List.set_cons_zero,List.set_cons_succ,cellsL,List.toList_toArray,splice,ev,rep,List.cons_append,List.nil_append] at H)))|((with_reducible apply w_load 1 H) ;rfl;rfl;rfl))
   ·exact w_clr H rfl ⟨rfl,_,rfl,no (bad λq=>by have:=q.1;omega)⟩
   ·exact w_clr H rfl ⟨rfl,_,rfl,no (bad λq=>by have:=q.2.1;omega)⟩
   ·exact w_clr H rfl ⟨rfl,_,rfl,no (bad λq=>by have:=q.1;have:=q.2.2;omega)⟩
   ·exact w_clr H rfl ⟨rfl,_,rfl,no (bad λq=>by have:=q.2.2;omega)⟩
   ·have good:inData g d.rs[i]:=⟨by omega,by omega,by omega⟩
    refine w_slH 3 H rfl (by omega) λs H1=>?_
    clear H
    have H:=H1
    clear H1
    have rt:(Rl d.rs).take i=Rl (d.rs.take i):=by unfold Rl;rw[List.map_take]
    have l3:(d.rs.take i).length=i:=by rw[List.length_take];omega
    rw[rt] at H
    obtain⟨aS,cs,rfl⟩:=(H.rd 0 rfl).1.formN (Rl_len (d.rs.take i))
    have l2:=Rl_len (d.rs.take i)
    repeat' (first|(with_reducible first|refine w_jn ?_|refine w_lenV ?_))
    obtain⟨k0,hk0,K0⟩:∃k0,k0=_∧Sto h [] _ k0:=⟨_,rfl,H⟩
    refine lp_ind (Good:=λn2 (self2:L5)=>∀(j:Nat)(z1 z2 z3 z4:Value)(w2:Hs),j+n2=i→(∀k,(hk:k<j)→(hj:j≤i)→¬clash d.rs[i] d.rs[k])→Sto h [] w2 k0→WP (self2 (.int .i64 (.ofNat j)) z1 z2 z3 z4 w2) (λv h'=>h'=h∧∃b,v=.bool b∧(b=true↔d.placedP g))) (λn2 self2 ih2 j z1 z2 z3 z4 w2 hj hq2 H2=>?_) N i (by omega) 0 _ _ _ _ _ (by omega) (λk hk=>by omega) (by rw[hk0];exact H)
    clear H K0
    have hk1:=hk0
    rw[hk0] at H2
    have H:=H2
    clear H2
    repeat' (first|(with_reducible first|refine w_jn ?_|refine w_cndT ?_|refine w_cndF ?_)|((with_reducible refine w_lss_NN (λ_=>?_) (λ_=>?_))<;>first|(exfalso;omega)|skip)|((with_reducible refine w_add_NN ?_ ?_) ;omega))
    ·have jj:j<(d.rs.take i).length:=by omega
     have ge:(d.rs.take i)[j]=d.rs[j]:=List.getElem_take
     refine w_at 0 H rfl (Rl_get jj) rfl rfl ?_
     rw[ge]
     have rb2:=dm.rs d.rs[j] (List.getElem_mem _)
     repeat' (first|(with_reducible first|refine w_jn ?_|refine w_cndT ?_|refine w_cndF ?_|refine w_gTt ?_|refine w_gTf ?_|refine w_pickT ?_|refine w_pickF ?_|refine w_fieldA ?_)|((with_reducible refine w_alloc H ?_) ;(clear H;intro u H hu))|((with_reducible refine w_lss_NN (λ_=>?_) (λ_=>?_))<;>first|(exfalso;omega)|skip)|((with_reducible refine w_add_NN ?_ ?_) ;omega)|((with_reducible apply w_load 0 H) ;rfl;rfl;rfl)|((with_reducible apply w_storeV 0 H) ;rfl;rfl;rfl;omega;rfl;(clear H;intro u H hu;(try dsimp only[List.set_cons_zero,List.set_cons_succ,cellsL,List.toList_toArray,splice,ev,rep,List.cons_append,List.nil_append] at H)))|((with_reducible apply w_load 2 H) ;rfl;rfl;rfl))
     ·exact w_clr H rfl ⟨rfl,_,rfl,no λp=>p.elim np (placedTo_clash ii (j:=j) (by omega) ⟨by omega,by omega⟩)⟩
     ·refine ih2 (n2-1) (by omega) (j+1) _ _ _ _ _ (by omega) (λk hk _=>?_) (by rw[hk1];exact H.tail)
      by_cases e:k=j
      ·subst e;exactλz=>by have:=z.1;have:=z.2;omega
      ·exact hq2 k (by omega) (by omega)
     ·refine ih2 (n2-1) (by omega) (j+1) _ _ _ _ _ (by omega) (λk hk _=>?_) (by rw[hk1];exact H.tail)
      by_cases e:k=j
      ·subst e;exactλz=>by have:=z.1;have:=z.2;omega
      ·exact hq2 k (by omega) (by omega)
    ·refine ih (n-1) (by omega) (i+1) _ _ _ _ _ _ _ _ _ _ _ _ (by omega) (placedTo_succ ii hq good λk hk=>hq2 k (by omega) (by omega)) (by rw[hm1];exact H.tail.tail)
  ·refine w_clr H rfl ⟨rfl,_,rfl,⟨λ_=>.inr ?_,λ_=>rfl⟩⟩
   rw[show i=d.rs.length by omega] at hq
   exact hq
def Nd.good(d:Nd)(g:Geo):Prop:=if d.ty=0 then d.free else 1≤d.ty∧d.ty≤3∧1≤d.ln∧d.ln≤200∧d.sizedP g∧d.rs.length≤4∧d.placedP g∧sumR d.rs=d.needs
def CNodeGood(R:RnK):Prop:=∀(g:Geo)(d:Nd)(a:Option Addr)(c:Nat)(h:Hs),g.Ok→d.Mod→Rd h (.slice a d.rs.length c) 2 (Rl d.rs)→WP (R 48 [g.v,d.v a c] h) λv h'=>h'=h∧∃b,v=.bool b∧(b=true↔d.good g)
theorem nodeGood_ok{R:RnK}{N:Nat}(cg:CGood R)(ci:CNin R)(cf:CFree R)(cz:CSized R)(cp:CPlaced R)(cb:CBlocks R)(cn:CNeeds R){g:Geo}{d:Nd}{a:Option Addr}{c:Nat}{h:Hs}(hN:100000<N)(x:g.Ok)(dm:d.Mod)(r:Rd h (.slice a d.rs.length c) 2 (Rl d.rs)) :
 WP (r48 R N [g.v,d.v a c] h) λv h'=>h'=h∧∃b,v=.bool b∧(b=true↔d.good g):=by
 have cgg:=cg g
 have cff:=λu=>cf d a c u (by have:=dm.rl;omega)
 have czg:=λu=>cz g d a c u dm
 have cpg:=λu=>cp g d a c u x dm
 have cbg:=λu=>cb d a c u dm
 have cng:=λu=>cn d a c u dm
 unfold r48 Nd.v Geo.v
 unfold Nd.v at cff czg cpg cbg cng
 unfold Geo.v at cgg czg cpg
 have H:=Sto.enter1 r
 have l1:=Rl_len d.rs
 have m1:=dm.rl
 have g0:d.ty=0→(d.good g↔d.free):=λz=>by unfold Nd.good;rw[if_pos z]
 have g1:¬d.ty=0→(d.good g↔1≤d.ty∧d.ty≤3∧1≤d.ln∧d.ln≤200∧d.sizedP g∧d.rs.length≤4∧d.placedP g∧sumR d.rs=d.needs):=λz=>by unfold Nd.good;rw[if_neg z]
 repeat' (first|((refine w_callB (cgg _) (λ_=>?_) (λ_=>?_))<;>first|(exfalso;omega)|skip)|((refine w_callB (ci.nat _ _ _ _) (λ_=>?_) (λ_=>?_))<;>first|(exfalso;omega)|skip)|((refine w_callB (czg _) (λ_=>?_) (λ_=>?_))<;>first|(exfalso;omega)|skip)|(with_reducible first|refine w_jn ?_|refine w_cndT ?_|refine w_cndF ?_|refine w_gTt ?_|refine w_gTf ?_|refine w_gFt ?_|refine w_gFf ?_|refine w_pickT ?_|refine w_pickF ?_|refine w_notT ?_|refine w_notF ?_|refine w_unC ?_|refine w_enK ?_|refine w_fieldA ?_|refine w_lenV ?_|refine w_blind ?_)|((with_reducible refine w_boxA H ?_) ;(clear H;intro u H hu))|((with_reducible first|refine w_leq_NN (λ_=>?_) (λ_=>?_)|refine w_eql_NN (λ_=>?_) (λ_=>?_))<;>first|(exfalso;omega)|skip)|((with_reducible apply w_load 0 H) ;rfl;rfl;rfl)|((with_reducible apply w_loadsF 0 H) ;rfl;rfl;rfl)|((with_reducible apply w_loadsF 1 H) ;rfl;rfl;rfl))
 ·refine w_callE (cff _) ?_
  exact w_clr H rfl ⟨rfl,_,rfl,by rw[g0 (by assumption)];exact decide_eq_true_iff⟩
 ·refine w_call (cpg _ (H.rd 2 rfl)) λv w hv=>?_
  obtain⟨rfl,b,rfl,hb⟩:=hv
  refine w_bar (Nat.le_refl _) ?_
  cases b
  ·repeat' (first|(with_reducible first|refine w_gTf ?_|refine w_pickT ?_|refine w_pickF ?_|refine w_blind ?_))
   exact w_clr H rfl ⟨rfl,_,rfl,⟨λz=>(by cases z),λz=>hb.2 ((g1 (by assumption)).1 z).2.2.2.2.2.2.1⟩⟩
  ·have hp:=hb.1 rfl
   repeat' (first|(with_reducible first|refine w_gTt ?_|refine w_pickT ?_|refine w_blind ?_)|((with_reducible apply w_loadsF 0 H) ;rfl;rfl;rfl))
   refine w_callE (cbg ⟨w.hp,w.nx,w.nx⟩ (Rd.lo (H.rd 2 rfl) _)) ?_
   have sr:=sumR_le dm.rs
   refine w_light0 ?_
   repeat' (first|(refine w_callE (cng _) ?_)|(with_reducible first|refine w_gTt ?_|refine w_pickT ?_|refine w_blind ?_)|((with_reducible refine w_bar ?_ ?_) ;omega)|((with_reducible refine w_eql_NN (λ_=>?_) (λ_=>?_))<;>first|(exfalso;omega)|skip)|((with_reducible apply w_loadsD 0 H) ;rfl;rfl;(intro _;simp only[HidOk,and_true];omega)))
   have nd:d.needs≤1099511627776:=by have:=dm.sz;unfold Nd.needs;(repeat' split)<;>omega
   skip
   ·exact w_clr H rfl ⟨rfl,_,rfl,⟨λ_=>(g1 (by assumption)).2 ⟨by omega,by omega,by omega,by omega,by assumption,by omega,hp,by omega⟩,λ_=>rfl⟩⟩
   ·exact w_clr H rfl ⟨rfl,_,rfl,⟨λz=>(by cases z),λz=>by have:=((g1 (by assumption)).1 z).2.2.2.2.2.2.2;omega⟩⟩
 ·exact w_clr H rfl ⟨rfl,_,rfl,⟨λz=>(by cases z),λz=>by have:=((g1 (by assumption)).1 z);omega⟩⟩
 ·exact w_clr H rfl ⟨rfl,_,rfl,⟨λz=>(by cases z),λz=>absurd ((g1 (by assumption)).1 z).2.2.2.2.1 (by assumption)⟩⟩
 ·exact w_clr H rfl ⟨rfl,_,rfl,⟨λz=>(by cases z),λz=>by have:=((g1 (by assumption)).1 z);omega⟩⟩
 ·exact w_clr H rfl ⟨rfl,_,rfl,⟨λz=>(by cases z),λz=>by have:=((g1 (by assumption)).1 z);omega⟩⟩
 ·exact absurd x (by assumption)
theorem getNode_fits{l:List Nat}{d:Nd}(h:getNode l=some d):d.fits∧nodeW d=l:=by
 unfold getNode at h
 split at h
 ·split at h
  ·rename_i q
   injection h with h
   subst h
   exact⟨q.2.2.1,q.2.2.2⟩
  ·cases h
 ·cases h
theorem fits_mod{d:Nd}(h:d.fits):d.Mod:=by
 unfold Nd.fits at h
 split at h
 ·obtain⟨a,b,c,e⟩:=h
  exact⟨by omega,by omega,by omega,by rw[e];simp,by rw[e];intro r hr;cases hr⟩
 ·obtain⟨a,b,c,e,f⟩:=h
  exact⟨by omega,by omega,by omega,by omega,λr hr=>by have:=runFits_of (List.all_eq_true.1 f r hr);omega⟩
theorem nodeAt_in{g:Geo}{i:Nat}(x:g.Ok):8*g.nodeAt i+8≤8*g.b:=by
 have h3:=x.1.num
 have h4:=x.2
 unfold Geo.nodeAt
 split<;>omega
theorem Small.block{l:List Nat}(h:Small l)(i:Nat):Small (blockAt l i):=λx hx=>h x (List.mem_of_mem_drop (List.mem_of_mem_take hx))
set_option linter.unusedSimpArgs false
theorem good_runs{d:Nd}{g:Geo}(x:g.Ok)(h:d.good g):∀r∈d.rs,1≤r.2∧r.1+r.2≤g.b:=by
 intro r hr
 have h1:=x.1.num
 have h2:=x.2
 have h3:=x.1.n1
 have h5:g.dataN=g.b-1-g.dataAt:=rfl
 unfold Nd.good at h
 split at h
 ·rw[h.2.2.2] at hr;cases hr
 ·rcases h.2.2.2.2.2.2.1 with q|q
  ·rw[q.2,List.mem_singleton] at hr
   subst hr
   have h6:g.lostAt=g.bitsAt+g.bitsN+g.n:=rfl
   exact⟨by show 1≤g.n;omega,by show g.lostAt+g.n≤g.b;omega⟩
  ·obtain⟨i,hi,rfl⟩:=List.getElem_of_mem hr
   have q:=(q i hi _ (List.getElem?_eq_getElem hi)).1
   exact⟨q.1,by have:=q.2.2;omega⟩
theorem _root_.Go.Gev.New.rl{h h':Hs}{v:Value}{l:List (Nat × Nat)}{fl:Bool}(n:New h h' (.osl v 55 2 fl l.length (Rc l))):New h h' (.rsl v 2 (Rl l)):=by
 obtain⟨n1,⟨hl,o⟩,n3⟩:=n
 rcases o with⟨rfl,hz⟩|⟨id,c,cs,sz,f,rfl,hc,hb,hf,hsz,hc'⟩
 ·obtain rfl:l = []:=List.eq_nil_of_length_eq_zero hz
  exact⟨n1,(Rd.none _ _).1,λb hb=>by cases hb⟩
 ·refine⟨n1,⟨Rl_two l,.inr ⟨id,0,c,cs,sz,_,2,true,f,by rw[Rl_len],by rw[Rl_len];exact hc,hb,.inr rfl,λi j x hi hj=>?_⟩⟩,λb hb=>n3 b ?_⟩
  ·have hx:=flatten_get (Rl_two l) i j hj
   rw[hi] at hx
   have:i<l.length:=by have:=(List.getElem?_eq_some_iff.1 hi).1;rwa [Rl_len] at this
   rw[Nat.zero_add,hc' _ (by rw[hl];omega)]
   exact hx
  ·cases l with
   |nil=>cases hb
   |cons x l=>exact hb
def bitsW(g:Geo)(W:List Nat):List Nat:=(W.drop (8*g.bitsAt)).take (8*g.bitsN)
def hasBit(B:List Nat)(i:Nat):Bool:=decide (i/64<B.length)&&decide (B.getD (i/64) 0/2^(i%64)&&&1=1)
def CHas(R:RnK):Prop:=∀(B:List Nat)(i:Nat)(v:Value)(h:Hs),Small B→B.length<100000→i≤1000000→Rd h v 1 (Wl B)→R 54 [.agg #[v],.int .i64 (.ofNat i)] h=some (.val (.bool (hasBit B i)) h)
theorem has_ok{R:RnK}{N:Nat}(ct:CThere R){B:List Nat}{i:Nat}{v:Value}{h:Hs}(sm:Small B)(hb:B.length<100000)(hi:i≤1000000)(r:Rd h v 1 (Wl B)):r54 R N [.agg #[v],.int .i64 (.ofNat i)] h=some (.val (.bool (hasBit B i)) h):=by
 refine WP.eqn ?_
 unfold r54
 have H:=Sto.enter1 r
 obtain⟨a,c,rfl⟩:=r.1.formN (Wl_len B)
 have l1:=Wl_len B
 repeat' (first|(with_reducible first|refine w_unC ?_|refine w_enK ?_)|((with_reducible refine w_boxA H ?_) ;(clear H;intro u H hu))|((with_reducible apply w_loadsF 0 H) ;rfl;rfl;rfl))
 refine w_callB (ct _ B (i:Int) _ hb (by omega) (H.rd 1 rfl)) (λq=>?_) (λq=>?_)
 ·have q2:i/64<B.length:=q.2
  have gw:=sm _ (List.getElem_mem q2)
  have gd2:B.getD (i/64) 0=B[i/64]:=by rw[List.getD_eq_getElem?_getD,List.getElem?_eq_getElem q2];rfl
  have d1:B[i/64]/2^(i%64)≤B[i/64]:=Nat.div_le_self _ _
  unfold hasBit
  rw[gd2]
  repeat' (first|(with_reducible first|refine w_gTt ?_|refine w_fieldA ?_)|((with_reducible refine w_quo_NN ?_ ?_ ?_) ;omega;omega)|((with_reducible apply w_load 0 H) ;rfl;rfl;rfl))
  refine w_idxR 1 H rfl (Wl_get q2) λbb oo H1=>?_
  repeat' (first|(with_reducible refine w_gTt ?_))
  refine w_loadE0 0 H1 rfl rfl rfl ?_
  clear H1
  repeat' (first|(with_reducible first|refine w_gTt ?_|refine w_pickT ?_)|((with_reducible refine w_ueql (λ_=>?_) (λ_=>?_))<;>first|(exfalso;omega)|skip)|((with_reducible first|refine w_rem_NN ?_ ?_|refine w_shr ?_ ?_) ;omega)|((with_reducible refine w_uand ?_ ?_ ?_) ;omega;omega))
  all_goals exact w_clr H rfl ⟨by congr 1;rw[decide_eq_true q2,Bool.true_and];symm;first|exact decide_eq_true ‹_› | exact decide_eq_false ‹_›,rfl⟩
 ·repeat' (first|(with_reducible first|refine w_gTf ?_|refine w_pickF ?_))
  refine w_clr H rfl ⟨?_,rfl⟩
  congr 1
  unfold hasBit
  have:¬i/64<B.length:=λz=>q ⟨by omega,z⟩
  simp[this]
abbrev sV(D:List UInt8):Value:=.string ⟨D.toArray⟩
theorem w_sneqD{Q:Value→Hs→Prop}{a b:List UInt8}{K:Value→An}(ht:a≠b→WP (K (.bool true)) Q)(hf:a=b→WP (K (.bool false)) Q):WP (obK K (s2 .neq (sV a) (sV b))) Q:=by
 by_cases e:a=b
 ·exact w_sneq e (hf e)
 ·refine w_ob (v:=.bool true) ?_ (ht e)
  show some (Value.bool (notB (eqL a.toArray.toList b.toArray.toList)))=_
  rw[eqL_eq]
  have:(a==b)=false:=beq_eq_false_iff_ne.2 e
  simp[notB,this]
theorem w_seqD{Q:Value→Hs→Prop}{a b:List UInt8}{K:Value→An}(ht:a=b→WP (K (.bool true)) Q)(hf:a≠b→WP (K (.bool false)) Q):WP (obK K (s2 .eql (sV a) (sV b))) Q:=by
 by_cases e:a=b
 ·exact w_seq e (ht e)
 ·refine w_ob (v:=.bool false) ?_ (hf e)
  show some (Value.bool (eqL a.toArray.toList b.toArray.toList))=_
  rw[eqL_eq]
  have:(a==b)=false:=beq_eq_false_iff_ne.2 e
  simp[this]
def CIdxB(R:RnK):Prop:=∀(D:List UInt8)(c:UInt8)(h:Hs),∃z:Int,(0≤z↔c∈D)∧z≤D.length∧R 109 [sV D,.int .u8 (.ofNat c.toNat)] h=some (.val (.int .i64 z) h)
theorem findB_ok(c:UInt8):∀(D:List UInt8)(k:Nat),(c∈D∧∃i,findB c.toNat D k=some i∧i≤k+D.length)∨(c∉D∧findB c.toNat D k=none):=by
 intro D
 induction D with
 |nil=>intro k;exact .inr ⟨by simp,rfl⟩
 | cons x D ih =>
  intro k
  show (_∧∃i,(match Nat.beq x.toNat c.toNat with|true=>some k|false=>findB c.toNat D (Nat.succ k))=some i∧_)∨(_∧(match Nat.beq x.toNat c.toNat with|true=>some k|false=>findB c.toNat D (Nat.succ k))=none)
  by_cases e:x=c
  ·subst e
   rw[Nat.beq_refl]
   exact .inl ⟨List.mem_cons_self,k,rfl,by omega⟩
  ·have:Nat.beq x.toNat c.toNat=false:=by rw[Bool.eq_false_iff];exactλh=>e (UInt8.toNat_inj.1 (Nat.eq_of_beq_eq_true h))
   rw[this]
   rcases ih (k+1) with⟨h1,i,h2,h3⟩|⟨h1,h2⟩
   ·exact .inl ⟨List.mem_cons_of_mem _ h1,i,h2,by rw[List.length_cons];omega⟩
   ·exact .inr ⟨λh=>by rcases List.mem_cons.1 h with h|h;exact e h.symm;exact h1 h,h2⟩
theorem idxB_ok{R:RnK}{N:Nat}{D:List UInt8}{c:UInt8}{h:Hs}:∃z:Int,(0≤z↔c∈D)∧z≤D.length∧r109 R N [sV D,.int .u8 (.ofNat c.toNat)] h=some (.val (.int .i64 z) h):=by
 have hc:=c.toNat_lt
 have H:=Sto.enter h
 have go:∀x:Value,idxB1 (sV D) (.int .u8 (.ofNat c.toNat))=some x→flatV x=true→r109 R N [sV D,.int .u8 (.ofNat c.toNat)] h=some (.val x h):=λx hx fx=>by
  refine WP.eqn ?_
  unfold r109
  refine w_unC ?_
  refine w_unC ?_
  refine w_enK ?_
  refine w_ret1 hx ?_
  exact w_clr H fx ⟨rfl,rfl⟩
 have e1:idxB1 (sV D) (.int .u8 (.ofNat c.toNat))=some (findV (findB c.toNat D 0)):=by
  show (match Nat.ble c.toNat 255 with|true=>some (findV (findB c.toNat D.toArray.toList 0))|false=>none)=_
  rw[Nat.ble_eq_true_of_le (by omega)]
 rcases findB_ok c D 0 with⟨h1,i,h2,h3⟩|⟨h1,h2⟩
 ·rw[h2] at e1
  exact⟨(i:Int),⟨λ_=>h1,λ_=>by omega⟩,by omega,go _ e1 rfl⟩
 ·rw[h2] at e1
  exact⟨.negSucc 0,⟨λz=>by omega,λz=>absurd z h1⟩,by omega,go _ e1 rfl⟩
theorem w_idxS0{Q:Value→Hs→Prop}{c:UInt8}{en:En}{h:Hs}{K:KV}(w:WP (K (.int .u8 (.ofNat c.toNat)) h) Q):WP (after K (oIdxS (.c (sV [c])) (.c (.int .i64 (.ofNat 0))) en h)) Q:=w_ret1 rfl w
def CIndex(R:RnK):Prop:=∀(D:List UInt8)(c:UInt8)(h:Hs),D.length≤9223372036854775807→∃z:Int,(0≤z↔c∈D)∧R 106 [sV D,sV [c]] h=some (.val (.int .i64 z) h)
theorem index_ok{R:RnK}{N:Nat}(cb:CIdxB R){D:List UInt8}{c:UInt8}{h:Hs}(hD:D.length≤9223372036854775807):∃z:Int,(0≤z↔c∈D)∧r106 R N [sV D,sV [c]] h=some (.val (.int .i64 z) h):=by
 have H:=Sto.enter h
 have l1:[c].length=1:=rfl
 by_cases e0:[c]=D
 ·refine⟨.ofNat 0,⟨λ_=>by rw[←e0];exact List.mem_singleton.2 rfl,λ_=>by decide⟩,WP.eqn ?_⟩
  unfold r106
  repeat' (first|(with_reducible first|refine w_lenSt ?_|refine w_jn ?_|refine w_gFf ?_|refine w_unC ?_|refine w_enK ?_)|((with_reducible refine w_eql_NN (λ_=>?_) (λ_=>?_))<;>first|(exfalso;omega)|skip))
  refine w_seq e0 ?_
  repeat' (first|(with_reducible first|refine w_jn ?_|refine w_cndT ?_|refine w_pickF ?_))
  exact w_clr H rfl ⟨rfl,rfl⟩
 ·obtain⟨z,z1,z2,z3⟩:=cb D c ⟨h.hp,h.nx,h.nx⟩
  refine⟨z,z1,WP.eqn ?_⟩
  unfold r106
  repeat' (first|(with_reducible first|refine w_lenSt ?_|refine w_jn ?_|refine w_gFf ?_|refine w_unC ?_|refine w_enK ?_)|((with_reducible refine w_eql_NN (λ_=>?_) (λ_=>?_))<;>first|(exfalso;omega)|skip))
  refine w_seqD (λe=>absurd e e0) (λ_=>?_)
  repeat' (first|(with_reducible first|refine w_jn ?_|refine w_cndT ?_|refine w_cndF ?_|refine w_pickF ?_)|((with_reducible refine w_eql_NN (λ_=>?_) (λ_=>?_))<;>first|(exfalso;omega)|skip))
  refine w_idxS0 ?_
  refine w_callE z3 ?_
  exact w_clr H rfl ⟨rfl,rfl⟩
theorem sindex_ok{R:RnK}{N:Nat}(cb:CIndex R){D:List UInt8}{c:UInt8}{h:Hs}(hD:D.length≤9223372036854775807):∃z:Int,(0≤z↔c∈D)∧r101 R N [sV D,sV [c]] h=some (.val (.int .i64 z) h):=by
 obtain⟨z,z1,z3⟩:=cb D c ⟨h.hp,h.nx,h.nx⟩ hD
 refine⟨z,z1,WP.eqn ?_⟩
 have H:=Sto.enter h
 unfold r101
 repeat' (first|(with_reducible first|refine w_unC ?_|refine w_enK ?_))
 refine w_callE z3 ?_
 exact w_clr H rfl ⟨rfl,rfl⟩
def CSIndex(R:RnK):Prop:=∀(D:List UInt8)(c:UInt8)(h:Hs),D.length≤9223372036854775807→∃z:Int,(0≤z↔c∈D)∧R 101 [sV D,sV [c]] h=some (.val (.int .i64 z) h)
def CContains(R:RnK):Prop:=∀(D:List UInt8)(c:UInt8)(h:Hs),D.length≤9223372036854775807→R 96 [sV D,sV [c]] h=some (.val (.bool (decide (c∈D))) h)
theorem contains_ok{R:RnK}{N:Nat}(cb:CSIndex R){D:List UInt8}{c:UInt8}{h:Hs}(hD:D.length≤9223372036854775807):r96 R N [sV D,sV [c]] h=some (.val (.bool (decide (c∈D))) h):=by
 obtain⟨z,z1,z3⟩:=cb D c ⟨h.hp,h.nx,h.nx⟩ hD
 refine WP.eqn ?_
 have H:=Sto.enter h
 unfold r96
 repeat' (first|(with_reducible first|refine w_unC ?_|refine w_enK ?_))
 refine w_callE z3 ?_
 repeat' (first|((with_reducible refine w_geq_IN (λ_=>?_) (λ_=>?_))<;>first|(exfalso;omega)|skip))
 ·exact w_clr H rfl ⟨by rw[decide_eq_true (z1.1 (by omega))],rfl⟩
 ·exact w_clr H rfl ⟨by rw[decide_eq_false λq=>by have:=z1.2 q;omega],rfl⟩
def named(D:List UInt8):Prop:=1≤D.length∧D.length≤40∧D ≠ [46]∧D ≠ [46,46]∧(47:UInt8)∉D∧(0:UInt8)∉D
instance (D:List UInt8):Decidable (named D):=inferInstanceAs (Decidable (_∧_∧_∧_∧_∧_))
def CNamed(R:RnK):Prop:=∀(D:List UInt8)(h:Hs),D.length≤9223372036854775807→R 93 [sV D] h=some (.val (.bool (decide (named D))) h)
theorem named_ok{R:RnK}{N:Nat}(cc:CContains R){D:List UInt8}{h:Hs}(hD:D.length≤9223372036854775807):r93 R N [sV D] h=some (.val (.bool (decide (named D))) h):=by
 refine WP.eqn ?_
 have H:=Sto.enter h
 have c1:∀u,R 96 [sV D,.string ⟨#[47]⟩] u=some (.val (.bool (decide ((47:UInt8)∈D))) u):=λu=>cc D 47 u hD
 have c2:∀u,R 96 [sV D,.string ⟨#[0]⟩] u=some (.val (.bool (decide ((0:UInt8)∈D))) u):=λu=>cc D 0 u hD
 unfold r93
 repeat' (first|(with_reducible first|refine w_lenSt ?_|refine w_gTt ?_|refine w_gTf ?_|refine w_pickT ?_|refine w_pickF ?_|refine w_unC ?_|refine w_enK ?_)|((with_reducible first|refine w_leq_NN (λ_=>?_) (λ_=>?_)|refine w_geq_NN (λ_=>?_) (λ_=>?_))<;>first|(exfalso;omega)|skip))
 ·refine w_sneqD (b:=[46]) (λe1=>?_) (λe1=>?_)
  ·repeat' (first|(with_reducible first|refine w_gTt ?_|refine w_pickT ?_))
   refine w_sneqD (b:=[46,46]) (λe2=>?_) (λe2=>?_)
   ·repeat' (first|((refine w_callB (c1 _) (λ_=>?_) (λ_=>?_))<;>first|(exfalso;omega)|skip))
    ·dsimp only[ev]
     repeat' (first|(with_reducible first|refine w_gTt ?_|refine w_gTf ?_|refine w_pickT ?_|refine w_pickF ?_|refine w_notT ?_))
     exact w_clr H rfl ⟨by rw[decide_eq_false λq=>absurd (by assumption) q.2.2.2.2.1],rfl⟩
    ·dsimp only[ev]
     repeat' (first|((refine w_callB (c2 _) (λ_=>?_) (λ_=>?_))<;>first|(exfalso;omega)|skip))
     ·dsimp only[ev]
      repeat' (first|(with_reducible first|refine w_gTt ?_|refine w_pickT ?_|refine w_notT ?_))
      exact w_clr H rfl ⟨by rw[decide_eq_false λq=>absurd (by assumption) q.2.2.2.2.2],rfl⟩
     ·dsimp only[ev]
      repeat' (first|(with_reducible first|refine w_gTt ?_|refine w_pickT ?_|refine w_notF ?_))
      exact w_clr H rfl ⟨by rw[decide_eq_true ⟨by omega,by omega,e1,e2,by assumption,by assumption⟩],rfl⟩
   ·repeat' (first|(with_reducible first|refine w_gTf ?_|refine w_pickT ?_|refine w_pickF ?_))
    exact w_clr H rfl ⟨by rw[decide_eq_false λq=>q.2.2.2.1 e2],rfl⟩
  ·repeat' (first|(with_reducible first|refine w_gTf ?_|refine w_pickT ?_|refine w_pickF ?_))
   exact w_clr H rfl ⟨by rw[decide_eq_false λq=>q.2.2.1 e1],rfl⟩
 ·exact w_clr H rfl ⟨by rw[decide_eq_false λq=>by have:=q.2.1;omega],rfl⟩
 ·exact w_clr H rfl ⟨by rw[decide_eq_false λq=>by have:=q.1;omega],rfl⟩
theorem w_idxSt{Q:Value→Hs→Prop}{D:List UInt8}{j:Nat}{en:En}{h:Hs}{K:KV}(hj:j<D.length)(w:WP (K (.int .u8 (.ofNat D[j].toNat)) h) Q):WP (after K (oIdxS (.c (sV D)) (.c (.int .i64 (.ofNat j))) en h)) Q:=by
 refine w_ret1 ?_ w
 show nthB D.toArray.toList j=_
 have:∀(D:List UInt8)(j:Nat)(hj:j<D.length),nthB D j=some (.int .u8 (.ofNat D[j].toNat)):=by
  intro D
  induction D with
  |nil=>intro j hj;simp at hj
  |cons x D ih=>intro j hj;cases j with
   |zero=>rfl
   |succ j=>exact ih j (by simpa using hj)
 exact this D j hj
def slotC(n:Int)(D:List UInt8):List Value:=[.int .i64 n,sV D]
abbrev slotV(n:Int)(D:List UInt8):Value:=.agg (slotC n D).toArray
def slotGood(n:Int)(D:List UInt8):Prop:=if n=0 then D = [] else 1≤n∧n≤64∧named D
instance (n:Int) (D:List UInt8):Decidable (slotGood n D):=inferInstanceAs (Decidable (if n=0 then D = [] else 1≤n∧n≤64∧named D))
def CSlotGood(R:RnK):Prop:=∀(n:Int)(D:List UInt8)(h:Hs),D.length≤9223372036854775807→R 85 [slotV n D] h=some (.val (.bool (decide (slotGood n D))) h)
theorem slotGood_ok{R:RnK}{N:Nat}(cn:CNamed R){n:Int}{D:List UInt8}{h:Hs}(hD:D.length≤9223372036854775807):r85 R N [slotV n D] h=some (.val (.bool (decide (slotGood n D))) h):=by
 refine WP.eqn ?_
 have H:=Sto.enter h
 have cnd:=λu=>cn D u hD
 unfold r85 slotV slotC
 have g0:n=0→(slotGood n D↔D = []):=λz=>by unfold slotGood;rw[if_pos z]
 have g1:¬n=0→(slotGood n D↔1≤n∧n≤64∧named D):=λz=>by unfold slotGood;rw[if_neg z]
 repeat' (first|((refine w_callB (cnd _) (λ_=>?_) (λ_=>?_))<;>first|(exfalso;omega)|skip)|(with_reducible first|refine w_jn ?_|refine w_cndT ?_|refine w_cndF ?_|refine w_gTt ?_|refine w_gTf ?_|refine w_pickT ?_|refine w_pickF ?_|refine w_unC ?_|refine w_enK ?_|refine w_fieldA ?_)|((with_reducible refine w_boxA H ?_) ;(clear H;intro u H hu))|((with_reducible first|refine w_leq_IN (λ_=>?_) (λ_=>?_)|refine w_geq_IN (λ_=>?_) (λ_=>?_)|refine w_eql_IN (λ_=>?_) (λ_=>?_))<;>first|(exfalso;omega)|skip)|((with_reducible apply w_load 0 H) ;rfl;rfl;rfl))
 ·refine w_seqD (b:=[]) (λe=>?_) (λe=>?_)
  ·exact w_clr H rfl ⟨by rw[decide_eq_true ((g0 (by assumption)).2 e)],rfl⟩
  ·exact w_clr H rfl ⟨by rw[decide_eq_false λq=>e ((g0 (by assumption)).1 q)],rfl⟩
 ·exact w_clr H rfl ⟨by rw[decide_eq_true ((g1 (by assumption)).2 ⟨by omega,by omega,by assumption⟩)],rfl⟩
 ·exact w_clr H rfl ⟨by rw[decide_eq_false λq=>absurd ((g1 (by assumption)).1 q).2.2 (by assumption)],rfl⟩
 ·exact w_clr H rfl ⟨by rw[decide_eq_false λq=>by have:=((g1 (by assumption)).1 q).2.1;omega],rfl⟩
 ·exact w_clr H rfl ⟨by rw[decide_eq_false λq=>by have:=((g1 (by assumption)).1 q).1;omega],rfl⟩
def slotS(D:List UInt8)(ws:List Nat)(k:Nat):List Nat:=ws.set (2+k/8) (ws.getD (2+k/8) 0|||(D.getD k 0).toNat*2^(8*(k%8))%18446744073709551616)
def slotTo(n:Nat)(D:List UInt8)(j:Nat):List Nat:=(List.range j).foldl (slotS D) [n,D.length,0,0,0,0,0,0]
theorem slotTo_succ(n:Nat)(D:List UInt8)(j:Nat):slotTo n D (j+1)=slotS D (slotTo n D j) j:=by unfold slotTo;rw[List.range_succ,List.foldl_append];rfl
theorem slotTo_len(n:Nat)(D:List UInt8):∀j,(slotTo n D j).length=8:=by
 intro j
 induction j with
 |zero=>rfl
 |succ j ih=>rw[slotTo_succ];unfold slotS;rw[List.length_set,ih]
theorem slotTo_small{n:Nat}{D:List UInt8}(hn:n≤64)(hD:D.length≤40):∀j,Small (slotTo n D j):=by
 intro j
 induction j with
 |zero=>
  intro x hx
  have:x ∈ [n,D.length,0,0,0,0,0,0]:=hx
  simp only[List.mem_cons,List.not_mem_nil,or_false] at this
  omega
 |succ j ih=>rw[slotTo_succ];exact ih.set _ _ (or_lt (ih.getD _) (Nat.mod_lt _ (by omega)))
def slotW(n:Nat)(D:List UInt8):List Nat:=if n=0 then List.replicate 8 0 else (slotTo n D D.length).set 7 (sealOf ((slotTo n D D.length).take 7))
def CSlotPut(R:RnK):Prop:=∀(n:Int)(D:List UInt8)(h:Hs),D.length≤9223372036854775807 →
 (∀m:Nat,n=(m:Int)→slotGood n D→WP (R 70 [slotV n D] h) λv h'=>New h h' (.osl v 22 1 true 8 (Wc (slotW m D)))) ∧
 (¬slotGood n D→R 70 [slotV n D] h=some (.val (.slice none 0 0) h))
theorem slotPut_no{R:RnK}{N:Nat}(cg:CSlotGood R){n:Int}{D:List UInt8}{h:Hs}(hD:D.length≤9223372036854775807)(no:¬slotGood n D):r70 R N [slotV n D] h=some (.val (.slice none 0 0) h):=by
 refine WP.eqn ?_
 have cgd:=λu=>cg n D u hD
 unfold slotV slotC at cgd ⊢
 unfold r70
 have H:=Sto.enter h
 repeat' (first|(with_reducible first|refine w_unC ?_|refine w_enK ?_)|((with_reducible refine w_boxA H ?_) ;(clear H;intro u H hu))|((with_reducible apply w_loadsF 0 H) ;rfl;rfl;rfl))
 refine w_callB (cgd _) (λq=>absurd q no) λ_=>?_
 repeat' (first|(with_reducible first|refine w_jn ?_|refine w_cndT ?_|refine w_notF ?_))
 exact w_clr H rfl ⟨rfl,rfl⟩
theorem slotPut_ok{R:RnK}{N:Nat}(cg:CSlotGood R)(cs:CSealOf R){m:Nat}{D:List UInt8}{h:Hs}(hN:1000<N)(hD:D.length≤9223372036854775807)(g:slotGood (m:Int) D):WP (r70 R N [slotV (m:Int) D] h) λv h'=>New h h' (.osl v 22 1 true 8 (Wc (slotW m D))):=by
 have cgd:=λu=>cg (m:Int) D u hD
 unfold slotV slotC at cgd ⊢
 rw[show (Value.int .i64 (m:Int))=.int .i64 (.ofNat m) from rfl] at *
 unfold r70
 have H:=Sto.enter h
 refine w_unC ?_
 refine w_enK ?_
 refine w_boxA H ?_
 clear H;intro u1 H hu1
 repeat' (first|((with_reducible apply w_loadsF 0 H) ;rfl;rfl;rfl))
 refine w_callB (cgd _) (λ_=>?_) λq=>absurd g q
 repeat' (first|(with_reducible first|refine w_jn ?_|refine w_cndT ?_|refine w_cndF ?_|refine w_notT ?_|refine w_fieldA ?_)|((with_reducible refine w_mkslice H ?_ ?_ ?_) ;omega;rfl;(clear H;intro u H hu))|((with_reducible refine w_eql_NN (λ_=>?_) (λ_=>?_))<;>first|(exfalso;omega)|skip)|((with_reducible apply w_load 1 H) ;rfl;rfl;rfl))
 ·have z:m=0:=by omega
  have e:slotW m D=List.replicate 8 0:=if_pos z
  rw[e]
  rw[show rep [Value.int .u64 (.ofNat 0)] 8=Wc (List.replicate 8 0) from rfl] at H
  have H2:=H.osl 0 rfl (n:=8) (c:=8) rfl (Nat.le_refl _)
  exact w_clrO 0 H2 rfl λv' h' n=>n
 ·have z:¬m=0:=by omega
  unfold slotGood at g
  rw[if_neg (by omega)] at g
  obtain⟨g1,g2,g3⟩:=g
  have dl:=g3.2.1
  rw[show rep [Value.int .u64 (.ofNat 0)] 8=Wc (List.replicate 8 0) from rfl] at H
  replace H:=H.osl 0 rfl (n:=8) (c:=8) rfl (Nat.le_refl _)
  dsimp only[List.set_cons_zero] at H
  dsimp only
  have hu1':u1.nx=h.nx+1:=hu1
  have H0:=H
  refine w_lwC (c:=u1.nx) (m1:=[_]) (m2:=[_]) rfl H (by omega) (λt ht=>by rw[List.mem_singleton.1 ht];exact⟨rfl,λb hb=>Nat.le_of_eq (Option.some.inj hb)⟩) λhS e1 e2 H1=>?_
  clear H
  have H:=H1
  clear H1
  dsimp only[List.map_cons,List.map_nil,List.cons_append,List.nil_append,Th.ro] at H
  repeat' (first|(with_reducible refine w_fieldA ?_)|((with_reducible refine w_toU ?_ ?_) ;omega)|((with_reducible apply w_loadR 1 H) ;rfl;rfl;rfl))
  refine w_loadLM 1 (c:=u1.nx) (hp:=u.hp) rfl H e1 rfl (by omega) rfl ?_
  refine w_lenSt ?_
  repeat' (first|((with_reducible refine w_toU ?_ ?_) ;omega))
  refine w_storeO 0 H rfl (by rw[Wc_len,List.length_replicate];omega) rfl λu2 H2 hu2=>?_
  rw[Wc_set] at H2
  refine w_barC rfl H2 (by omega) ?_
  clear H
  have H:=H2
  clear H2
  dsimp only[List.set_cons_zero] at H
  skip
  refine w_storeO 0 H rfl (by rw[Wc_len,List.length_set,List.length_replicate];omega) rfl λu3 H2 hu3=>?_
  rw[Wc_set] at H2
  refine w_barC rfl H2 (by omega) ?_
  clear H
  have H:=H2
  clear H2
  dsimp only[List.set_cons_zero] at H
  have p0:((List.replicate 8 0).set 0 m).set 1 D.length=slotTo m D 0:=rfl
  rw[p0] at H
  refine w_lwCE (m1:=[_]) (m1':=[_]) (m2:=[_]) (mr:=[_]) H0 H (by omega) (by omega) (λt ht=>by rw[List.mem_singleton.1 ht];rfl) (λt ht b hb=>by rw[List.mem_singleton.1 ht] at hb;have:h.nx=b:=Option.some.inj hb;omega) λu4 H4 hu4=>?_
  clear H H0
  have H:=H4
  clear H4
  dsimp only[List.cons_append,List.nil_append] at H
  repeat' (first|(with_reducible first|refine w_lenSt ?_|refine w_jn ?_|refine w_fieldA ?_)|((with_reducible apply w_load 1 H) ;rfl;rfl;rfl))
  obtain⟨m0,hm0,K0⟩:∃m0,m0=_∧Sto h [] _ m0:=⟨_,rfl,H⟩
  refine lp_ind (Good:=λn (self:L3)=>∀(j:Nat)(y1 y2:Value)(w:Hs),j+n=D.length→Sto h [] w (m0.set 0 (.osl (.slice (some ⟨u1.nx,0,none⟩) 8 8) 22 1 true 8 (Wc (slotTo m D j))))→WP (self (.int .i64 (.ofNat j)) y1 y2 w) (λv h'=>New h h' (.osl v 22 1 true 8 (Wc (slotW m D))))) (λn self ih j y1 y2 w hj H1=>?_) N D.length (by omega) 0 _ _ _ (by omega) (by rw[hm0];exact H)
  clear H K0
  have hm1:=hm0
  rw[hm0] at H1
  have H:=H1
  clear H1
  dsimp only[List.set_cons_zero,List.set_cons_succ] at H
  have pl:=slotTo_len m D j
  have ps:=slotTo_small (n:=m) (D:=D) (by omega) dl j
  repeat' (first|(with_reducible first|refine w_jn ?_|refine w_cndT ?_|refine w_cndF ?_)|((with_reducible refine w_lss_NN (λ_=>?_) (λ_=>?_))<;>first|(exfalso;omega)|skip)|((with_reducible refine w_add_NN ?_ ?_) ;omega)|((with_reducible refine w_quo_NN ?_ ?_ ?_) ;omega;omega))
  ·have jj:j<D.length:=by omega
   have jw:2+j/8<(slotTo m D j).length:=by omega
   have cb:=D[j].toNat_lt
   have gw:=ps _ (List.getElem_mem jw)
   have gd2:(slotTo m D j).getD (2+j/8) 0=(slotTo m D j)[2+j/8]:=by rw[List.getD_eq_getElem?_getD,List.getElem?_eq_getElem jw];rfl
   have gc:(D.getD j 0).toNat=D[j].toNat:=by rw[List.getD_eq_getElem?_getD,List.getElem?_eq_getElem jj];rfl
   refine w_atO 0 H rfl (Wc_get jw) rfl ?_
   repeat' (first|(with_reducible refine w_fieldA ?_)|((with_reducible apply w_load 1 H) ;rfl;rfl;rfl))
   refine w_idxSt jj ?_
   refine w_blind ?_
   repeat' (first|((with_reducible first|refine w_mul_NN ?_ ?_|refine w_rem_NN ?_ ?_|refine w_toU ?_ ?_|refine w_shl ?_ ?_) ;omega)|((with_reducible refine w_uor ?_ ?_ ?_) ;omega;omega))
   refine w_storeO 0 H rfl (by rw[Wc_len];exact jw) rfl λu' H2 hu'=>?_
   rw[Wc_set] at H2
   clear H;have H:=H2;clear H2
   dsimp only[List.set_cons_zero,List.set_cons_succ] at H
   refine w_bar (by omega) ?_
   repeat' (first|((with_reducible refine w_add_NN ?_ ?_) ;omega))
   refine ih (n-1) (by omega) (j+1) _ _ _ (by omega) ?_
   rw[hm1,slotTo_succ]
   unfold slotS
   rw[gd2,gc]
   exact H
  ·obtain rfl:j=D.length:=by omega
   dsimp only
   refine w_slHB (by omega) ?_
   have rd:=H.rdPO (n':=7) 0 rfl (by omega)
   rw[Wl_ones2] at rd
   have st:Small ((slotTo m D D.length).take 7):=λx hx=>ps x (List.mem_of_mem_take hx)
   refine w_callE (cs ((slotTo m D D.length).take 7) _ _ st (by rw[List.length_take];omega) rd) ?_
   refine w_storeO 0 H rfl (by rw[Wc_len];omega) rfl λu5 H5 hu5=>?_
   rw[Wc_set] at H5
   have e3:slotW m D=(slotTo m D D.length).set 7 (sealOf ((slotTo m D D.length).take 7)):=if_neg z
   rw[e3]
   exact w_clrO 0 H5 rfl λv' h' n=>n
set_option linter.unusedSimpArgs false
abbrev bldO(fl:Bool)(x s:Value):Gev.Obj:=.row 116 0 true fl [x,s]
abbrev pW(p:Nat):Value:=.pointer (some ⟨p,0,none⟩)
theorem emb_row{h:Hs}{p e u:Nat}{rw0 fl:Bool}{L L0:List Value}(hp:p<h.nx)(ho:Holds (h.hp.get p) (.row e u true fl L))(hl:L0.length=L.length)(hv:∀(i:Nat)(v0 v:Value),L0[i]?=some v0→L[i]?=some v→VW 1 (λ_=>p) true v0 v):Emb (λ_=>p) (smallH [.row e u rw0 L0]) h:=by
 obtain⟨cs,f,hb,hf,hg⟩:=ho
 refine⟨λi b0 hb0=>?_,λi _=>hp,λi i' b b' hb1 hb2 hr hne=>?_⟩
 ·rw[smallH_get] at hb0
  cases i with
  | zero =>
   injection hb0 with hb0
   subst hb0
   refine⟨Nat.zero_lt_one,_,hb,.row _ _ _ _ _ _ _ _ _ _ (λhr=>⟨rfl,hl,λi=>?_,λi=>?_⟩) (λh=>by cases h) λi v0 hv0=>?_⟩
   ·rw[get_ofList];simp
   ·rw[hg];simp
   ·rw[get_ofList] at hv0
    have il:=(List.getElem?_eq_some_iff.1 hv0).1
    have e1:L[i]?=some (L[i]'(by omega)):=List.getElem?_eq_getElem (by omega)
    exact⟨_,by rw[hg];exact e1,hv i v0 _ hv0 e1⟩
  |succ i=>cases hb0
 ·rw[smallH_get] at hb1 hb2
  cases i with
  |zero=>
   cases i' with
   |zero=>exact absurd rfl hne
   |succ i'=>cases hb2
  |succ i=>cases hb1
theorem rowC_holds{s:Nat→Nat}{n e u:Nat}{L L':List Value}{B:Option Blk}{y:Blk}(hB:B=some y)(h:BW n s (SB.row e u true L).blk y)(hl:L.length=L'.length)(hv:∀(i:Nat)(v v':Value),L[i]?=some v→VW n s true v v'→L'[i]?=some v'):Holds B (.row e u true false L'):=by
 have h:BW n s (.row (ofList L) L.length e u true false) y:=h
 subst hB
 cases h with
 | row _ cs _ sz _ _ _ rw_ _ f hrw _ hc =>
  obtain⟨g1,g2,_,g4⟩:=hrw rfl
  subst g1
  refine⟨cs,f,by rw[←hl,g2],(λh=>by cases h),λi=>?_⟩
  cases hi:L[i]? with
  |some v=>
   obtain⟨v',w1,w2⟩:=hc i v (by rw[get_ofList];exact hi)
   rw[w1,hv i v v' hi w2]
  |none=>
   have h1:L.length≤i:=List.getElem?_eq_none_iff.1 hi
   rw[List.getElem?_eq_none (by omega)]
   have:¬(cs.get i).isSome=true:=λhh=>by have:=(g4 i).1 hh;omega
   exact Option.not_isSome_iff_eq_none.1 this
def aCk(_:Nat):List Value:=[pW 0]
def mCk(k:Nat):List SB:=match k with
 |0=>[.row 116 0 true [.pointer none,.slice none 0 0]]
 |_=>[.row 116 0 false [pW 0,dunno]]
def KCk(R0:List Value→Hs→An):Runs0:=KI (λk=>k<2) aCk mCk R0
noncomputable section
def qCk(k:Nat)(v:Value)(h:Hs):Bool:=andK (eqV v (.tuple #[])) (match k with
 |0=>embK [0] [.row 116 0 true [pW 0,.slice none 0 0]] h
 |_=>andK (Nat.beq h.nx 1) (Nat.ble 1 h.lo))
end
structure CkR (R0:FuncId→List Value→Hs→An):Prop where
 c0:chkRun (R0 84) (aCk 0) (mCk 0) (qCk 0)=true
 c1:chkRun (R0 84) (aCk 1) (mCk 1) (qCk 1)=true
 sep:sepK 2 aCk mCk=true
def AnsC(R:RnK)(f:FuncId)(K:Runs0):Prop:=∀a h o,fmG K a h=some o→R f a h=some o
def CkF(R:RnK)(R0:FuncId→List Value→Hs→An):Prop:=AnsC R 84 (KCk (R0 84))
theorem ck1_w{R:RnK}{R0:FuncId→List Value→Hs→An}(rn:CkR R0)(fm:CkF R R0){h:Hs}{p:Nat}{fl:Bool}{s:Value}(hp:p<h.nx)(ho:Holds (h.hp.get p) (bldO fl (pW p) s)) :
 WP (R 84 [pW p] h) λv u=>v=.tuple #[]∧Sm h u:=by
 obtain⟨v0,h0',r,hq⟩:=chkRun_ok rn.c1
 obtain⟨a1,a2⟩:=andK_true hq
 obtain⟨a2,a3⟩:=andK_true a2
 have e0:=eqV_eq a1
 subst e0
 have E:Emb (λ_=>p) (smallH (mCk 1)) h:=emb_row hp ho rfl λi v0 v h1 h2=>match i,h1,h2 with
  |0,h1,h2=>by injection h1 with h1;injection h2 with h2;subst h1;subst h2;exact .ptr 0 0 Nat.zero_lt_one
  |1,h1,h2=>by injection h1 with h1;subst h1;exact .dunno _ (.inl rfl)
  |i+2,h1,h2=>by cases h1
 have ar:VWs 1 (λ_=>p) (aCk 1) [pW p]:=.cons (.ptr 0 0 Nat.zero_lt_one) .nil
 refine(w_fmN (λo ho=>fm _ _ o ho) 1 (by decide) E ar rfl rn.sep r).mono λv u ⟨g1,g2⟩=>?_
 refine⟨?_,g2.sm (Nat.eq_of_beq_eq_true a2) (Nat.le_of_ble_eq_true a3)⟩
 cases g1 with
 |tuple _ ys h1 h2=>
  have:ys.size=0:=h1.symm
  rw[Array.size_eq_zero_iff] at this
  rw[this]
theorem ck0_w{R:RnK}{R0:FuncId→List Value→Hs→An}(rn:CkR R0)(fm:CkF R R0){h:Hs}{p:Nat}{fl:Bool}(hp:p<h.nx)(ho:Holds (h.hp.get p) (bldO fl (.pointer none) (.slice none 0 0))) :
 WP (R 84 [pW p] h) λv u=>v=.tuple #[]∧MutS [p] h u∧Holds (u.hp.get p) (bldO false (pW p) (.slice none 0 0)):=by
 obtain⟨v0,h0',r,hq⟩:=chkRun_ok rn.c0
 obtain⟨a1,a2⟩:=andK_true hq
 have e0:=eqV_eq a1
 subst e0
 have E:Emb (λ_=>p) (smallH (mCk 0)) h:=emb_row hp ho rfl λi v0 v h1 h2=>match i,h1,h2 with
  |0,h1,h2=>by injection h1 with h1;injection h2 with h2;subst h1;subst h2;exact .nilptr
  |1,h1,h2=>by injection h1 with h1;injection h2 with h2;subst h1;subst h2;exact .nilslice
  |i+2,h1,h2=>by cases h1
 have ar:VWs 1 (λ_=>p) (aCk 0) [pW p]:=.cons (.ptr 0 0 Nat.zero_lt_one) .nil
 refine(w_fmN (λo ho=>fm _ _ o ho) 0 (by decide) E ar rfl rn.sep r).mono λv u ⟨g1,g2⟩=>?_
 have E':=g2.emb E r.nx (embK_ok a2) (holdK_ok r.hold)
 refine⟨?_,?_,?_⟩
 ·cases g1 with
  |tuple _ ys h1 h2=>
   have:ys.size=0:=h1.symm
   rw[Array.size_eq_zero_iff] at this
   rw[this]
 ·exact g2.mutS (λid hid=>hp)
 ·obtain⟨_,b,q1,q2⟩:=E'.at_ 0 _ (by rw[smallH_get];rfl)
  exact rowC_holds (L':=[pW p,.slice none 0 0]) q1 q2 rfl λi v v' hv w=>match i,hv with
   |0,hv=>by
    injection hv with hv;subst hv
    cases w
    rfl
   |1,hv=>by injection hv with hv;subst hv;cases w;rfl
   |i+2,hv=>by cases hv
def idsOf(s:Value):List Nat:=match vId s with
 |some b=>[b]
 |none=>[]
theorem idsOf_mem{s:Value}{b:Nat}:b∈idsOf s↔vId s=some b:=by
 unfold idsOf
 cases vId s with
 |none=>simp
 |some x=>simp[eq_comm]
structure BldAt (h:Hs) (p:Nat) (x s:Value) (D:List UInt8):Prop where
 pl:p<h.nx
 row:∃fl,Holds (h.hp.get p) (bldO fl x s)
 buf:∃fl,OwnSl h s 5 1 fl D.length (byteVs D)
 bid:∀b,vId s=some b→b<h.nx∧b≠p
 kn:x=pW p∨(x=.pointer none∧s=.slice none 0 0∧D = [])
def CWB(R:RnK):Prop:=∀(h:Hs)(p:Nat)(x s:Value)(D:List UInt8)(c:UInt8),BldAt h p x s D→D.length≤1000000→WP (R 68 [pW p,.int .u8 (.ofNat c.toNat)] h) λr u=>r=.nilIface∧MutS (p::idsOf s) h u∧∃s',BldAt u p (pW p) s' (D ++ [c])∧∀b,vId s'=some b→h.nx≤b∨vId s=some b
theorem BldAt.enter{h:Hs}{p:Nat}{x s:Value}{D:List UInt8}(B:BldAt h p x s D):∃fl fl2,Sto h (p::idsOf s) ⟨h.hp,h.nx,h.nx⟩ [.blk p (bldO fl x s),.osl s 5 1 fl2 D.length (byteVs D)]:=by
 obtain⟨fl,hr⟩:=B.row
 obtain⟨fl2,hb⟩:=B.buf
 refine⟨fl,fl2,Sto.enterS _ _ (λt ht=>?_) λi j s t hi hj hij _ b hb1 hb2=>?_⟩
 ·simp only[List.mem_cons,List.not_mem_nil,or_false] at ht
  rcases ht with rfl|rfl
  ·exact⟨hr,λb hb=>by injection hb with hb;subst hb;exact⟨B.pl,λ_=>List.mem_cons_self⟩⟩
  ·exact⟨hb,λb hb=>⟨(B.bid b hb).1,λ_=>List.mem_cons_of_mem _ (idsOf_mem.2 hb)⟩⟩
 ·match i,j,hi,hj with
  |0,0,_,_=>exact hij rfl
  |0,1,hi,hj=>injection hi with hi;injection hj with hj;subst hi;subst hj;injection hb1 with hb1;exact(B.bid b hb2).2 hb1.symm
  |1,0,hi,hj=>injection hi with hi;injection hj with hj;subst hi;subst hj;injection hb2 with hb2;exact(B.bid b hb1).2 hb2.symm
  |1,1,_,_=>exact hij rfl
  |0,j+2,_,hj=>cases hj
  |1,j+2,_,hj=>cases hj
  |i+2,_,hi,_=>cases hi
theorem wb_ok{R:RnK}{N:Nat}{R0:FuncId→List Value→Hs→An}(rn:CkR R0)(fm:CkF R R0){h:Hs}{p:Nat}{x s:Value}{D:List UInt8}{c:UInt8}(B:BldAt h p x s D)(hD:D.length≤1000000) :
 WP (r68 R N [pW p,.int .u8 (.ofNat c.toNat)] h) λr u=>r=.nilIface∧MutS (p::idsOf s) h u∧∃s',BldAt u p (pW p) s' (D ++ [c])∧∀b,vId s'=some b→h.nx≤b∨vId s=some b:=by
 unfold r68
 obtain⟨fl,fl2,H⟩:=B.enter
 obtain⟨a,cc,rfl⟩:=(show OwnSl _ s 5 1 _ _ _ from H.ok _ (List.mem_of_getElem? (i:=1) rfl)).form
 refine w_unC ?_
 refine w_unC ?_
 refine w_enK ?_
 have ck:WP (R 84 [pW p] ⟨h.hp,h.nx,h.nx⟩) λv u=>v=.tuple #[]∧∃fl,Sto h (p::idsOf (.slice a D.length cc)) u [.blk p (bldO fl (pW p) (.slice a D.length cc)),.osl (.slice a D.length cc) 5 1 fl2 D.length (byteVs D)]:=by
  rcases B.kn with rfl|⟨rfl,q,rfl⟩
  ·refine(ck1_w rn fm (h:=⟨h.hp,h.nx,h.nx⟩) B.pl (H.ok _ (List.mem_of_getElem? (i:=0) rfl))).mono λv u hv=>?_
   obtain⟨rfl,sm⟩:=hv
   exact⟨rfl,fl,H.same sm.same⟩
  ·injection q with q1 q2 q3
   subst q1
   subst q3
   refine(ck0_w rn fm (h:=⟨h.hp,h.nx,h.nx⟩) B.pl (H.ok _ (List.mem_of_getElem? (i:=0) rfl))).mono λv u hv=>?_
   obtain⟨rfl,mu,ho⟩:=hv
   refine⟨rfl,false,?_⟩
   have H1:=H.tail.mutS mu (λb hb=>.inr (by rw[List.mem_singleton.1 hb];exact List.mem_cons_self)) (λt ht b hb=>by rw[List.mem_singleton.1 ht] at hb;cases hb)
   exact H1.cons (.blk p (bldO false (pW p) (.slice none 0 0))) ho (λb hb=>by injection hb with hb;subst hb;exact⟨Nat.lt_of_lt_of_le B.pl mu.1,λ_=>.inr List.mem_cons_self⟩) (λt ht _ b hb hb'=>by rw[List.mem_singleton.1 ht] at hb';cases hb')
 refine w_call ck λv1 u1 hv=>?_
 obtain⟨rfl,fl3,H1⟩:=hv
 clear H ck
 have H:=H1
 clear H1
 repeat' (first|(with_reducible first|refine w_fieldA ?_|refine w_nil ?_)|((with_reducible apply w_mkrow H) ;rfl;(clear H;intro u H hu;(try dsimp only[List.set_cons_zero,List.set_cons_succ,cellsL,List.toList_toArray,splice,ev,rep,List.cons_append,List.nil_append] at H)))|((with_reducible apply w_load 0 H) ;rfl;rfl;rfl))
 refine w_appendB 2 0 H rfl rfl rfl rfl (by omega) (by omega) λv3 u4 H4 hn4=>?_
 clear H
 have H:=H4.tail
 clear H4
 dsimp only[List.set_cons_zero,List.set_cons_succ] at H
 obtain⟨a3,c3,rfl⟩:=(show OwnSl u4 v3 5 1 _ _ _ from H.ok _ (List.mem_of_getElem? (i:=1) rfl)).form
 repeat' (first|(with_reducible first|refine w_fieldA ?_|refine w_nil ?_)|((with_reducible apply w_store1 0 H) ;rfl;(simp only[List.length_cons,List.length_nil];omega);rfl;(clear H;intro u H hu;(try dsimp only[List.set_cons_zero,List.set_cons_succ,cellsL,List.toList_toArray,splice,ev,rep,List.cons_append,List.nil_append] at H))))
 have bd:byteVs D ++ [Value.int .u8 (.ofNat c.toNat)]=byteVs (D ++ [c]):=by rw[bV_app];rfl
 rw[bd] at H
 have hne:u.hp.get p≠h.hp.get p:=λe=>by
  obtain⟨fl0,cs0,f0,hb0,_,hg0⟩:=B.row
  obtain⟨cs1,f1,hb1,_,hg1⟩:=(show Holds (u.hp.get p) (bldO (andB fl3 (flat1 (.slice a3 (D.length+1) c3))) (pW p) (.slice a3 (D.length+1) c3)) from H.ok _ (List.mem_of_getElem? (i:=0) rfl))
  rw[e,hb0] at hb1
  injection hb1 with hb1
  injection hb1 with hb1
  have g0:=hg0 1
  have g1:=hg1 1
  rw[hb1,g1] at g0
  have g0:some (Value.slice a3 (D.length+1) c3)=some (Value.slice a D.length cc):=g0
  injection g0 with g0
  injection g0 with _ g0 _
  omega
 refine w_clrSN H B.pl List.mem_cons_self (λb hb=>?_) hne λh'' mu e1 e2=>⟨rfl,mu,.slice a3 (D.length+1) c3,⟨?_,⟨andB fl3 (flat1 (.slice a3 (D.length+1) c3)),?_⟩,⟨fl2&&flatL [Value.int .u8 (.ofNat c.toNat)],?_⟩,λb hb=>?_,.inl rfl⟩,λb hb=>?_⟩
 ·rcases List.mem_cons.1 hb with rfl|hb
  ·exact B.pl
  ·exact(B.bid b (idsOf_mem.1 hb)).1
 ·exact Nat.lt_of_lt_of_le B.pl mu.1
 ·rw[e1];exact H.ok _ (List.mem_of_getElem? (i:=0) rfl)
 ·have o:=(show OwnSl u (.slice a3 (D.length+1) c3) 5 1 _ _ _ from H.ok _ (List.mem_of_getElem? (i:=1) rfl))
  rw[List.length_append]
  exact OwnSl.congr o λb _=>by rw[e1]
 ·have i1:=H.ids _ (List.mem_of_getElem? (i:=1) rfl) b hb
  exact⟨by rw[e2];exact i1.1,λe=>H.dj 0 1 _ _ rfl rfl (by decide) rfl p rfl (by rw[←e];exact hb)⟩
 ·have i1:=(H.ids _ (List.mem_of_getElem? (i:=1) rfl) b hb).2 rfl
  rcases i1 with g|g
  ·exact .inl g
  ·rcases List.mem_cons.1 g with rfl|g
   ·exact absurd hb (H.dj 0 1 _ _ rfl rfl (by decide) rfl _ rfl)
   ·exact .inr (idsOf_mem.1 g)
theorem sdata_pos{a:Addr}{n c:Nat}(h:0<n):sdata1 (.slice (some a) n c)=some (.pointer (some a)):=by
 cases n with
 |zero=>omega
 |succ n=>rfl
theorem _root_.Go.Gev.Sto.nil0{h u:Hs}{S:List Nat}{m:List Th}(H:Sto h S u m)(e:∀id,id<h.nx→u.hp.get id=h.hp.get id)(lo:u.lo=h.nx):Sto h [] u []:=
 ⟨H.nx,λid hid _=>e id hid,λk hk _=>by rw[lo];exact hk,(λt ht=>by cases ht),(λt ht=>by cases ht),λid hid _=>e id hid,λi j s t hi=>by cases hi⟩
def CBStr(R:RnK):Prop:=∀(h:Hs)(p:Nat)(x s:Value)(D:List UInt8),BldAt h p x s D→D.length≤1000000→(s=.slice none 0 0∨D ≠ [])→WP (R 69 [pW p] h) λr u=>r=sV D∧MutS (p::idsOf s) h u
theorem bstr_ok{R:RnK}{N:Nat}{h:Hs}{p:Nat}{x s:Value}{D:List UInt8}(B:BldAt h p x s D)(hD:D.length≤1000000)(hs:s=.slice none 0 0∨D ≠ []):WP (r69 R N [pW p] h) λr u=>r=sV D∧MutS (p::idsOf s) h u:=by
 unfold r69
 obtain⟨fl,fl2,H⟩:=B.enter
 by_cases hz:D = []
 ·obtain rfl:s=.slice none 0 0:=hs.elim id λq=>absurd hz q
  subst hz
  refine w_unC ?_
  refine w_enK ?_
  have pl:=B.pl
  repeat' (first|(with_reducible first|refine w_fieldA ?_|refine w_nil ?_)|((with_reducible apply w_load 0 H) ;rfl;rfl;rfl))
  refine w_ret1 (o:=sdata1 (.slice none 0 0)) (v:=.pointer none) rfl ?_
  refine w_light0 ?_
  repeat' (first|(with_reducible first|refine w_fieldA ?_|refine w_nil ?_|refine w_lenV ?_)|((with_reducible apply w_loadD 0 H) ;rfl;rfl;(intro _;simp only[HidOk,and_true];omega)))
  refine w_rs (v:=.string ByteArray.empty) (h:=⟨h.hp,h.nx,h.nx⟩) rfl ?_
  refine w_bar (Nat.le_refl _) ?_
  exact w_clr (H.nil0 (λ_ _=>rfl) rfl) rfl ⟨rfl,⟨Nat.le_refl _,λ_ _ _=>rfl,λ_ hx _=>hx,Nat.le_refl _,λ_ _=>.inr rfl⟩⟩
 ·obtain⟨_,o⟩:=B.buf.choose_spec
  rcases o with⟨_,q⟩|⟨id,cc,_,_,_,rfl,_⟩
  ·exact absurd (List.eq_nil_of_length_eq_zero q) hz
  ·have hn:0<D.length:=List.length_pos_iff.2 hz
   refine w_unC ?_
   refine w_enK ?_
   have pl:=B.pl
   repeat' (first|(with_reducible first|refine w_fieldA ?_|refine w_nil ?_)|((with_reducible apply w_load 0 H) ;rfl;rfl;rfl))
   refine w_ret1 (o:=sdata1 (.slice (some ⟨id,0,none⟩) D.length cc)) (v:=.pointer (some ⟨id,0,none⟩)) (sdata_pos hn) ?_
   refine w_light0 ?_
   repeat' (first|(with_reducible first|refine w_fieldA ?_|refine w_nil ?_|refine w_lenV ?_)|((with_reducible apply w_loadD 0 H) ;rfl;rfl;(intro _;simp only[HidOk,and_true];omega)))
   refine w_ustr 1 H rfl hn (by omega) λu2 mu e1 e2=>?_
   refine w_bar (by rw[e1];exact Nat.le_refl _) ?_
   have bi:=B.bid id rfl
   have H2:=(H.sel [0] 2 rfl (by decide) (by decide)).mutS mu (λb hb=>.inr (by rw[List.mem_singleton.1 hb];exact List.mem_cons_of_mem _ (idsOf_mem.2 rfl))) (λt ht b hb=>by
    have:t=.blk p (bldO fl x (.slice (some ⟨id,0,none⟩) D.length cc)):=by simpa using ht
    subst this
    injection hb with hb
    subst hb
    intro q
    exact bi.2 (List.mem_singleton.1 q).symm)
   refine w_clrSN H2 (b:=id) bi.1 (List.mem_cons_of_mem _ (idsOf_mem.2 rfl)) (λb hb=>?_) (λe=>?_) λh'' mu2 _ _=>⟨rfl,mu2⟩
   ·rcases List.mem_cons.1 hb with rfl|hb
    ·exact B.pl
    ·exact(B.bid b (idsOf_mem.1 hb)).1
   ·obtain⟨fl9,_,o⟩:=B.buf
    rcases o with⟨q,_⟩|⟨id',c',cs,sz,f,q,_,hb,_⟩
    ·cases q
    ·injection q with q1 q2 q3
     injection q1 with q1
     injection q1 with q1
     subst q1
     rw[←e,e2] at hb
     cases hb
set_option linter.unusedSimpArgs false
theorem w_allocMC{Q:Value→Hs→Prop}{h0 h:Hs}{S:List Nat}{m:List Th}{t:Nat}{z:List Value}{en:En}{F:KV}{x:Value}(hc:cutV x≤h.nx)(H:Sto h0 S h m)(kk:∀h',Sto h0 S h' (.blk h.nx (.row t 0 true (flatL z) z)::m)→h'.nx=h.nx+1→WP (F (.pointer (some ⟨h.nx,0,none⟩)) h') Q) :
 WP (after (λv u=>dPut F v (dNext h u .make) (andB (dFit h u .make) (Nat.ble (cutV x) u.lo))) (oAlloc t z en (Hs.mk .e h.nx h.nx))) Q:=by
 show WP (dPut F (.pointer (some ⟨h.nx,0,none⟩)) (dNext h (Gev.newRow ⟨.e,h.nx,h.nx⟩ t 0 z) .make) (andB (dFit h (Gev.newRow ⟨.e,h.nx,h.nx⟩ t 0 z) .make) (Nat.ble (cutV x) h.nx))) Q
 rw[(H.rowM (t:=t) (u:=0) (cs:=z)).1,Nat.ble_eq_true_of_le hc]
 exact kk _ H.rowM.2 rfl
theorem w_blindC{Q:Value→Hs→Prop}{h:Hs}{v x:Value}{F:KV}{hp:Tr Blk}(hc:cutV x≤h.nx)(w:WP (F v h) Q):WP (dPut F v (dNext h ⟨hp,h.nx,h.nx⟩ .blind) (andB (dFit h ⟨hp,h.nx,h.nx⟩ .blind) (Nat.ble (cutV x) h.nx))) Q:=by
 have:=dBlind h hp F v
 rw[ble_zero] at this
 rw[Nat.ble_eq_true_of_le hc,this]
 exact w
theorem BldAt.of{h0 w:Hs}{S:List Nat}{m:List Th}{p:Nat}{fl fl2:Bool}{x s:Value}{D:List UInt8}(H:Sto h0 S w (.blk p (bldO fl x s)::.osl s 5 1 fl2 D.length (byteVs D)::m))(k:x=pW p∨(x=.pointer none∧s=.slice none 0 0∧D = [])):BldAt w p x s D:=
 ⟨H.lt 0 rfl,⟨fl,H.ok _ (List.mem_of_getElem? (i:=0) rfl)⟩,⟨fl2,H.ok _ (List.mem_of_getElem? (i:=1) rfl)⟩,λb hb=>⟨(H.ids _ (List.mem_of_getElem? (i:=1) rfl) b hb).1,λe=>H.dj 0 1 _ _ rfl rfl (by decide) rfl p rfl (by rw[←e];exact hb)⟩,k⟩
theorem bldDrop{h0 w u:Hs}{S:List Nat}{m:List Th}{p:Nat}{fl fl2:Bool}{x s:Value}{D:List UInt8}(H:Sto h0 S w (.blk p (bldO fl x s)::.osl s 5 1 fl2 D.length (byteVs D)::m))(mu:MutS (p::idsOf s) w u):Sto h0 S u m:=by
 refine H.tail.tail.mutS mu (λb hb=>?_) λt ht b hb hb2=>?_
 ·rcases List.mem_cons.1 hb with rfl|hb
  ·exact(H.ids _ (List.mem_of_getElem? (i:=0) rfl) _ rfl).2 rfl
  ·exact(H.ids _ (List.mem_of_getElem? (i:=1) rfl) _ (idsOf_mem.1 hb)).2 rfl
 ·obtain⟨i,hi⟩:=List.getElem?_of_mem ht
  rcases List.mem_cons.1 hb2 with rfl|hb2
  ·exact H.dj 0 (i+2) _ _ rfl hi (by omega) rfl _ rfl hb
  ·exact H.dj 1 (i+2) _ _ rfl hi (by omega) rfl _ (idsOf_mem.1 hb2) hb
theorem bldCall{h0 w u:Hs}{S:List Nat}{m:List Th}{p:Nat}{fl fl2:Bool}{x x' s s':Value}{D D':List UInt8}(H:Sto h0 S w (.blk p (bldO fl x s)::.osl s 5 1 fl2 D.length (byteVs D)::m))(mu:MutS (p::idsOf s) w u)(B:BldAt u p x' s' D')(ni:∀b,vId s'=some b→w.nx≤b∨vId s=some b) :
 ∃fl fl2,Sto h0 S u (.blk p (bldO fl x' s')::.osl s' 5 1 fl2 D'.length (byteVs D')::m):=by
 obtain⟨f1,hr⟩:=B.row
 obtain⟨f2,hb⟩:=B.buf
 have H2:=bldDrop H mu
 have dm:∀t∈m,∀b,t.id=some b→b<w.nx∧b≠p∧vId s≠some b:=λt ht b hb=>by
  obtain⟨i,hi⟩:=List.getElem?_of_mem ht
  exact⟨(H.ids _ (List.mem_of_getElem? (i:=i+2) hi) b hb).1,λe=>H.dj 0 (i+2) _ _ rfl hi (by omega) rfl p rfl (by rw[←e];exact hb),λe=>H.dj 1 (i+2) _ _ rfl hi (by omega) rfl b e hb⟩
 refine⟨f1,f2,(H2.cons (.osl s' 5 1 f2 D'.length (byteVs D')) hb (λb hb=>⟨(B.bid b hb).1,λ_=>?_⟩) λt ht _ b hb1 hb2=>?_).cons (.blk p (bldO f1 x' s')) hr (λb hb=>by injection hb with hb;subst hb;exact⟨B.pl,λ_=>(H.ids _ (List.mem_of_getElem? (i:=0) rfl) _ rfl).2 rfl⟩) λt ht _ b hb1 hb2=>?_⟩
 ·rcases ni b hb with g|g
  ·exact .inl (Nat.le_trans H.nx g)
  ·exact(H.ids _ (List.mem_of_getElem? (i:=1) rfl) b g).2 rfl
 ·have q:=dm t ht b hb2
  rcases ni b hb1 with g|g
  ·omega
  ·exact q.2.2 g
 ·injection hb1 with hb1
  subst hb1
  rcases List.mem_cons.1 ht with rfl|ht
  ·exact(B.bid _ hb2).2 rfl
  ·exact(dm t ht _ hb2).2.1 rfl
theorem w_to8{Q:Value→Hs→Prop}{a:Nat}{k:IntKind}{K:Value→An}(w:WP (K (.int .u8 (.ofNat (a%256)))) Q):WP (kTo8 (.int k (.ofNat a)) K) Q:=by
 show WP (ifB (Nat.ble a 255) (K (.int .u8 (.ofNat a))) (obK K (convI1 .u8 (.int k (.ofNat a))))) Q
 cases h:Nat.ble a 255 with
 |true=>
  have:=Nat.le_of_ble_eq_true h
  rw[Nat.mod_eq_of_lt (by omega)] at w
  exact w
 |false=>
  show WP (obK K (convI1 .u8 (.int k (.ofNat a)))) Q
  refine w_ob (v:=.int .u8 (.ofNat (a%256))) ?_ w
  show some (Value.int .u8 (wrapF .u8 (.ofNat a)))=_
  rw[wrapF_eq]
  simp[IntKind.wrap,IntKind.bits,IntKind.signed]
theorem slotW_len(n:Nat)(D:List UInt8):(slotW n D).length=8:=by
 unfold slotW
 split
 ·rfl
 ·rw[List.length_set,slotTo_len]
def slotByte(l:List Nat)(i:Nat):UInt8:=UInt8.ofNat (l.getD (2+i/8) 0/2^(8*(i%8)))
def slotBytes(l:List Nat)(n:Nat):List UInt8:=(List.range n).map (slotByte l)
theorem slotBytes_succ(l:List Nat)(n:Nat):slotBytes l (n+1)=slotBytes l n ++ [slotByte l n]:=by unfold slotBytes;rw[List.range_succ,List.map_append];rfl
theorem slotBytes_len(l:List Nat)(n:Nat):(slotBytes l n).length=n:=by unfold slotBytes;rw[List.length_map,List.length_range]
def getSlot(l:List Nat):Option (Nat × List UInt8):=if l.length=8∧l.getD 0 0≤64∧l.getD 1 0≤40∧slotGood (l.getD 0 0:Nat) (slotBytes l (l.getD 1 0))∧slotW (l.getD 0 0) (slotBytes l (l.getD 1 0))=l then some (l.getD 0 0,slotBytes l (l.getD 1 0)) else none
def slotR(o:Option (Nat × List UInt8)):Value:=match o with
 |some x=>.tuple #[slotV (x.1:Int) x.2,.bool true]
 |none=>.tuple #[slotV 0 [],.bool false]
def CSlotGet(R:RnK):Prop:=∀(l:List Nat)(v:Value)(h:Hs),Small l→l.length<100000→Rd h v 1 (Wl l)→R 51 [v] h=some (.val (slotR (getSlot l)) h)
theorem slotGet_ok {R : RnK} {N : Nat} (cw : CWB R) (cs : CBStr R) (cp : CSlotPut R) (ce : CEqW R) {l : List Nat} {v : Value} {h : Hs} (hN : 100 < N) (hl : Small l) (hb : l.length < 100000) (r : Rd h v 1 (Wl l)) : r51 R N [v] h = some (.val (slotR (getSlot l)) h) := by
 refine WP.eqn ?_
 unfold r51
 have H:=Sto.enter1 r
 have e:=Wl_len l
 obtain⟨a,c,rfl⟩:=r.1.formN e
 have none0:∀{u:Hs}{m:List Th},Sto h [] u m→getSlot l=none→WP (clrK h (.tuple #[.agg #[.int .i64 (.ofNat 0),.string ⟨#[]⟩],.bool false]) u) (λv' h'=>v'=slotR (getSlot l)∧h'=h):=λH q=>by
  rw[q]
  exact w_clr H rfl ⟨rfl,rfl⟩
 by_cases h8:l.length=8
 ·have g0 : (Wl l)[0]? = some [.int .u64 (.ofNat (l.getD 0 0))] := by
   rw[Wl_get (show 0<l.length by omega),List.getD_eq_getElem?_getD,List.getElem?_eq_getElem (show 0<l.length by omega)];rfl
  have g1:(Wl l)[1]?=some [.int .u64 (.ofNat (l.getD 1 0))]:=by
   rw[Wl_get (show 1<l.length by omega),List.getD_eq_getElem?_getD,List.getElem?_eq_getElem (show 1<l.length by omega)];rfl
  have b0:=hl.getD 0
  have b1:=hl.getD 1
  generalize hn:l.getD 0 0=n at *
  generalize hL:l.getD 1 0=L at *
  repeat' (first|(with_reducible first|refine w_gFf ?_|refine w_unC ?_|refine w_enK ?_|refine w_lenV ?_)|((with_reducible refine w_alloc H ?_) ;(clear H;intro u H hu))|((with_reducible refine w_neq_NN (λ_=>?_) (λ_=>?_))<;>first|(exfalso;omega)|skip))
  refine w_idxR 1 H rfl g0 λbb oo H1=>?_
  repeat' (first|(with_reducible refine w_gFf ?_))
  refine w_loadE0 0 H1 rfl rfl rfl ?_
  clear H1
  repeat' (first|(with_reducible first|refine w_jn ?_|refine w_cndT ?_|refine w_gFt ?_|refine w_gFf ?_|refine w_pickT ?_|refine w_pickF ?_)|((with_reducible apply w_build) ;rfl;(try dsimp only[splice,ev,cellsL,rep,List.cons_append,List.nil_append]))|((with_reducible refine w_ugtr (λ_=>?_) (λ_=>?_))<;>first|(exfalso;omega)|skip)|((with_reducible apply w_storeV 0 H) ;rfl;rfl;rfl;omega;rfl;(clear H;intro u H hu;(try dsimp only[List.set_cons_zero,List.set_cons_succ,cellsL,List.toList_toArray,splice,ev,rep,List.cons_append,List.nil_append] at H)))|((with_reducible apply w_retC 0 H) ;rfl;rfl;rfl))
  ·exact none0 H (if_neg (by omega))
  ·refine w_idxR 1 H rfl g1 λbb oo H1=>?_
   repeat' (first|(with_reducible refine w_gFf ?_))
   refine w_loadE0 0 H1 rfl rfl rfl ?_
   clear H1
   repeat' (first|(with_reducible first|refine w_jn ?_|refine w_cndT ?_|refine w_cndF ?_|refine w_gFf ?_|refine w_pickF ?_)|((with_reducible apply w_build) ;rfl;(try dsimp only[splice,ev,cellsL,rep,List.cons_append,List.nil_append]))|((with_reducible refine w_alloc H ?_) ;(clear H;intro u H hu))|((with_reducible refine w_ugtr (λ_=>?_) (λ_=>?_))<;>first|(exfalso;omega)|skip)|((with_reducible apply w_storeV 0 H) ;rfl;rfl;rfl;omega;rfl;(clear H;intro u H hu;(try dsimp only[List.set_cons_zero,List.set_cons_succ,cellsL,List.toList_toArray,splice,ev,rep,List.cons_append,List.nil_append] at H)))|((with_reducible apply w_retC 0 H) ;rfl;rfl;rfl))
   ·exact none0 H (if_neg (by omega))
   ·refine w_at1 2 H rfl g1 rfl rfl ?_
    repeat' (first|(with_reducible refine w_jn ?_)|((with_reducible refine w_to64 ?_ ?_) ;omega))
    rename_i ua hua q8 q0 q1 q2 q3
    have hp1:ua.nx=h.nx+1:=hua
    have nl:(slotBytes l 0).length=0:=slotBytes_len l 0
    replace H:=H.nilS 5 1
    replace H:=H.sel [1,0,2,3] 4 rfl (by decide) (by decide);dsimp only[List.filterMap_cons,List.filterMap_nil,List.getElem?_cons_zero,List.getElem?_cons_succ] at H
    obtain⟨m0,hm0⟩:∃m0,m0 = [Th.blk h.nx (.row 97 0 true (flatL [.int .i64 (.ofNat 0),.string ⟨#[]⟩]) [.int .i64 (.ofNat 0),.string ⟨#[]⟩]),Th.rsl (.slice a l.length c) 1 (Wl l)]:=⟨_,rfl⟩
    refine lp_ind (Good:=λn (self:L3)=>∀(j:Nat)(y1 y2:Value)(w:Hs)(x s:Value),j+n=L→(∃fl fl2,Sto h [] w (.blk ua.nx (bldO fl x s)::.osl s 5 1 fl2 (slotBytes l j).length (byteVs (slotBytes l j))::m0))→((x=pW ua.nx∧1≤j)∨(x=.pointer none∧s=.slice none 0 0∧slotBytes l j = []))→WP (self (.int .i64 (.ofNat j)) y1 y2 w) (λv' h'=>v'=slotR (getSlot l)∧h'=h)) (λnn self ih j y1 y2 w x s hj HH hx=>?_) N L (by omega) 0 _ _ _ _ _ (by omega) ⟨_,_,by rw[hm0];exact H⟩ (.inr ⟨rfl,rfl,rfl⟩)
    clear H
    obtain⟨fl,fl2,H⟩:=HH
    repeat' (first|(with_reducible first|refine w_jn ?_|refine w_cndT ?_|refine w_cndF ?_)|((with_reducible refine w_lss_NN (λ_=>?_) (λ_=>?_))<;>first|(exfalso;omega)|skip)|((with_reducible refine w_add_NN ?_ ?_) ;omega)|((with_reducible refine w_quo_NN ?_ ?_ ?_) ;omega;omega))
    ·have w0:(Wl l)[2+j/8]?=some [.int .u64 (.ofNat (l.getD (2+j/8) 0))]:=by
      rw[Wl_get (show 2+j/8<l.length by omega),List.getD_eq_getElem?_getD,List.getElem?_eq_getElem (show 2+j/8<l.length by omega)];rfl
     refine w_at1 3 H (by rw[hm0];rfl) w0 rfl rfl ?_
     repeat' (first|(with_reducible refine w_to8 ?_)|((with_reducible first|refine w_mul_NN ?_ ?_|refine w_rem_NN ?_ ?_|refine w_shr ?_ ?_) ;omega))
     have e8:l.getD (2+j/8) 0/2^(8*(j%8))%256=(slotByte l j).toNat:=by unfold slotByte;rw[UInt8.toNat_ofNat']
     rw[e8]
     refine w_call (cw w ua.nx x s (slotBytes l j) (slotByte l j) (BldAt.of H (hx.imp And.left id)) (by rw[slotBytes_len];omega)) λr1 u1 hq=>?_
     obtain⟨rfl,mu,s',B,ni⟩:=hq
     obtain⟨f3,f4,H2⟩:=bldCall H mu B ni
     clear H
     repeat' (first|((with_reducible refine w_add_NN ?_ ?_) ;omega))
     rw[←slotBytes_succ] at H2
     exact ih (nn-1) (by omega) (j+1) _ _ _ _ _ (by omega) ⟨f3,f4,H2⟩ (.inl ⟨rfl,by omega⟩)
    ·obtain rfl:j=L:=by omega
     clear ih
     have lp:=H.lt 0 rfl
     have r0:Rd ⟨w.hp,ua.nx,ua.nx⟩ (.slice a l.length c) 1 (Wl l):=⟨(H.rd 3 (by rw[hm0];rfl)).1,λb hb=>by have:=r.2 b hb;show b<ua.nx;omega⟩
     have hs:s=.slice none 0 0∨slotBytes l j ≠ []:=by
      rcases hx with⟨_,q⟩|⟨_,q,_⟩
      ·exact .inr λz=>by have z:=congrArg List.length z;rw[slotBytes_len] at z;have:j=0:=z;omega
      ·exact .inl q
     have H0:=H
     refine w_lwC (c:=ua.nx) (m1:=[_,_]) rfl H (by omega) (λt ht=>?_) λhS e1 e2 H1=>?_
     ·simp only[List.mem_cons,List.not_mem_nil,or_false] at ht
      rcases ht with rfl|rfl
      ·exact⟨rfl,λb hb=>Nat.le_of_eq (Option.some.inj hb)⟩
      ·refine⟨rfl,λb hb=>?_⟩
       have i1:=(H.ids _ (List.mem_of_getElem? (i:=1) rfl) b hb).2 rfl
       have i2:=H.dj 1 2 _ (.blk h.nx (.row 97 0 true (flatL [.int .i64 (.ofNat 0),.string ⟨#[]⟩]) [.int .i64 (.ofNat 0),.string ⟨#[]⟩])) rfl (by rw[hm0];rfl) (by decide) rfl b hb
       have i3:b≠h.nx:=λq=>i2 (by rw[q];rfl)
       rcases i1 with g|g
       ·omega
       ·cases g
     ·clear H
      have H:=H1
      clear H1
      rw[hm0] at H
      dsimp only[List.map_cons,List.map_nil,List.cons_append,List.nil_append,Th.ro] at H
      refine w_at1LM (c:=ua.nx) (hp:=w.hp) (L:=Wl l) rfl e1 r0 g0 rfl ?_
      repeat' (first|((with_reducible refine w_to64 ?_ ?_) ;omega))
      refine w_call (cs hS ua.nx x s (slotBytes l j) (BldAt.of H (hx.imp And.left id)) (by rw[slotBytes_len];omega) hs) λr1 u1 hq=>?_
      obtain⟨rfl,mu⟩:=hq
      have H2:=bldDrop H mu
      clear H
      have H:=H2
      clear H2
      have n1:=mu.1
      refine w_barC rfl H n1 ?_
      replace H:Sto ⟨w.hp,ua.nx,ua.nx⟩ [] u1 [.rob h.nx (.row 97 0 true (flatL [.int .i64 (.ofNat 0),.string ⟨#[]⟩]) [.int .i64 (.ofNat 0),.string ⟨#[]⟩]),.rsl (.slice a l.length c) 1 (Wl l)]:=H
      have n2:cutV (pW ua.nx)≤u1.nx:=by show ua.nx≤u1.nx;omega
      refine w_build rfl ?_
      refine w_blindC n2 ?_
      refine w_allocMC n2 H λu2 H2 hu2=>?_
      clear H
      have H:=H2
      clear H2
      repeat' (first|((with_reducible apply w_storeV 0 H) ;rfl;rfl;rfl;omega;rfl;(clear H;intro u H hu;(try dsimp only[List.set_cons_zero,List.set_cons_succ,cellsL,List.toList_toArray,splice,ev,rep,List.cons_append,List.nil_append] at H))))
      rename_i u4 hu4
      refine w_barC rfl H (by omega) ?_
      refine w_lwCE (m1:=[_,_]) (m1':=[_]) (mr:=[_,_]) H0 H (by omega) (show h.nx≤ua.nx by omega) (λt ht=>by rw[List.mem_singleton.1 ht];rfl) (λt ht b hb=>?_) λu3 H3 hu3=>?_
      ·rw[hm0] at ht
       simp only[List.mem_cons,List.not_mem_nil,or_false] at ht
       rcases ht with rfl|rfl
       ·have:h.nx=b:=Option.some.inj hb
        omega
       ·have:=r.2 b hb
        omega
      ·clear H H0
       have H:=H3
       clear H3
       rw[hm0] at H
       replace H:Sto h [] u3 [.blk u1.nx (.row 97 0 true (andB (flatL [.int .i64 (.ofNat 0),.string ⟨#[]⟩]) (flatL [.int .i64 (.ofNat n),sV (slotBytes l j)])) [.int .i64 (.ofNat n),sV (slotBytes l j)]),.blk h.nx (.row 97 0 true (flatL [.int .i64 (.ofNat 0),.string ⟨#[]⟩]) [.int .i64 (.ofNat 0),.string ⟨#[]⟩]),.rsl (.slice a l.length c) 1 (Wl l)]:=H
       repeat' (first|((with_reducible apply w_loadsF 0 H) ;rfl;rfl;rfl))
       have cpd:=cp (n:Int) (slotBytes l j) u3 (by rw[slotBytes_len];omega)
       by_cases gd:slotGood (n:Int) (slotBytes l j)
       ·refine w_call (cpd.1 n rfl gd) λv2 u2 n2=>?_
        replace n2:=n2.ones
        rw[←Wl_ones] at n2
        replace H:=H.call n2
        refine w_callB (ce _ l _ _ _ (by rw[slotW_len];omega) (H.rd 0 rfl) (H.rd 3 rfl)) (λq=>?_) (λq=>?_)
        ·repeat' (first|(with_reducible first|refine w_jn ?_|refine w_cndF ?_|refine w_notT ?_)|((with_reducible apply w_loadsF 1 H) ;rfl;rfl;rfl)|((with_reducible apply w_storeV 2 H) ;rfl;rfl;rfl;omega;rfl;(clear H;intro u H hu;(try dsimp only[List.set_cons_zero,List.set_cons_succ,cellsL,List.toList_toArray,splice,ev,rep,List.cons_append,List.nil_append] at H)))|((with_reducible apply w_retC 2 H) ;rfl;rfl;rfl))
         rw[show getSlot l=some (n,slotBytes l j) from by unfold getSlot;rw[hn,hL];exact if_pos ⟨h8,by omega,by omega,gd,q⟩]
         exact w_clr H rfl ⟨rfl,rfl⟩
        ·repeat' (first|(with_reducible first|refine w_jn ?_|refine w_cndT ?_|refine w_notF ?_)|((with_reducible apply w_build) ;rfl;(try dsimp only[splice,ev,cellsL,rep,List.cons_append,List.nil_append]))|((with_reducible apply w_storeV 2 H) ;rfl;rfl;rfl;omega;rfl;(clear H;intro u H hu;(try dsimp only[List.set_cons_zero,List.set_cons_succ,cellsL,List.toList_toArray,splice,ev,rep,List.cons_append,List.nil_append] at H)))|((with_reducible apply w_retC 2 H) ;rfl;rfl;rfl))
         refine none0 H (if_neg λz=>q ?_)
         rw[hn,hL] at z
         exact z.2.2.2.2
       ·refine w_callE (cpd.2 gd) ?_
        refine w_callB (ce [] l _ _ _ (by simp) (Rd.none _ _) (H.rd 2 rfl)) (λq=>by rw[←q] at h8;cases h8) (λq=>?_)
        repeat' (first|(with_reducible first|refine w_jn ?_|refine w_cndT ?_|refine w_notF ?_)|((with_reducible apply w_build) ;rfl;(try dsimp only[splice,ev,cellsL,rep,List.cons_append,List.nil_append]))|((with_reducible apply w_storeV 1 H) ;rfl;rfl;rfl;omega;rfl;(clear H;intro u H hu;(try dsimp only[List.set_cons_zero,List.set_cons_succ,cellsL,List.toList_toArray,splice,ev,rep,List.cons_append,List.nil_append] at H)))|((with_reducible apply w_retC 1 H) ;rfl;rfl;rfl))
        refine none0 H (if_neg λz=>gd ?_)
        rw[hn,hL] at z
        exact z.2.2.2.1
 ·repeat' (first|(with_reducible first|refine w_jn ?_|refine w_cndT ?_|refine w_gFt ?_|refine w_pickT ?_|refine w_unC ?_|refine w_enK ?_|refine w_lenV ?_)|((with_reducible apply w_build) ;rfl;(try dsimp only[splice,ev,cellsL,rep,List.cons_append,List.nil_append]))|((with_reducible refine w_alloc H ?_) ;(clear H;intro u H hu))|((with_reducible refine w_neq_NN (λ_=>?_) (λ_=>?_))<;>first|(exfalso;omega)|skip)|((with_reducible apply w_storeV 0 H) ;rfl;rfl;rfl;omega;rfl;(clear H;intro u H hu;(try dsimp only[List.set_cons_zero,List.set_cons_succ,cellsL,List.toList_toArray,splice,ev,rep,List.cons_append,List.nil_append] at H)))|((with_reducible apply w_retC 0 H) ;rfl;rfl;rfl))
  exact none0 H (if_neg (by omega))
end Go.Proofs.YtjddgepodiabkaaGreatDoor.checkSpoils
