import Derived.Test.YtnbnmojckhcdeaaGreatDoorGevDraw2
namespace Go.Gev
open Go.RowKit
section
variable {P:Program} {R:Rn}
theorem d_h{b:GCode}{o:Option Out}{e:Ex}{fr:Fr}{h:Hs}(hh:n_y R b o=some (.fin e fr h)) :
 (∃fr1 h1,o=some (.fin .nor fr1 h1)∧R (.code b) fr1 h1=some (.fin e fr h))∨(o=some (.fin e fr h)∧e≠.nor):=by
 cases o with
 |none=>cases hh
 | some x => cases x with
  |val v h1=>cases hh
  |fin e1 fr1 h1=>cases e1 with
   |nor=>exact .inl ⟨fr1,h1,rfl,hh⟩
   |ret=>simp only[n_y,sjE,Out.fin.injEq] at hh;obtain⟨rfl,rfl,rfl⟩:=hh;exact .inr ⟨rfl,by simp⟩
   |exit id=>simp only[n_y,sjE,Out.fin.injEq] at hh;obtain⟨rfl,rfl,rfl⟩:=hh;exact .inr ⟨rfl,by simp⟩
theorem V_a{fr:Fr}{h:Hs}{e:Ex}{fr':Fr}{h':Hs}:R_e R fr h badC≠some (.fin e fr' h'):=λhh=>by
 simp[R_e,badC,W_w,opGo,goes,doOp,oBad,after] at hh
theorem step_loop(G:Good P R)(c:Code)(N:Nat)(sl:List Nat)(fr fr':Fr)(h h':Hs)(e:Ex)(hr:R_e R fr h (.loop (gcode P N sl c))=some (.fin e fr' h')) :
 ∃n,∀(B:Nat)(ρ:Ren)(a:Act)(w:World)(Q:Exit→Act→World→Prop),FrR ρ sl N fr a.tmps→HR B ρ h w →
 (∀x a' w',CP B ρ h w sl N a.defers e fr' h' x a' w'→Q x a' w')→Code.rounds P c Q n a w:=by
 simp only[R_e] at hr
 rcases d_h hr with⟨fr1,h1,e1,e2⟩|⟨e1,hne⟩
 ·obtain⟨n,hn⟩:=G.loop c N sl fr1 fr' h1 h' e e2
  refine⟨n+1,λB ρ a w Q L Rl hQ=>?_⟩
  rw[rounds_succ]
  refine wp_mono (G.code c N sl fr fr1 h h1 .nor B ρ a w e1 L Rl) λx1 a1 w1 hc=>?_
  obtain⟨rfl,hd,ρ1,L1,s1⟩:=hc
  show Code.rounds P c Q n a1 w1
  refine hn B ρ1 a1 w1 Q L1 s1.hr λx2 a2 w2 hc2=>hQ x2 a2 w2 ?_
  rw[hd] at hc2
  exact CP.trans Rl s1 hc2
 ·refine⟨1,λB ρ a w Q L Rl hQ=>?_⟩
  rw[rounds_succ]
  refine wp_mono (G.code c N sl fr fr' h h' e B ρ a w e1 L Rl) λx1 a1 w1 hc=>?_
  have hq:=hQ x1 a1 w1 hc
  obtain⟨rfl,hd,ρ1,L1,s1⟩:=hc
  cases e with
  |nor=>exact absurd rfl hne
  |ret=>exact hq
  |exit id=>exact hq
theorem Av6(hm:P.follows .mixedOrders=true)(hN:Named P)(G:Good P R)(hcall:HC P R)
 (c:Code) (N:Nat) (sl:List Nat) (fr fr':Fr) (h h':Hs) (e:Ex) (B:Nat) (ρ:Ren) (a:Act) (w:World) (hr:R_e R fr h (gcode P N sl c)=some (.fin e fr' h')) (L:FrR ρ sl N fr a.tmps) (Rl:HR B ρ h w) :
 c.wp P (CP B ρ h w sl N a.defers e fr' h') a w:=by
 cases c with
 |skip=>
  simp only[gcode,R_e,sjE,Out.fin.injEq] at hr
  obtain⟨rfl,rfl,rfl⟩:=hr
  exact wp_skip ⟨rfl,rfl,ρ,L,St.refl Rl⟩
 |ret=>
  simp only[gcode,R_e,sjE,Out.fin.injEq] at hr
  obtain⟨rfl,rfl,rfl⟩:=hr
  exact wp_ret ⟨rfl,rfl,ρ,L,St.refl Rl⟩
 |exit id=>
  simp only[gcode,R_e,sjE,Out.fin.injEq] at hr
  obtain⟨rfl,rfl,rfl⟩:=hr
  exact wp_exit ⟨rfl,rfl,ρ,L,St.refl Rl⟩
 | seq x y =>
  simp only[gcode,R_e] at hr
  rcases d_h hr with⟨fr1,h1,e1,e2⟩|⟨e1,hne⟩
  ·refine wp_seq (wp_mono (G.code x N sl fr fr1 h h1 .nor B ρ a w e1 L Rl) λx1 a1 w1 hc=>?_)
   obtain⟨rfl,hd,ρ1,L1,s1⟩:=hc
   show y.wp P _ a1 w1
   exact wp_mono (G.code y N sl fr1 fr' h1 h' e B ρ1 a1 w1 e2 L1 s1.hr) λx2 a2 w2 hc2=>by
    rw[hd] at hc2
    exact CP.trans Rl s1 hc2
  ·refine wp_seq (wp_mono (G.code x N sl fr fr' h h' e B ρ a w e1 L Rl) λx1 a1 w1 hc=>?_)
   obtain⟨rfl,hd,ρ1,L1,s1⟩:=hc
   cases e with
   |nor=>exact absurd rfl hne
   |ret=>exact⟨rfl,hd,ρ1,L1,s1⟩
   |exit id=>exact⟨rfl,hd,ρ1,L1,s1⟩
 | cond q x y =>
  simp only[gcode] at hr
  cases hx:gx (K_d sl []) q with
  |none=>rw[hx] at hr;exact absurd hr V_a
  | some q' =>
   rw[hx] at hr
   simp only[R_e] at hr
   have hv:=G_j (a:=a) L.en hx
   generalize hev:ev ⟨fr,[]⟩ q'=v at hv hr
   cases v with
   |bool t=>
    have hq:=hv.bool_inv
    cases t with
    |true=>exact wp_cond_true hq (G.code x N sl fr fr' h h' e B ρ a w hr L Rl)
    |false=>exact wp_cond_false hq (G.code y N sl fr fr' h h' e B ρ a w hr L Rl)
   |_=>cases hr
 | block id b =>
  simp only[gcode,R_e] at hr
  cases hb:R (.code (gcode P N sl b)) fr h with
  |none=>rw[hb] at hr;cases hr
  | some o => cases o with
   |val v h1=>rw[hb] at hr;cases hr
   | fin e1 fr1 h1 =>
    rw[hb] at hr
    have hw:=G.code b N sl fr fr1 h h1 e1 B ρ a w hb L Rl
    cases e1 with
    |nor=>
     simp only[AI1,sjE,Out.fin.injEq] at hr
     obtain⟨rfl,rfl,rfl⟩:=hr
     refine wp_block (wp_mono hw λx1 a1 w1 hc=>?_)
     obtain⟨rfl,hd,ρ1,L1,s1⟩:=hc
     exact⟨rfl,hd,ρ1,L1,s1⟩
    |ret=>
     simp only[AI1,sjE,Out.fin.injEq] at hr
     obtain⟨rfl,rfl,rfl⟩:=hr
     refine wp_block (wp_mono hw λx1 a1 w1 hc=>?_)
     obtain⟨rfl,hd,ρ1,L1,s1⟩:=hc
     exact⟨rfl,hd,ρ1,L1,s1⟩
    | exit id2 =>
     simp only[AI1] at hr
     cases hq:Nat.beq id2 id with
     |true=>
      rw[hq] at hr
      simp only[sjE,Out.fin.injEq] at hr
      obtain⟨rfl,rfl,rfl⟩:=hr
      have:=ebT hq
      subst this
      refine wp_block (wp_mono hw λx1 a1 w1 hc=>?_)
      obtain⟨rfl,hd,ρ1,L1,s1⟩:=hc
      show Exit.inBlock _ _ (.exit _) a1 w1
      simp only[Exit.inBlock,if_true]
      exact⟨rfl,hd,ρ1,L1,s1⟩
     |false=>
      rw[hq] at hr
      simp only[sjE,Out.fin.injEq] at hr
      obtain⟨rfl,rfl,rfl⟩:=hr
      have hne:=beq_false.1 hq
      refine wp_block (wp_mono hw λx1 a1 w1 hc=>?_)
      obtain⟨rfl,hd,ρ1,L1,s1⟩:=hc
      show Exit.inBlock _ _ (.exit _) a1 w1
      simp only[Exit.inBlock,if_neg hne]
      exact⟨rfl,hd,ρ1,L1,s1⟩
 |loop b=>
  simp only[gcode,R_e] at hr
  obtain⟨n,hn⟩:=step_loop G b N sl fr fr' h h' e hr
  exact wp_loop_rounds n (hn B ρ a w _ L Rl λ_ _ _ hc=>hc)
 | region id ops draw =>
  cases draw with
  |true=>exact AT7 hm hN G hcall hr L Rl
  |false=>
   simp only[gcode,R_e] at hr
   refine wp_region ?_
   rw[List.range_eq_range']
   have:=Bn2 hN G hcall (e:=e) (fr':=fr') (h':=h') (df0:=a.defers) Rl ops.toList 0 [] fr [] h ρ a w (by simp) (by simp) hr L.lo (St.refl Rl) rfl
   simpa using this
 |rangeFunc f ps as b=>exact absurd hr V_a
 |scope b=>exact absurd hr V_a
 |label l=>exact absurd hr V_a
 |goto l=>exact absurd hr V_a
 |refuse y=>exact absurd hr V_a
theorem a_q{sl:List Nat}:∀(args:List Value)(n i:Nat)(fr:Fr)(t:Nat)(p:List Bool),slot sl t=some p →
 (X_k args (P_z sl n i) fr).getp p=if i≤t∧t<i+n∧t<i+args.length then args[t-i]? else fr.getp p:=by
 intro args
 induction args with
 |nil=>intro n i fr t p hp;rw[if_neg (by simp only[List.length_nil];omega)];rfl
 | cons v vs ih =>
  intro n i fr t p hp
  cases n with
  |zero=>rw[if_neg (by omega)];rfl
  | succ n =>
   simp only[P_z,X_k]
   rw[ih n i.succ _ t p hp]
   by_cases h1:i=t
   ·subst h1
    rw[if_neg (by omega),if_pos (by simp)]
    simp only[hp,put,Tr.getp_setp,if_true,Nat.sub_self,gcZ]
   ·have hput:(put (slot sl i) v fr).getp p=fr.getp p:=by
     cases hs:slot sl i with
     |none=>rfl
     |some q=>simp only[put];rw[Tr.getp_setp,if_neg (λe=>h1 (Z_9 hs hp e))]
    rw[hput]
    by_cases h2:i≤t∧t<i+(n+1)∧t<i+(v::vs).length
    ·rw[if_pos (by simp at h2;omega),if_pos h2]
     obtain⟨d,rfl⟩:∃d,t=i+(d+1):=⟨t-i-1,by omega⟩
     rw[show i+(d+1)-i.succ=d from by omega,show i+(d+1)-i=d+1 from by omega]
     simp
    ·rw[if_neg (by simp at h2 ⊢;omega),if_neg h2]
def Z_o(tm:Array Value):ResultVar→Sem Value
 |.tmp t=>pure (tm.getD t undef)
 |.cell a t=>do loadVar t (←asAddr (tm.getD a undef))
theorem t_2 {ρ : Ren} {sl : List Nat} {N : Nat} {B : Nat} {fr : Fr} {h : Hs} {w : World} {tm : Array Value} (L : FrR ρ sl N fr tm) (Rl : HR B ρ h w) : ∀ (rs : List ResultVar) (gs : List GRes) (vs : List Value), gres P sl rs = some gs → resV ⟨fr, []⟩ h gs = some vs →
 ∃vs',(rs.mapM (Z_o tm)).run P w=.ok vs' w∧VL ρ vs vs':=by
 intro rs
 induction rs with
 |nil=>
  intro gs vs h1 h2
  simp only[gres,sjE] at h1
  subst h1
  simp only[resV,sjE] at h2
  subst h2
  exact⟨[],by simp,VL.nil⟩
 | cons r rs ih =>
  intro gs vs h1 h2
  cases r with
  | tmp t =>
   simp only[gres,bqB,bqS,sjE] at h1
   obtain⟨gr,hg,rfl⟩:=h1
   simp only[resV,u_8] at h2
   cases hr:resV ⟨fr,[]⟩ h gr with
   |none=>rw[hr] at h2;cases h2
   |some us=>
    rw[hr] at h2
    injection h2 with h2
    subst h2
    obtain⟨us',e1,e2⟩:=ih gr us hg hr
    refine⟨tm.getD t undef::us',?_,.cons (Af6 L.en t) e2⟩
    have hone:(Z_o tm (.tmp t)).run P w=.ok (tm.getD t undef) w:=rfl
    simp only[List.mapM_cons,Sem.run_bind,hone,Result.andThen_ok,e1,Sem.run_pure]
  | cell c t =>
   simp only[gres,bqB,bqS,sjE] at h1
   obtain⟨n,hn,b,hb,gr,hg,rfl⟩:=h1
   simp only[resV] at h2
   cases hr:resV ⟨fr,[]⟩ h gr with
   |none=>rw[hr] at h2;cases hc:cellV h n b (addrOf (ev ⟨fr,[]⟩ (gt (K_d sl []) c)))<;>(rw[hc] at h2;cases h2)
   | some us =>
    rw[hr] at h2
    obtain⟨us',e1,e2⟩:=ih gr us hg hr
    have hv:=Af6 L.en c
    cases hp:addrOf (ev ⟨fr,[]⟩ (gt (K_d sl []) c)) with
    |none=>rw[hp] at h2;cases h2
    | some p =>
     rw[hp] at h2
     obtain⟨H,hH,_,hax⟩:=K_m hv hp
     cases hc:cellV h n b (some p) with
     |none=>rw[hc] at h2;cases h2
     | some v =>
      rw[hc] at h2
      injection h2 with h2
      subst h2
      cases b with
      | true =>
       simp only[cellV] at hc
       cases hcs:F_q n p.2 (h.hp.get p.1) with
       |none=>rw[hcs] at hc;cases hc
       | some cs =>
        rw[hcs] at hc
        injection hc with hc
        subst hc
        obtain⟨H',ys,q1,q2,q3,q4⟩:=Rl.cells hcs
        rw[hH] at q1
        injection q1 with q1
        subst q1
        have hl:=run_loadCells_list (P:=P) (w:=w) ⟨H.blk,H.off+p.2,none⟩ ys q4
        have hl':ys.length=n:=by rw[←q2.1];exact q3
        rw[hl'] at hl
        refine⟨.agg ys.toArray::us',?_,.cons (VR.agg_of q2) e2⟩
        have hone:(Z_o tm (.cell c t)).run P w=.ok (.agg ys.toArray) w:=by
         simp only[Z_o,Sem.run_bind,hax,asAddr,Sem.run_pure,Result.andThen_ok,loadVar,Q_p hb,if_true,K_u hn,hl]
        simp only[List.mapM_cons,Sem.run_bind,hone,Result.andThen_ok,e1,Sem.run_pure]
      | false =>
       simp only[cellV] at hc
       obtain⟨H',v',q1,q2,q3⟩:=Rl.cell hc
       rw[hH] at q1
       injection q1 with q1
       subst q1
       refine⟨v'::us',?_,.cons q3 e2⟩
       have hone:(Z_o tm (.cell c t)).run P w=.ok v' w:=by
        simp only[Z_o,Sem.run_bind,hax,asAddr,Sem.run_pure,Result.andThen_ok,loadVar,Q_p hb,Bool.false_eq_true,if_false,k_a q2]
       simp only[List.mapM_cons,Sem.run_bind,hone,Result.andThen_ok,e1,Sem.run_pure]
theorem Av5 (G : Good P R) (f : FuncId) (args : List Value) (args' : Array Value) (v : Value) (h h' : Hs) (B : Nat) (ρ : Ren) (w : World) (hr : enter R args h (FF P f) = some (.val v h')) (hl : VL ρ args args'.toList) (Rl : HR B ρ h w) :
 Calls P f args' w (λe w'=>∃v' ρ',e=.returned v'∧VR ρ' v v'∧St B ρ h w ρ' h' w'):=by
 unfold FF at hr
 cases hd:P.funcs.toList.drop f with
 |nil=>rw[hd] at hr;cases hr
 | cons fn rest =>
  rw[hd] at hr
  have hf:P.funcs[f]?=some fn:=by
   have:(P.funcs.toList.drop f)[0]?=some fn:=by rw[hd];rfl
   simpa using this
  simp only[gfn] at hr
  cases hb:fn.body with
  |none=>rw[hb] at hr;cases hr
  | some body =>
   rw[hb] at hr
   simp only at hr
   generalize W_u fn.results.toList (L_4 body [])=sl at hr
   unfold AV6 at hr
   cases hal:d_u fn.ntmps sl with
   |false=>rw[hal] at hr;cases hr
   | true =>
    rw[hal] at hr
    cases hgr:gres P sl fn.results.toList with
    |none=>rw[hgr] at hr;cases hr
    | some gs =>
     rw[hgr] at hr
     simp only[enter] at hr
     obtain⟨v1,h1,hlv,hfin⟩:=e_1 Rl hr
     -- the body
     cases hbody:R (.code (gcode P fn.ntmps sl body)) (X_k args (P_z sl (fn.params.size+fn.nfree) 0) .e) ⟨h.hp,h.nx,h.nx⟩ with
     |none=>rw[hbody] at hlv;cases hlv
     | some o => cases o with
      |val u h2=>rw[hbody] at hlv;cases hlv
      | fin e fr2 h2 =>
       rw[hbody] at hlv
       have he:e≠.nor→e=.ret:=λhne=>by
        cases e with
        |nor=>exact absurd rfl hne
        |ret=>rfl
        |exit id=>simp[leave] at hlv
       have hpk:G_p h2 (resV ⟨fr2,[]⟩ h2 gs)=some (.val v1 h1):=by
        cases e with
        |nor=>exact hlv
        |ret=>exact hlv
        |exit id=>simp[leave] at hlv
       have Rl2:HR B ρ ⟨h.hp,h.nx,h.nx⟩ w:=⟨Rl.base,Rl.dom,Rl.has,Rl.inj⟩
       have L:FrR ρ sl fn.ntmps (X_k args (P_z sl (fn.params.size+fn.nfree) 0) .e) (args'++Array.replicate (fn.ntmps-args'.size) undef):=by
        refine⟨λt p hp=>?_,by simp;omega,W_7 hal⟩
        rw[a_q args _ 0 .e t p hp]
        have hal:args.length=args'.size:=by simpa using hl.1
        by_cases hin:0≤t∧t<0+(fn.params.size+fn.nfree)∧t<0+args.length
        ·rw[if_pos hin]
         have ht:t<args.length:=by omega
         have ht':t<args'.toList.length:=by rw[←hl.1];exact ht
         rw[Nat.sub_zero,gqG ht]
         have:(args'++Array.replicate (fn.ntmps-args'.size) undef).getD t undef=args'.toList[t]:=by
          rw[Array.getD_eq_getD_getElem?,Array.getElem?_append_left (by simpa using ht')]
          have h9:t<args'.size:=by simpa using ht'
          simp[h9]
         rw[this]
         exact hl.2 t _ _ (gqG ht) (gqG ht')
        ·rw[if_neg hin]
         rw[Tr.getp_e]
         exact .dunno _
       refine calls_of_wp hf hb (wp_mono (G.code body fn.ntmps sl _ fr2 _ h2 e B ρ ⟨_,[]⟩ w hbody L Rl2) λx a1 w1 hc=>?_)
       obtain⟨hx,hdf,ρ1,L1,s1⟩:=hc
       cases hrv:resV ⟨fr2,[]⟩ h2 gs with
       |none=>rw[hrv] at hpk;cases hpk
       | some vs =>
        rw[hrv] at hpk
        obtain⟨vs',q1,q2⟩:=t_2 (P:=P) L1 s1.hr fn.results.toList gs vs hgr hrv
        have hres:∃v',(results fn a1.tmps).run P w1=.ok v' w1∧VR ρ1 v1 v'∧h1=h2:=by
         have hm:(results fn a1.tmps).run P w1=.ok (if hh:vs'.toArray.size=1 then vs'.toArray[0] else .tuple vs'.toArray) w1:=by
          have hfun:results fn a1.tmps=(do let vs ←fn.results.mapM (Z_o a1.tmps);pure (if h:vs.size=1 then vs[0] else .tuple vs)):=rfl
          rw[hfun,Array.mapM_eq_mapM_toList]
          simp only[Sem.run_bind,Sem.run_map,q1,Result.andThen_ok,Sem.run_pure]
         cases vs with
         |nil=>
          have:=q2.nil_left
          subst this
          simp only[G_p,sjE,Out.val.injEq] at hpk
          obtain⟨rfl,rfl⟩:=hpk
          exact⟨_,hm,.tuple #[] #[] rfl (λi a=>by simp at a),rfl⟩
         | cons u us =>
          obtain⟨y,ys,rfl,r1,r2⟩:=q2.head
          cases us with
          |nil=>
           have:=r2.nil_left
           subst this
           simp only[G_p,sjE,Out.val.injEq] at hpk
           obtain⟨rfl,rfl⟩:=hpk
           exact⟨y,hm,r1,rfl⟩
          |cons u2 us2=>
           obtain⟨y2,ys2,rfl,r3,r4⟩:=r2.head
           simp only[G_p,sjE,Out.val.injEq] at hpk
           obtain⟨rfl,rfl⟩:=hpk
           refine⟨.tuple (y::y2::ys2).toArray,?_,VR.tuple_of q2,rfl⟩
           rw[hm,dif_neg (by simp)]
        obtain⟨v',m1,m2,m3⟩:=hres
        subst m3
        obtain⟨ρ2,n1,n2⟩:=hfin ρ1 w1 v' s1 m2
        subst hx
        have hex:exOf e=.normal∨exOf e=.ret:=by
         cases e with
         |nor=>exact .inl rfl
         |ret=>exact .inr rfl
         |exit id=>simp[leave] at hlv
        rcases hex with hex|hex
        ·rw[hex];exact⟨hdf,v',m1,v',ρ2,rfl,n1,n2⟩
        ·rw[hex];exact⟨hdf,v',m1,v',ρ2,rfl,n1,n2⟩
theorem good(hm:P.follows .mixedOrders=true)(hN:Named P):∀k,Good P (run (FF P) k):=by
 intro k
 induction k with
 |zero=>exact⟨(λ_ _ _ _ _ _ _ _ _ _ _ _ h=>by cases h),(λ_ _ _ _ _ _ _ _ h=>by cases h),(λ_ _ _ _ _ _ _ _ _ h=>by cases h)⟩
 | succ k ih =>
  have hcall:HC P (run (FF P) k):=λ_ f args _ v h h' _ hr=>by
   cases k with
   |zero=>cases hr
   |succ k=>
    have hr2:enter (run (FF P) k) args h (FF P f)=some (.val v h'):=hr
    cases hg:FF P f with
    |none=>rw[hg] at hr2;cases hr2
    |some g=>exact⟨g,rfl⟩
  refine⟨λc N sl fr fr' h h' e B ρ a w hr L Rl=>Av6 hm hN ih hcall c N sl fr fr' h h' e B ρ a w hr L Rl,λc N sl fr fr' h h' e hr=>step_loop ih c N sl fr fr' h h' e hr,λf args args' v h h' B ρ w hr hl Rl=>Av5 ih f args args' v h h' B ρ w hr hl Rl⟩
end
end Go.Gev
