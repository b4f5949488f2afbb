import Derived.Test.YtnbnmojckhcdeaaGreatDoorGevAr
namespace Go.Gev
def Bx(h:Hs)(id:Nat)(vs:List Value):Prop:=∃c m e u rw_ fl,h.hp.get id=some (.row c m e u rw_ fl)∧∀i,c.get i=vs[i]?
theorem Bx.mono{h h':Hs}{id:Nat}{vs:List Value}(b:Bx h id vs)(hid:id<h.nx)(e:Ext h h'):Bx h' id vs:=by
 obtain⟨c,m,e',u,rw_,fl,q,q2⟩:=b
 exact⟨c,m,e',u,rw_,fl,(e.2 id hid).trans q,q2⟩
theorem Bx.keep{h h':Hs}{id:Nat}{vs:List Value}(b:Bx h id vs)(e:h'.hp.get id=h.hp.get id):Bx h' id vs:=by
 obtain⟨c,m,e',u,rw_,fl,q,q2⟩:=b
 exact⟨c,m,e',u,rw_,fl,e.trans q,q2⟩
theorem Bx.new(h:Hs)(e u:Nat)(vs:List Value):Bx (newRow h e u vs) h.nx vs:=⟨_,_,_,_,_,_,by rw[E_6,if_pos rfl],λi=>C_q _ _⟩
theorem Bx.load{h:Hs}{id i:Nat}{vs:List Value}{v:Value}(b:Bx h id vs)(hi:vs[i]?=some v)(K:Value→An):kLoad (.pointer (some ⟨id,i,none⟩)) h K=K v:=by
 obtain⟨c,m,e,u,rw_,fl,q,q2⟩:=b
 exact kLoad_ok q ((q2 i).trans hi) K
theorem Bx.field{h:Hs}{id i:Nat}{vs:List Value}{v:Value}(b:Bx h id vs)(hi:vs[i]?=some v)(K:Value→An):kFieldA i (.pointer (some ⟨id,0,none⟩)) (λx=>kLoad x h K)=K v:=by
 rw[kFieldA_ok,zaQ,b.load hi]
theorem Y_m:∀(n off:Nat)(c:Tr Value)(vs acc:List Value),(∀i,i<n→∃v,vs[i]?=some v∧c.get (off+i)=some v)→vs.length=n→I_y c n off acc=some (acc.reverse++vs):=by
 intro n
 induction n with
 |zero=>
  intro off c vs acc _ hl
  have:vs = []:=enZ hl
  subst this
  rw[I_y,List.append_nil]
 | succ n ih =>
  intro off c vs acc h hl
  cases vs with
  |nil=>simp at hl
  | cons v vs =>
   obtain⟨w,q1,q2⟩:=h 0 (Nat.succ_pos _)
   simp only[gcZ,sjE] at q1
   subst q1
   rw[I_y]
   rw[Nat.add_zero] at q2
   rw[q2]
   show I_y c n (Nat.succ off) (v::acc)=_
   rw[ih (Nat.succ off) c vs (v::acc) (λi hi=>?_) (by simpa using hl)]
   ·simp
   ·obtain⟨w,p1,p2⟩:=h (i+1) (by omega)
    rw[List.getElem?_cons_succ] at p1
    exact⟨w,p1,by rw[show Nat.succ off+i=off+(i+1) by omega];exact p2⟩
theorem Bx.loadsN{h:Hs}{id:Nat}{vs:List Value}(b:Bx h id vs){m:Nat}(hm:m≤vs.length)(K:Value→An):H_7 m (.pointer (some ⟨id,0,none⟩)) h K=K (.agg (vs.take m).toArray):=by
 obtain⟨c,m',e,u,rw_,fl,q,q2⟩:=b
 show getB h id _=_
 unfold getB
 rw[getK_eq,q]
 show Option.rec (motive:=λ_=>An) none (λcs=>K (.agg cs.toArray)) (I_y c m 0 [])=_
 rw[Y_m m 0 c (vs.take m) [] (λi hi=>⟨vs[i],by rw[List.getElem?_take,if_pos hi];exact gqG (by omega),by rw[zaQ,q2];exact gqG (by omega)⟩) (by rw[List.length_take];omega)]
 rfl
theorem Bx.loads{h:Hs}{id:Nat}{vs:List Value}(b:Bx h id vs)(K:Value→An):H_7 vs.length (.pointer (some ⟨id,0,none⟩)) h K=K (.agg vs.toArray):=by
 rw[b.loadsN (lR _),List.take_length]
theorem Bx.res{h:Hs}{id:Nat}{v:Value}(b:Bx h id [v]):G_p h (resV enE h [.cell (.c (.pointer (some ⟨id,0,none⟩))) 1 true])=some (.val (.agg #[v]) h):=by
 obtain⟨c,m',e,u,rw_,fl,q,q2⟩:=b
 have:cellV h 1 true (some (id,0))=some (.agg #[v]):=by
  show (match F_q 1 0 (h.hp.get id) with|some cs=>some (Value.agg cs.toArray)|none=>none)=_
  rw[q]
  show (match I_y c 1 0 [] with|some cs=>some (Value.agg cs.toArray)|none=>none)=_
  rw [Y_m 1 0 c [v] [] (fun i hi => ⟨v, by have : i = 0 := by omega
                                           subst this; rfl, by have : i = 0 := by omega
                                                               subst this;rw[zaQ,q2];rfl⟩) rfl]
  rfl
 show G_p h (u_8 (some []) (cellV h 1 true (some (id,0))))=_
 rw[this];rfl
where Ext.new' (h:Hs) (e u:Nat) (cs:List Value):Ext h (newRow h e u cs):=⟨Nat.le_succ _,λid hid=>by rw[E_6,if_neg (by omega)]⟩
theorem p_i{h:Hs}{b o:Nat}{c:Tr Value}{n e u:Nat}{v0:Value}(hb:h.hp.get b=some (.row c n e u true true))(hv:c.get o=some v0)(k:IntKind)(x:Int)(K:KV) :
 H_l (.pointer (some ⟨b,o,none⟩)) (.int k x) h K=K undef' ⟨h.hp.set b (some (.row (c.set o (some (.int k x))) n e u true true)),h.nx,minN h.lo b⟩:=by
 show getB h b (λB=>st1 h b o (.int k x) K B)=_
 unfold getB
 rw[getK_eq,hb]
 show st1 h b o (.int k x) K (.row c n e u true true)=_
 unfold st1
 show Option.rec (motive:=λ_=>An) none _ (Tr.getK c o)=_
 rw[getK_eq,hv]
 obtain⟨hp,nx,lo⟩:=h
 show (Bool.rec (motive:=λ_=>An) (K undef' _) (K undef' _) (Nat.ble lo b):An)=_
 rw[setK_eq,setK_eq]
 unfold minN
 cases Nat.ble lo b<;>rfl
def Wd(t:TypeId)(n0:Nat)(h:Hs)(v:Value)(m:Nat):Prop:=
 ∃id cc,v=.slice (some ⟨id,0,none⟩) m m∧n0≤id∧id<h.nx∧h.hp.get id=some (.row cc m t 1 true true)∧∀i,i<m→∃w,cc.get i=some (.int .u64 (.ofNat w))
theorem Wd.mono{t:TypeId}{n0 m:Nat}{h h':Hs}{v:Value}(w:Wd t n0 h v m)(e:Ext h h'):Wd t n0 h' v m:=by
 obtain⟨id,cc,q1,q2,q3,q4,q5⟩:=w
 exact⟨id,cc,q1,q2,llN q3 e.1,(e.2 id q3).trans q4,q5⟩
theorem Wd.len{t:TypeId}{n0 m:Nat}{h:Hs}{v:Value}(w:Wd t n0 h v m)(K:Value→An):L_o v K=K (.int .i64 (.ofNat m)):=by
 obtain⟨id,cc,rfl,_⟩:=w;exact P_t _ _ _ _
theorem Wd.at{t:TypeId}{n0 m:Nat}{h:Hs}{v:Value}(w:Wd t n0 h v m){i:Nat}(hi:i<m):∃x,∀K:Value→An,L_x 1 v (.int .i64 (.ofNat i)) (λp=>kLoad p h K)=K (.int .u64 (.ofNat x)):=by
 obtain⟨id,cc,rfl,q2,q3,q4,q5⟩:=w
 obtain⟨x,hx⟩:=q5 i hi
 exact⟨x,λK=>by rw[M_6 hi,kLoad_ok q4 (by rw[zaQ,Nat.mul_one];exact hx)]⟩
def WdAt(t:TypeId)(id:Nat)(h:Hs)(v:Value)(m:Nat):Prop:=
 ∃cc,v=.slice (some ⟨id,0,none⟩) m m∧id<h.nx∧h.hp.get id=some (.row cc m t 1 true true)∧∀i,i<m→∃w,cc.get i=some (.int .u64 (.ofNat w))
theorem Wd.at_{t:TypeId}{n0 m:Nat}{h:Hs}{v:Value}(w:Wd t n0 h v m):∃id,n0≤id∧WdAt t id h v m:=by
 obtain⟨id,cc,q1,q2,q3,q4,q5⟩:=w
 exact⟨id,q2,cc,q1,q3,q4,q5⟩
theorem WdAt.keep{t:TypeId}{id m:Nat}{h h':Hs}{v:Value}(w:WdAt t id h v m)(hn:h.nx≤h'.nx)(hg:h'.hp.get id=h.hp.get id):WdAt t id h' v m:=by
 obtain⟨cc,q1,q3,q4,q5⟩:=w
 exact⟨cc,q1,llN q3 hn,hg.trans q4,q5⟩
theorem WdAt.store{t:TypeId}{id m:Nat}{h:Hs}{v:Value}(w:WdAt t id h v m){i:Nat}(hi:i<m)(x:Nat)(K:KV) :
 ∃h',L_x 1 v (.int .i64 (.ofNat i)) (λp=>H_l p (.int .u64 (.ofNat x)) h (λu w=>dPut K u (F_u h w .bar) (andB (dFit h w .bar) (Nat.ble 0 w.lo))))=K undef' h' ∧
  WdAt t id h' v m∧h'.nx=h.nx∧h'.lo=min h.lo id∧∀id',id'≠id→h'.hp.get id'=h.hp.get id':=by
 obtain⟨cc,rfl,q3,q4,q5⟩:=w
 obtain⟨y,hy⟩:=q5 i hi
 rw[M_6 hi,p_i q4 (by rw[zaQ,Nat.mul_one];exact hy)]
 rw[Bi0]
 refine⟨_,rfl,⟨cc.set (0+i*1) (some (.int .u64 (.ofNat x))),rfl,q3,?_,λj hj=>?_⟩,rfl,minN_eq _ _,λid' hid=>?_⟩
 ·dsimp only
  rw[tgS,if_pos rfl]
 ·rw[tgS]
  split
  ·exact⟨x,rfl⟩
  ·exact q5 j hj
 ·dsimp only
  rw[tgS,if_neg λe=>hid e.symm]
end Go.Gev
