import Derived.Test.YtnbnmojckhcdeaaGreatDoorGevAr3
namespace Go.Gev
open Go.RowKit Go.ChangeShapes
set_option linter.unusedVariables false
structure OpW where
 k:Int
 a:List UInt8
 b:List UInt8
 m:Int
 n:Int
 d:Value
def opCs(x:OpW):List Value:=[.int .i64 x.k,.string ⟨x.a.toArray⟩,.string ⟨x.b.toArray⟩,.int .i64 x.m,.int .i64 x.n,x.d]
theorem add_add'(a:Addr)(i j:Nat):(a.add i).add j=a.add (i+j):=by
 by_cases h:i=0
 ·subst h;simp[Addr.add]
 ·by_cases h2:j=0
  ·subst h2;simp[Addr.add]
  ·simp[Addr.add,h,h2,Nat.add_assoc]
def IsOps(w:World)(v:Value):Prop:=v=.slice none 0 0∨∃(a:Addr) (cap:Nat) (L:List OpW),v=.slice (some a) L.length cap∧L.length≤cap∧cap≤maxLen∧(∀x∈L,IsBytes w x.d∧In64 x.m∧In64 x.n) ∧
 ∀(i j:Nat)(x:OpW)(v:Value),L[i]?=some x→(opCs x)[j]?=some v→w.cell? (a.add (i*6+j))=some v
section
variable {H:Type} {enc:TypeId × Value→H} {P:Program} {w:World} {base:Nat} {spare:Nat→Bool} {held:Bool}
theorem Bn1{t e be:TypeId}{f0 f1 f2 f3 f4 f5:Field}{fuel:Nat}{v:Value}{x:DataW H × List MemPlace}(ht:P.underlying t=some (.slice e))(he:P.underlying e=some (.struct #[f0,f1,f2,f3,f4,f5]))
 (u0:P.underlying f0.type=some (.int .i64)) (u1:P.underlying f1.type=some .string) (u2:P.underlying f2.type=some .string) (u3:P.underlying f3.type=some (.int .i64)) (u4:P.underlying f4.type=some (.int .i64)) (u5:P.underlying f5.type=some (.slice be)) (ub:P.underlying be=some (.int .u8)) (cb:P.cellsOf be=1)
 (ce:P.cellsOf e=6) (c0:P.cellsOf f0.type=1) (c1:P.cellsOf f1.type=1) (c2:P.cellsOf f2.type=1) (c3:P.cellsOf f3.type=1) (c4:P.cellsOf f4.type=1) (c5:P.cellsOf f5.type=1)
 (o0:f0.offset=0) (o1:f1.offset=1) (o2:f2.offset=2) (o3:f3.offset=3) (o4:f4.offset=4) (o5:f5.offset=5)
 (h:DataW.trod enc P w base spare held fuel t [v]=some x):IsOps w v:=by
 rcases DataW.trod_slice ht h with hq|⟨a,len,cap,elems,rest,n,_,hcs,_,_,hl,hm,hlen,hel,_,_⟩
 ·have:=hq.1
  injection this with q;exact .inl q
 injection hcs with hcs
 right
 have wf64:∀z:Int,(Lit.int .i64 z).wf=true→In64 z:=λz hz=>by
  have:IntKind.i64.min≤z∧z≤IntKind.i64.max:=by simpa [Lit.wf] using hz
  exact this
 have each:∀i,i<len→∃x:OpW,(IsBytes w x.d∧In64 x.m∧In64 x.n)∧∀j v,(opCs x)[j]?=some v→w.cell? (a.add (i*6+j))=some v:=λi hi=>by
  have hb:=hel i hi
  rw[gqG (by omega),bqS] at hb
  obtain⟨cs',hcs,hy⟩:=hb
  obtain⟨xs,n2,_,_,hcl,hxl,hf⟩:=DataW.trod_struct he hy
  rw[ce] at hcs hcl
  obtain⟨_,_,hcell⟩:=World.cells?_some hcs
  match xs,hxl with
  | [y0, y1, y2, y3, y4, y5], _ =>
   have p0:=hf 0 f0 rfl
   have p1:=hf 1 f1 rfl
   have p2:=hf 2 f2 rfl
   have p3:=hf 3 f3 rfl
   have p4:=hf 4 f4 rfl
   have p5:=hf 5 f5 rfl
   rw[o0,c0] at p0
   rw[o1,c1] at p1
   rw[o2,c2] at p2
   rw[o3,c3] at p3
   rw[o4,c4] at p4
   rw[o5,c5] at p5
   obtain⟨k,q0,_,_⟩:=DataW.trod_int u0 p0
   obtain⟨s,q1,_,_⟩:=DataW.trod_string u1 p1
   obtain⟨s2,q2,_,_⟩:=DataW.trod_string u2 p2
   obtain⟨m,q3,_,m3⟩:=DataW.trod_int u3 p3
   obtain⟨z,q4,_,m4⟩:=DataW.trod_int u4 p4
   match cs',hcl,q0,q1,q2,q3,q4,p5,hcell with
   | [v0, v1, v2, v3, v4, v5], _, q0, q1, q2, q3, q4, p5, hcell =>
    simp at q0 q1 q2 q3 q4
    have p5:DataW.trod enc P w base spare held n2 f5.type [v5]=some y5:=p5
    refine⟨⟨k,s.data.toList,s2.data.toList,m,z,v5⟩,⟨AA8 u5 ub cb p5,wf64 _ m3,wf64 _ m4⟩,λj v hj=>?_⟩
    have hj6:j<6:=(geI.1 hj).1
    have e:[v0,v1,v2,v3,v4,v5][j]?=some v:=by
     rw[←hj]
     subst q0 q1 q2 q3 q4
     rfl
    have:=hcell j (by omega)
    rw[add_add'] at this
    rw[this,←e]
 have mk : ∀ m, m ≤ len → ∃ L : List OpW, L.length = m ∧ (∀ x ∈ L, IsBytes w x.d ∧ In64 x.m ∧ In64 x.n) ∧ ∀ (i j : Nat) (x : OpW) (v : Value), L[i]? = some x → (opCs x)[j]? = some v → w.cell? (a.add (i * 6 + j)) = some v := by
  intro m
  induction m with
  |zero=>intro _;exact⟨[],rfl,λx hx=>(by cases hx),λi j x v hi=>by simp at hi⟩
  | succ m ih =>
   intro hm
   obtain⟨L,hL,hb,hall⟩:=ih (by omega)
   obtain⟨y,hy,p⟩:=each m (by omega)
   refine⟨L ++ [y],by rw[List.length_append,hL];rfl,λx hx=>?_,λi j x v hi=>?_⟩
   ·rcases List.mem_append.1 hx with hx|hx
    ·exact hb x hx
    ·rw[msQ.1 hx];exact hy
   ·rcases logQ i L.length with q|q
    ·rw[gaL q] at hi;exact hall i j x v hi
    ·rw[gaR q] at hi
     have:i=m:=by
      rcases logQ (i-L.length) 1 with r|r
      ·omega
      ·rw[List.getElem?_eq_none (by simpa using r)] at hi;cases hi
     subst this
     rw[show i-L.length=0 by omega] at hi
     simp only[gcZ,sjE] at hi
     subst hi
     exact p j v
 obtain⟨L,hL,hb,hall⟩:=mk len (lR _)
 exact⟨a,cap,L,by rw[hL];exact hcs,by omega,hm,hb,hall⟩
end
theorem Rd.grow{h h':Hs}{v:Value}{u:Nat}{L:List (List Value)}(r:Rd h v u L)(hn:h.nx≤h'.nx)(hg:∀id,id<h.nx→h'.hp.get id=h.hp.get id):Rd h' v u L:=⟨r.1.congr λb hb=>hg b (r.2 b hb),λb hb=>llN (r.2 b hb) hn⟩
theorem AR4{w:World}:∀(L:List OpW){B:Nat}{ρ:Ren}{h:Hs}(R:HR B ρ h w)(hf:∀id b,h.hp.get id=some b→isRw b=false),(∀x∈L,IsBytes w x.d) →
 ∃(h':Hs) (ρ':Ren) (M:List (OpW × List UInt8)),ρ.le ρ'∧HR B ρ' h' w∧(∀id b,h'.hp.get id=some b→isRw b=false)∧M.length=L.length∧(∀e∈M,Rd h' e.1.d 1 (ones (B_9 e.2))) ∧
  (∀(i:Nat)(x:OpW)(e:OpW × List UInt8),L[i]?=some x→M[i]?=some e→VR ρ' e.1.d x.d∧e.1 = { x with d:=e.1.d })∧(∀id,id<h.nx→h'.hp.get id=h.hp.get id)∧h.nx≤h'.nx:=by
 intro L
 induction L with
 |nil=>intro B ρ h R hf _;exact⟨h,ρ,[],rLR _,R,hf,rfl,λe he=>(by cases he),λi x e hi=>by simp at hi,λ_ _=>rfl,lR _⟩
 | cons x L ih =>
  intro B ρ h R hf hb
  obtain⟨v0,h1,ρ1,D,_,l1,r1,R1,f1,d1,_,g1,n1⟩:=y_w R hf (hb x mcS)
  obtain⟨h2,ρ2,M,l2,R2,f2,m2,d2,p2,g2,n2⟩:=ih R1 f1 λy hy=>hb y (mcM _ hy)
  refine⟨h2,ρ2,({ x with d:=v0 },D)::M,λid X e=>l2 _ _ (l1 _ _ e),R2,f2,by rw[lcQ,lcQ,m2],λe he=>?_,λi y e hi he=>?_,λid hid=>(g2 id (llN hid n1)).trans (g1 id hid),lTr n1 n2⟩
  ·rcases mcQ.1 he with rfl|he
   ·exact d1.grow n2 g2
   ·exact d2 e he
  ·cases i with
   |zero=>
    injection hi with hi;injection he with he
    subst hi he
    exact⟨VR.mono l2 r1,rfl⟩
   |succ i=>exact p2 i y e hi he
theorem AR5{w:World}{v:Value}{B:Nat}{ρ:Ren}{h:Hs}(R:HR B ρ h w)(hf:∀id b,h.hp.get id=some b→isRw b=false)(hv:IsOps w v) :
 ∃(v0:Value) (h':Hs) (ρ':Ren) (M:List (OpW × List UInt8)),ρ.le ρ'∧VR ρ' v0 v∧HR B ρ' h' w∧(∀id b,h'.hp.get id=some b→isRw b=false) ∧
  Rd h' v0 6 (M.map λe=>opCs e.1)∧(∀e∈M,Rd h' e.1.d 1 (ones (B_9 e.2))∧In64 e.1.m∧In64 e.1.n)∧(∀id,id<h.nx→h'.hp.get id=h.hp.get id)∧h.nx≤h'.nx:=by
 rcases hv with rfl|⟨a,cap,L,rfl,hl,hm,hb,hc⟩
 ·exact⟨.slice none 0 0,h,ρ,[],rLR _,.nilslice,R,hf,⟨⟨λl hl=>(by cases hl),.inl ⟨none,0,rfl,rfl⟩⟩,λb hb=>(by cases hb)⟩,λx hx=>(by cases hx),λ_ _=>rfl,lR _⟩
 ·cases hLe:L with
  |nil=>subst hLe;exact⟨.slice (some ⟨0,0,some 0⟩) 0 0,h,ρ,[],rLR _,.empty 0 0 0 a cap hm,R,hf,⟨⟨λl hl=>(by cases hl),.inl ⟨_,0,rfl,rfl⟩⟩,λb hb=>(by cases hb)⟩,λx hx=>(by cases hx),λ_ _=>rfl,lR _⟩
  | cons x xs =>
   rw[←hLe]
   have h0L:0<L.length:=by rw[hLe];exact Nat.succ_pos _
   have q1:=hc 0 0 x _ (by rw[hLe];rfl) rfl
   obtain⟨blk,off,spot⟩:=a
   obtain⟨rfl,arr,et,fz,hh⟩:spot=none∧∃arr et fz,w.heap[blk]?=some (.cells arr et fz):=by
    rw[show Addr.add ⟨blk,off,spot⟩ (0*6+0)=⟨blk,off,spot⟩ by simp[Addr.add]] at q1
    unfold World.cell? at q1
    simp only at q1
    split at q1
    ·rename_i arr et fz hq
     cases spot with
     |none=>exact⟨rfl,arr,et,fz,hq⟩
     |some k=>simp at q1
    ·cases q1
   have hcell:∀k v,w.cell? (Addr.add ⟨blk,off,none⟩ k)=some v→arr[off+k]?=some v:=λk v hv=>by
    have e:Addr.add ⟨blk,off,none⟩ k=⟨blk,off+k,none⟩:=by
     by_cases h:k=0
     ·subst h;simp[Addr.add]
     ·simp[Addr.add,h]
    rw[e] at hv
    unfold World.cell? at hv
    simp only[hh] at hv
    simpa using hv
   obtain⟨h1,ρ1,M,l1,R1,f1,m1,d1,p1,g1,n1⟩:=AR4 L R hf λx hx=>(hb x hx).1
   let Ls:List (List Value):=M.map λe=>opCs e.1
   have l6:∀l∈Ls,l.length=6:=λl hl=>by
    obtain⟨_,_,rfl⟩:=List.mem_map.1 hl
    rfl
   have lLs:Ls.length=L.length:=by rw[lmQ,m1]
   have h0:Ls ≠ []:=by intro q;rw[q] at lLs;rw[←lLs] at h0L;cases h0L
   let cs:List Value:=Ls.flatten
   have hcells:∀i v,(ofList cs).get i=some v→∃v',arr[off+i]?=some v'∧VR ρ1 v v':=λi v hv=>by
    rw[C_q] at hv
    have hk:i=i/6*6+i%6:=by omega
    have hj:i%6<6:=Nat.mod_lt _ (by omega)
    have g:=Q_g l6 (i/6) (i%6) hj
    rw[←hk] at g
    have hv:Ls.flatten[i]?=some v:=hv
    rw[g] at hv
    cases hM:M[i/6]? with
    |none=>
     have:Ls[i/6]?=none:=by rw[List.getElem?_map,hM];rfl
     rw[this] at hv;cases hv
    | some e =>
     have:Ls[i/6]?=some (opCs e.1):=by rw[List.getElem?_map,hM];rfl
     rw[this] at hv
     have hv:(opCs e.1)[i%6]?=some v:=hv
     have il:i/6<L.length:=by rw[←m1];exact(geI.1 hM).1
     obtain⟨r1,r2⟩:=p1 (i/6) L[i/6] e (gqG il) hM
     have cl:∀v',(opCs L[i/6])[i%6]?=some v'→arr[off+i]?=some v':=λv' hv'=>by
      have:=hcell _ _ (hc (i/6) (i%6) _ v' (gqG il) hv')
      rw[←hk] at this
      exact this
     rw[r2] at hv
     generalize i%6=j at hj hv cl
     match j,hj with
     |0,_=>injection hv with hv;subst hv;exact⟨_,cl _ rfl,.int _ _⟩
     |1,_=>injection hv with hv;subst hv;exact⟨_,cl _ rfl,.string _⟩
     |2,_=>injection hv with hv;subst hv;exact⟨_,cl _ rfl,.string _⟩
     |3,_=>injection hv with hv;subst hv;exact⟨_,cl _ rfl,.int _ _⟩
     |4,_=>injection hv with hv;subst hv;exact⟨_,cl _ rfl,.int _ _⟩
     |5,_=>injection hv with hv;subst hv;exact⟨_,cl _ rfl,r1⟩
   have hget:∀id,(h1.hp.set h1.nx (some (Blk.row (ofList cs) 0 et 0 false false))).get id=if h1.nx=id then some (Blk.row (ofList cs) 0 et 0 false false) else h1.hp.get id:=λid=>tgS _ _ _ _
   have rd:RdSl ⟨h1.hp.set h1.nx (some (.row (ofList cs) 0 et 0 false false)),h1.nx+1,h1.nx+1⟩ (.slice (some ⟨h1.nx,0,none⟩) L.length L.length) 6 Ls:=by
    refine⟨l6,.inr ⟨h1.nx,0,_,ofList cs,0,et,0,false,false,by rw[lLs],by rw[lLs];exact lR _,by rw[show (⟨h1.hp.set h1.nx (some (.row (ofList cs) 0 et 0 false false)),h1.nx+1,h1.nx+1⟩:Hs).hp.get h1.nx=_ from hget h1.nx,if_pos rfl],.inl rfl,λi j l hl hj=>?_⟩⟩
    rw[zaQ,C_q]
    show Ls.flatten[i*6+j]?=_
    rw[Q_g l6 i j hj,hl]
    rfl
   have le2:ρ1.le (ρ1.add h1.nx ⟨blk,off,arr.size,0,none⟩):=λid X e=>by
    by_cases hid:id=h1.nx
    ·subst hid;rw[R1.dom _ (lR _)] at e;cases e
    ·rw[rAO _ _ hid];exact e
   have old:∀id,id<h1.nx→(⟨h1.hp.set h1.nx (some (.row (ofList cs) 0 et 0 false false)),h1.nx+1,h1.nx+1⟩:Hs).hp.get id=h1.hp.get id:=λid hid=>by
    show (h1.hp.set h1.nx (some (Blk.row (ofList cs) 0 et 0 false false))).get id=_
    rw[hget,if_neg (by omega)]
   refine⟨.slice (some ⟨h1.nx,0,none⟩) L.length L.length,⟨h1.hp.set h1.nx (some (.row (ofList cs) 0 et 0 false false)),h1.nx+1,h1.nx+1⟩,ρ1.add h1.nx ⟨blk,off,arr.size,0,none⟩,M,λid X e=>le2 _ _ (l1 _ _ e),?_,?_,?_,⟨rd,?_⟩,λe he=>?_,λid hid=>(old id (llN hid n1)).trans (g1 id hid),Nat.le_succ_of_le n1⟩
   ·exact .slice h1.nx 0 _ _ cap ⟨blk,off,arr.size,0,none⟩ (rAS _ _ _) (lR _) hl hm (.inl rfl)
   ·refine⟨R1.base,λid hid=>?_,λid b hb=>?_,λid id' b b' X X' hb hb' hne hr _ _=>?_⟩
    ·have hid:h1.nx+1≤id:=hid
     rw[rAO _ _ (by omega)]
     exact R1.dom id (by omega)
    ·replace hb:(h1.hp.set h1.nx (some (Blk.row (ofList cs) 0 et 0 false false))).get id=some b:=hb
     rw[hget] at hb
     by_cases e:h1.nx=id
     ·rw[if_pos e] at hb
      injection hb with hb
      subst hb;subst e
      exact⟨⟨blk,off,arr.size,0,none⟩,arr,fz,rAS _ _ _,rfl,hh,rfl,λi v hv=>by obtain⟨v',r1,r2⟩:=hcells i v hv;exact⟨v',r1,VR.mono le2 r2⟩,(λe=>by cases e),(λe=>by cases e)⟩
     ·rw[if_neg e] at hb
      refine(R1.has id b hb).mono le2 λX e2=>rfl
    ·replace hb:(h1.hp.set h1.nx (some (Blk.row (ofList cs) 0 et 0 false false))).get id=some b:=hb
     rw[hget] at hb
     by_cases e:h1.nx=id
     ·rw[if_pos e] at hb
      injection hb with hb
      subst hb;cases hr
     ·rw[if_neg e] at hb
      rw[f1 id b hb] at hr;cases hr
   ·intro id b hb
    replace hb:(h1.hp.set h1.nx (some (Blk.row (ofList cs) 0 et 0 false false))).get id=some b:=hb
    rw[hget] at hb
    by_cases e:h1.nx=id
    ·rw[if_pos e] at hb;injection hb with hb;subst hb;rfl
    ·rw[if_neg e] at hb;exact f1 id b hb
   ·intro b hb
    have:∀(Q:List (List Value)),Q ≠ []→Th.id (.rsl (.slice (some ⟨h1.nx,0,none⟩) L.length L.length) 6 Q)=some b→h1.nx=b:=λQ q z=>by
     cases Q with
     |nil=>exact absurd rfl q
     |cons y ys=>injection z
    have:=this Ls h0 hb
    subst this
    exact Nat.lt_succ_self _
   ·obtain⟨i,hi⟩:=List.mem_iff_getElem?.1 he
    have il:i<L.length:=by rw[←m1];exact(geI.1 hi).1
    obtain⟨_,r2⟩:=p1 i L[i] e (gqG il) hi
    have:=hb L[i] (List.getElem_mem il)
    refine⟨(d1 e he).grow (Nat.le_succ _) old,?_,?_⟩
    ·rw[r2];exact this.2.1
    ·rw[r2];exact this.2.2
end Go.Gev
