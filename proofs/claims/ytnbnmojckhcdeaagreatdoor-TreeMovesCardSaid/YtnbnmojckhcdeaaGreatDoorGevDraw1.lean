import Derived.Test.YtnbnmojckhcdeaaGreatDoorGevRuns
namespace Go.Gev
open Go.RowKit
def K_0{α:Type}(V:Nat→α):Nat→List α
 |0=>[]
 |i+1=>V i::K_0 V i
theorem a_j{α:Type}(V:Nat→α):∀i,K_0 V (i+1)=K_0 (λj=>V (j+1)) i ++ [V 0]:=by
 intro i
 induction i with
 |zero=>rfl
 |succ i ih=>rw[K_0,ih,K_0,caQ]
theorem y_y{α:Type}(V:Nat→α):∀i,(K_0 V i).reverse=(List.range i).map V:=by
 intro i
 induction i with
 |zero=>rfl
 |succ i ih=>rw[K_0,List.reverse_cons,ih,List.range_succ,List.map_append];rfl
theorem Aj9(m:Nat):∀i,lmOf m i=K_0 (λj=>Nat.testBit m j) i:=by
 intro i
 induction i with
 |zero=>rfl
 |succ i ih=>rw[lmOf,K_0,ih]
theorem An1{U:Nat→Value}:∀{i j:Nat},j<i→nthL (ixOf (i-j-1)) (K_0 U i)=U j:=by
 intro i
 induction i with
 |zero=>intro j h;omega
 | succ i ih =>
  intro j h
  rw[K_0]
  by_cases e:j=i
  ·subst e
   rw[show j+1-j-1=0 from by omega,ixOf,AO9]
  ·rw[show i+1-j-1=(i-j-1)+1 from by omega,ixOf,t_p]
   exact ih (by omega)
section
variable {P:Program} {R:Rn}
theorem v_t{en:En}{h:Hs}{K:Value→Hs→Option Out}{op:GOp}{out:Out}(he:doOp R en h K op=some out) :
 ∃v h1,doOp R en h (λv h=>some (.val v h)) op=some (.val v h1)∧K v h1=some out:=by
 have onVal:∀o:Option Out,U_m K o=some out→∃v h1,U_m (λv h=>some (.val v h)) o=some (.val v h1)∧K v h1=some out:=λo ho=>by
  cases o with
  |none=>cases ho
  |some x=>cases x with
   |fin e fr h2=>cases ho
   |val v h2=>exact⟨v,h2,rfl,ho⟩
 cases op with
 |fn g=>
  simp only[doOp] at he ⊢
  cases hg:g en h with
  |none=>rw[hg] at he;cases he
  |some p=>rw[hg] at he;exact⟨p.1,p.2,rfl,he⟩
 |call f args=>exact onVal _ he
 |callv f args=>exact onVal _ he
def DRec(R:Rn)(fr:Fr)(h0:Hs)(d:DOper)(loc:List Value)(hist:List (Nat × Nat))(h:Hs)(v:Value)(h':Hs):Prop:=
 (goes ⟨fr,loc⟩ d.guard=some false∧v=undef'∧h'=h) ∨
 (goes ⟨fr,loc⟩ d.guard=some true∧∃h1,doOp R ⟨fr,loc⟩ (d_w fr h0 d hist h) (λv h=>some (.val v h)) d.op=some (.val v h1) ∧
  k_z fr h h1 d=true∧h'=F_u h h1 d.kind)
theorem k_5{fr:Fr}{h0:Hs}{loc:List Value}{hist:List (Nat × Nat)}{h:Hs}{d:DOper}{K:Value→Hs→Option Out}{out:Out}(he:o_n R fr h0 loc hist h d K=some out) :
 ∃v h',DRec R fr h0 d loc hist h v h'∧K v h'=some out:=by
 unfold o_n at he
 cases hg:goes ⟨fr,loc⟩ d.guard with
 |none=>rw[hg] at he;cases he
 | some b =>
  rw[hg] at he
  cases b with
  |false=>exact⟨undef',h,.inl ⟨hg,rfl,rfl⟩,he⟩
  |true=>
   simp only[dGo] at he
   obtain⟨v,h1,e1,e2⟩:=v_t he
   cases hf:k_z fr h h1 d with
   |false=>rw[hf] at e2;cases e2
   |true=>rw[hf] at e2;exact⟨v,F_u h h1 d.kind,.inr ⟨hg,h1,e1,hf,rfl⟩,e2⟩
theorem X_7(fr:Fr)(h0:Hs)(K:List Value→Hs→Option Out)(o:DOper)(rest:List DOper)(loc:List Value)(hist:List (Nat × Nat))(h:Hs) :
 runD R fr h0 K (o::rest) loc hist h=o_n R fr h0 loc hist h o (λv h'=>runD R fr h0 K rest (v::loc) ((h.nx,h'.nx)::hist) h'):=rfl
def rng(H:Nat→Hs):Nat→Nat × Nat:=λi=>((H i).nx,(H (i+1)).nx)
theorem AJ0{fr:Fr}{h0:Hs}{K:List Value→Hs→Option Out}{out:Out}:∀(ops:List DOper)(loc:List Value)(hist:List (Nat × Nat))(h:Hs),runD R fr h0 K ops loc hist h=some out →
 ∃(V:Nat→Value) (H:Nat→Hs),H 0=h∧(∀i d,ops[i]?=some d→DRec R fr h0 d (K_0 V i++loc) (K_0 (rng H) i++hist) (H i) (V i) (H (i+1)))∧K (K_0 V ops.length++loc) (H ops.length)=some out:=by
 intro ops
 induction ops with
 |nil=>intro loc hist h hr;exact⟨λ_=>dunno,λ_=>h,rfl,(λi d hd=>by simp at hd),hr⟩
 | cons o rest ih =>
  intro loc hist h hr
  rw[X_7] at hr
  obtain⟨v,h',e1,e2⟩:=k_5 hr
  obtain⟨V,H,hz,hs,hk⟩:=ih _ _ _ e2
  let V1:Nat→Value:=λi=>match i with|0=>v|i+1=>V i
  let H1:Nat→Hs:=λi=>match i with|0=>h|i+1=>H i
  have hV:∀i,K_0 V1 (i+1)++loc=K_0 V i++(v::loc):=λi=>by
   rw[a_j]
   show K_0 V i ++ [v]++loc=_
   rw[List.append_assoc];rfl
  have hH:∀i,K_0 (rng H1) (i+1)++hist=K_0 (rng H) i++((h.nx,h'.nx)::hist):=λi=>by
   rw[a_j]
   show K_0 (rng H) i ++ [(h.nx,(H 0).nx)]++hist=_
   rw[List.append_assoc,hz];rfl
  refine⟨V1,H1,rfl,λi d hd=>?_,?_⟩
  ·cases i with
   |zero=>
    simp only[gcZ,sjE] at hd
    subst hd
    show DRec R fr h0 o loc hist h v (H 0)
    rw[hz];exact e1
   |succ i=>
    simp only[List.getElem?_cons_succ] at hd
    rw[hV,hH]
    exact hs i d hd
  ·rw[lcQ,hV];exact hk
theorem q_l {sl : List Nat} {t : Nat} {p : List Bool} (hp : slot sl t = some p) : ∀ (os : List Oper) (vs : List Value) (fr : Fr), os.length = vs.length →
 (∃(j:Nat) (o:Oper) (v:Value),os[j]?=some o∧o.dst=some t∧vs[j]?=some v∧(putAll (Z_x sl os) vs fr).getp p=some v)∨((∀o∈os,o.dst≠some t)∧(putAll (Z_x sl os) vs fr).getp p=fr.getp p):=by
 intro os
 induction os with
 |nil=>intro vs fr _;exact .inr ⟨by simp,rfl⟩
 | cons o os ih =>
  intro vs fr hl
  cases vs with
  |nil=>simp at hl
  | cons v vs =>
   rw[Z_x,putAll]
   rcases ih vs (put (match o.dst with|none=>none|some t=>slot sl t) v fr) (by simpa using hl) with⟨j,o',v',h1,h2,h3,h4⟩|⟨h1,h2⟩
   ·exact .inl ⟨j+1,o',v',by simpa using h1,h2,by simpa using h3,h4⟩
   ·by_cases hd:o.dst=some t
    ·refine .inl ⟨0,o,v,rfl,hd,rfl,?_⟩
     refine h2.trans ?_
     simp only[hd,hp,put]
     rw[Tr.getp_setp,if_pos rfl]
    ·refine .inr ⟨λo' ho'=>?_,?_⟩
     ·rcases mcQ.1 ho' with rfl|ho'
      ·exact hd
      ·exact h1 o' ho'
     ·refine h2.trans ?_
      cases hx:o.dst with
      |none=>rfl
      | some d =>
       simp only
       cases hs:slot sl d with
       |none=>rfl
       |some q=>
        simp only[put]
        rw[Tr.getp_setp,if_neg (λe=>hd (by rw[hx,Z_9 hs hp e]))]
theorem l_8:∀(n i:Nat)(t:Tr Blk)(id:Nat)(b:Blk),(W_j n i t).get id=some b→t.get id=some b∧¬(i≤id∧id<i+n):=by
 intro n
 induction n with
 |zero=>intro i t id b h;exact⟨h,by omega⟩
 |succ n ih=>
  intro i t id b h
  rw[W_j] at h
  obtain⟨h1,h2⟩:=ih _ _ _ _ h
  rw[tgS] at h1
  split at h1
  ·cases h1
  ·exact⟨h1,by omega⟩
theorem v_5{b:Nat→Bool}{r:Nat→Nat × Nat}{t:Tr Blk}{id:Nat}{x:Blk}:∀{i:Nat},(X_t (K_0 b i) (K_0 r i) t).get id=some x→t.get id=some x∧∀j,j<i→(r j).1≤id→id<(r j).2→b j=true:=by
 intro i
 induction i with
 |zero=>intro h;exact⟨h,λj hj=>by omega⟩
 | succ i ih =>
  intro h
  rw[K_0,K_0] at h
  unfold X_t at h
  simp only at h
  cases hb:b i with
  |true=>
   rw[hb] at h
   obtain⟨h1,h2⟩:=ih h
   refine⟨h1,λj hj a c=>?_⟩
   by_cases e:j=i
   ·subst e;exact hb
   ·exact h2 j (by omega) a c
  | false =>
   rw[hb] at h
   obtain⟨h0,h3⟩:=l_8 _ _ _ _ _ h
   obtain⟨h1,h2⟩:=ih h0
   refine⟨h1,λj hj a c=>?_⟩
   by_cases e:j=i
   ·subst e
    have h4:¬((r j).1≤id∧id<(r j).1+((r j).2-(r j).1)):=h3
    omega
   ·exact h2 j (by omega) a c
theorem M_p{src:Tr Blk}:∀(n i:Nat)(t:Tr Blk)(id:Nat),(S_n src n i t).get id=if i≤id∧id<i+n then src.get id else t.get id:=by
 intro n
 induction n with
 |zero=>intro i t id;rw[S_n,if_neg (by omega)]
 | succ n ih =>
  intro i t id
  rw[S_n,ih,tgS]
  by_cases h1:i=id
  ·subst h1;rw[if_neg (by omega),if_pos rfl,if_pos (by omega)]
  ·by_cases h2:i≤id∧id<i+(n+1)
   ·rw[if_pos h2,if_pos (by simp only[Nat.succ_eq_add_one];omega)]
   ·rw[if_neg h2,if_neg (by simp only[Nat.succ_eq_add_one];omega),if_neg h1]
theorem y_1{ms:List Nat}{x:Nat}:∀{es:List Nat},(j_6 ms es).testBit x=true→∃e,e∈es∧(x=e∨(nthN ms e).testBit x=true):=by
 intro es
 induction es with
 |nil=>intro h;simp[j_6] at h
 | cons e es ih =>
  intro h
  have h':((2^e|||nthN ms e)|||j_6 ms es).testBit x=true:=h
  rw[Nat.testBit_or,Nat.testBit_or,Bool.or_eq_true,Bool.or_eq_true] at h'
  rcases h' with(h'|h')|h'
  ·rw[Nat.testBit_two_pow] at h'
   exact⟨e,mcS,.inl (of_decide_eq_true h').symm⟩
  ·exact⟨e,mcS,.inr h'⟩
  ·obtain⟨e',h1,h2⟩:=ih h'
   exact⟨e',mcM _ h1,h2⟩
theorem An2:∀(ms:List Nat)(i:Nat),nthN ms i=ms.getD i 0:=by
 intro ms
 induction ms with
 |nil=>intro i;simp[nthN]
 |cons m ms ih=>intro i;cases i with
  |zero=>rfl
  |succ i=>rw[nthN];simp only[ih];rfl
theorem y_2:∀(os:List Oper)(ms0 ms:List Nat),befs os ms0.length ms0=some ms→ms.length=ms0.length+os.length∧(∀k,k<ms0.length→ms.getD k 0=ms0.getD k 0) ∧
 ∀k o,os[k]?=some o→(∀e∈L_u o.after.toList,e<ms0.length+k)∧∀x,(ms.getD (ms0.length+k) 0).testBit x=true→∃e,e∈L_u o.after.toList∧(x=e∨(ms.getD e 0).testBit x=true):=by
 intro os
 induction os with
 |nil=>
  intro ms0 ms h
  simp only[befs,sjE] at h
  subst h
  exact⟨rfl,λ_ _=>rfl,λk o hk=>by simp at hk⟩
 | cons o os ih =>
  intro ms0 ms h
  rw[befs] at h
  cases ha:d_u ms0.length (L_u o.after.toList) with
  |false=>rw[ha] at h;cases h
  | true =>
   rw[ha] at h
   simp only at h
   have hlen:(ms0 ++ [j_6 ms0 (L_u o.after.toList)]).length=ms0.length.succ:=by simp
   rw[←hlen] at h
   obtain⟨h1,h2,h3⟩:=ih _ _ h
   rw[hlen] at h1 h2 h3
   have hpre:∀k,k<ms0.length→ms.getD k 0=ms0.getD k 0:=λk hk=>by
    rw[h2 k (by omega)]
    simp[gaL hk]
   refine⟨by rw[h1];simp;omega,hpre,λk o' hk=>?_⟩
   cases k with
   |zero=>
    simp only[gcZ,sjE] at hk
    subst hk
    refine⟨λe he=>by rw[Nat.add_zero];exact W_7 ha e he,λx hx=>?_⟩
    rw[Nat.add_zero,h2 _ (by omega)] at hx
    have:(ms0 ++ [j_6 ms0 (L_u o.after.toList)]).getD ms0.length 0=j_6 ms0 (L_u o.after.toList):=by simp
    rw[this] at hx
    obtain⟨e,q1,q2⟩:=y_1 hx
    refine⟨e,q1,q2.imp id λq=>?_⟩
    rw[An2] at q
    rw[hpre e (W_7 ha e q1)]
    exact q
   |succ k=>
    simp only[List.getElem?_cons_succ] at hk
    have:=h3 k o' hk
    rw[show ms0.length.succ+k=ms0.length+(k+1) from by omega] at this
    exact this
theorem o_r{listed:Array Bool}:∀{es:List Edge},(∀e∈es,!Region.binds .any e||listed.getD e.on false)→∀x∈L_u es,listed.getD x false=true:=by
 intro es
 induction es with
 |nil=>intro _ x hx;simp[L_u] at hx
 | cons e es ih =>
  intro h x hx
  rw[L_u] at hx
  have h2:∀e'∈es,!Region.binds .any e'||listed.getD e'.on false:=λe' he'=>h e' (mcM _ he')
  cases hb:Region.binds .any e with
  |false=>rw[hb] at hx;exact ih h2 x hx
  | true =>
   rw[hb] at hx
   rcases mcQ.1 hx with rfl|hx
   ·have:=h e mcS
    rw[hb] at this
    simpa using this
   ·exact ih h2 x hx
theorem q_m{listed:Array Bool}:∀{es:List Edge},(∀x∈L_u es,listed.getD x false=true)→∀e∈es,(!Region.binds .any e||listed.getD e.on false)=true:=by
 intro es
 induction es with
 |nil=>intro _ e he;simp at he
 | cons e es ih =>
  intro h e' he'
  rw[L_u] at h
  cases hb:Region.binds .any e with
  |false=>
   rw[hb] at h
   rcases mcQ.1 he' with rfl|he'
   ·rw[hb];rfl
   ·exact ih h e' he'
  |true=>
   rw[hb] at h
   rcases mcQ.1 he' with rfl|he'
   ·rw[h e'.on mcS];simp
   ·exact ih (λx hx=>h x (mcM _ hx)) e' he'
theorem u_t{lw:Option LW}:∀(os:List Oper)(i:Nat),(blinds lw os)[i]?=(os[i]?).map λo=>off lw o.op:=by
 intro os
 induction os with
 |nil=>intro i;simp[blinds]
 |cons o os ih=>intro i;cases i with
  |zero=>rfl
  |succ i=>rw[blinds];simpa using ih i
theorem p_b {ones x : Nat} : ∀ {bs : List Bool} {ms : List Nat} {k r : Nat}, (inters ones bs ms)[k]? = some r → ∀ (j m : Nat), k < j → bs[j]? = some false → ms[j]? = some m → r.testBit x = true → m.testBit x = true := by
 intro bs
 induction bs with
 |nil=>intro ms k r h;simp[inters] at h
 | cons b bs ih =>
  intro ms k r h j m hkj hb hm hr
  cases ms with
  |nil=>simp at hm
  | cons m0 ms =>
   rw[inters] at h
   obtain⟨j,rfl⟩:∃j',j=j'+1:=⟨j-1,by omega⟩
   simp only[List.getElem?_cons_succ] at hb hm
   cases k with
   |succ k=>
    simp only[List.getElem?_cons_succ] at h
    exact ih h j m (by omega) hb hm hr
   | zero =>
    simp only[gcZ,sjE] at h
    subst h
    cases bs with
    |nil=>simp at hb
    | cons b1 bs =>
     cases ms with
     |nil=>simp at hm
     | cons m1 ms =>
      have h1:(inters ones (b1::bs) (m1::ms))[0]?=some (p_v ones bs ms (inters ones bs ms)):=by rw[inters];rfl
      have hn:p_v ones (b1::bs) (m1::ms) (inters ones (b1::bs) (m1::ms))=if b1=true then p_v ones bs ms (inters ones bs ms) else Nat.land m1 (p_v ones bs ms (inters ones bs ms)):=by rw[inters];cases b1<;>rfl
      rw[hn] at hr
      have hboth:(p_v ones bs ms (inters ones bs ms)).testBit x=true∧(b1=false→m1.testBit x=true):=by
       cases b1 with
       |true=>exact⟨hr,λe=>by cases e⟩
       |false=>
        have hr':(m1&&&p_v ones bs ms (inters ones bs ms)).testBit x=true:=hr
        rw[Nat.testBit_and,Bool.and_eq_true] at hr'
        exact⟨hr'.2,λ_=>hr'.1⟩
      cases j with
      |zero=>
       simp only[gcZ,sjE] at hb hm
       subst hm
       exact hboth.2 hb
      |succ j=>exact ih h1 (j+1) m (by omega) hb hm hboth.1
theorem v_8{ones:Nat}:∀{bs:List Bool}{ms:List Nat},ms.length=bs.length→(inters ones bs ms).length=bs.length:=by
 intro bs
 induction bs with
 |nil=>intro ms _;rfl
 |cons b bs ih=>
  intro ms h
  cases ms with
  |nil=>simp at h
  |cons m ms=>rw[inters,lcQ,ih (by simpa using h),lcQ]
theorem u_u{lw:Option LW}:∀(os:List Oper),(blinds lw os).length=os.length:=by
 intro os
 induction os with
 |nil=>rfl
 |cons o os ih=>rw[blinds,lcQ,ih,lcQ]
theorem U_n{b mk:Bool}{nb r m i:Nat}:kindOf b mk nb r m i=.blind↔b=true:=by
 unfold kindOf
 cases b with
 |true=>simp
 | false =>
  cases mk with
  |true=>simp
  |false=>
   simp only
   cases Nat.beq (Nat.land m nb) nb with
   |true=>cases Nat.testBit r i<;>simp
   |false=>simp
theorem p_k{b mk:Bool}{nb r m i:Nat}(h:kindOf b mk nb r m i≠.make)(hb:b=false):mk=false:=by
 subst hb
 cases mk with
 |true=>exact absurd rfl h
 |false=>rfl
theorem f_k{b mk:Bool}{nb r m i:Nat}(h:kindOf b mk nb r m i=.bar):b=false∧(∀j,nb.testBit j=true→m.testBit j=true)∧r.testBit i=true:=by
 unfold kindOf at h
 cases b with
 |true=>cases h
 | false =>
  cases mk with
  |true=>cases h
  |false=>
  simp only at h
  cases hm:Nat.beq (Nat.land m nb) nb with
  |false=>rw[hm] at h;cases h
  | true =>
   rw[hm] at h
   cases hr:Nat.testBit r i with
   |false=>simp only[hr] at h;cases h
   |true=>
    refine⟨rfl,λj hj=>?_,rfl⟩
    have he:m&&&nb=nb:=ebT hm
    rw[←he,Nat.testBit_and] at hj
    simp only[Bool.and_eq_true] at hj
    exact hj.1
theorem x_u{t:Nat}:∀{ds:List (Option Nat)}{i j:Nat},posOf t ds i=some j→∃k,j=i+k∧ds[k]?=some (some t):=by
 intro ds
 induction ds with
 |nil=>intro i j h;cases h
 | cons d ds ih =>
  intro i j h
  cases d with
  |none=>
   rw[posOf] at h
   obtain⟨k,h1,h2⟩:=ih h
   exact⟨k+1,by omega,by simpa using h2⟩
  | some x =>
   rw[posOf] at h
   cases hb:Nat.beq x t with
   |true=>rw[hb] at h;injection h with h;exact⟨0,by omega,by rw[ebT hb];rfl⟩
   |false=>
    rw[hb] at h
    obtain⟨k,h1,h2⟩:=ih h
    exact⟨k+1,by omega,by simpa using h2⟩
theorem x_t{t:Nat}:∀{ds:List (Option Nat)}{i:Nat},posOf t ds i=none→∀k:Nat,ds[k]?≠some (some t):=by
 intro ds
 induction ds with
 |nil=>intro i _ k h;simp at h
 | cons d ds ih =>
  intro i h k hk
  cases d with
  |none=>
   rw[posOf] at h
   cases k with
   |zero=>simp at hk
   |succ k=>exact ih h k (by simpa using hk)
  | some x =>
   rw[posOf] at h
   cases hb:Nat.beq x t with
   |true=>rw[hb] at h;cases h
   |false=>
    rw[hb] at h
    cases k with
    |zero=>simp at hk;subst hk;rw[Nat.beq_refl] at hb;cases hb
    |succ k=>exact ih h k (by simpa using hk)
theorem Ab6{N:Nat}:∀(os:List Oper)(k:Nat),(V_v N os)[k]?=(os[k]?).map (O_z N):=by
 intro os
 induction os with
 |nil=>intro k;simp[V_v]
 |cons o os ih=>intro k;cases k with
  |zero=>rfl
  |succ k=>rw[V_v];simpa using ih k
theorem v_v{lw:Option LW}{sl:List Nat}{ops:Array Oper}{ds:List (Option Nat)}{all:List Nat}:∀(os:List Oper)(ms rs:List Nat)(i nb:Nat),ms.length=os.length→rs.length=os.length→(dopers P lw sl ops ds all os ms rs i nb).length=os.length:=by
 intro os
 induction os with
 |nil=>intro ms rs i nb _ _;rfl
 | cons o os ih =>
  intro ms rs i nb h1 h2
  cases ms with
  |nil=>simp at h1
  |cons m ms=>cases rs with
   |nil=>simp at h2
   |cons r rs=>rw[dopers];simp only[lcQ,ih ms rs _ _ (by simpa using h1) (by simpa using h2)]
theorem p_t{b:Bool}{i nb x:Nat}(h:nb.testBit x=true):(Z_j b i nb).testBit x=true:=by
 cases b with
 |true=>exact h
 |false=>
  show (nb|||2^i).testBit x=true
  rw[Nat.testBit_or,h];rfl
theorem p_u{i nb:Nat}:(Z_j false i nb).testBit i=true:=by
 show (nb|||2^i).testBit i=true
 rw[Nat.testBit_or,Nat.testBit_two_pow_self];simp
theorem v_u{lw:Option LW}{sl:List Nat}{ops:Array Oper}{ds:List (Option Nat)}{all:List Nat}:∀(os:List Oper)(ms rs:List Nat)(i nb k:Nat)(o:Oper)(m r:Nat),os[k]?=some o→ms[k]?=some m→rs[k]?=some r →
 ∃nb',(dopers P lw sl ops ds all os ms rs i nb)[k]?=some ⟨gop P ⟨N_q sl ds all (i+k) m⟩ o,(goper P ⟨N_q sl ds all (i+k) m⟩ sl ops o).guard,kindOf (bld lw o.op) (mkOp o.op) nb' r m (i+k),lmIf m (i+k) (kindOf (bld lw o.op) (mkOp o.op) nb' r m (i+k)),lw,b_d lw o.op⟩ ∧
  (∀x,nb.testBit x=true→nb'.testBit x=true)∧∀(j:Nat)(o':Oper),j<k→os[j]?=some o'→bld lw o'.op=false→nb'.testBit (i+j)=true:=by
 intro os
 induction os with
 |nil=>intro ms rs i nb k o m r h;simp at h
 | cons o os ih =>
  intro ms rs i nb k o' m' r' h1 h2 h3
  cases ms with
  |nil=>simp at h2
  | cons m ms => cases rs with
   |nil=>simp at h3
   | cons r rs =>
    rw[dopers]
    cases k with
    |zero=>
     simp only[gcZ,sjE] at h1 h2 h3
     subst h1;subst h2;subst h3
     exact⟨nb,rfl,λ_ h=>h,λj _ hj=>by omega⟩
    | succ k =>
     simp only[List.getElem?_cons_succ] at h1 h2 h3 ⊢
     obtain⟨nb',q1,q2,q3⟩:=ih ms rs (Nat.succ i) (Z_j (bld lw o.op) i nb) k o' m' r' h1 h2 h3
     rw[show Nat.succ i+k=i+(k+1) from by omega] at q1
     refine⟨nb',q1,λx hx=>q2 x (p_t hx),λj o2 hj hjo hb=>?_⟩
     cases j with
     |zero=>
      simp only[gcZ,sjE] at hjo
      subst hjo
      refine q2 _ ?_
      rw[hb];exact p_u
     |succ j=>
      have:=q3 j o2 (by omega) (by simpa using hjo) hb
      rw[show Nat.succ i+j=i+(j+1) from by omega] at this
      exact this
end
end Go.Gev
