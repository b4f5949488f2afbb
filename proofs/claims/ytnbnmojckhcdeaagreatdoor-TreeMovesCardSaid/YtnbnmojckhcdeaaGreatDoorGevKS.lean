import Derived.Test.YtnbnmojckhcdeaaGreatDoorGevKR
namespace Go.Gev
open Go.RowKit
section
variable {P:Program} {R:RnK}
theorem X_m (h:∀(f:FuncId)(args:List Value)(args':Array Value)(v:Value)(h h':Hs)(B:Nat)(ρ:Ren)(w:World),R f args h=some (.val v h')→VL ρ args args'.toList→HR B ρ h w →
 Calls P f args' w (λe w'=>∃v' ρ',e=.returned v'∧VR ρ' v v'∧St B ρ h w ρ' h' w')):Good P (toRn R):=
 ⟨(λ_ _ _ _ _ _ _ _ _ _ _ _ hh=>by cases hh),(λ_ _ _ _ _ _ _ _ hh=>by cases hh),λf args args' v h0 h' B ρ w hr hl Rl=>h f args args' v h0 h' B ρ w hr hl Rl⟩
theorem AV5{want:Bool}{v:Value}{h:Hs}{f:KV→An}{K:KV}{o:Out}(hh:(Bool.rec (motive:=λ_=>An) (gdF v h f K) (gdT v h f K) want)=some o) :
 (yes want v=some true∧f K=some o)∨(yes want v=some false∧K undef' h=some o):=by
 cases want with
 | false =>
  cases v<;>try cases hh
  case bool b=>cases b with
   |true=>exact .inr ⟨rfl,hh⟩
   |false=>exact .inl ⟨rfl,hh⟩
  case tuple vs=>
   obtain⟨vs⟩:=vs
   cases vs with
   |nil=>exact .inr ⟨rfl,hh⟩
   |cons a b=>cases hh
 | true =>
  cases v<;>try cases hh
  case bool b=>cases b with
   |true=>exact .inl ⟨rfl,hh⟩
   |false=>exact .inr ⟨rfl,hh⟩
  case tuple vs=>
   obtain⟨vs⟩:=vs
   cases vs with
   |nil=>exact .inr ⟨rfl,hh⟩
   |cons a b=>cases hh
theorem i_b{g:Option (GX × Bool)}{en:En}{h:Hs}{f:KV→An}{K:KV}{o:Out}(hh:gK g en h f K=some o) :
 (goes en g=some true∧f K=some o)∨(goes en g=some false∧K undef' h=some o):=by
 cases g with
 |none=>exact .inl ⟨rfl,hh⟩
 |some p=>exact AV5 hh
theorem Ai0{k:KOp}{g:GOp}(hr:KRel k g){en:En}{h:Hs}{K:KV}{o:Out}(hh:kRun k R en h K=some o):doOp (toRn R) en h K g=some o:=by
 cases k with
 |pure pk=>
  obtain⟨gf,pf,rfl,h1,h2⟩:=hr
  obtain⟨v,hv,hK⟩:=h2 en _ o hh
  show after K (gf en h)=some o
  rw[h1,hv]
  exact hK
 |read rk=>
  obtain⟨gf,rf,rfl,h1,h2⟩:=hr
  obtain⟨v,hv,hK⟩:=h2 en h _ o hh
  show after K (gf en h)=some o
  rw[h1,hv]
  exact hK
 |gen f=>exact hr R en h K o hh K λ_ _ h=>h
def HistR:List (Option (Nat × Nat))→List (Nat × Nat)→Prop
 |[],[]=>True
 |o::os,p::ps=>(match o with|none=>p.1=p.2|some q=>q=p)∧HistR os ps
 |_,_=>False
theorem HistR.cons{o:Option (Nat × Nat)}{p:Nat × Nat}{os:List (Option (Nat × Nat))}{ps:List (Nat × Nat)}(h:match o with|none=>p.1=p.2|some q=>q=p)(t:HistR os ps):HistR (o::os) (p::ps):=⟨h,t⟩
theorem e_9(i:Nat)(t:Tr Blk)(n:Nat)(hn:n=0):W_j n i t=t:=by subst hn;rfl
theorem AE4:∀{hs:List (Option (Nat × Nat))}{ps:List (Nat × Nat)}(bs:List Bool)(t:Tr Blk),HistR hs ps→W_k bs hs t=X_t bs ps t:=by
 intro hs
 induction hs with
 |nil=>intro ps bs t h;cases ps with
  |nil=>cases bs<;>rfl
  |cons p ps=>exact h.elim
 | cons o os ih =>
  intro ps bs t h
  cases ps with
  |nil=>exact h.elim
  | cons p ps =>
   obtain⟨h1,h2⟩:=h
   cases o with
   | none =>
    have h1:p.1=p.2:=h1
    have e:Nat.sub p.2 p.1=0:=by rw[h1];exact Nat.sub_self _
    cases bs with
    |nil=>simp only[W_k,X_t];rw[e_9 _ _ _ e];exact ih [] t h2
    |cons b bs=>cases b with
     |true=>exact ih bs t h2
     |false=>simp only[W_k,X_t,List.tail_cons];rw[e_9 _ _ _ e];exact ih bs t h2
   | some q =>
    have h1:q=p:=h1
    subst h1
    cases bs with
    |nil=>simp only[W_k,X_t];rw[ih [] t h2]
    |cons b bs=>cases b with
     |true=>exact ih bs t h2
     |false=>simp only[W_k,X_t];rw[ih bs t h2]
theorem AB9{hs:List (Option (Nat × Nat))}{ps:List (Nat × Nat)}(k:DK)(lm:List Bool)(h:Hs)(hr:HistR hs ps):R_q k lm hs h=dHid k lm ps h:=by
 cases k with
 |blind=>rfl
 |light=>show (⟨W_k lm hs h.hp,h.nx,h.nx⟩:Hs)=⟨X_t lm ps h.hp,h.nx,h.nx⟩;rw[AE4 lm h.hp hr]
 |bar=>rfl
 |make=>rfl
theorem r_6{fr:Fr}{h0:Hs}{hs:List (Option (Nat × Nat))}{ps:List (Nat × Nat)}(d:DOper)(h:Hs)(hr:HistR hs ps):v_p fr h0 d hs h=d_w fr h0 d ps h:=by
 unfold v_p d_w
 cases d.low with
 |true=>rfl
 |false=>exact AB9 _ _ _ hr
theorem e_n(src:Tr Blk)(i:Nat)(t:Tr Blk)(n:Nat)(hn:n=0):S_n src n i t=t:=by subst hn;rfl
theorem v_r{fr:Fr}{h0:Hs}(d:DOper)(ps:List (Nat × Nat))(h:Hs)(hb:d.low=true→d.kind=.blind)(c1:cutO fr d.lw≤h.lo)(c2:cutO fr d.lw≤h.nx):F_u h (d_w fr h0 d ps h) d.kind=h∧k_z fr h (d_w fr h0 d ps h) d=true:=by
 have hle:∀n:Nat,Nat.ble n n=true:=λn=>btL (lR n)
 obtain⟨op,gd,kind,lm,lw,low⟩:=d
 have two:∀{a b:Bool},a=true→b=true→andB a b=true:=λh1 h2=>by subst h1;subst h2;rfl
 cases low with
 |true=>
  have hk:kind=.blind:=hb rfl
  subst hk
  refine⟨rfl,?_⟩
  show andB (andB (Nat.beq (lowW fr h0 h lw).nx h.nx) (Nat.ble h.nx (lowW fr h0 h lw).lo)) (Nat.ble (cutO fr lw) (lowW fr h0 h lw).lo)=true
  rw[p_n,AY0]
  exact two (two (Nat.beq_refl _) (hle _)) (btL c2)
 | false =>
  cases kind with
  |blind=>exact⟨rfl,two (two (Nat.beq_refl _) (hle _)) (btL c2)⟩
  |light=>
   refine⟨?_,two (two (hle _) (hle _)) (btL c2)⟩
   show (⟨S_n _ (Nat.sub h.nx h.nx) h.nx h.hp,h.nx,h.lo⟩:Hs)=h
   rw[e_n _ _ _ (Nat.sub h.nx h.nx) (Nat.sub_self _)]
  |bar=>exact⟨rfl,two (hle _) (btL c1)⟩
  |make=>
   refine⟨?_,two (two (hle _) (hle _)) (btL c2)⟩
   show (⟨S_n _ (Nat.sub h.nx h.nx) h.nx h.hp,h.nx,h.lo⟩:Hs)=h
   rw[e_n _ _ _ (Nat.sub h.nx h.nx) (Nat.sub_self _)]
theorem v_m{fr:Fr}{d:DOper}{h h1:Hs}(hf:k_z fr h h1 d=true)(c1:cutO fr d.lw≤h.lo)(c2:cutO fr d.lw≤h.nx):cutO fr d.lw≤(F_u h h1 d.kind).lo∧cutO fr d.lw≤(F_u h h1 d.kind).nx:=by
 obtain⟨f1,f2⟩:=andB_true hf
 have f2:=lbT f2
 cases hk:d.kind with
 |blind=>exact⟨c1,c2⟩
 |light=>
  rw[hk] at f1
  exact⟨c1,lTr c2 (lbT (andB_true f1).1)⟩
 |make=>
  rw[hk] at f1
  exact⟨c1,lTr c2 (lbT (andB_true f1).1)⟩
 |bar=>
  rw[hk] at f1
  exact⟨f2,lTr c2 (lbT f1)⟩
def DOk(fr:Fr)(c:Nat)(d:KDOper):Prop:=KRel d.op d.old.op∧(d.old.low=true→d.old.kind=.blind)∧cutO fr d.old.lw=c
theorem AW8(fr:Fr)(h0:Hs)(c:Nat)(K:List Value→Hs→An)(o:Out):∀(ops:List KDOper),(∀d∈ops,DOk fr c d)→∀(loc:List Value)(hs:List (Option (Nat × Nat)))(ps:List (Nat × Nat))(h:Hs),HistR hs ps→c≤h.lo→c≤h.nx →
 kD R fr h0 K ops loc hs h=some o→runD (toRn R) fr h0 K (ops.map (·.old)) loc ps h=some o:=by
 intro ops
 induction ops with
 |nil=>intro _ loc hs ps h _ _ _ hh;exact hh
 | cons d rest ih =>
  intro hrel loc hs ps h hist c1 c2 hh
  have hrest:=ih λd hd=>hrel d (mcM _ hd)
  obtain⟨hd,hbl,hcut⟩:=hrel d mcS
  rw[List.map_cons,X_7]
  unfold o_n
  -- no step of memory
  have pass:∀v,kD R fr h0 K rest (v::loc) (none::hs) h=some o→runD (toRn R) fr h0 K (rest.map (·.old)) (v::loc) ((h.nx,h.nx)::ps) h=some o:=λv hv=>hrest _ (none::hs) _ _ (HistR.cons (o:=none) rfl hist) c1 c2 hv
  obtain⟨k,old⟩:=d
  have hcut:cutO fr old.lw=c:=hcut
  have hbl:old.low=true→old.kind=.blind:=hbl
  have hsame:=v_r (fr:=fr) (h0:=h0) old ps h hbl (by rw[hcut];exact c1) (by rw[hcut];exact c2)
  cases k with
  | pure pk =>
   obtain⟨gf,pf,e,h1,h2⟩:=hd
   have e:old.op=.fn gf:=e
   have hh:gK old.guard ⟨fr,loc⟩ h (λk=>pk ⟨fr,loc⟩ (λv=>k v h)) (λv _=>kD R fr h0 K rest (v::loc) (none::hs) h)=some o:=hh
   rcases i_b hh with⟨hg,hh⟩|⟨hg,hh⟩
   ·rw[hg]
    simp only[dGo]
    rw[e]
    obtain⟨v,hv,hK⟩:=h2 _ _ _ hh
    simp only[doOp]
    rw[h1,hv]
    simp only[ret1,after]
    rw[hsame.1,hsame.2]
    exact pass v hK
   ·rw[hg]
    exact pass _ hh
  | read rk =>
   obtain⟨gf,rf,e,h1,h2⟩:=hd
   have e:old.op=.fn gf:=e
   have hh:gK old.guard ⟨fr,loc⟩ h (λk=>rk ⟨fr,loc⟩ (v_p fr h0 old hs h) (λv=>k v h)) (λv _=>kD R fr h0 K rest (v::loc) (none::hs) h)=some o:=hh
   rcases i_b hh with⟨hg,hh⟩|⟨hg,hh⟩
   ·rw[hg]
    simp only[dGo]
    rw[e]
    obtain⟨v,hv,hK⟩:=h2 _ _ _ _ hh
    rw[r_6 _ _ hist] at hv
    simp only[doOp]
    rw[h1,hv]
    simp only[ret1,after]
    rw[hsame.1,hsame.2]
    exact pass v hK
   ·rw[hg]
    exact pass _ hh
  | gen f =>
   have hd:∀(R:RnK) en h K o,f R en h K=some o→∀K':KV,(∀v h1,K v h1=some o→K' v h1=some o)→doOp (toRn R) en h K' old.op=some o:=hd
   have hh:gK old.guard ⟨fr,loc⟩ h (λk=>f R ⟨fr,loc⟩ (v_p fr h0 old hs h) (λv h1=>dPut k v (F_u h h1 old.kind) (k_z fr h h1 old))) (λv h'=>kD R fr h0 K rest (v::loc) (some (h.nx,h'.nx)::hs) h')=some o:=hh
   rcases i_b hh with⟨hg,hh⟩|⟨hg,hh⟩
   ·rw[hg]
    simp only[dGo]
    rw[r_6 _ _ hist] at hh
    refine hd R _ _ _ o hh _ λv h1 hv=>?_
    cases hf:k_z fr h h1 old with
    |false=>rw[hf] at hv;cases hv
    |true=>
     rw[hf] at hv
     obtain⟨n1,n2⟩:=v_m hf (by rw[hcut];exact c1) (by rw[hcut];exact c2)
     rw[hcut] at n1 n2
     exact hrest _ (some _::hs) _ _ (HistR.cons (o:=some _) rfl hist) n1 n2 hv
   ·rw[hg]
    exact hrest _ (some _::hs) _ _ (HistR.cons (o:=some _) rfl hist) c1 c2 hh
theorem p_j{lw:Option LW}{fr:Fr}{sl:List Nat}{ops:Array Oper}{ds:List (Option Nat)}{all:List Nat}:∀(os:List Oper)(ms rs:List Nat)(i nb:Nat),
 (kdopers P lw sl ops ds all os ms rs i nb).map (·.old)=dopers P lw sl ops ds all os ms rs i nb∧∀d∈kdopers P lw sl ops ds all os ms rs i nb,DOk fr (cutO fr lw) d:=by
 intro os
 induction os with
 |nil=>intro ms rs i nb;exact⟨rfl,λd hd=>by cases hd⟩
 | cons o os ih =>
  intro ms rs i nb
  cases ms with
  |nil=>exact⟨rfl,λd hd=>by cases hd⟩
  | cons m ms => cases rs with
   |nil=>exact⟨rfl,λd hd=>by cases hd⟩
   | cons r rs =>
    simp only[kdopers,dopers,List.map_cons]
    obtain⟨h1,h2⟩:=ih ms rs i.succ (Z_j (bld lw o.op) i nb)
    refine⟨by rw[h1],λd hd=>?_⟩
    rcases mcQ.1 hd with rfl|hd
    ·refine⟨Aj6 P _ o,λhl=>?_,rfl⟩
     have hl:b_d lw o.op=true:=hl
     show kindOf (bld lw o.op) (mkOp o.op) nb r m i=.blind
     rw[U_n]
     unfold bld;rw[hl]
    ·exact h2 d hd
def Agr(ms:List (List Bool))(fr fr':Fr):Prop:=∀p,p∉ms→vOr (fr'.getp p)=vOr (fr.getp p)
theorem Agr.refl(ms:List (List Bool))(fr:Fr):Agr ms fr fr:=λ_ _=>rfl
theorem Agr.mono{ms ns:List (List Bool)}{fr fr':Fr}(h:Agr ms fr fr')(hs:∀p,p∈ms→p∈ns):Agr ns fr fr':=λp hp=>h p λhm=>hp (hs p hm)
theorem Agr.trans{ms:List (List Bool)}{a b c:Fr}(h:Agr ms a b)(k:Agr ms b c):Agr ms a c:=λp hp=>(k p hp).trans (h p hp)
theorem Agr.put{ms:List (List Bool)}{fr:Fr}{d:Option (List Bool)}{v:Value}(h:∀p,d=some p→p∈ms):Agr ms fr (put d v fr):=λp hp=>by
 cases d with
 |none=>rfl
 |some q=>
  show vOr ((fr.setp (some v) q).getp p)=_
  rw[Tr.getp_setp,if_neg (λe:q=p=>hp (by rw[←e];exact h q rfl))]
noncomputable def upd:List (List Bool)→Fr→Fr→Fr
 |[],fr,_=>fr
 |p::ps,fr,fr'=>upd ps (fr.setp (some (vOr (fr'.getp p))) p) fr'
theorem j_g:∀(ms:List (List Bool))(fr fr':Fr)(p:List Bool),vOr ((upd ms fr fr').getp p)=if p∈ms then vOr (fr'.getp p) else vOr (fr.getp p):=by
 intro ms
 induction ms with
 |nil=>intro fr fr' p;simp[upd]
 | cons q qs ih =>
  intro fr fr' p
  rw[upd,ih,Tr.getp_setp]
  by_cases h1:p∈qs
  ·rw[if_pos h1,if_pos (mcM _ h1)]
  ·rw[if_neg h1]
   by_cases h2:q=p
   ·subst h2
    rw[if_pos rfl,if_pos mcS]
    rfl
   ·rw[if_neg h2,if_neg]
    intro h3
    rcases mcQ.1 h3 with h3|h3
    ·exact h2 h3.symm
    ·exact h1 h3
theorem n_5(F:Fr→Hs→An):∀(ms:List (List Bool))(fr fr':Fr)(h:Hs),app ms (lam ms F fr) fr' h=F (upd ms fr fr') h:=by
 intro ms
 induction ms with
 |nil=>intro fr fr' h;rfl
 |cons p ps ih=>intro fr fr' h;exact ih _ fr' h
theorem AR2:∀(ms:List (List Bool))(fr:Fr)(h:Hs),app ms (bot ms) fr h=none:=by
 intro ms
 induction ms with
 |nil=>intro fr h;rfl
 |cons p ps ih=>intro fr h;exact ih fr h
theorem Agr.upd{ms:List (List Bool)}{fr fr':Fr}(h:Agr ms fr fr')(p:List Bool):vOr ((upd ms fr fr').getp p)=vOr (fr'.getp p):=by
 rw[j_g]
 by_cases hp:p∈ms
 ·rw[if_pos hp]
 ·rw[if_neg hp,h p hp]
theorem FrR.of_get{ρ:Ren}{sl:List Nat}{N:Nat}{fr fr':Fr}{tm:Array Value}(h:FrR ρ sl N fr' tm)(e:∀p,vOr (fr.getp p)=vOr (fr'.getp p)):FrR ρ sl N fr tm:=
 ⟨λt p hp=>by rw[e p];exact h.fr t p hp,h.size,h.lt⟩
theorem x_f{mask:Nat}:∀{n i:Nat},i<n→mask.testBit i=true→pth i∈Y_7 mask n:=by
 intro n
 induction n with
 |zero=>intro i h;omega
 | succ n ih =>
  intro i hi hb
  have hq:∀j,Nat.beq (Nat.mod (Nat.div mask (Nat.pow 2 j)) 2) 1=mask.testBit j:=λj=>by
   rw[Nat.testBit_eq_decide_div_mod_eq]
   show (mask/2^j%2).beq 1=decide (mask/2^j%2=1)
   rw[Bool.eq_iff_iff];simp
  simp only[Y_7]
  rw[hq n]
  by_cases e:i=n
  ·subst e
   rw[hb]
   exact mcS
  ·cases mask.testBit n with
   |true=>exact mcM _ (ih (by omega) hb)
   |false=>exact ih (by omega) hb
theorem Ar3:∀{l:List Nat}{i a n:Nat},P_r a l i=some n→n<i+l.length:=by
 intro l
 induction l with
 |nil=>intro i a n h;cases h
 |cons x l ih=>
  intro i a n h
  simp only[P_r] at h
  cases hb:Nat.beq x a with
  |true=>rw[hb] at h;injection h with h;simp;omega
  |false=>rw[hb] at h;have:=ih h;simp;omega
theorem j_7{sl:List Nat}{t mask:Nat}{p:List Bool}(hp:slot sl t=some p)(hm:∀i,(AA6 sl t).testBit i=true→mask.testBit i=true):p∈msOf sl mask:=by
 unfold slot at hp
 cases hs:P_r t sl 0 with
 |none=>rw[hs] at hp;cases hp
 |some i=>
  rw[hs] at hp
  injection hp with hp
  subst hp
  refine x_f (by have:=Ar3 hs;omega) (hm i ?_)
  unfold AA6
  rw[hs]
  show Nat.testBit (2^i) i=true
  rw[Nat.testBit_two_pow];simp
theorem i_h{a b i:Nat}(h:a.testBit i=true):(Nat.lor a b).testBit i=true:=by
 show (a|||b).testBit i=true
 rw[Nat.testBit_or,h];rfl
theorem c_a{a b i:Nat}(h:b.testBit i=true):(Nat.lor a b).testBit i=true:=by
 show (a|||b).testBit i=true
 rw[Nat.testBit_or,h];simp
theorem c_y{sl:List Nat}:∀{os:List Oper}{o:Oper}{t:Nat},o∈os→o.dst=some t→∀i,(AA6 sl t).testBit i=true→(U_v sl os).testBit i=true:=by
 intro os
 induction os with
 |nil=>intro o t h;cases h
 | cons x os ih =>
  intro o t h hd i hb
  simp only[U_v]
  rcases mcQ.1 h with rfl|h
  ·rw[hd];exact i_h hb
  ·cases x.dst with
   |none=>exact ih h hd i hb
   |some y=>exact c_a (ih h hd i hb)
theorem p_q{a b:Nat}(h:∀i,a.testBit i=true→b.testBit i=true):∀n p,p∈Y_7 a n→p∈Y_7 b n:=by
 have hq:∀(m j:Nat),Nat.beq (Nat.mod (Nat.div m (Nat.pow 2 j)) 2) 1=m.testBit j:=λm j=>by
  rw[Nat.testBit_eq_decide_div_mod_eq]
  show (m/2^j%2).beq 1=decide (m/2^j%2=1)
  rw[Bool.eq_iff_iff];simp
 intro n
 induction n with
 |zero=>intro p hp;cases hp
 | succ n ih =>
  intro p hp
  simp only[Y_7] at hp ⊢
  rw[hq] at hp ⊢
  cases ha:a.testBit n with
  |true=>
   rw[ha] at hp
   rw[h n ha]
   rcases mcQ.1 hp with rfl|hp
   ·exact mcS
   ·exact mcM _ (ih p hp)
  |false=>
   rw[ha] at hp
   cases b.testBit n with
   |true=>exact mcM _ (ih p hp)
   |false=>exact ih p hp
end
end Go.Gev
