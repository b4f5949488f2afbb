import Derived.Test.YtnbnmojckhcdeaaGreatDoorGevKM
import Derived.Lib.SlKeysI
import Derived.Maps.Own
namespace Go.Gev
open Go.RowKit Go.Maps Go.WideElems Go.WideShapes
open Go.Proofs (encStr)
noncomputable section
def keyI:Value→Option Int
 | .int k n => match k with
  |.i64=>match andB (leI (.negSucc 9223372036854775807) n) (leI n (.ofNat 9223372036854775807)) with
   |true=>some n
   |false=>none
  |_=>none
 |_=>none
def keyS:Value→Option (List UInt8)
 |.string s=>match Nat.ble s.data.toList.length 1000000 with
  |true=>some s.data.toList
  |false=>none
 |_=>none
def R_6{α:Type}(f:Value→Option α):List MapEntry→Option (List α)
 |[]=>some []
 | e :: es => match f e.key with
  |none=>none
  |some x=>match R_6 f es with
   |none=>none
   |some xs=>some (x::xs)
def m_u{α:Type}(eq:α→α→Bool)(x:α):List α→Bool
 |[]=>true
 |y::ys=>match eq x y with
  |true=>false
  |false=>m_u eq x ys
def distB{α:Type}(eq:α→α→Bool):List α→Bool
 |[]=>true
 |x::xs=>match m_u eq x xs with
  |true=>distB eq xs
  |false=>false
def insB{α:Type}(le:α→α→Bool)(x:α):List α→List α
 |[]=>[x]
 |y::ys=>match le x y with
  |true=>x::y::ys
  |false=>y::insB le x ys
def L_7{α:Type}(le:α→α→Bool):List α→List α
 |[]=>[]
 |x::xs=>insB le x (L_7 le xs)
def K_p:List UInt8→List UInt8→Bool
 |[],[]=>true
 |a::as,b::bs=>match Nat.beq a.toNat b.toNat with
  |true=>K_p as bs
  |false=>false
 |_,_=>false
def E_0:List UInt8→List UInt8→Bool
 |[],_=>true
 |_::_,[]=>false
 | a :: as, b :: bs => match Nat.blt a.toNat b.toNat with
  |true=>true
  |false=>match Nat.beq a.toNat b.toNat with
   |true=>E_0 as bs
   |false=>false
def bornsOf:List MapEntry→List Nat
 |[]=>[]
 |e::es=>e.born::bornsOf es
def M_q(cl:Nat)(es:List MapEntry):Bool:=match R_v es with
 |true=>true
 |false=>andB (X_b cl es) (distB Nat.beq (bornsOf es))
def U_f{α:Type}(f:Value→Option α)(eq:α→α→Bool)(es:List MapEntry)(cl:Nat):Option (List α):=match R_6 f es with
 |none=>none
 |some ks=>match andB (M_q cl es) (andB (distB eq ks) (Nat.ble ks.length 100000)) with
  |true=>some ks
  |false=>none
def K_x{α:Type}(enc:α→Value)(le:α→α→Bool)(T:TypeId)(h:Hs):Option (List α)→An
 |none=>none
 |some ks=>match ks with
  |[]=>some (.val (.slice none 0 0) h)
  |x::xs=>some (.val (.slice (some ⟨h.nx,0,none⟩) (Nat.succ xs.length) (Nat.succ xs.length)) (newRow h T 1 ((L_7 le (x::xs)).map enc)))
def j_c{α:Type}(f:Value→Option α)(eq:α→α→Bool)(enc:α→Value)(le:α→α→Bool)(T:TypeId)(h:Hs):Option Blk→An
 |some (.mp es cl)=>K_x enc le T h (U_f f eq es cl)
 |_=>none
def q_9{α:Type}(f:Value→Option α)(eq:α→α→Bool)(enc:α→Value)(le:α→α→Bool)(T:TypeId)(h:Hs):Option Value→An
 |some (.map m)=>match m with
  |none=>some (.val (.slice none 0 0) h)
  |some k=>j_c f eq enc le T h (h.hp.get k)
 |_=>none
def o_d:Option Blk→Option Value
 |some (.row c _ _ _ rw _)=>match rw with
  |true=>c.get 0
  |false=>none
 |_=>none
def AR9(h:Hs):Option (Nat × Nat)→Option Value
 |some p=>match p.2 with
  |0=>o_d (h.hp.get p.1)
  |_+1=>none
 |none=>none
def W_m (KI : FuncId) (h : Hs) : List Value → Option Value
 | [v] => match v with
  | .func fn first cap => match fn with
   | .func g => match Nat.beq g KI with
    |true=>match first.toList,cap.toList with
     |[],[p]=>AR9 h (addrOf p)
     |_,_=>none
    |false=>none
   |_=>none
  |_=>none
 |_=>none
def U_z{α:Type}(f:Value→Option α)(eq:α→α→Bool)(enc:α→Value)(le:α→α→Bool)(KI:FuncId)(T:TypeId)(args:List Value)(h:Hs):An:=q_9 f eq enc le T h (W_m KI h args)
end
theorem l_9{α:Type}(le:α→α→Bool)(x:α):∀l:List α,(insB le x l).Perm (x::l):=by
 intro l
 induction l with
 |nil=>exact List.Perm.refl _
 |cons y ys ih=>
  unfold insB
  cases le x y with
  |true=>exact List.Perm.refl _
  |false=>exact(List.Perm.cons y ih).trans (List.Perm.swap x y ys)
theorem K_o{α:Type}(le:α→α→Bool):∀l:List α,(L_7 le l).Perm l:=by
 intro l
 induction l with
 |nil=>exact List.Perm.refl _
 |cons x xs ih=>exact(l_9 le x _).trans (List.Perm.cons x ih)
theorem p_a{α:Type}{le:α→α→Bool}(tr:∀a b c,le a b=true→le b c=true→le a c=true)(to:∀a b,(le a b||le b a)=true)(x:α):∀l:List α,l.Pairwise (λa b=>le a b=true)→(insB le x l).Pairwise (λa b=>le a b=true):=by
 intro l
 induction l with
 |nil=>intro _;exact List.pairwise_singleton _ _
 | cons y ys ih =>
  intro h
  obtain⟨h1,h2⟩:=List.pairwise_cons.1 h
  unfold insB
  cases hxy:le x y with
  |true=>
   refine List.pairwise_cons.2 ⟨λz hz=>?_,h⟩
   rcases mcQ.1 hz with rfl|hz
   ·exact hxy
   ·exact tr _ _ _ hxy (h1 z hz)
  | false =>
   refine List.pairwise_cons.2 ⟨λz hz=>?_,ih h2⟩
   rcases mcQ.1 ((l_9 le x ys).mem_iff.1 hz) with rfl|hz
   ·have:=to z y
    rw[hxy] at this
    simpa using this
   ·exact h1 z hz
theorem Q_4{α:Type}{le:α→α→Bool}(tr:∀a b c,le a b=true→le b c=true→le a c=true)(to:∀a b,(le a b||le b a)=true):∀l:List α,(L_7 le l).Pairwise (λa b=>le a b=true):=by
 intro l
 induction l with
 |nil=>exact List.Pairwise.nil
 |cons x xs ih=>exact p_a tr to x _ ih
theorem j_b{α:Type}{le:α→α→Bool}(tr:∀a b c,le a b=true→le b c=true→le a c=true)(to:∀a b,(le a b||le b a)=true)(an:∀a b,le a b=true→le b a=true→a=b){l l':List α}(h:l'.Perm l):l'.mergeSort le=L_7 le l:=
 List.Perm.eq_of_pairwise (le:=λa b=>le a b=true) (λa b _ _ h1 h2=>an a b h1 h2) (List.pairwise_mergeSort tr to l') (Q_4 tr to l) (((List.mergeSort_perm l' le).trans h).trans (K_o le l).symm)
theorem m_e{α:Type}{f:Value→Option α}{enc:α→Value}(hdec:∀v x,f v=some x→v=enc x):∀{es:List MapEntry}{ks:List α},R_6 f es=some ks→es.map (·.key)=ks.map enc:=by
 intro es
 induction es with
 |nil=>intro ks h;simp only[R_6,sjE] at h;subst h;rfl
 | cons e es ih =>
  intro ks h
  simp only[R_6] at h
  cases hk:f e.key with
  |none=>rw[hk] at h;cases h
  | some x =>
   rw[hk] at h
   simp only at h
   cases hr:R_6 f es with
   |none=>rw[hr] at h;cases h
   |some xs=>
    rw[hr] at h
    simp only[sjE] at h
    subst h
    rw[List.map_cons,List.map_cons,ih hr,hdec _ _ hk]
theorem f_i{α:Type}{f:Value→Option α}:∀{es:List MapEntry}{ks:List α},R_6 f es=some ks→∀e∈es,∃x,f e.key=some x:=by
 intro es
 induction es with
 |nil=>intro ks _ e he;cases he
 | cons e es ih =>
  intro ks h
  simp only[R_6] at h
  cases hk:f e.key with
  |none=>rw[hk] at h;cases h
  | some x =>
   rw[hk] at h
   simp only at h
   cases hr:R_6 f es with
   |none=>rw[hr] at h;cases h
   |some xs=>
    intro e' he'
    rcases mcQ.1 he' with rfl|he'
    ·exact⟨x,hk⟩
    ·exact ih hr e' he'
theorem x_o{α:Type}{eq:α→α→Bool}(heq:∀a b,eq a b=false→a≠b){x:α}:∀{l:List α},m_u eq x l=true→∀y∈l,x≠y:=by
 intro l
 induction l with
 |nil=>intro _ y hy;cases hy
 | cons z zs ih =>
  intro h y hy
  simp only[m_u] at h
  cases hz:eq x z with
  |true=>rw[hz] at h;cases h
  |false=>
   rw[hz] at h
   rcases mcQ.1 hy with rfl|hy
   ·exact heq _ _ hz
   ·exact ih h y hy
theorem distB_spec{α:Type}{eq:α→α→Bool}(heq:∀a b,eq a b=false→a≠b):∀{l:List α},distB eq l=true→l.Nodup:=by
 intro l
 induction l with
 |nil=>intro _;exact List.nodup_nil
 | cons x xs ih =>
  intro h
  simp only[distB] at h
  cases hx:m_u eq x xs with
  |false=>rw[hx] at h;cases h
  |true=>
   rw[hx] at h
   exact List.nodup_cons.2 ⟨λhm=>x_o heq hx x hm rfl,ih h⟩
theorem bornsOf_eq:∀es:List MapEntry,bornsOf es=es.map (·.born):=by
 intro es
 induction es with
 |nil=>rfl
 |cons e es ih=>rw[bornsOf,ih,List.map_cons]
theorem ME.keys{ρ:Ren}{es es':List MapEntry}(m:ME ρ es es'):es'.map (·.key)=es.map (·.key)∧es'.map (·.born)=es.map (·.born):=by
 induction m with
 |nil=>exact⟨rfl,rfl⟩
 |cons hk hb _ _ ih=>exact⟨by rw[List.map_cons,List.map_cons,hk,ih.1],by rw[List.map_cons,List.map_cons,hb,ih.2]⟩
theorem MR.order{ρ:Ren}{es:List MapEntry}{es':List MapEntry}{cl:Nat}(m:MR ρ es es' cl)(h:M_q cl es=true) :
 ((∀e∈es',e.born<cl)∧(es'.map (·.born)).Nodup)∧∃es2:List MapEntry,es2.Perm es'∧es2.map (·.key)=es.map (·.key):=by
 unfold M_q at h
 cases hb:R_v es with
 |false=>
  rw[hb] at h
  obtain⟨h1,h2⟩:=andB_true h
  have m:=m.me hb
  refine⟨⟨j_8 m h1,?_⟩,es',List.Perm.refl _,m.keys.1⟩
  rw[m.keys.2,←bornsOf_eq]
  exact distB_spec (λa b h=>beq_false.1 h) h2
 | true =>
  rcases m with⟨_,hlt⟩|⟨_,n,es2,c,d⟩
  ·obtain⟨e,t,rfl,hh⟩:=f_b hb
   have:=hlt e mcS
   omega
  ·exact⟨⟨n.lt,n.nb⟩,es2,c,d.keys⟩
structure KeyK (P:Program) (K:TypeId) (α:Type) (f:Value→Option α) (eq:α→α→Bool) (enc:α→Value) (le:α→α→Bool) (dk:DataW Unit→List α):Prop where
 dec:∀v x,f v=some x→v=enc x
 inj:∀x y,enc x=enc y→x=y
 vr:∀(ρ:Ren) x,VR ρ (enc x) (enc x)
 flat:∀x,flat1 (enc x)=true
 lit:∃ol:Lit→α,(∀v x,f v=some x→∃kl,keyOf P K v=some kl∧ol kl=x)∧∀l,dk (.map l)=l.map λp=>ol p.1
 ne:∀a b,eq a b=false→a≠b
 tr:∀a b c,le a b=true→le b c=true→le a c=true
 to:∀a b,(le a b||le b a)=true
 an:∀a b,le a b=true→le b a=true→a=b
theorem Ap0 {P : Program} {K : TypeId} {α : Type} {f : Value → Option α} {eq : α → α → Bool} {enc : α → Value} {le : α → α → Bool} {dk : DataW Unit → List α} (KK : KeyK P K α f eq enc le dk) {ρ : Ren} {es : List MapEntry} {es' : Array MapEntry} {cl b : Nat} {w : World}
 (hb:w.heap[b]?=some (.map es' cl)) (m:MR ρ es es'.toList cl) {ks:List α} (hk:U_f f eq es cl=some ks) :
 ∃D0,w.ownsMap P K (λ_=>some (.nil,[])) b es'.size D0∧(dk D0).Perm ks∧Maps.size D0≤100000:=by
 unfold U_f at hk
 cases hks:R_6 f es with
 |none=>rw[hks] at hk;cases hk
 | some ks0 =>
  rw[hks] at hk
  simp only at hk
  cases hc:andB (M_q cl es) (andB (distB eq ks0) (Nat.ble ks0.length 100000)) with
  |false=>rw[hc] at hk;cases hk
  | true =>
   rw[hc] at hk
   simp only[sjE] at hk
   subst hk
   obtain⟨c1,c2⟩:=andB_true hc
   obtain⟨c21,c22⟩:=andB_true c2
   have c22:=lbT c22
   obtain⟨⟨hlt,hbn⟩,es2,hp,mk⟩:=m.order c1
   have hkm:=m_e KK.dec hks
   have hlen:es'.size=ks0.length:=by
    have:=congrArg List.length (mk.trans hkm)
    have h2:=hp.length_eq
    simp only[lmQ,Array.length_toList] at this h2
    omega
   obtain⟨ol,hl1,hl2⟩:=KK.lit
   have hnd:ks0.Nodup:=distB_spec KK.ne c21
   have hread:∀x∈es'.toList,∃a kl,x.key=enc a∧keyOf P K x.key=some kl∧ol kl=a:=λx hx=>by
    have:x.key∈es.map (·.key):=by rw[←mk];exact List.mem_map_of_mem (hp.symm.subset hx)
    obtain⟨e,he,hek⟩:=List.mem_map.1 this
    obtain⟨a,ha⟩:=f_i hks e he
    obtain⟨kl,q1,q2⟩:=hl1 _ _ ha
    rw[←hek]
    exact⟨a,kl,KK.dec _ _ ha,q1,q2⟩
   have hrd:∀x∈es'.toList,∃kl,rd P K (λ_=>some ((.nil:DataW Unit),[])) x=some (kl,.nil)∧x.key=enc (ol kl):=λx hx=>by
    obtain⟨a,kl,q1,q2,q3⟩:=hread x hx
    exact⟨kl,by simp[rd,q2],by rw[q3];exact q1⟩
   refine⟨_,⟨es',cl,hb,⟨?_,?_,λx hx=>?_⟩,lR _,rfl⟩,?_,?_⟩
   ·rw[hlen];have:(100000:Nat)≤maxLen:=by unfold maxLen;omega
    omega
   ·rw[MapKept.stamped_iff]
    refine⟨hlt,hbn,?_⟩
    ·have h1:(es'.toList.map (·.key)).Nodup:=by
      refine(hp.map _).nodup_iff.1 ?_
      rw[mk,hkm]
      unfold List.Nodup
      rw[List.pairwise_map]
      exact List.Pairwise.imp (λhne e=>hne (KK.inj _ _ e)) hnd
     unfold List.Nodup at h1
     rw[List.pairwise_map] at h1
     exact h1
   ·obtain⟨kl,q,_⟩:=hrd x hx
    exact⟨_,q⟩
   ·rw [hl2]
    refine((sorted_perm _).map _).trans ?_
    have e:((es2.map (rg P K (λ_=>some ((.nil:DataW Unit),[])))).map λp=>ol p.1)=ks0:=by
     have h2:((es2.map (rg P K (λ_=>some ((.nil:DataW Unit),[])))).map λp=>ol p.1).map enc=ks0.map enc:=by
      rw[←hkm,←mk,List.map_map,List.map_map]
      refine List.map_congr_left λx hx=>?_
      obtain⟨kl,q1,q2⟩:=hrd x (hp.subset hx)
      show enc (ol (rg P K _ x).1)=x.key
      rw[rg_of q1,q2]
     have inj:∀{l l':List α},l.map enc=l'.map enc→l=l':=by
      intro l
      induction l with
      |nil=>intro l' h;cases l' with
       |nil=>rfl
       |cons _ _=>cases h
      | cons x xs ih => intro l' h; cases l' with
       |nil=>cases h
       |cons y ys=>
        simp only[List.map_cons,List.cons.injEq] at h
        rw[KK.inj _ _ h.1,ih h.2]
     exact inj h2
    rw[←e]
    exact((hp.symm.map _).map _)
   ·show Maps.size (.map _)≤_
    have:Maps.size (DataW.map ((es'.toList.map (rg P K (λ_=>some ((.nil:DataW Unit),[])))).foldr DataW.insert []))=es'.size:=length_read es'
    rw[this,hlen];exact c22
def SortedC(P:Program)(S KI:FuncId)(K T:TypeId){α:Type}(enc:α→Value)(le:α→α→Bool)(dk:DataW Unit→List α):Prop:=
 (∀(W:World)(Bm b nn:Nat)(D0:DataW Unit)(R:Value→Option (DataW Unit × List MemPlace)),W.cell? ⟨Bm,0,none⟩=some (.map (some b))→Bm<W.heap.size→W.ownsMap P K R b nn D0→Maps.size D0≤100000 →
  Calls P S #[.func (.func KI) #[] #[.pointer (some ⟨Bm,0,none⟩)]] W λe w'=>∃(v:Value) (ss:List α),e=.returned v∧ss.Perm (dk D0) ∧
   w'.ownsRow W.heap.size T 1 v ss.length ((ss.mergeSort le).map enc)∧(v=.slice none 0 0↔ss = [])∧Below W.heap.size W w') ∧
 (∀(W:World)(Bm:Nat),W.cell? ⟨Bm,0,none⟩=some (.map none)→Bm<W.heap.size →
  Calls P S #[.func (.func KI) #[] #[.pointer (some ⟨Bm,0,none⟩)]] W λe w'=>∃(v:Value) (ss:List α),e=.returned v∧ss = [] ∧
   w'.ownsRow W.heap.size T 1 v ss.length ((ss.mergeSort le).map enc)∧(v=.slice none 0 0↔ss = [])∧Below W.heap.size W w')
theorem St.more{B:Nat}{ρ:Ren}{h:Hs}{w w':World}(R:HR B ρ h w)(b:Below w.heap.size w w'):St B ρ h w ρ h w':=by
 have hlt:∀j b,h.hp.get j=some b→∀L,ρ j=some L→L.blk<w.heap.size:=λj b hj L hL=>by
  obtain⟨L',e1,e2⟩:=(R.has j b hj).host_lt
  rw[hL] at e1;injection e1 with e1;subst e1;exact e2
 exact⟨⟨lTr R.base b.size,R.dom,λj bk hj=>(R.has j bk hj).mono (rLR _) (λL eL=>b.block _ (hlt j bk hj L eL)),R.inj⟩,lR _,rLR _,λ_ _=>rfl,b.mono R.base,b.size,lR _,λ_ _ h _=>h,
  λ_ bk h _=>⟨bk,h,rfl,λ_=>rfl⟩,λid bk hb hid=>by have:=R.lt hb;omega,λk hk _=>b.block k hk,λid H hid e=>by rw[R.dom id hid] at e;cases e⟩
theorem St.ownRow{B:Nat}{ρ:Ren}{h:Hs}{w w':World}(R:HR B ρ h w)(b:Below w.heap.size w w'){T:TypeId}{α:Type}{enc:α→Value}(vr:∀(ρ:Ren) x,VR ρ (enc x) (enc x))(fl:∀x,flat1 (enc x)=true){v:Value}{xs:List α}(hne:xs ≠ [])
 (hr:w'.ownsRow w.heap.size T 1 v xs.length (xs.map enc)) :
 ∃ρ',VR ρ' (.slice (some ⟨h.nx,0,none⟩) xs.length xs.length) v∧St B ρ h w ρ' (newRow h T 1 (xs.map enc)) w':=by
 have hpos:xs.length≠0:=λe=>hne (enZ e)
 rcases hr.2 with⟨_,h0⟩|⟨g,cap,cur,rfl,hg,hh,hn,hc,hs,ht⟩
 ·exact absurd h0 hpos
 ·have hgl:g<w'.heap.size:=(gaI.1 hh).1
  have hcs:cur.size=cap:=by rw[hs,Nat.mul_one]
  rw[Nat.mul_one] at ht
  have hcell:∀i x,(xs.map enc)[i]?=some x→cur[i]?=some x:=λi x hx=>by
   rw[←ht,List.getElem?_take] at hx
   split at hx
   ·simpa using hx
   ·cases hx
  refine⟨ρ.add h.nx ⟨g,0,cur.size,1,none⟩,.slice h.nx 0 _ _ cap ⟨g,0,cur.size,1,none⟩ (rAS _ _ _) (lR _) hn hc (.inr (by show 0+0+cap*1≤cur.size;omega)),?_⟩
  refine j_e R rfl hg hgl b ⟨_,cur,(0,0),rAS _ _ _,rfl,hh,rfl,λi v hv=>?_,λ_=>⟨.inl rfl,rfl,lTr R.base hg,by simp;omega,λi=>?_⟩,λ_ i v hv=>?_⟩
  ·rw[C_q] at hv
   refine⟨v,by rw[zaQ];exact hcell i v hv,?_⟩
   obtain⟨x,_,rfl⟩:=List.mem_map.1 (mgE hv)
   exact vr _ x
  ·rw[C_q]
   simp
  ·rw[C_q] at hv
   obtain⟨x,_,rfl⟩:=List.mem_map.1 (mgE hv)
   exact fl x
theorem m_f {KI : FuncId} {h : Hs} {args : List Value} {v : Value} (hh : W_m KI h args = some v) : ∃ first cap p b, args = [.func (.func KI) first cap] ∧ first.toList = [] ∧ cap.toList = [p] ∧ addrOf p = some (b, 0) ∧ o_d (h.hp.get b) = some v := by
 unfold W_m at hh
 split at hh
 ·rename_i u
  split at hh
  ·rename_i fn first cap
   split at hh
   ·rename_i g
    split at hh
    ·rename_i hg
     have:=ebT hg
     subst this
     split at hh
     ·rename_i p h1 h2
      unfold AR9 at hh
      split at hh
      ·rename_i q hq
       obtain⟨b,o⟩:=q
       split at hh
       ·rename_i h3
        have h3:o=0:=h3
        subst h3
        exact⟨first,cap,p,b,rfl,h1,h2,hq,hh⟩
       ·cases hh
      ·cases hh
     ·cases hh
    ·cases hh
   ·cases hh
  ·cases hh
 ·cases hh
set_option maxHeartbeats 1000000 in
theorem g_h{P:Program}{S KI:FuncId}{K T:TypeId}{α:Type}{f:Value→Option α}{eq:α→α→Bool}{enc:α→Value}{le:α→α→Bool}{dk:DataW Unit→List α}(hf:(FF P S).isSome=true)(KK:KeyK P K α f eq enc le dk)
 (C:SortedC P S KI K T enc le dk):SumOk P S (U_z f eq enc le KI T):=by
 refine⟨Option.isSome_iff_exists.1 hf,λargs args' v h h' B ρ w hr hl Rl=>?_⟩
 unfold U_z at hr
 cases hkb:W_m KI h args with
 |none=>rw[hkb] at hr;cases hr
 | some bv =>
  rw[hkb] at hr
  obtain⟨first,cap,p,b,rfl,hfi,hca,hp,hcell⟩:=m_f hkb
  -- the argument, in the model
  obtain⟨fv,rest,e1,hfv,hrest⟩:=hl.head
  have:=hrest.nil_left
  subst this
  have harg:args'=#[fv]:=by apply Array.ext';simpa using e1
  cases hfv with
  | func _ _ f' _ c' hn g1 g2 g3 g4 =>
   have hf0 : f' = #[] := Array.eq_empty_of_size_eq_zero (by have : first.size = 0 := by rw [← Array.length_toList, hfi]; rfl
                                                             omega)
   subst hf0
   have hcl:=VL.arr g3 g4
   rw[hca] at hcl
   obtain⟨pv,rest2,e2,hpv,hr2⟩:=hcl.head
   have:=hr2.nil_left
   subst this
   have hc':c'=#[pv]:=by apply Array.ext';simpa using e2
   subst hc'
   obtain⟨H,hH,_,hax⟩:=K_m hpv hp
   -- the box
   cases hbk:h.hp.get b with
   |none=>rw[hbk] at hcell;cases hcell
   |some blk=>
   rw[hbk] at hcell
   cases blk with
   |mp=>cases hcell
   |it=>cases hcell
   |lp=>cases hcell
   |row c n e u rw_ fl=>
   cases rw_ with
   |false=>cases hcell
   |true=>
   have hcell:c.get 0=some bv:=hcell
   obtain⟨H',arr,fz,q1,_,hh,hsz,hcs,hrw,_⟩:=Rl.has b _ hbk
   rw[hH] at q1
   injection q1 with q1
   subst q1
   obtain⟨_,hoff,_⟩:=hrw rfl
   obtain⟨v',q2,q3⟩:=hcs 0 bv hcell
   rw[hoff] at q2
   have hpv':pv=.pointer (some ⟨H.blk,0,none⟩):=by rw[hax,hoff,zaQ]
   subst hpv'
   have hlt:H.blk<w.heap.size:=(gaI.1 hh).1
   have hcl:w.cell? ⟨H.blk,0,none⟩=some v':=by
    simp only[World.cell?,hh]
    simpa using q2
   rw[harg]
   -- what comes back
   have back:∀(v0:Value)(ss ks:List α)(w':World),K_x enc le T h (some ks)=some (.val v h')→(∀l,l=(ss.mergeSort le)→l=L_7 le ks)→ss.length=ks.length→w'.ownsRow w.heap.size T 1 v0 ss.length ((ss.mergeSort le).map enc)→(v0=.slice none 0 0↔ss = [])→Below w.heap.size w w' →
    ∃v' ρ',VR ρ' v v'∧v0=v'∧St B ρ h w ρ' h' w':=by
    intro v0 ss ks w' hs he hlen hrow hnil hb
    have he:=he _ rfl
    cases ks with
    |nil=>
     simp only[K_x,sjE,Out.val.injEq] at hs
     obtain⟨rfl,rfl⟩:=hs
     have:ss = []:=enZ hlen
     rw[hnil.2 this]
     exact⟨_,ρ,.nilslice,rfl,St.more Rl hb⟩
    |cons x xs=>
     simp only[K_x,sjE,Out.val.injEq] at hs
     obtain⟨rfl,rfl⟩:=hs
     rw[he] at hrow
     have hl2:(L_7 le (x::xs)).length=(x::xs).length:=(K_o le _).length_eq
     have hl3:ss.length=(L_7 le (x::xs)).length:=by rw[hl2];exact hlen
     rw[hl3] at hrow
     obtain⟨ρ',p1,p2⟩:=St.ownRow Rl hb KK.vr KK.flat (λe=>by rw[e] at hl2;simp at hl2) hrow
     rw[hl2] at p1
     exact⟨_,ρ',p1,rfl,p2⟩
   cases q3 with
   |nilmap=>
    have hr:(some (.val (.slice none 0 0) h):An)=some (.val v h'):=hr
    refine(C.2 w H.blk hcl hlt).mono λe w' hp=>?_
    obtain⟨v0,ss,rfl,rfl,hrow,hnil,hb⟩:=hp
    obtain⟨v',ρ',p1,p2,p3⟩:=back v0 [] [] w' hr (λl hl=>by rw[hl];exact j_b KK.tr KK.to KK.an (List.Perm.refl _)) rfl hrow hnil hb
    exact⟨v',ρ',by rw[p2],p1,p3⟩
   | map k Hm hHm =>
    have hr:j_c f eq enc le T h (h.hp.get k)=some (.val v h'):=hr
    cases hkb2:h.hp.get k with
    |none=>rw[hkb2] at hr;cases hr
    | some blk =>
     rw[hkb2] at hr
     cases blk with
     | mp es cl =>
      have hr:K_x enc le T h (U_f f eq es cl)=some (.val v h'):=hr
      cases hkm:U_f f eq es cl with
      |none=>rw[hkm] at hr;cases hr
      |some ks=>
       rw[hkm] at hr
       obtain⟨Hm',es',m1,m2,m3,m4⟩:=Rl.has k _ hkb2
       rw[hHm] at m1
       injection m1 with m1
       subst m1
       obtain⟨D0,hown,hperm,hsize⟩:=Ap0 KK m3 m4 hkm
       refine(C.1 w H.blk Hm.blk _ D0 _ hcl hlt hown hsize).mono λe w' hp=>?_
       obtain⟨v0,ss,rfl,hss,hrow,hnil,hb⟩:=hp
       obtain⟨v',ρ',p1,p2,p3⟩:=back v0 ss ks w' hr (λl hl=>by rw[hl];exact j_b KK.tr KK.to KK.an (hss.trans hperm)) (hss.trans hperm).length_eq hrow hnil hb
       exact⟨v',ρ',by rw[p2],p1,p3⟩
     |_=>cases hr
   |_=>cases hr
theorem keyI_in{v:Value}{x:Int}(h:keyI v=some x):v=.int .i64 x∧-9223372036854775808≤x∧x≤9223372036854775807:=by
 cases v<;>try cases h
 rename_i k n
 cases k<;>try cases h
 unfold keyI at h
 simp only at h
 cases hc:andB (leI (.negSucc 9223372036854775807) n) (leI n (.ofNat 9223372036854775807)) with
 |false=>rw[hc] at h;cases h
 |true=>
  rw[hc] at h
  injection h with h
  subst h
  obtain⟨h1,h2⟩:=andB_true hc
  rw[N_v] at h1 h2
  refine⟨rfl,?_,?_⟩
  ·have:=of_decide_eq_true h1;simpa using this
  ·have:=of_decide_eq_true h2;simpa using this
theorem Bk6{P:Program}{K:TypeId}(hK:P.underlying K=some (.int .i64)):KeyK P K Int keyI eqI encZ leI intKeys where
 dec v x h:=(keyI_in h).1
 inj x y h:=encZ_inj h
 vr ρ x:=.int _ _
 flat x:=rfl
 lit:=⟨intOf,λv x h=>by
  obtain⟨rfl,h1,h2⟩:=keyI_in h
  refine⟨.int .i64 x,?_,rfl⟩
  have e1:IntKind.i64.min = -9223372036854775808:=by decide
  have e2:IntKind.i64.max=9223372036854775807:=by decide
  simp[keyOf,hK,mapKey,Lit.wf,e1,e2]
  omega,λl=>rfl⟩
 ne a b h:=λe=>by subst e;rw[eqI_eq] at h;simp at h
 tr a b c h1 h2:=by rw[N_v] at *;simp only[decide_eq_true_eq] at *;omega
 to a b:=by rw[N_v,N_v];simp only[Bool.or_eq_true,decide_eq_true_eq];omega
 an a b h1 h2:=by rw[N_v] at *;simp only[decide_eq_true_eq] at *;omega
theorem Aj2{v:Value}{x:List UInt8}(h:keyS v=some x):v=encStr x∧x.length≤1000000:=by
 cases v<;>try cases h
 rename_i s
 unfold keyS at h
 simp only at h
 cases hc:Nat.ble s.data.toList.length 1000000 with
 |false=>rw[hc] at h;cases h
 |true=>
  rw[hc] at h
  injection h with h
  subst h
  refine⟨?_,lbT hc⟩
  simp[encStr]
theorem Bq1{a b:UInt8}(h:a.toNat=b.toNat):a=b:=UInt8.toNat_inj.1 h
theorem u_z:∀{a b:List UInt8},K_p a b=false→a≠b:=by
 intro a
 induction a with
 |nil=>intro b h e;subst e;cases h
 |cons x xs ih=>
  intro b h e
  subst e
  simp only[K_p,show Nat.beq x.toNat x.toNat=true from Nat.beq_refl _] at h
  exact ih h rfl
theorem K_6:∀(a b:List UInt8),E_0 a b=decide (a≤b):=by
 intro a
 induction a with
 |nil=>intro b;simp[E_0]
 | cons x xs ih =>
  intro b
  cases b with
  |nil=>simp[E_0]
  | cons y ys =>
   simp only[E_0]
   cases h1:Nat.blt x.toNat y.toNat with
   |true=>
    rw[blt_eq] at h1
    have h1:x<y:=by rw[UInt8.lt_iff_toNat_lt];simpa using h1
    simp only
    rw[eq_comm,decide_eq_true_eq,List.cons_le_cons_iff]
    exact .inl h1
   | false =>
    rw[blt_eq] at h1
    have h1:¬x<y:=by rw[UInt8.lt_iff_toNat_lt];simpa using h1
    simp only
    cases h2:Nat.beq x.toNat y.toNat with
    |true=>
     have:=Bq1 (ebT h2)
     subst this
     simp only
     rw[ih ys]
     congr 1
     rw[List.cons_le_cons_iff]
     simp
    |false=>
     have h3:x≠y:=λe=>by subst e;rw[show Nat.beq x.toNat x.toNat=true from Nat.beq_refl _] at h2;cases h2
     simp only
     rw[eq_comm,decide_eq_false_iff_not,List.cons_le_cons_iff]
     rintro(h|⟨h,_⟩)
     ·exact h1 h
     ·exact h3 h
theorem AO0{P:Program}{K:TypeId}(hK:P.underlying K=some .string):KeyK P K (List UInt8) keyS K_p encStr E_0 strKeys where
 dec v x h:=(Aj2 h).1
 inj x y h:=encStr_inj h
 vr ρ x:=.string _
 flat x:=rfl
 lit:=⟨strOf,λv x h=>by
  obtain⟨rfl,h1⟩:=Aj2 h
  refine⟨.string x,?_,rfl⟩
  have:x.length≤maxLen:=by unfold maxLen;omega
  simp[keyOf,hK,mapKey,encStr]
  exact this,λl=>rfl⟩
 ne a b h:=u_z h
 tr a b c h1 h2:=by rw[K_6] at *;simp only[decide_eq_true_eq] at *;exact List.le_trans h1 h2
 to a b:=by rw[K_6,K_6];simp only[Bool.or_eq_true,decide_eq_true_eq];exact List.le_total a b
 an a b h1 h2:=by rw[K_6] at *;simp only[decide_eq_true_eq] at *;exact List.le_antisymm h1 h2
end Go.Gev
