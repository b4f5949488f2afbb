import Derived.Test.YtnbnmojckhcdeaaGreatDoorGevSo
namespace Go.Gev
open Go.RowKit Go.Maps
noncomputable section
def Y_j:Option (List Value)→Option (List Value)
 |some xs=>match andB (F_e xs) (Nat.ble xs.length 100000) with
  |true=>some xs
  |false=>none
 |none=>none
def AB7(TD:TypeId)(g:Hs)(n:Nat):Option (List Value)→Option (Value × Hs)
 |some xs=>some (.slice (some ⟨g.nx,0,none⟩) n n,newRow g TD 1 xs)
 |none=>none
def P_f(TD:TypeId)(h:Hs)(v:Value)(g:Hs):Option (Value × Hs):=match v with
 | .slice a n c => match a with
  |none=>match n,c with
   |0,0=>some (.slice none 0 0,g)
   |_,_=>none
  |some a=>match a.spot with
   |none=>AB7 TD g n (Y_j (F_q n a.off (h.hp.get a.block)))
   |some _=>none
 |_=>none
def W_3(g:Hs)(es:List MapEntry)(cl:Nat):Hs:=⟨g.hp.set g.nx (some (.mp es cl)),Nat.succ g.nx,g.lo⟩
def cpMp(g:Hs):Option Blk→Option (Value × Hs)
 |some (.mp es cl)=>some (.map (some g.nx),W_3 g es cl)
 |_=>none
def X_j(h:Hs)(v:Value)(g:Hs):Option (Value × Hs):=match v with
 |.map m=>match m with
  |none=>some (.map none,g)
  |some k=>cpMp g (h.hp.get k)
 |_=>none
def X_0:Value→Bool
 |.int k _=>match k with
  |.i64=>true
  |_=>false
 |_=>false
def Y_c(TI:TypeId)(c0 c3 c4 dv:Value):Option (Value × Hs)→Option (Value × Hs)
 |some p=>some (.pointer (some ⟨p.2.nx,0,none⟩),newRow p.2 TI 0 [c0,dv,p.1,c3,c4])
 |none=>none
def h_n(TI:TypeId)(h:Hs)(c0 c2 c3 c4:Value):Option (Value × Hs)→Option (Value × Hs)
 |some p=>Y_c TI c0 c3 c4 p.1 (X_j h c2 p.2)
 |none=>none
def a_p(TI TD:TypeId)(h g:Hs):Option (List Value)→Option (Value × Hs)
 | some xs => match xs with
  |[c0,c1,c2,c3,c4]=>match andB (X_0 c0) (andB (X_0 c3) (X_0 c4)) with
   |true=>h_n TI h c0 c2 c3 c4 (P_f TD h c1 g)
   |false=>none
  |_=>none
 |none=>none
def R_o(TI TD:TypeId)(h g:Hs):Option (Nat × Nat)→Option (Value × Hs)
 |some p=>a_p TI TD h g (F_q 5 p.2 (h.hp.get p.1))
 |none=>none
def e_2(k v:Value):Option (List MapEntry × Hs)→Option (List MapEntry × Hs)
 |some p=>some (⟨k,v,1000000000000⟩::p.1,p.2)
 |none=>none
def Aa7(k:Value)(f:Hs→Option (List MapEntry × Hs)):Option (Value × Hs)→Option (List MapEntry × Hs)
 |some p=>e_2 k p.1 (f p.2)
 |none=>none
def K_7(TI TD:TypeId)(h:Hs):List MapEntry→Hs→Option (List MapEntry × Hs)
 |[],g=>some ([],g)
 |e::es,g=>Aa7 e.key (K_7 TI TD h es) (R_o TI TD h g (addrOf e.val))
def AT1(TT:TypeId)(most:Value):Option (List MapEntry × Hs)→An
 |some p=>some (.val (.pointer (some ⟨Nat.succ p.2.nx,0,none⟩)) (newRow (W_3 p.2 p.1 p.1.length) TT 0 [most,.map (some p.2.nx)]))
 |none=>none
def r_4(TT TI TD:TypeId)(h:Hs)(most:Value)(es:List MapEntry)(cl:Nat):Option (List Int)→An
 |some ks=>match andB (andB (M_q cl es) (distB eqI ks)) (Nat.ble es.length 1000) with
  |true=>AT1 TT most (K_7 TI TD h es h)
  |false=>none
 |none=>none
def z_1(TT TI TD:TypeId)(h:Hs)(most:Value):Option Blk→An
 |some (.mp es cl)=>r_4 TT TI TD h most es cl (R_6 keyI es)
 |_=>none
def clone2 (TT TI TD : TypeId) (h : Hs) : Option (List Value) → An
 | some xs => match xs with
  | [most, m] => match m with
   | .map m => match m with
    |some k=>match X_0 most with
     |true=>z_1 TT TI TD h most (h.hp.get k)
     |false=>none
    |none=>none
   |_=>none
  |_=>none
 |none=>none
def clone1(TT TI TD:TypeId)(h:Hs):Option (Nat × Nat)→An
 |some p=>clone2 TT TI TD h (F_q 2 p.2 (h.hp.get p.1))
 |none=>none
def a_o(TT TI TD:TypeId)(args:List Value)(h:Hs):An:=match args with
 |[a]=>clone1 TT TI TD h (addrOf a)
 |_=>none
end
structure Src where
 k:Int
 u:Int
 l:Int
 ds:Option (List Value)
 ms:Option (Array MapEntry × Nat)
def DataAt(W:World)(v:Value):Option (List Value)→Prop
 |none=>v=.slice none 0 0
 |some xs=>∃b o c,v=.slice (some ⟨b,o,none⟩) xs.length c∧b<W.heap.size∧xs.length≤100000∧(∀x∈xs,flat1 x=true)∧∀j x,xs[j]?=some x→W.cell? ⟨b,o+j,none⟩=some x
def MapAt(W:World)(v:Value):Option (Array MapEntry × Nat)→Prop
 |none=>v=.map none
 |some p=>∃b,v=.map (some b)∧W.heap[b]?=some (.map p.1 p.2)
def SrcAt(W:World)(e:MapEntry)(s:Src):Prop:=∃(b o:Nat) (arr:Array Value) (T:TypeId) (fz:Nat × Nat) (dv mv:Value),e.val=.pointer (some ⟨b,o,none⟩)∧W.heap[b]?=some (.cells arr T fz) ∧
 arr[o]?=some (.int .i64 s.k)∧arr[o+1]?=some dv∧arr[o+2]?=some mv∧arr[o+3]?=some (.int .i64 s.u)∧arr[o+4]?=some (.int .i64 s.l)∧DataAt W dv s.ds∧MapAt W mv s.ms
structure Cp where
 e:MapEntry
 y:Nat
 dv:Value
 mv:Value
def Cp.blks(c:Cp):List Nat:=c.y::(c.dv.ownBlock.toList++(match c.mv with | .map (some b)=>[b]|_=>[]))
def RowAt(W:World)(TD:TypeId)(v:Value):Option (List Value)→Prop
 |none=>v=.slice none 0 0
 |some xs=>∃g cap cur,v=.slice (some ⟨g,0,none⟩) xs.length cap∧W.heap[g]?=some (.cells cur TD (0,0))∧xs.length≤cap∧cap≤maxLen∧cur.size=cap∧cur.toList.take xs.length=xs
def CpAt(W:World)(TI TD:TypeId)(c:Cp)(s:Src):Prop:=
 W.heap[c.y]?=some (.cells #[.int .i64 s.k,c.dv,c.mv,.int .i64 s.u,.int .i64 s.l] TI (0,0))∧RowAt W TD c.dv s.ds∧MapAt W c.mv s.ms
def I_2:List Cp→Nat→List MapEntry
 |[],_=>[]
 |c::cs,i=>⟨c.e.key,.pointer (some ⟨c.y,0,none⟩),i⟩::I_2 cs (i+1)
def CloneC(P:Program)(f:FuncId)(TT TI TD:TypeId):Prop:=
 ∀ (W : World) (bt ot : Nat) (most : Int) (bm : Nat) (es : Array MapEntry) (cl : Nat) (src : MapEntry → Src), W.cell? ⟨bt, ot, none⟩ = some (.int .i64 most) → W.cell? ⟨bt, ot + 1, none⟩ = some (.map (some bm)) → W.heap[bm]? = some (.map es cl) →
  (∀e∈es.toList,e.born<cl)→(es.toList.map (·.born)).Nodup→(∀e∈es.toList,∃n:Int,e.key=.int .i64 n)→(es.toList.map (·.key)).Nodup→es.size≤1000→(∀e∈es.toList,SrcAt W e (src e)) →
  Calls P f #[.pointer (some ⟨bt,ot,none⟩)] W λx W'=>∃(tb mb:Nat) (cs:List Cp),x=.returned (.pointer (some ⟨tb,0,none⟩))∧(cs.map (·.e)).Perm es.toList ∧
   W'.heap[tb]?=some (.cells #[.int .i64 most,.map (some mb)] TT (0,0))∧W'.heap[mb]?=some (.map (I_2 cs 0).toArray cs.length)∧(∀c∈cs,CpAt W' TI TD c (src c.e)) ∧
   (tb::mb::cs.flatMap Cp.blks).Nodup∧(∀b∈tb::mb::cs.flatMap Cp.blks,W.heap.size≤b)∧Below W.heap.size W W'
theorem St.grow{B:Nat}{ρ ρ1:Ren}{h g:Hs}{w W:World}(S:St B ρ h w ρ1 g W){b2:Blk}(hrw2:isRw b2=true){H:Host}(hH:w.heap.size≤H.blk)
 (free:∀j b L,g.hp.get j=some b→ρ1 j=some L→L.blk≠H.blk) (hbr:BR B (ρ1.add g.nx H) W g.nx b2) :
 St B ρ h w (ρ1.add g.nx H) ⟨g.hp.set g.nx (some b2),Nat.succ g.nx,g.lo⟩ W:=by
 have hnx:ρ1 g.nx=none:=S.hr.dom _ (lR _)
 have hle:=Ren.le_add H hnx
 have hget:∀j,(g.hp.set g.nx (some b2)).get j=if g.nx=j then some b2 else g.hp.get j:=λj=>tgS _ _ _ _
 have hold:∀j b,(g.hp.set g.nx (some b2)).get j=some b→j≠g.nx→g.hp.get j=some b:=λj b hj hne=>by
  rw[hget,if_neg (λe=>hne e.symm)] at hj;exact hj
 refine⟨⟨S.hr.base,λj hj=>?_,λj b hj=>?_,λj j' b b' L L' hj hj' hne hr eL eL'=>?_⟩,Nat.le_succ_of_le S.nx,Ren.le_trans S.le hle,λj hj=>?_,S.below,S.size,S.lo,
  λj b hj hl=>?_,λj b hj hjlt=>?_,λj b hj hge=>?_,λk hk hno=>S.frame k hk hno,λj L hj eL=>?_⟩
 ·have hj':g.nx+1≤j:=hj
  rw[rAO _ _ (by omega)]
  exact S.hr.dom j (by omega)
 ·by_cases hjn:j=g.nx
  ·subst hjn
   have hj:(g.hp.set g.nx (some b2)).get g.nx=some b:=hj
   rw[hget,if_pos rfl] at hj
   injection hj with hj
   subst hj
   exact hbr
  ·exact(S.hr.has j b (hold j b hj hjn)).mono hle (λL eL=>rfl)
 ·by_cases e1:j=g.nx
  ·subst e1
   have h1:=hold j' b' hj' (λe=>hne e.symm)
   rw[rAS] at eL
   injection eL with eL
   subst eL
   rw[rAO _ _ (λe=>hne e.symm)] at eL'
   exactλe=>free j' b' L' h1 eL' e.symm
  ·have h1:=hold j b hj e1
   rw[rAO _ _ e1] at eL
   by_cases e2:j'=g.nx
   ·subst e2
    rw[rAS] at eL'
    injection eL' with eL'
    subst eL'
    exact free j b L h1 eL
   ·rw[rAO _ _ e2] at eL'
    exact S.hr.inj j j' b b' L L' h1 (hold j' b' hj' e2) hne hr eL eL'
 ·have:=S.nx
  rw[rAO _ _ (by omega)]
  exact S.old j hj
 ·show (g.hp.set g.nx _).get j=_
  have h1:j<g.lo:=hl
  have:=S.keep j b hj h1
  have h2:=S.hr.lt this
  rw[hget,if_neg (by omega)]
  exact this
 ·have:=S.nx
  exact S.gone j b (hold j b hj (by omega)) hjlt
 ·by_cases e1:j=g.nx
  ·subst e1
   have hj:(g.hp.set g.nx (some b2)).get g.nx=some b:=hj
   rw[hget,if_pos rfl] at hj
   injection hj with hj;subst hj;exact hrw2
  ·exact S.newrw j b (hold j b hj e1) hge
 ·by_cases e1:j=g.nx
  ·subst e1
   rw[rAS] at eL
   injection eL with eL
   subst eL
   exact .inl hH
  ·rw[rAO _ _ e1] at eL
   exact S.fresh j L hj eL
def Hosted(ρ:Ren)(g:Hs)(b:Nat):Prop:=∃j blk L,g.hp.get j=some blk∧ρ j=some L∧L.blk=b
theorem S_r{ρ:Ren}{g:Hs}{b2:Blk}{H:Host}{b:Nat}(hh:Hosted (ρ.add g.nx H) ⟨g.hp.set g.nx (some b2),Nat.succ g.nx,g.lo⟩ b):Hosted ρ g b∨b=H.blk:=by
 obtain⟨j,blk,L,h1,h2,h3⟩:=hh
 have h1:(g.hp.set g.nx (some b2)).get j=some blk:=h1
 rw[tgS] at h1
 by_cases e:g.nx=j
 ·subst e
  rw[rAS] at h2
  injection h2 with h2
  subst h2
  exact .inr h3.symm
 ·rw[if_neg e] at h1
  rw[rAO _ _ (λq=>e q.symm)] at h2
  exact .inl ⟨j,blk,L,h1,h2,h3⟩
def DataR(h:Hs):Value→Option (List Value)→Prop
 |v,none=>v=.slice none 0 0
 |v,some xs=>∃b o n c,v=.slice (some ⟨b,o,none⟩) n c∧Y_j (F_q n o (h.hp.get b))=some xs∧xs.length=n
def MapR(ρ:Ren)(h:Hs):Value→Option (Array MapEntry × Nat)→Prop
 |v,none=>v=.map none
 |v,some p=>∃k es,v=.map (some k)∧h.hp.get k=some (.mp es p.2)∧MR ρ es p.1.toList p.2
theorem Y_4{o:Option (List Value)}{xs:List Value}(h:Y_j o=some xs):o=some xs∧F_e xs=true∧xs.length≤100000:=by
 cases o with
 |none=>cases h
 | some ys =>
  simp only[Y_j] at h
  cases hc:andB (F_e ys) (Nat.ble ys.length 100000) with
  |false=>rw[hc] at h;cases h
  |true=>
   rw[hc] at h
   injection h with h
   subst h
   obtain⟨h1,h2⟩:=andB_true hc
   exact⟨rfl,h1,lbT h2⟩
theorem U_k:∀{xs:List Value},F_e xs=true→∀x∈xs,flat1 x=true:=by
 intro xs
 induction xs with
 |nil=>intro _ x hx;cases hx
 | cons a t ih =>
  intro h x hx
  simp only[F_e] at h
  cases ha:flat1 a with
  |false=>rw[ha] at h;cases h
  |true=>
   rw[ha] at h
   rcases mcQ.1 hx with rfl|hx
   ·exact ha
   ·exact ih h x hx
theorem s_r{ρ:Ren}{v v':Value}(h:flat1 v=true)(hv:VR ρ v v'):v'=v:=by
 cases hv<;>first|rfl|cases h
section
variable {B:Nat} {ρ ρ1:Ren} {h g:Hs} {w W:World}
theorem Aa1(S:St B ρ h w ρ1 g W)(hB:B≤w.heap.size){TD:TypeId}{c1 v dv:Value}{g2:Hs}{ds:Option (List Value)}(hc:P_f TD h c1 g=some (v,g2))(hR:DataR h c1 ds)(hvr:∀xs,ds=some xs→∀x∈xs,VR ρ x x)
 (hrow:RowAt W TD dv ds) (hlow:∀b∈dv.ownBlock.toList,w.heap.size≤b) (free:∀b∈dv.ownBlock.toList,¬Hosted ρ1 g b) :
 ∃ρ2,St B ρ h w ρ2 g2 W∧ρ1.le ρ2∧VR ρ2 v dv∧∀b,Hosted ρ2 g2 b→Hosted ρ1 g b∨b∈dv.ownBlock.toList:=by
 cases ds with
 |none=>
  have h1:c1=.slice none 0 0:=hR
  have h2:dv=.slice none 0 0:=hrow
  subst h1;subst h2
  simp only[P_f,sjE,Prod.mk.injEq] at hc
  obtain⟨rfl,rfl⟩:=hc
  exact⟨ρ1,S,rLR _,.nilslice,λb hb=>.inl hb⟩
 | some xs =>
  obtain⟨b,o,n,c,rfl,hx,hn⟩:=hR
  obtain⟨gb,cap,cur,rfl,hh,q1,q2,q3,q4⟩:=hrow
  simp only[P_f,hx,AB7,sjE,Prod.mk.injEq] at hc
  obtain⟨rfl,rfl⟩:=hc
  obtain⟨_,hfl,_⟩:=Y_4 hx
  have hm:gb∈(Value.slice (some ⟨gb,0,none⟩) xs.length cap).ownBlock.toList:=by simp[Value.ownBlock]
  have hg:=hlow gb hm
  have hcell:∀i x,xs[i]?=some x→cur[i]?=some x:=λi x hi=>by
   rw[←q4,List.getElem?_take] at hi
   split at hi
   ·simpa using hi
   ·cases hi
  refine⟨ρ1.add g.nx ⟨gb,0,cur.size,1,none⟩,St.grow S rfl (H:=⟨gb,0,cur.size,1,none⟩) hg (λj bk L hj hL e=>free gb hm ⟨j,bk,L,hj,hL,e⟩) ?_,Ren.le_add _ (S.hr.dom _ (lR _)),?_,λb' hb'=>?_⟩
  ·refine⟨_,cur,(0,0),rAS _ _ _,rfl,hh,rfl,λi v hv=>?_,λ_=>⟨.inl rfl,rfl,lTr hB hg,by rw[q3];exact q1,λi=>by rw[C_q];simp⟩,λ_ i v hv=>?_⟩
   ·rw[C_q] at hv
    exact⟨v,by rw[zaQ];exact hcell i v hv,(hvr xs rfl v (mgE hv)).mono (Ren.le_trans S.le (Ren.le_add _ (S.hr.dom _ (lR _))))⟩
   ·rw[C_q] at hv
    exact U_k hfl v (mgE hv)
  ·rw[←hn]
   exact .slice g.nx 0 _ _ cap ⟨gb,0,cur.size,1,none⟩ (rAS _ _ _) (lR _) q1 q2 (.inr (by show 0+0+cap*1≤cur.size;omega))
  ·rcases S_r hb' with h1|h1
   ·exact .inl h1
   ·exact .inr (by rw[h1];exact hm)
theorem AB6(S:St B ρ h w ρ1 g W)(hB:B≤w.heap.size){c2 v mv:Value}{g2:Hs}{ms:Option (Array MapEntry × Nat)}(hc:X_j h c2 g=some (v,g2))(hR:MapR ρ h c2 ms)(hmap:MapAt W mv ms)
 (hlow:∀b,mv=.map (some b)→w.heap.size≤b) (free:∀b,mv=.map (some b)→¬Hosted ρ1 g b) :
 ∃ρ2,St B ρ h w ρ2 g2 W∧ρ1.le ρ2∧VR ρ2 v mv∧∀b,Hosted ρ2 g2 b→Hosted ρ1 g b∨mv=.map (some b):=by
 cases ms with
 |none=>
  have h1:c2=.map none:=hR
  have h2:mv=.map none:=hmap
  subst h1;subst h2
  simp only[X_j,sjE,Prod.mk.injEq] at hc
  obtain⟨rfl,rfl⟩:=hc
  exact⟨ρ1,S,rLR _,.nilmap,λb hb=>.inl hb⟩
 | some p =>
  obtain⟨k,es,rfl,hk,hm⟩:=hR
  obtain⟨b,rfl,hb⟩:=hmap
  simp only[X_j,hk,cpMp,sjE,Prod.mk.injEq] at hc
  obtain⟨rfl,rfl⟩:=hc
  have hg:=hlow b rfl
  refine⟨ρ1.add g.nx ⟨b,0,0,0,none⟩,St.grow S rfl (H:=⟨b,0,0,0,none⟩) hg (λj bk L hj hL e=>free b rfl ⟨j,bk,L,hj,hL,e⟩) ?_,Ren.le_add _ (S.hr.dom _ (lR _)),.map g.nx ⟨b,0,0,0,none⟩ (rAS _ _ _),λb' hb'=>?_⟩
  ·exact⟨_,p.1,rAS _ _ _,lTr hB hg,hb,hm.mono (Ren.le_trans S.le (Ren.le_add _ (S.hr.dom _ (lR _))))⟩
  ·rcases S_r hb' with h1|h1
   ·exact .inl h1
   ·exact .inr (by rw[h1])
theorem S_3{v:Value}(h:X_0 v=true):∃n,v=.int .i64 n:=by
 cases v<;>try cases h
 rename_i k n
 cases k<;>try cases h
 exact⟨n,rfl⟩
theorem Aa2(S:St B ρ h w ρ1 g W)(hB:B≤w.heap.size){TI TD:TypeId}{p:Nat × Nat}{v:Value}{g2:Hs}{c:Cp}{s:Src}{c1 c2:Value}(hc:R_o TI TD h g (some p)=some (v,g2))
 (hcells:F_q 5 p.2 (h.hp.get p.1)=some [.int .i64 s.k,c1,c2,.int .i64 s.u,.int .i64 s.l]) (hD:DataR h c1 s.ds) (hvr:∀xs,s.ds=some xs→∀x∈xs,VR ρ x x) (hM:MapR ρ h c2 s.ms) (hat:CpAt W TI TD c s)
 (hlow:∀b∈c.blks,w.heap.size≤b) (hnd:c.blks.Nodup) (free:∀b∈c.blks,¬Hosted ρ1 g b) :
 ∃ρ2,St B ρ h w ρ2 g2 W∧ρ1.le ρ2∧VR ρ2 v (.pointer (some ⟨c.y,0,none⟩))∧∀b,Hosted ρ2 g2 b→Hosted ρ1 g b∨b∈c.blks:=by
 obtain⟨hy,hrow,hmap⟩:=hat
 have hc:a_p TI TD h g (F_q 5 p.2 (h.hp.get p.1))=some (v,g2):=hc
 rw[hcells] at hc
 have hc:h_n TI h (.int .i64 s.k) c2 (.int .i64 s.u) (.int .i64 s.l) (P_f TD h c1 g)=some (v,g2):=hc
 have mb:∀b,c.mv=.map (some b)→b∈c.blks:=λb e=>by simp[Cp.blks,e]
 have db:∀b∈c.dv.ownBlock.toList,b∈c.blks:=λb e=>mcM _ (List.mem_append_left _ e)
 obtain⟨n1,n2⟩:=List.nodup_cons.1 hnd
 cases hcd:P_f TD h c1 g with
 |none=>rw[hcd] at hc;cases hc
 |some q1=>
 rw[hcd] at hc
 obtain⟨dv1,g1⟩:=q1
 have hc:Y_c TI (.int .i64 s.k) (.int .i64 s.u) (.int .i64 s.l) dv1 (X_j h c2 g1)=some (v,g2):=hc
 obtain⟨ρ2,S2,l2,v2,o2⟩:=Aa1 S hB hcd hD hvr hrow (λb e=>hlow b (db b e)) (λb e=>free b (db b e))
 cases hcm:X_j h c2 g1 with
 |none=>rw[hcm] at hc;cases hc
 |some q2=>
 rw[hcm] at hc
 obtain⟨mv1,g3⟩:=q2
 simp only[Y_c,sjE,Prod.mk.injEq] at hc
 obtain⟨rfl,rfl⟩:=hc
 obtain⟨ρ3,S3,l3,v3,o3⟩:=AB6 S2 hB hcm hM hmap (λb e=>hlow b (mb b e)) (λb e hh=>by
  rcases o2 b hh with q|q
  ·exact free b (mb b e) q
  ·have:=(List.nodup_append.1 n2).2.2 b q b (by rw[e];simp)
   exact this rfl)
 have hh3:∀b,Hosted ρ3 g3 b→Hosted ρ1 g b∨b∈c.dv.ownBlock.toList∨c.mv=.map (some b):=λb hb=>by
  rcases o3 b hb with q|q
  ·rcases o2 b q with q|q
   ·exact .inl q
   ·exact .inr (.inl q)
  ·exact .inr (.inr q)
 have hyb:c.y∈c.blks:=mcS
 have hle:=Ren.le_add (ρ:=ρ3) (id:=g3.nx) ⟨c.y,0,5,0,none⟩ (S3.hr.dom _ (lR _))
 refine⟨ρ3.add g3.nx ⟨c.y,0,5,0,none⟩,St.grow S3 rfl (H:=⟨c.y,0,5,0,none⟩) (hlow _ hyb) (λj bk L hj hL e=>?_) ?_,Ren.le_trans l2 (Ren.le_trans l3 hle),?_,λb hb=>?_⟩
 ·have e:L.blk=c.y:=e
  rcases hh3 c.y ⟨j,bk,L,hj,hL,e⟩ with q|q|q
  ·exact free _ hyb q
  ·exact n1 (List.mem_append_left _ q)
  ·exact n1 (List.mem_append_right _ (by rw[q];simp))
 ·refine⟨_,_,(0,0),rAS _ _ _,rfl,hy,rfl,λi v hv=>?_,λ_=>⟨.inl rfl,rfl,lTr hB (hlow _ hyb),by simp,λi=>by rw[C_q];simp⟩,λhf i v hv=>?_⟩
  ·rw[C_q] at hv
   show ∃v',#[Value.int .i64 s.k,c.dv,c.mv,.int .i64 s.u,.int .i64 s.l][0+i]?=some v'∧_
   rw[zaQ]
   rcases i with _|_|_|_|_|i
   ·simp only[gcZ,sjE] at hv;subst hv;exact⟨_,rfl,.int _ _⟩
   ·simp only[List.getElem?_cons_succ,gcZ,sjE] at hv;subst hv;exact⟨_,rfl,v2.mono (Ren.le_trans l3 hle)⟩
   ·simp only[List.getElem?_cons_succ,gcZ,sjE] at hv;subst hv;exact⟨_,rfl,v3.mono hle⟩
   ·simp only[List.getElem?_cons_succ,gcZ,sjE] at hv;subst hv;exact⟨_,rfl,.int _ _⟩
   ·simp only[List.getElem?_cons_succ,gcZ,sjE] at hv;subst hv;exact⟨_,rfl,.int _ _⟩
   ·simp at hv
  ·rw[C_q] at hv
   exact U_k hf v (mgE hv)
 ·exact .ptr g3.nx 0 ⟨c.y,0,5,0,none⟩ (rAS _ _ _)
 ·rcases S_r hb with q|q
  ·rcases hh3 b q with q|q|q
   ·exact .inl q
   ·exact .inr (db b q)
   ·exact .inr (mb b q)
  ·exact .inr (by rw[q];exact hyb)
end
theorem U_g{n o:Nat}{bk:Option Blk}{vs:List Value}(h:F_q n o bk=some vs):vs.length=n∧∃c m e u rw_ fl,bk=some (.row c m e u rw_ fl)∧∀i x,vs[i]?=some x→c.get (o+i)=some x:=by
 cases bk with
 |none=>cases h
 | some b =>
  cases b with
  |row c m e u rw_ fl=>
   obtain⟨h1,h2⟩:=b_0 (show I_y c n o []=some vs from h)
   exact⟨h1,c,m,e,u,rw_,fl,rfl,h2⟩
  |_=>cases h
theorem m_y{α β:Type}{f:α→β}:∀{m:List β}{l:List α},(l.map f).Perm m→∃l2:List α,l2.Perm l∧l2.map f=m:=by
 intro m
 induction m with
 |nil=>intro l h;have:=List.perm_nil.1 h;exact⟨[],by simp at this;subst this;exact List.Perm.refl _,rfl⟩
 |cons a m ih=>
  intro l h
  have ha:a∈l.map f:=h.symm.subset mcS
  obtain⟨x,hx,rfl⟩:=List.mem_map.1 ha
  obtain⟨l1,l2,rfl⟩:=List.append_of_mem hx
  have hp:(l1++x::l2).Perm (x::(l1++l2)):=List.perm_middle
  have h2:((l1++l2).map f).Perm m:=((hp.map f).symm.trans h).cons_inv
  obtain⟨l3,q1,q2⟩:=ih h2
  exact⟨x::l3,(q1.cons x).trans hp.symm,by rw[List.map_cons,q2]⟩
theorem ME.toMK{ρ:Ren}{es es':List MapEntry}(m:ME ρ es es'):MK ρ es es':=by
 induction m with
 |nil=>exact .nil
 |cons hk _ hv _ ih=>exact .cons hk hv ih
theorem MR.align{ρ:Ren}{es:List MapEntry}{es':List MapEntry}{cl:Nat}(m:MR ρ es es' cl)(h:M_q cl es=true) :
 (∀e∈es',e.born<cl)∧(es'.map (·.born)).Nodup∧∃es2:List MapEntry,es2.Perm es'∧MK ρ es es2:=by
 obtain⟨⟨h1,h2⟩,_⟩:=m.order h
 refine⟨h1,h2,?_⟩
 rcases m with⟨m,_⟩|⟨_,_,es2,c,d⟩
 ·exact⟨es',List.Perm.refl _,m.toMK⟩
 ·exact⟨es2,c,d⟩
def v_l(p:Cp × Nat):MapEntry:=⟨p.1.e.key,.pointer (some ⟨p.1.y,0,none⟩),p.2⟩
theorem c_z:∀(cs:List Cp)(i:Nat),I_2 cs i=(cs.zipIdx i).map v_l:=by
 intro cs
 induction cs with
 |nil=>intro i;rfl
 |cons c cs ih=>intro i;rw[I_2,ih];rfl
def ItemR(ρ:Ren)(h:Hs)(W:World)(TI TD:TypeId)(e:MapEntry)(c:Cp):Prop:=∃(s:Src) (p:Nat × Nat) (c1 c2:Value),addrOf e.val=some p∧F_q 5 p.2 (h.hp.get p.1)=some [.int .i64 s.k,c1,c2,.int .i64 s.u,.int .i64 s.l] ∧
 DataR h c1 s.ds∧(∀xs,s.ds=some xs→∀x∈xs,VR ρ x x)∧MapR ρ h c2 s.ms∧CpAt W TI TD c s∧c.e.key=e.key
inductive Items (ρ:Ren) (h:Hs) (W:World) (TI TD:TypeId):List MapEntry→List (Cp × Nat)→Prop
 |nil:Items ρ h W TI TD [] []
 |cons {e:MapEntry} {c:Cp} {i:Nat} {es:List MapEntry} {cs:List (Cp × Nat)} (r:ItemR ρ h W TI TD e c) (t:Items ρ h W TI TD es cs):Items ρ h W TI TD (e::es) ((c,i)::cs)
section
variable {B:Nat} {ρ:Ren} {h:Hs} {w W:World}
theorem v_e(hB:B≤w.heap.size){TI TD:TypeId}{es:List MapEntry}{zs:List (Cp × Nat)}(I:Items ρ h W TI TD es zs):∀{ρ1:Ren}{g g2:Hs}{L:List MapEntry},St B ρ h w ρ1 g W→K_7 TI TD h es g=some (L,g2) →
 (∀b∈zs.flatMap (λz=>z.1.blks),w.heap.size≤b)→(zs.flatMap (λz=>z.1.blks)).Nodup→(∀b∈zs.flatMap (λz=>z.1.blks),¬Hosted ρ1 g b) →
 ∃ρ2,St B ρ h w ρ2 g2 W∧ρ1.le ρ2∧MK ρ2 L (zs.map v_l)∧(∀e∈L,1000000000000≤e.born)∧∀b,Hosted ρ2 g2 b→Hosted ρ1 g b∨b∈zs.flatMap (λz=>z.1.blks):=by
 induction I with
 |nil=>
  intro ρ1 g g2 L S hc _ _ _
  simp only[K_7,sjE,Prod.mk.injEq] at hc
  obtain⟨rfl,rfl⟩:=hc
  exact⟨ρ1,S,rLR _,.nil,λe he=>(by cases he),λb hb=>.inl hb⟩
 | @cons e c i es cs r t ih =>
  intro ρ1 g g2 L S hc hlow hnd free
  obtain⟨s,p,c1,c2,hp,hcells,hD,hvr,hM,hat,hkey⟩:=r
  simp only[K_7,hp] at hc
  cases hci:R_o TI TD h g (some p) with
  |none=>rw[hci] at hc;cases hc
  |some q=>
  rw[hci] at hc
  obtain⟨v,g1⟩:=q
  have hc:e_2 e.key v (K_7 TI TD h es g1)=some (L,g2):=hc
  cases hcs:K_7 TI TD h es g1 with
  |none=>rw[hcs] at hc;cases hc
  |some q2=>
  rw[hcs] at hc
  obtain⟨L1,g3⟩:=q2
  simp only[e_2,sjE,Prod.mk.injEq] at hc
  obtain⟨rfl,rfl⟩:=hc
  rw[List.flatMap_cons] at hlow hnd free
  obtain⟨n1,n2,n3⟩:=List.nodup_append.1 hnd
  obtain⟨ρ2,S2,l2,v2,o2⟩:=Aa2 S hB hci hcells hD hvr hM hat (λb hb=>hlow b (List.mem_append_left _ hb)) n1 (λb hb=>free b (List.mem_append_left _ hb))
  obtain⟨ρ3,S3,l3,m3,b3,o3⟩:=ih S2 hcs (λb hb=>hlow b (List.mem_append_right _ hb)) n2 (λb hb hh=>by
   rcases o2 b hh with q|q
   ·exact free b (List.mem_append_right _ hb) q
   ·exact n3 b q b hb rfl)
  refine⟨ρ3,S3,Ren.le_trans l2 l3,.cons hkey (v2.mono l3) m3,λe' he=>?_,λb hb=>?_⟩
  ·rcases mcQ.1 he with rfl|he
   ·exact lR _
   ·exact b3 e' he
  ·rw[List.flatMap_cons]
   rcases o3 b hb with q|q
   ·rcases o2 b q with q|q
    ·exact .inl q
    ·exact .inr (List.mem_append_left _ q)
   ·exact .inr (List.mem_append_right _ q)
end
theorem Bp4 {B : Nat} {ρ : Ren} {h : Hs} {w : World} (R : HR B ρ h w) {TI TD : TypeId} {e e' : MapEntry} (hv : VR ρ e.val e'.val) {g g2 : Hs} {v : Value} (hc : R_o TI TD h g (addrOf e.val) = some (v, g2)) :
 ∃(s:Src) (p:Nat × Nat) (c1 c2:Value),addrOf e.val=some p∧F_q 5 p.2 (h.hp.get p.1)=some [.int .i64 s.k,c1,c2,.int .i64 s.u,.int .i64 s.l] ∧
  DataR h c1 s.ds∧(∀xs,s.ds=some xs→∀x∈xs,VR ρ x x)∧MapR ρ h c2 s.ms∧SrcAt w e' s:=by
 cases hp:addrOf e.val with
 |none=>rw[hp] at hc;cases hc
 |some p=>
 rw[hp] at hc
 have hc:a_p TI TD h g (F_q 5 p.2 (h.hp.get p.1))=some (v,g2):=hc
 obtain⟨H,hH,_,hev⟩:=K_m hv hp
 cases hcs:F_q 5 p.2 (h.hp.get p.1) with
 |none=>rw[hcs] at hc;cases hc
 |some xs=>
 rw[hcs] at hc
 obtain⟨hlen,cc,m,et,u,rw_,fl,hbk,hget⟩:=U_g hcs
 rcases xs with _|⟨c0,_|⟨c1,_|⟨c2,_|⟨c3,_|⟨c4,_|⟨c5,xs⟩⟩⟩⟩⟩⟩<;>try (simp at hlen;done)
 simp only[a_p] at hc
 cases hck:andB (X_0 c0) (andB (X_0 c3) (X_0 c4)) with
 |false=>rw[hck] at hc;cases hc
 |true=>
 rw[hck] at hc
 obtain⟨k0,k1⟩:=andB_true hck
 obtain⟨k3,k4⟩:=andB_true k1
 obtain⟨n0,rfl⟩:=S_3 k0
 obtain⟨n3,rfl⟩:=S_3 k3
 obtain⟨n4,rfl⟩:=S_3 k4
 have hc:h_n TI h (.int .i64 n0) c2 (.int .i64 n3) (.int .i64 n4) (P_f TD h c1 g)=some (v,g2):=hc
 obtain⟨H',arr,fz,q1,_,hh,hsz,hcell,_⟩:=R.has p.1 _ hbk
 rw[hH] at q1
 injection q1 with q1
 subst q1
 obtain⟨a0,g0,w0⟩:=hcell _ _ (hget 0 _ rfl)
 obtain⟨a1,g1',w1⟩:=hcell _ _ (hget 1 _ rfl)
 obtain⟨a2,g2',w2⟩:=hcell _ _ (hget 2 _ rfl)
 obtain⟨a3,g3',w3⟩:=hcell _ _ (hget 3 _ rfl)
 obtain⟨a4,g4',w4⟩:=hcell _ _ (hget 4 _ rfl)
 have:=w0.int_inv
 subst this
 have:=w3.int_inv
 subst this
 have:=w4.int_inv
 subst this
 -- the bytes
 have hds : ∃ ds, DataR h c1 ds ∧ (∀ xs, ds = some xs → ∀ x ∈ xs, VR ρ x x) ∧ DataAt w a1 ds := by
  cases hcd:P_f TD h c1 g with
  |none=>rw[hcd] at hc;cases hc
  | some q =>
   obtain⟨sa,n,c,rfl⟩:∃sa n c,c1=.slice sa n c:=by
    cases c1<;>first|exact⟨_,_,_,rfl⟩|(simp[P_f] at hcd)
   cases sa with
   | none =>
    have h0:n=0∧c=0:=by
     cases n<;>cases c<;>first|exact⟨rfl,rfl⟩|(simp[P_f] at hcd)
    obtain⟨rfl,rfl⟩:=h0
    have:a1=.slice none 0 0:=by cases w1;rfl
    exact⟨none,rfl,λxs h=>(by cases h),this⟩
   | some sa =>
    cases hsp:sa.spot with
    |some z=>simp[P_f,hsp] at hcd
    | none =>
     simp only[P_f,hsp] at hcd
     cases hf:Y_j (F_q n sa.off (h.hp.get sa.block)) with
     |none=>rw[hf] at hcd;cases hcd
     | some xs =>
      obtain⟨f1,f2,f3⟩:=Y_4 hf
      obtain⟨z1,c',m',e',u',rw',fl',z2,z3⟩:=U_g f1
      have hsa:sa=⟨sa.block,sa.off,none⟩:=by cases sa;simp at hsp;subst hsp;rfl
      rw[hsa] at w1
      cases w1 with
      | slice _ _ _ _ cc' Hd hHd p1 p2 p3 p4 =>
       obtain⟨Hd',arrd,fzd,y1,_,y2,_,y3,_⟩:=R.has _ _ z2
       rw[hHd] at y1
       injection y1 with y1
       subst y1
       have hx:∀j x,xs[j]?=some x→arrd[Hd.off+(sa.off+j)]?=some x∧VR ρ x x:=λj x hj=>by
        obtain⟨x',r1,r2⟩:=y3 _ _ (z3 j x hj)
        have hfx:=U_k f2 x (mgE hj)
        have:=s_r hfx r2
        subst this
        exact⟨r1,r2⟩
       refine⟨some xs,⟨sa.block,sa.off,n,c,by rw[←hsa],hf,z1⟩,λys hy x hxm=>?_,Hd.blk,Hd.off+sa.off,cc',by rw[z1],(gaI.1 y2).1,f3,U_k f2,λj x hj=>?_⟩
       ·injection hy with hy
        subst hy
        obtain⟨j,hj⟩:=List.getElem?_of_mem hxm
        exact(hx j x hj).2
       ·have:=(hx j x hj).1
        simp only[World.cell?,y2]
        rw[Nat.add_assoc]
        simpa using this
 obtain⟨ds,hd1,hd2,hd3⟩:=hds
 -- the names
 have hms : ∃ ms, MapR ρ h c2 ms ∧ MapAt w a2 ms := by
  cases hcd:P_f TD h c1 g with
  |none=>rw[hcd] at hc;cases hc
  | some q =>
   rw[hcd] at hc
   have hc:Y_c TI (.int .i64 n0) (.int .i64 n3) (.int .i64 n4) q.1 (X_j h c2 q.2)=some (v,g2):=hc
   cases hcm:X_j h c2 q.2 with
   |none=>rw[hcm] at hc;cases hc
   | some q2 =>
    obtain⟨mo,rfl⟩:∃mo,c2=.map mo:=by
     cases c2<;>first|exact⟨_,rfl⟩|(simp[X_j] at hcm)
    cases mo with
    |none=>
     have:a2=.map none:=by cases w2;rfl
     exact⟨none,rfl,this⟩
    | some k =>
     simp only[X_j] at hcm
     cases hk:h.hp.get k with
     |none=>rw[hk] at hcm;cases hcm
     | some bk =>
      rw[hk] at hcm
      cases bk with
      | mp es cl =>
       cases w2 with
       |map _ Hm hHm=>
        obtain⟨Hm',es',y1,_,y2,y3⟩:=R.has _ _ hk
        rw[hHm] at y1
        injection y1 with y1
        subst y1
        exact⟨some (es',cl),⟨k,es,rfl,hk,y3⟩,Hm.blk,rfl,y2⟩
      |_=>cases hcm
 obtain⟨ms,hm1,hm2⟩:=hms
 refine⟨⟨n0,n3,n4,ds,ms⟩,p,c1,c2,rfl,hcs,hd1,hd2,hm1,H.blk,H.off+p.2,arr,et,fz,a1,a2,hev,hh,?_,?_,?_,?_,?_,hd3,hm2⟩
 ·simpa using g0
 ·rw[Nat.add_assoc];exact g1'
 ·rw[Nat.add_assoc];exact g2'
 ·rw[Nat.add_assoc];exact g3'
 ·rw[Nat.add_assoc];exact g4'
theorem k_r{TI TD:TypeId}{h:Hs}:∀{es:List MapEntry}{g g2:Hs}{L:List MapEntry},K_7 TI TD h es g=some (L,g2)→L.length=es.length∧∀e∈es,∃g' v g'',R_o TI TD h g' (addrOf e.val)=some (v,g''):=by
 intro es
 induction es with
 |nil=>
  intro g g2 L hc
  simp only[K_7,sjE,Prod.mk.injEq] at hc
  obtain⟨rfl,rfl⟩:=hc
  exact⟨rfl,λe he=>by cases he⟩
 |cons e es ih=>
  intro g g2 L hc
  simp only[K_7] at hc
  cases hci:R_o TI TD h g (addrOf e.val) with
  |none=>rw[hci] at hc;cases hc
  |some q=>
  rw[hci] at hc
  have hc:e_2 e.key q.1 (K_7 TI TD h es q.2)=some (L,g2):=hc
  cases hcs:K_7 TI TD h es q.2 with
  |none=>rw[hcs] at hc;cases hc
  |some q2=>
  rw[hcs] at hc
  simp only[e_2,sjE,Prod.mk.injEq] at hc
  obtain⟨rfl,rfl⟩:=hc
  obtain⟨h1,h2⟩:=ih hcs
  refine⟨by simp[h1],λe' he=>?_⟩
  rcases mcQ.1 he with rfl|he
  ·exact⟨g,q.1,q.2,hci⟩
  ·exact h2 e' he
theorem AF5{es:List MapEntry}{ks:List Int}(h:R_6 keyI es=some ks):es.map (·.key)=ks.map (λn=>Value.int .i64 n)∧∀e∈es,∃n,e.key=.int .i64 n:=by
 have hd:∀v (x:Int),keyI v=some x→v=.int .i64 x:=λv x hv=>(keyI_in hv).1
 refine⟨m_e (enc:=λn=>Value.int .i64 n) hd h,λe he=>?_⟩
 obtain⟨x,hx⟩:=f_i h e he
 exact⟨x,hd _ _ hx⟩
theorem y_p{ρ:Ren}{h:Hs}{w:World}{TI TD:TypeId}{B:Nat}(R:HR B ρ h w){es es2:List MapEntry}(m:MK ρ es es2)(hnd:(es2.map (·.key)).Nodup)(hc:∀e∈es,∃g' v g'',R_o TI TD h g' (addrOf e.val)=some (v,g'')) :
 ∃src:MapEntry→Src,(∀e'∈es2,SrcAt w e' (src e'))∧∀(W:World)(zs:List (Cp × Nat)),zs.map (λz=>z.1.e)=es2→(∀z∈zs,CpAt W TI TD z.1 (src z.1.e))→Items ρ h W TI TD es zs:=by
 induction m with
 |nil=>exact⟨λ_=>⟨0,0,0,none,none⟩,λe he=>(by cases he),λW zs hz _=>by
  have:zs = []:=by simpa using hz
  subst this;exact .nil⟩
 | @cons e e' es es2 hk hv t ih =>
  rw[List.map_cons,List.nodup_cons] at hnd
  obtain⟨src,h1,h2⟩:=ih hnd.2 (λe he=>hc e (mcM _ he))
  obtain⟨g',v,g'',hci⟩:=hc e mcS
  obtain⟨s,p,c1,c2,hp,hcells,hD,hvr,hM,hS⟩:=Bp4 R hv hci
  have hne:∀x∈es2,x.key≠e'.key:=λx hx q=>hnd.1 (by rw[←q];exact List.mem_map_of_mem hx)
  refine⟨λx=>open Classical in if x.key=e'.key then s else src x,λx hx=>?_,λW zs hz hat=>?_⟩
  ·rcases mcQ.1 hx with rfl|hx
   ·simp only[if_true];exact hS
   ·simp only[if_neg (hne x hx)];exact h1 x hx
  ·cases zs with
   |nil=>cases hz
   | cons z zs =>
    obtain⟨c,i⟩:=z
    rw[List.map_cons,List.cons.injEq] at hz
    obtain⟨hz1,hz2⟩:=hz
    have hz1:c.e=e':=hz1
    refine .cons ⟨s,p,c1,c2,hp,hcells,hD,hvr,hM,?_,by rw[hz1];exact hk⟩ (h2 W zs hz2 λz hzm=>?_)
    ·have:=hat (c,i) mcS
     simp only[hz1,if_true] at this
     exact this
    ·have hm:z.1.e∈es2:=by rw[←hz2];exact List.mem_map_of_mem (f:=λz:Cp × Nat=>z.1.e) hzm
     have:=hat z (mcM _ hzm)
     simp only[if_neg (hne _ hm)] at this
     exact this
set_option maxHeartbeats 1000000 in
theorem z_2{P:Program}{f:FuncId}{TT TI TD:TypeId}(hf:(FF P f).isSome=true)(C:CloneC P f TT TI TD):SumOk P f (a_o TT TI TD):=by
 refine⟨Option.isSome_iff_exists.1 hf,λargs args' v h h' B ρ w hr hl Rl=>?_⟩
 unfold a_o at hr
 split at hr
 ·rename_i a
  obtain⟨a',r1,e1,hva,hl1⟩:=hl.head
  have:=hl1.nil_left
  subst this
  have harg:args'=#[a']:=by apply Array.ext';simpa using e1
  subst harg
  cases hp:addrOf a with
  |none=>rw[hp] at hr;cases hr
  |some p=>
  rw[hp] at hr
  have hr:clone2 TT TI TD h (F_q 2 p.2 (h.hp.get p.1))=some (.val v h'):=hr
  obtain⟨H,hH,_,rfl⟩:=K_m hva hp
  cases hcs:F_q 2 p.2 (h.hp.get p.1) with
  |none=>rw[hcs] at hr;cases hr
  |some xs=>
  rw[hcs] at hr
  obtain⟨hlen,cc,m,et,u,rw_,fl,hbk,hget⟩:=U_g hcs
  rcases xs with _|⟨most,_|⟨mv,_|⟨c2,xs⟩⟩⟩<;>try (simp at hlen;done)
  obtain⟨k,rfl⟩:∃k,mv=.map (some k):=by
   cases mv<;>try (simp[clone2] at hr;done)
   rename_i mo
   cases mo with
   |none=>simp[clone2] at hr
   |some k=>exact⟨k,rfl⟩
  simp only[clone2] at hr
  cases hmo:X_0 most with
  |false=>rw[hmo] at hr;cases hr
  |true=>
  rw[hmo] at hr
  obtain⟨mn,rfl⟩:=S_3 hmo
  have hr:z_1 TT TI TD h (.int .i64 mn) (h.hp.get k)=some (.val v h'):=hr
  obtain⟨H',arr,fz,q1,_,hh,hsz,hcell,_⟩:=Rl.has p.1 _ hbk
  rw[hH] at q1
  injection q1 with q1
  subst q1
  obtain⟨a0,g0,w0⟩:=hcell _ _ (hget 0 _ rfl)
  obtain⟨a1,g1,w1⟩:=hcell _ _ (hget 1 _ rfl)
  have:=w0.int_inv
  subst this
  cases w1 with
  |map _ Hm hHm=>
  cases hk:h.hp.get k with
  |none=>rw[hk] at hr;cases hr
  |some bk=>
  rw[hk] at hr
  cases bk with
  | mp es cl =>
   have hr:r_4 TT TI TD h (.int .i64 mn) es cl (R_6 keyI es)=some (.val v h'):=hr
   cases hks:R_6 keyI es with
   |none=>rw[hks] at hr;cases hr
   |some ks=>
   rw[hks] at hr
   simp only[r_4] at hr
   cases hck:andB (andB (M_q cl es) (distB eqI ks)) (Nat.ble es.length 1000) with
   |false=>rw[hck] at hr;cases hr
   |true=>
   rw[hck] at hr
   obtain⟨k1,k2⟩:=andB_true hck
   obtain⟨k3,k4⟩:=andB_true k1
   have k2:=lbT k2
   cases hci:K_7 TI TD h es h with
   |none=>rw[hci] at hr;cases hr
   |some q=>
   rw[hci] at hr
   obtain⟨L,g2⟩:=q
   simp only[AT1,sjE,Out.val.injEq] at hr
   obtain⟨rfl,rfl⟩:=hr
   obtain⟨hLl,heach⟩:=k_r hci
   obtain⟨Hm',es',y1,_,y2,y3⟩:=Rl.has k _ hk
   rw[hHm] at y1
   injection y1 with y1
   subst y1
   obtain⟨hlt,hnb,es2,hperm,hal⟩:=y3.align k3
   obtain⟨hkm,hki⟩:=AF5 hks
   have hks_nd:(ks.map λn=>Value.int .i64 n).Nodup:=by
    have hn:ks.Nodup:=distB_spec (λa b hab e=>by rw[eqI_eq] at hab;subst e;simp at hab) k4
    unfold List.Nodup at hn ⊢
    rw[List.pairwise_map]
    exact hn.imp λhne e=>hne (by injection e)
   have hnk2:(es2.map (·.key)).Nodup:=by rw[hal.keys,hkm];exact hks_nd
   have hnk:(es'.toList.map (·.key)).Nodup:=(hperm.map _).nodup_iff.1 hnk2
   have hki':∀e∈es'.toList,∃n:Int,e.key=.int .i64 n:=λe he=>by
    obtain⟨e0,p1,p2⟩:=P_2 (g:=(·.key)) hal.keys (hperm.symm.subset he)
    have p2:e0.key=e.key:=p2
    obtain⟨n,hn⟩:=hki e0 p1
    exact⟨n,by rw[←p2];exact hn⟩
   have hsize:es'.size≤1000:=by
    have:=hperm.length_eq
    have h2:=hal.len
    simp only[Array.length_toList] at this
    omega
   obtain⟨src,hsrc,hitems⟩:=y_p (TI:=TI) (TD:=TD) Rl hal hnk2 heach
   have hc0:w.cell? ⟨H.blk,H.off+p.2,none⟩=some (.int .i64 mn):=by simp only[World.cell?,hh];simpa using g0
   have hc1:w.cell? ⟨H.blk,H.off+p.2+1,none⟩=some (.map (some Hm.blk)):=by simp only[World.cell?,hh];simpa [Nat.add_assoc] using g1
   refine(C w H.blk (H.off+p.2) mn Hm.blk es' cl src hc0 hc1 y2 hlt hnb hki' hnk hsize (λe he=>hsrc e (hperm.symm.subset he))).mono λx W' hx=>?_
   obtain⟨tb,mb,cs,rfl,hcp,htb,hmb,hcat,hnd,hlow,hb⟩:=hx
   obtain⟨cs2,p1,p2⟩:=m_y (f:=Cp.e) (hcp.trans hperm.symm)
   obtain⟨zs,z1,z2⟩:=m_y (f:=λz:Cp × Nat=>z.1) (m:=cs2) (l:=cs.zipIdx) (by rw[List.zipIdx_map_fst];exact p1.symm)
   have hfl:zs.flatMap (λz=>z.1.blks)=cs2.flatMap Cp.blks:=by
    rw[←z2,List.flatMap_map]
   have hpf:(cs2.flatMap Cp.blks).Perm (cs.flatMap Cp.blks):=p1.flatMap_right _
   have I:Items ρ h W' TI TD es zs:=hitems W' zs (by rw[←p2,←z2,List.map_map];rfl) (λz hz=>hcat z.1 (p1.subset (by rw[←z2];exact List.mem_map_of_mem (f:=λz:Cp × Nat=>z.1) hz)))
   have S0:St B ρ h w ρ h W':=St.more Rl hb
   obtain⟨n1,n2⟩:=List.nodup_cons.1 hnd
   obtain⟨n3,n4⟩:=List.nodup_cons.1 n2
   have hosts:∀b,Hosted ρ h b→b<w.heap.size:=λb ⟨j,blk,L',e1,e2,e3⟩=>by
    obtain⟨L2,f1,f2⟩:=(Rl.has j blk e1).host_lt
    rw[e2] at f1;injection f1 with f1;subst f1
    rw[←e3];exact f2
   have hlow2:∀b∈zs.flatMap (λz=>z.1.blks),w.heap.size≤b:=λb hbm=>hlow b (mcM _ (mcM _ (hpf.subset (by rw[←hfl];exact hbm))))
   obtain⟨ρ2,S2,l2,m2,b2,o2⟩:=v_e Rl.base I S0 hci hlow2 (by rw[hfl];exact hpf.nodup_iff.2 n4) (λb hbm hh2=>by
    have h1:=hlow2 b hbm
    have h2:=hosts b hh2
    omega)
   have htl:w.heap.size≤tb:=hlow tb mcS
   have hml:w.heap.size≤mb:=hlow mb (mcM _ mcS)
   have free1:∀b,b=tb∨b=mb→¬Hosted ρ2 g2 b:=λb hb2 hh2=>by
    rcases o2 b hh2 with q|q
    ·have:=hosts b q
     rcases hb2 with rfl|rfl<;>omega
    ·rw[hfl] at q
     have q:=hpf.subset q
     rcases hb2 with rfl|rfl
     ·exact n1 (mcM _ q)
     ·exact n3 q
   -- the map
   have hle1:=Ren.le_add (ρ:=ρ2) (id:=g2.nx) ⟨mb,0,0,0,none⟩ (S2.hr.dom _ (lR _))
   have hcl:cs.length=L.length:=by
    have h1:=p1.length_eq
    have h2:=congrArg List.length p2
    have h3:=hal.len
    simp only[lmQ] at h2
    omega
   have hbn:((cs.zipIdx.map v_l).map (·.born))=List.range cs.length:=by
    rw[List.map_map,List.range_eq_range',←List.zipIdx_map_snd 0 cs]
    rfl
   have hbk2:((cs.zipIdx.map v_l).map (·.key))=cs.map (λc=>c.e.key):=by
    rw[List.map_map]
    have:(cs.zipIdx.map λz:Cp × Nat=>z.1)=cs:=List.zipIdx_map_fst 0 cs
    calc cs.zipIdx.map ((·.key) ∘ v_l)=(cs.zipIdx.map λz:Cp × Nat=>z.1).map (λc=>c.e.key):=by rw[List.map_map];rfl
     _=_:=by rw[this]
   have hkperm:(cs.map λc=>c.e.key).Perm (es'.toList.map (·.key)):=by
    have:=hcp.map (·.key)
    rw[List.map_map] at this
    exact this
   have S3:St B ρ h w (ρ2.add g2.nx ⟨mb,0,0,0,none⟩) (W_3 g2 L L.length) W':=by
    refine St.grow S2 (b2:=.mp L L.length) rfl (H:=⟨mb,0,0,0,none⟩) hml (λj bk' L' hj hL e=>free1 mb (.inr rfl) ⟨j,bk',L',hj,hL,e⟩) ⟨_,(I_2 cs 0).toArray,rAS _ _ _,lTr Rl.base hml,by rw[←hcl];exact hmb,.inr ⟨b2,?_,zs.map v_l,?_,m2.mono hle1⟩⟩
    ·rw[c_z]
     refine⟨λe he=>?_,?_,?_,.inl λe he=>?_⟩
     ·have:e.born∈List.range cs.length:=by rw[←hbn];exact List.mem_map_of_mem he
      rw[←hcl]
      exact List.mem_range.1 this
     ·rw[hbn];exact List.nodup_range
     ·rw[hbk2];exact hkperm.nodup_iff.2 hnk
     ·have:e.key∈es'.toList.map (·.key):=hkperm.subset (by rw[←hbk2];exact List.mem_map_of_mem he)
      obtain⟨e0,f1,f2⟩:=List.mem_map.1 this
      obtain⟨n,hn⟩:=hki' e0 f1
      have f2:e0.key=e.key:=f2
      exact⟨n,by rw[←f2];exact hn⟩
    ·rw[c_z]
     exact z1.map _
   -- the tree
   have o3:∀b,Hosted (ρ2.add g2.nx ⟨mb,0,0,0,none⟩) (W_3 g2 L L.length) b→Hosted ρ2 g2 b∨b=mb:=λb hb2=>S_r hb2
   have hnx3:(W_3 g2 L L.length).nx=Nat.succ g2.nx:=rfl
   have hdom3:=S3.hr.dom (Nat.succ g2.nx) (lR _)
   have hle2:=Ren.le_add (ρ:=ρ2.add g2.nx ⟨mb,0,0,0,none⟩) (id:=Nat.succ g2.nx) ⟨tb,0,2,0,none⟩ hdom3
   refine⟨_,(ρ2.add g2.nx ⟨mb,0,0,0,none⟩).add (Nat.succ g2.nx) ⟨tb,0,2,0,none⟩,rfl,.ptr (Nat.succ g2.nx) 0 ⟨tb,0,2,0,none⟩ (rAS _ _ _),?_⟩
   refine St.grow S3 (b2:=.row (ofList [.int .i64 mn,.map (some g2.nx)]) 2 TT 0 true (F_e [.int .i64 mn,.map (some g2.nx)])) rfl (H:=⟨tb,0,2,0,none⟩) htl (λj bk' L' hj hL e=>?_) ⟨_,_,(0,0),rAS _ _ _,rfl,htb,rfl,λi x hx=>?_,λ_=>⟨.inl rfl,rfl,lTr Rl.base htl,by simp,λi=>by rw[C_q];simp⟩,λhfl2 i x hx=>?_⟩
   ·have e:L'.blk=tb:=e
    rcases o3 tb ⟨j,bk',L',hj,hL,e⟩ with q|q
    ·exact free1 tb (.inl rfl) q
    ·exact n1 (by rw[q];exact mcS)
   ·rw[C_q] at hx
    show ∃v',#[Value.int .i64 mn,.map (some mb)][0+i]?=some v'∧_
    rw[zaQ]
    rcases i with _|_|i
    ·simp only[gcZ,sjE] at hx;subst hx;exact⟨_,rfl,.int _ _⟩
    ·simp only[List.getElem?_cons_succ,gcZ,sjE] at hx;subst hx
     exact⟨_,rfl,.map g2.nx ⟨mb,0,0,0,none⟩ (hle2 _ _ (rAS _ _ _))⟩
    ·simp at hx
   ·rw[C_q] at hx
    exact U_k hfl2 x (mgE hx)
  |_=>cases hr
 ·cases hr
end Go.Gev
