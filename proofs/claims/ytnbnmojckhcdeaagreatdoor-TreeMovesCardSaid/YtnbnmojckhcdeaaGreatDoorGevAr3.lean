import Derived.Test.YtnbnmojckhcdeaaGreatDoorGevAr2
import Derived.Test.YtnbnmojckhcdeaaGreatDoorGevHos
namespace Go.Gev
open Go.RowKit Go.ChangeShapes
def IsBytes(w:World)(v:Value):Prop:=v=.slice none 0 0∨∃(a:Addr) (cap:Nat) (D:List UInt8),v=.slice (some a) D.length cap∧D.length≤cap∧cap≤maxLen ∧
 ∀(i:Nat)(b:UInt8),D[i]?=some b→w.cell? (a.add i)=some (.int .u8 (.ofNat b.toNat))
section
variable {H:Type} {enc:TypeId × Value→H} {P:Program} {w:World} {base:Nat} {spare:Nat→Bool} {held:Bool}
theorem AA8{t e:TypeId}{fuel:Nat}{v:Value}{x:DataW H × List MemPlace}(ht:P.underlying t=some (.slice e))(he:P.underlying e=some (.int .u8))(hc:P.cellsOf e=1)
 (h:DataW.trod enc P w base spare held fuel t [v]=some x):IsBytes w v:=by
 rcases open_ints ht he hc h with⟨q,_⟩|⟨a,len,cap,zs,q,_,q2,q3,q4,_,q6,q7⟩
 ·injection q with q;exact .inl q
 ·injection q with q
  have hz:len≤zs.length:=by rw[q4];split<;>omega
  have hlen:(zs.take len).length=len:=by rw[List.length_take];omega
  refine .inr ⟨a,cap,(zs.take len).map λn=>UInt8.ofNat n.toNat,by rw[lmQ,hlen];exact q,by rw[lmQ,hlen];exact q2,q3,λi b hi=>?_⟩
  rw[List.getElem?_map] at hi
  cases hn:(zs.take len)[i]? with
  |none=>rw[hn] at hi;cases hi
  | some n =>
   rw[hn] at hi
   injection hi with hi
   subst hi
   have hm:n∈zs:=List.mem_of_mem_take (mgE hn)
   have hw:=q7 n hm
   have hw:IntKind.u8.min≤n∧n≤IntKind.u8.max:=by simpa [Lit.wf] using hw
   have h0:(0:Int)≤n:=hw.1
   have h1:n≤(255:Int):=hw.2
   rw[List.getElem?_take] at hn
   split at hn
   ·obtain⟨h2,h3⟩:=geI.1 hn
    have:=q6 i h2
    rw[List.getD_eq_getElem?_getD,hn] at this
    rw[this]
    have e:(UInt8.ofNat n.toNat).toNat=n.toNat:=by rw[UInt8.toNat_ofNat'];omega
    rw[e]
    congr 2
    show (some n).getD 0=Int.ofNat n.toNat
    show n=Int.ofNat n.toNat
    have:(Int.ofNat n.toNat)=((n.toNat:Nat):Int):=rfl
    omega
   ·cases hn
end
theorem y_w{w:World}{v:Value}{B:Nat}{ρ:Ren}{h:Hs}(R:HR B ρ h w)(hf:∀id b,h.hp.get id=some b→isRw b=false)(hv:IsBytes w v) :
 ∃(v0:Value) (h':Hs) (ρ':Ren) (D:List UInt8),(h'=h∨∃b,h'=⟨h.hp.set h.nx (some b),h.nx+1,h.nx+1⟩)∧ρ.le ρ'∧VR ρ' v0 v∧HR B ρ' h' w∧(∀id b,h'.hp.get id=some b→isRw b=false) ∧
  Rd h' v0 1 (ones (B_9 D))∧(∀i,vId v0=some i→i<h'.nx)∧(∀id,id<h.nx→h'.hp.get id=h.hp.get id)∧h.nx≤h'.nx:=by
 rcases hv with rfl|⟨a,cap,D,rfl,hl,hm,hc⟩
 ·exact⟨.slice none 0 0,h,ρ,[],.inl rfl,rLR _,.nilslice,R,hf,⟨⟨λl hl=>by simp[ones,B_9] at hl,.inl ⟨none,0,rfl,rfl⟩⟩,λb hb=>by simp[Th.id,ones,B_9] at hb⟩,λi hi=>(by cases hi),λ_ _=>rfl,lR _⟩
 ·cases D with
  |nil=>exact⟨.slice (some ⟨0,0,some 0⟩) 0 0,h,ρ,[],.inl rfl,rLR _,.empty 0 0 0 a cap hm,R,hf,⟨⟨λl hl=>by simp[ones,B_9] at hl,.inl ⟨_,0,rfl,rfl⟩⟩,λb hb=>by simp[Th.id,ones,B_9] at hb⟩,λi hi=>(by cases hi),λ_ _=>rfl,lR _⟩
  | cons x xs =>
   have q1:=hc 0 x rfl
   obtain⟨blk,off,spot⟩:=a
   obtain⟨rfl,arr,et,fz,hh⟩:spot=none∧∃arr et fz,w.heap[blk]?=some (.cells arr et fz):=by
    rw[show Addr.add ⟨blk,off,spot⟩ 0=⟨blk,off,spot⟩ by simp[Addr.add]] at q1
    unfold World.cell? at q1
    simp only at q1
    split at q1
    ·rename_i arr et fz hq
     cases spot with
     |none=>exact⟨rfl,arr,et,fz,hq⟩
     |some k=>simp at q1
    ·cases q1
   have hcell:∀k v,w.cell? (Addr.add ⟨blk,off,none⟩ k)=some v→arr[off+k]?=some v:=λk v hv=>by
    have e:Addr.add ⟨blk,off,none⟩ k=⟨blk,off+k,none⟩:=by
     by_cases h:k=0
     ·subst h;simp[Addr.add]
     ·simp[Addr.add,h]
    rw[e] at hv
    unfold World.cell? at hv
    simp only[hh] at hv
    simpa using hv
   let cs:List Value:=B_9 (x::xs)
   have hcells:∀i v,(ofList cs).get i=some v→arr[off+i]?=some v∧∃n,v=.int .u8 n:=λi v hv=>by
    rw[C_q,Bg3] at hv
    cases hj:(x::xs)[i]? with
    |none=>rw[hj] at hv;cases hv
    |some y=>rw[hj] at hv;injection hv with hv;subst hv;exact⟨hcell _ _ (hc i y hj),_,rfl⟩
   have hget:∀id,(h.hp.set h.nx (some (Blk.row (ofList cs) 0 et 0 false false))).get id=if h.nx=id then some (Blk.row (ofList cs) 0 et 0 false false) else h.hp.get id:=λid=>tgS _ _ _ _
   have hl1:∀id b,h.hp.get id=some b→id<h.nx:=λid b hb=>R.lt hb
   refine⟨.slice (some ⟨h.nx,0,none⟩) (x::xs).length (x::xs).length,⟨h.hp.set h.nx (some (.row (ofList cs) 0 et 0 false false)),h.nx+1,h.nx+1⟩,ρ.add h.nx ⟨blk,off,arr.size,0,none⟩,x::xs,.inr ⟨_,rfl⟩,?_,?_,?_,?_,⟨?_,?_⟩,?_,?_,Nat.le_succ _⟩
   ·intro id X e
    by_cases hid:id=h.nx
    ·subst hid;rw[R.dom _ (lR _)] at e;cases e
    ·rw[rAO _ _ hid];exact e
   ·exact .slice h.nx 0 _ _ cap ⟨blk,off,arr.size,0,none⟩ (rAS _ _ _) (lR _) hl hm (.inl rfl)
   ·refine⟨R.base,λid hid=>?_,λid b hb=>?_,λid id' b b' X X' hb hb' hne hr _ _=>?_⟩
    ·have hid:h.nx+1≤id:=hid
     rw[rAO _ _ (by omega)]
     exact R.dom id (by omega)
    ·replace hb:(h.hp.set h.nx (some (Blk.row (ofList cs) 0 et 0 false false))).get id=some b:=hb
     rw[hget] at hb
     by_cases e:h.nx=id
     ·rw[if_pos e] at hb
      injection hb with hb
      subst hb;subst e
      exact⟨⟨blk,off,arr.size,0,none⟩,arr,fz,rAS _ _ _,rfl,hh,rfl,λi v hv=>by obtain⟨r1,n,rfl⟩:=hcells i v hv;exact⟨_,r1,.int _ _⟩,(λe=>by cases e),(λe=>by cases e)⟩
     ·rw[if_neg e] at hb
      refine(R.has id b hb).mono (λi X e2=>?_) λX e2=>rfl
      by_cases hi:i=h.nx
      ·subst hi;rw[R.dom _ (lR _)] at e2;cases e2
      ·rw[rAO _ _ hi];exact e2
    ·replace hb:(h.hp.set h.nx (some (Blk.row (ofList cs) 0 et 0 false false))).get id=some b:=hb
     rw[hget] at hb
     by_cases e:h.nx=id
     ·rw[if_pos e] at hb
      injection hb with hb
      subst hb;cases hr
     ·rw[if_neg e] at hb
      rw[hf id b hb] at hr;cases hr
   ·intro id b hb
    replace hb:(h.hp.set h.nx (some (Blk.row (ofList cs) 0 et 0 false false))).get id=some b:=hb
    rw[hget] at hb
    by_cases e:h.nx=id
    ·rw[if_pos e] at hb;injection hb with hb;subst hb;rfl
    ·rw[if_neg e] at hb;exact hf id b hb
   ·refine⟨X_5 _,.inr ⟨h.nx,0,_,ofList cs,0,et,0,false,false,by rw[J_t,O_y],by rw[J_t,O_y];exact lR _,by rw[show (⟨h.hp.set h.nx (some (.row (ofList cs) 0 et 0 false false)),h.nx+1,h.nx+1⟩:Hs).hp.get h.nx=_ from hget h.nx,if_pos rfl],.inl rfl,λi j l hl hj=>?_⟩⟩
    have hj:j=0:=by omega
    subst hj
    rw[zaQ,Nat.mul_one,Nat.add_zero,C_q]
    unfold ones at hl
    rw[List.getElem?_map] at hl
    cases hx:(B_9 (x::xs))[i]? with
    |none=>rw[hx] at hl;cases hl
    |some y=>rw[hx] at hl;injection hl with hl;subst hl;rfl
   ·intro b hb
    have e:some h.nx=some b:=hb
    injection e with e
    subst e
    exact Nat.lt_succ_self _
   ·intro i hi
    have e:some h.nx=some i:=hi
    injection e with e
    subst e
    exact Nat.lt_succ_self _
   ·intro id hid
    show (h.hp.set h.nx (some (Blk.row (ofList cs) 0 et 0 false false))).get id=_
    rw[hget,if_neg (by omega)]
end Go.Gev
