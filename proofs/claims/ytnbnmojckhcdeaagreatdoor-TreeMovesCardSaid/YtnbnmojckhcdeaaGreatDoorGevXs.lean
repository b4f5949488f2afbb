import Derived.Test.YtnbnmojckhcdeaaGreatDoorGevOps
import Derived.Lib.UnsafeStr
import Derived.Laws.BytesArg
import Derived.Laws.IdiomStrings
import Derived.Lib.AppendStr
import Derived.Laws.Externs
import Derived.KernelRfl
import Derived.Lib.Bytealg
import Derived.Room.MakeNoZero
import Derived.Maps.RangeRun
namespace Go.Gev
open Go.RowKit
theorem o_e{v:Value}{b:UInt8}(h:byteOf v=some b):v=.int .u8 (b.toNat:Int):=by
 cases v<;>try cases h
 case int k n=>
  cases k<;>cases n<;>simp only[byteOf] at h<;>try cases h
  rename_i m
  cases hm:Nat.ble m 255 with
  |false=>rw[hm] at h;cases h
  |true=>
   rw[hm] at h
   injection h with h
   subst h
   have:=lbT hm
   have e:(UInt8.ofNat m).toNat=m:=by simp;omega
   rw[e]
   rfl
theorem X_g(l:List UInt8):B_9 l=l.map λb=>Value.int .u8 (b.toNat:Int):=by
 induction l with
 |nil=>rfl
 |cons b l ih=>simp only[B_9,List.map_cons,ih];rfl
theorem a_m:∀{vs:List Value}{l:List UInt8},U_c vs=some l→vs=l.map λb=>Value.int .u8 (b.toNat:Int):=by
 intro vs
 induction vs with
 |nil=>intro l h;injection h with h;subst h;rfl
 | cons v vs ih =>
  intro l h
  simp only[U_c] at h
  cases hb:byteOf v with
  |none=>rw[hb] at h;cases h
  | some b =>
   rw[hb] at h
   cases hv:U_c vs with
   |none=>rw[hv] at h;cases h
   |some bs=>
    rw[hv] at h
    injection h with h
    subst h
    rw[o_e hb,ih hv]
    rfl
theorem VL.bytes{ρ:Ren}{l:List UInt8}{ys:List Value}(h:VL ρ (l.map λb=>Value.int .u8 (b.toNat:Int)) ys):ys=l.map λb=>Value.int .u8 (b.toNat:Int):=by
 apply List.ext_getElem?
 intro i
 have hl:=h.1
 rcases logQ i ys.length with hi|hi
 ·have hi2:i<(l.map λb=>Value.int .u8 (b.toNat:Int)).length:=by omega
  rw[gqG hi,gqG hi2]
  have:=(h.2 i _ _ (gqG hi2) (gqG hi))
  rw[List.getElem_map] at this ⊢
  rw[this.int_inv]
 ·rw[List.getElem?_eq_none hi,List.getElem?_eq_none (by omega)]
theorem VL.bytes_refl{ρ:Ren}(l:List UInt8):VL ρ (l.map λb=>Value.int .u8 (b.toNat:Int)) (l.map λb=>Value.int .u8 (b.toNat:Int)):=
 ⟨rfl,λi x y hx hy=>by
  rw[hx] at hy
  injection hy with hy
  subst hy
  rw[List.getElem?_map] at hx
  cases hb:l[i]? with
  |none=>rw[hb] at hx;cases hx
  |some b=>rw[hb] at hx;simp at hx;subst hx;exact .int _ _⟩
section
variable {P:Program} {cx:Cx} {o:Oper}
theorem Au3 {s d e : TypeId} {x : Operand} {x' : GX} (ho : o.op = .convert s d x) (hs : P.underlying s = some (.slice e)) (hd : P.underlying d = some .string) (he : P.underlying e = some (.int .u8)) (hx : gx cx x = some x') : Snd P cx o (AP3 x') :=
 E_5 fun B ρ en h w a v h' E R e1 => by
  have hv:=G_j E hx
  obtain⟨e1,rfl⟩:=F_5 (show ret1 h (S_h h (ev en x'))=_ from e1)
  refine⟨rfl,?_⟩
  generalize hq:a.eval x=u' at hv
  generalize ev en x'=u at hv e1
  cases u with
  | slice sa n c =>
   simp only[S_h] at e1
   cases hr:rowOf h' 1 n sa with
   |none=>rw[hr] at e1;cases e1
   | some vs =>
    rw[hr] at e1
    simp only[X_i] at e1
    cases hb:U_c vs with
    |none=>rw[hb] at e1;cases e1
    | some l =>
     rw[hb] at e1
     simp only[strO,sjE] at e1
     subst e1
     have hvs:=a_m hb
     subst hvs
     obtain⟨ys,a',c',rfl,hys,hlen,hcells⟩:=Am3 R hv hr
     have hy:=hys.bytes
     subst hy
     have hn:n=l.length:=by simpa using hlen.symm
     subst hn
     refine⟨.string ⟨l.toArray⟩,?_,.string _⟩
     have hc:(execOp a.eval o).run P w=((convert s d (a.eval x)).run P w).andThen λv w=>.ok (.value v) w:=by
      simp[execOp,ho]
     rw[hc,hq,run_convert_bytes_string w s d e a' l.length c' hs he hd]
     cases a' with
     | none =>
      have hl:l = []:=by
       rcases hcells with h0|⟨a,ha,_⟩
       ·exact enZ h0
       ·cases ha
      subst hl
      rfl
     | some b =>
      have hld:(loadCells b l.length).run P w=.ok ((l.map λb=>(b.toNat:Int)).map (Value.int .u8)).toArray w:=by
       have hmap:(l.map λb=>Value.int .u8 (b.toNat:Int))=(l.map λb=>(b.toNat:Int)).map (Value.int .u8):=by simp
       rcases hcells with h0|⟨a,ha,hcl⟩
       ·have hl:l = []:=enZ h0
        subst hl
        rfl
       ·injection ha with ha
        subst ha
        have:=run_loadCells_list (P:=P) w b _ hcl
        rw[hmap] at this
        simpa using this
      rw[run_bytesToString w b l.length c' _ hld,foldl_push_byteCells]
      simp
  |_=>cases e1
theorem Aw0{B:Nat}{ρ:Ren}{h:Hs}{w w0:World}(R:HR B ρ h w0)(hw:w0.heap=w.heap)(hos:w.os=w0.os)(htape:w.tape=w0.tape)(hout:w.output=w0.output)
 (e un:Nat) (cs:List Value) (arr:Array Value) (more:List Value) (hcs:VL ρ cs more) (hm:arr.toList.take more.length=more) (fz:Nat × Nat) (hfz:arr.size≤fz.1) :
 St B ρ h w0 (ρ.add h.nx ⟨w.heap.size,0,arr.size,un,none⟩) (newRow h e un cs) (w.alloc (.cells arr e fz)):=by
 have R':HR B ρ h w:=R.of_heap hw.symm
 have hnx:ρ h.nx=none:=R.dom _ (lR _)
 have hle:=Ren.le_add ⟨w.heap.size,0,arr.size,un,none⟩ hnx
 have S:=T_y R hw hos htape hout e un cs arr more hcs hm
 have hold:∀k,k≠w.heap.size→(w.alloc (.cells arr e fz)).heap[k]?=(w.alloc (.cells arr e)).heap[k]?:=λk hk=>by
  show (w.heap.push _)[k]?=(w.heap.push _)[k]?
  rw[Array.getElem?_push,Array.getElem?_push,if_neg (by omega),if_neg (by omega)]
 have hget:∀id,(newRow h e un cs).hp.get id=if h.nx=id then some (.row (ofList cs) cs.length e un true (F_e cs)) else h.hp.get id:=λid=>tgS _ _ _ _
 refine⟨⟨by have:=S.hr.base;simpa using this,S.hr.dom,λid b hb=>?_,S.hr.inj⟩,S.nx,S.le,S.old,⟨S.below.os,S.below.tape,S.below.output,by have:=S.below.size;simpa using this,λk hk=>?_⟩,by have:=S.size;simpa using this,S.lo,S.keep,S.gone,S.newrw,λk hk hno=>?_,S.fresh⟩
 ·have hBR:=S.hr.has id b hb
  by_cases hid:id=h.nx
  ·subst hid
   have hbb:=hb
   rw[hget,if_pos rfl] at hbb
   injection hbb with hbb
   subst hbb
   obtain⟨H,arr',fz',e1,e2,e3,e4,e5,e6,e7⟩:=hBR
   rw[rAS] at e1
   injection e1 with e1
   subst e1
   have e8:(w.alloc (.cells arr e)).heap[w.heap.size]?=some (.cells arr e):=heap_alloc_new w _
   have e3:(w.alloc (.cells arr e)).heap[w.heap.size]?=some (.cells arr' e fz'):=e3
   rw[e8] at e3
   injection e3 with e3
   injection e3 with q1 q2 q3
   subst q1
   obtain⟨_,p2,p3,p4,p5⟩:=e6 rfl
   exact⟨⟨w.heap.size,0,arr.size,un,none⟩,arr,fz,rAS _ _ _,rfl,heap_alloc_new w _,rfl,e5,λ_=>⟨.inr hfz,rfl,p3,p4,p5⟩,e7⟩
  ·refine hBR.mono (rLR _) λK hK=>hold _ λe'=>?_
   have hbb:=hb
   rw[hget,if_neg (λe=>hid e.symm)] at hbb
   rw[rAO _ _ hid] at hK
   obtain⟨K',h1,h2⟩:=(R'.has id b hbb).host_lt
   rw[hK] at h1
   injection h1 with h1
   subst h1
   omega
 ·rw[hold k (by have:=R'.base;omega)];exact S.below.block k hk
 ·rw[hold k (by rw[hw] at hk;omega)];exact S.frame k hk hno
theorem q_7{s d e:TypeId}{x:Operand}{x':GX}(ho:o.op=.convert s d x)(hs:P.underlying s=some .string)(hd:P.underlying d=some (.slice e))(he:P.underlying e=some (.int .u8))(hx:gx cx x=some x'):Snd P cx o (i_u e x'):=by
 intro B ρ en h w a v h' E R e1
 have hv:=G_j E hx
 simp only[i_u] at e1
 generalize ev en x'=u at hv e1
 cases u with
 | string s0 =>
  have hq:=hv.string_inv
  simp only[a_a] at e1
  cases hble:Nat.ble s0.data.toList.length 70368744177664 with
  |false=>rw[hble] at e1;cases e1
  |true=>
  rw[hble] at e1
  simp only[sjE,Prod.mk.injEq] at e1
  obtain⟨rfl,rfl⟩:=e1
  have hle:=lbT hble
  have hrun:=run_bytes_of_string (P:=P) w s d e s0 hs hd he
  have hc:(execOp a.eval o).run P w=((convert s d (a.eval x)).run P w).andThen λv w=>.ok (.value v) w:=by
   simp only[execOp,ho,Sem.run_bind,Sem.run_pure]
  rw[hq,hrun] at hc
  have hsz:s0.data.toList.length=s0.size:=Array.length_toList
  have hge:=grownCap_ge w s0.size 0 e
  generalize hcap:grownCap w s0.size 0 e=cap at hc hge
  have hcm:cap≤maxLen:=by
   rw[←hcap]
   exact grownCap_le_maxLen w s0.size 0 e (lTr (by omega:s0.size≤70368744177664) (by decide))
  refine⟨_,_,_,.inl hc,?_,Aw0 (w:=w.drew) R rfl rfl rfl rfl e 1 (B_9 s0.data.toList) _ (B_9 s0.data.toList) (by rw[X_g];exact VL.bytes_refl _) ?_ _ (lR _)⟩
  ·rw[hsz]
   exact .slice h.nx 0 s0.size s0.size cap _ (rAS _ _ _) (lR _) hge hcm (.inr (by unfold bytesRow;simp;omega))
  ·rw[X_g]
   unfold bytesRow
   rw[Array.toList_append,List.take_append_of_le_length (by simp)]
   rw[List.take_of_length_le (by simp)]
   simp
 |_=>cases e1
end
end Go.Gev
namespace Go.Gev
open Go.RowKit
theorem step_drop{B:Nat}{ρ:Ren}{h:Hs}{w w':World}(R:HR B ρ h w){id n e u:Nat}{fl:Bool}{c:Tr Value}(hb:h.hp.get id=some (.row c n e u true fl)){H:Host}(he:ρ id=some H)
 (hos:w'.os=w.os) (htape:w'.tape=w.tape) (hout:w'.output=w.output) (hsz:w'.heap.size=w.heap.size) (hfar:∀k,k≠H.blk→w'.heap[k]?=w.heap[k]?) :
 St B ρ h w ρ ⟨h.hp.set id none,h.nx,minN h.lo id⟩ w':=by
 obtain⟨H0,arr,fz,he0,hu,hh,hs,hc,hr,_⟩:=R.has id _ hb
 rw[he] at he0
 injection he0 with he0
 subst he0
 obtain⟨_,hoff,hB,hn,hiff⟩:=hr rfl
 have hget:∀j,(h.hp.set id none).get j=if id=j then none else h.hp.get j:=λj=>tgS _ _ _ _
 have hold:∀j b,(h.hp.set id none).get j=some b→h.hp.get j=some b∧j≠id:=λj b hj=>by
  rw[hget] at hj
  split at hj
  ·cases hj
  ·rename_i e;exact⟨hj,λe'=>e e'.symm⟩
 refine⟨⟨by rw[hsz];exact R.base,R.dom,λj b hj=>?_,λj j' b b' L L' hj hj' hne hr eL eL'=>?_⟩,lR _,rLR _,λ_ _=>rfl,⟨hos,htape,hout,by rw[hsz];exact lR _,λk hk=>hfar k (by omega)⟩,by rw[hsz];exact lR _,F_1 _ _,
  λj b hj hl=>?_,λj b hj hjlt=>?_,λj b hj hge=>?_,λk hk hno=>?_,λj L hj eL=>?_⟩
 ·obtain⟨h1,h2⟩:=hold j b hj
  refine(R.has j b h1).mono (rLR _) λL eL=>hfar _ λe'=>?_
  exact R.inj id j _ b H L hb h1 (λe=>h2 e.symm) rfl he eL e'.symm
 ·exact R.inj j j' b b' L L' (hold j b hj).1 (hold j' b' hj').1 hne hr eL eL'
 ·have:=C_m h.lo id
  simp only at hl
  show (h.hp.set id none).get j=_
  rw[hget,if_neg (by omega)]
  exact hj
 ·exact⟨b,(hold j b hj).1,rfl,λ_=>rfl⟩
 ·have:=R.lt (hold j b hj).1
  omega
 ·exact hfar k (λe1=>hno id _ H hb rfl he (C_m _ _) e1.symm)
 ·rw[R.dom j hj] at eL;cases eL
theorem Y_k(w:World)(a:Addr)(n k:Nat)(hk:k≠a.block):(w.freeze a n).heap[k]?=w.heap[k]?:=by
 unfold World.freeze
 split
 ·rfl
 ·simp only[Array.getElem?_modify]
  rw[if_neg (λe=>hk e.symm)]
theorem a_4(w:World)(a:Addr)(n:Nat):(w.freeze a n).heap.size=w.heap.size:=by
 unfold World.freeze
 split
 ·rfl
 ·simp
theorem O_k(w:World)(a:Addr)(n:Nat):(w.freeze a n).os=w.os∧(w.freeze a n).tape=w.tape∧(w.freeze a n).output=w.output:=by
 unfold World.freeze
 split<;>exact⟨rfl,rfl,rfl⟩
theorem Af1(w:World)(g n:Nat)(arr:Array Value)(e:TypeId)(fz:Nat × Nat)(hh:w.heap[g]?=some (.cells arr e fz)) :
 (w.freeze ⟨g,n,none⟩ 1).heap[g]?=some (.cells arr e (if fz.1==fz.2 then (n,n+1) else (min fz.1 n,max fz.2 (n+1)))):=by
 unfold World.freeze
 rw[if_neg (by decide)]
 simp only[Array.getElem?_modify,if_true,hh]
 rfl
section
variable {P:Program} {cx:Cx} {o:Oper}
theorem AK3 {s e : TypeId} {x : Operand} {x' : GX} (ho : o.op = .convert s s x) (hs : P.underlying s = some (.slice e)) (he : P.underlying e = some (.int .u8)) (hx : gx cx x = some x') : Snd P cx o (AZ7 x') := by
 intro B ρ en h w a v h' E R e1
 have hv:=G_j E hx
 simp only[AZ7] at e1
 generalize hq:a.eval x=u' at hv
 generalize ev en x'=u at hv e1
 cases hv with
 | slice id off n c c' H h0 h1 h2 h3 h4 =>
  simp only[mark1,mark2] at e1
  cases hoff:Nat.beq off 0 with
  |false=>rw[hoff] at e1;cases e1
  | true =>
   have:=ebT hoff
   subst this
   rw[hoff] at e1
   simp only at e1
   cases hb:h.hp.get id with
   |none=>rw[hb] at e1;cases e1
   | some b =>
    rw[hb] at e1
    cases b with
    |mp=>cases e1
    |it=>cases e1
    |lp=>cases e1
    | row cc sz eb ub rw_ fl =>
     cases rw_ with
     |false=>cases e1
     | true =>
      simp only[mark3,sjE,Prod.mk.injEq] at e1
      obtain⟨rfl,rfl⟩:=e1
      obtain⟨H0,arr,fz,he0,hu,hh,hsz,hcc,hr,hfl⟩:=R.has id _ hb
      rw[h0] at he0
      injection he0 with he0
      subst he0
      obtain⟨hfz,hHo,hHB,hn,hiff⟩:=hr rfl
      have hshape:w.shape? H.blk=some (eb,arr.size):=by unfold World.shape?;rw[hh]
      have hrun:(execOp a.eval o).run P w=.ok (.value (.slice (some ⟨H.blk,H.off+0,none⟩) n c')) (w.freeze ⟨H.blk,arr.size,none⟩ 1):=by
       simp[execOp,ho,hq,convert,C_v hs,C_v he,markStringish,hshape]
      refine⟨_,_,ρ.add h.nx ⟨H.blk,0,arr.size,0,none⟩,.inl hrun,?_,d_e (K:=⟨H.blk,0,arr.size,0,none⟩) R hb h0 (Af1 w H.blk arr.size arr eb fz hh) ?_ rfl rfl rfl hHB (.inl rfl) (λk _ hk=>Y_k w _ 1 k hk)
       ⟨(O_k w _ 1).1,(O_k w _ 1).2.1,(O_k w _ 1).2.2,by rw[a_4];exact lR _,λk hk=>Y_k w _ 1 k (by have:B≤H.blk:=hHB;show k≠H.blk;omega)⟩ hn ?_ hiff hfl⟩
      ·rw[hHo]
       exact .slice h.nx 0 n c c' _ (rAS _ _ _) h1 h2 h3 (.inl rfl)
      ·right
       rcases hfz with rfl|hfz
       ·exact lR _
       ·split
        ·exact lR _
        ·show arr.size≤min fz.1 arr.size
         omega
      ·intro i v hv
       obtain⟨v',q1,q2⟩:=hcc i v hv
       rw[hHo,zaQ] at q1
       exact⟨v',q1,q2⟩
 |_=>cases e1
theorem Ag1{x:Option Value}(h:isSm x=true):∃v,x=some v:=by cases x with|none=>cases h|some v=>exact⟨v,rfl⟩
theorem Au4{s d t:TypeId}{n:Nat}{x:Operand}{x':GX}(ho:o.op=.convert s d x)(hs:P.underlying s=some (.pointer t))(hd:P.underlying d=some .unsafePointer)(hn:F_o P t=some n)(hn0:n≠0)(hx:gx cx x=some x'):Snd P cx o (AP4 x'):=
 E_5 fun B ρ en h w a v h' E R eg => by
  have hv:=G_j E hx
  obtain⟨e1,rfl⟩:=F_5 (show ret1 h (Ax0 h (ev en x') (addrOf (ev en x')))=_ from eg)
  refine⟨rfl,?_⟩
  cases hp:addrOf (ev en x') with
  |none=>rw[hp] at e1;cases e1
  | some p =>
   rw[hp] at e1
   simp only[Ax0] at e1
   cases hi:isSm (blkCell p.2 (h'.hp.get p.1)) with
   |false=>rw[hi] at e1;cases e1
   | true =>
    rw[hi] at e1
    injection e1 with e1
    obtain⟨y,hy⟩:=Ag1 hi
    obtain⟨H,hH,_,hax⟩:=K_m hv hp
    obtain⟨H',v',q1,q2,q3⟩:=R.cell hy
    rw[hH] at q1
    injection q1 with q1
    subst q1
    subst e1
    refine⟨a.eval x,?_,hv⟩
    have hsh:∃e c,w.shape? H.blk=some (e,c)∧H.off+p.2<c:=by
     unfold World.cell? at q2
     unfold World.shape?
     cases hb:w.heap[H.blk]? with
     |none=>rw[hb] at q2;cases q2
     | some b =>
      rw[hb] at q2
      cases b with
      |cells c e f=>
       simp only[Option.isSome_none,Bool.false_eq_true,if_false] at q2
       exact⟨e,c.size,rfl,(gaI.1 q2).1⟩
      |_=>cases q2
    obtain⟨e,c,hsh,hlt⟩:=hsh
    have hsize:(sizeOf t).run P w=.ok n w:=K_u hn w
    have hge:¬(c≤H.off+p.2):=by omega
    rw[hax]
    simp[execOp,ho,hax,convert,C_v hs,C_v hd,Conv.unsafePointer,Conv.seenAt,viewAt,cellsIn,hsh,hsize,hn0,hge]
theorem q_z {s d t : TypeId} {n : Nat} {x : Operand} {x' : GX} (ho : o.op = .convert s d x) (hs : P.underlying s = some .unsafePointer) (hd : P.underlying d = some (.pointer t)) (hn : F_o P t = some n) (hn0 : n ≠ 0) (hx : gx cx x = some x') : Snd P cx o (t_s t n x') :=
 E_5 fun B ρ en h w a v h' E R eg => by
  have hv:=G_j E hx
  obtain⟨e1,rfl⟩:=F_5 (show ret1 h (i_a t n h (ev en x') (addrOf (ev en x')))=_ from eg)
  refine⟨rfl,?_⟩
  cases hp:addrOf (ev en x') with
  |none=>rw[hp] at e1;cases e1
  | some p =>
   rw[hp] at e1
   simp only[i_a] at e1
   cases h0:Nat.beq p.2 0 with
   |false=>rw[h0] at e1;cases e1
   | true =>
    rw[h0] at e1
    simp only at e1
    cases hi:Af8 t n (h'.hp.get p.1) with
    |false=>rw[hi] at e1;cases e1
    | true =>
     rw[hi] at e1
     injection e1 with e1
     subst e1
     obtain⟨H,hH,_,hax⟩:=K_m hv hp
     have hp0:=ebT h0
     cases hb:h'.hp.get p.1 with
     |none=>rw[hb] at hi;cases hi
     | some b =>
      rw[hb] at hi
      cases b with
      |mp=>cases hi
      |it=>cases hi
      |lp=>cases hi
      | row c m e u rw_ fl =>
       cases rw_ with
       |false=>cases hi
       | true =>
        simp only[Af8] at hi
        cases het:Nat.beq e t with
        |false=>rw[het] at hi;cases hi
        | true =>
         rw[het] at hi
         have:=ebT het
         subst this
         have hle:n≤m:=lbT hi
         obtain⟨H0,arr,fz,he0,hu,hh,hsz,hcc,hr,hfl⟩:=R.has p.1 _ hb
         rw[hH] at he0
         injection he0 with he0
         subst he0
         obtain⟨hfz,hHo,hHB,hn1,hiff⟩:=hr rfl
         refine⟨a.eval x,?_,hv⟩
         have hsh:w.shape? H.blk=some (e,arr.size):=by unfold World.shape?;rw[hh]
         have hsize:(sizeOf e).run P w=.ok n w:=K_u hn w
         have hcells:P.cellsOf e=n:=by
          unfold F_o at hn
          unfold Program.cellsOf
          cases hinf:P.info? e with
          |none=>rw[hinf] at hn;cases hn
          |some i=>rw[hinf] at hn;injection hn
         have hcount:1≤arr.size/n:=(Nat.le_div_iff_mul_le (Nat.pos_of_ne_zero hn0)).2 (by omega)
         have hlies:liesAt P P.depth e (arr.size/P.cellsOf e) 0 e 1=true:=by
          have hd:P.depth=(2*(P.types.size+Made.depth)+1)+1:=rfl
          rw[hcells,hd]
          simp only[liesAt,Bool.or_eq_true]
          left
          rw[hd]
          simp[rowAt,hcells,hn0,hcount,sameLayout]
         rw[hax,hHo,hp0]
         simp[execOp,ho,hax,hHo,hp0,convert,C_v hs,C_v hd,Conv.unsafePointer,Conv.seenAt,viewAt,hsh,hsize,hn0,variablesAt,hlies]
theorem At8{c:Call}{x:Operand}{x':GX}(ho:o.op=.call c)(hc:c.callee=.builtin .unsafeSliceData)(ha:c.args=#[x])(hx:gx cx x=some x'):Snd P cx o (AP1 x'):=
 E_5 λB ρ en h w a v h' E R eg=>by
  have hv:=G_j E hx
  obtain⟨e1,rfl⟩:=F_5 (show ret1 h (sdata1 (ev en x'))=_ from eg)
  refine⟨rfl,?_⟩
  generalize hq:a.eval x=u' at hv
  generalize ev en x'=u at hv e1
  cases hv with
  |nilslice=>
   simp only[sdata1,sjE] at e1
   subst e1
   refine⟨.pointer none,?_,.nilptr⟩
   simp[execOp,ho,resolve,hc,ha,invoke,builtin,hq,Lib.run_unsafeSliceData_nil]
  | slice id off n cc c' H h0 h1 h2 h3 h4 =>
   cases n with
   |zero=>cases e1
   |succ n=>
    simp only[sdata1,sjE] at e1
    subst e1
    refine⟨.pointer (some ⟨H.blk,H.off+off,none⟩),?_,.ptr id off H h0⟩
    have hc0:c'≠0:=by omega
    have:=Lib.run_unsafeSliceData_row (P:=P) w c.argTypes o.type ⟨H.blk,H.off+off,none⟩ (n+1) c' hc0
    simp[execOp,ho,resolve,hc,ha,invoke,builtin,hq,this]
  |empty b oo k a' c' h3=>cases e1
  |_=>cases e1
theorem u_5{P:Program}{e:TypeId}{n:Nat}(hn:F_o P e=some n):P.cellsOf e=n:=by
 unfold F_o at hn
 unfold Program.cellsOf
 cases hinf:P.info? e with
 |none=>rw[hinf] at hn;cases hn
 |some i=>rw[hinf] at hn;injection hn
theorem Aw2{x:Option (List UInt8)}{v:Value}(h:strO x=some v):∃l,x=some l∧v=.string ⟨l.toArray⟩:=by
 cases x with
 |none=>cases h
 |some l=>injection h with h;exact⟨l,rfl,h.symm⟩
theorem o_f{x:Option (List Value)}{l:List UInt8}(h:X_i x=some l):∃vs,x=some vs∧vs=l.map λb=>Value.int .u8 (b.toNat:Int):=by
 cases x with
 |none=>cases h
 |some vs=>exact⟨vs,rfl,a_m h⟩
theorem AK7 {c : Call} {x n : Operand} {x' n' : GX} {pt it e : TypeId} (ho : o.op = .call c) (hc : c.callee = .builtin .unsafeString) (ha : c.args = #[x, n]) (hat : c.argTypes = #[pt, it]) (hp : P.underlying pt = some (.pointer e)) (hs : F_o P e = some 1) (hx : gx cx x = some x') (hn : gx cx n = some n') : Snd P cx o (Ba1 e x' n') := by
 intro B ρ en h w a v h' E R eg
 have hv:=G_j E hx
 have hnv:=G_j E hn
 simp only[Ba1] at eg
 generalize hq:a.eval x=u' at hv
 generalize hqn:a.eval n=m' at hnv
 generalize ev en x'=u at hv eg
 generalize ev en n'=m at hnv eg
 cases hnat:nat64 m with
 |none=>rw[hnat] at eg;cases u<;>cases eg
 | some k =>
  rw[hnat] at eg
  have hm:m=.int .i64 (k:Int):=by
   cases m<;>try cases hnat
   case int kd z => cases kd <;> cases z <;> simp only [nat64] at hnat <;> try cases hnat
                    rfl
  subst hm
  have hm':=hnv.int_inv
  subst hm'
  have hp1:∃p,u=.pointer p:=by cases u<;>first|exact⟨_,rfl⟩|(cases k<;>cases eg)
  obtain⟨p,rfl⟩:=hp1
  obtain⟨p',rfl⟩:∃p',u'=.pointer p':=by cases hv<;>exact⟨_,rfl⟩
  have hcall:(execOp a.eval o).run P w=((Builtin.unsafeString_ #[pt,it] o.type #[.pointer p',.int .i64 (k:Int)]).run P w).andThen λv w=>.ok (.value v) w:=by
   simp[execOp,ho,resolve,hc,ha,hat,invoke,builtin,hq,hqn]
  cases k with
  |zero=>
   simp only[ustr1,sjE,Prod.mk.injEq] at eg
   obtain⟨rfl,rfl⟩:=eg
   refine⟨.string .empty,w,ρ,.inl ?_,.string _,St.refl R⟩
   rw[hcall]
   have:=Lib.run_unsafeString_none (P:=P) w pt it o.type p'
   rw[show ((0:Nat):Int)=0 from rfl,this]
   rfl
  | succ k =>
   simp only[ustr1] at eg
   cases hble:Nat.ble (Nat.succ k) 9223372036854775807 with
   |false=>rw[hble] at eg;cases eg
   | true =>
    rw[hble] at eg
    have hk63:=lbT hble
    cases p with
    |none=>cases eg
    | some ad =>
     simp only[ustr2] at eg
     obtain⟨bk,off,sp⟩:=ad
     cases sp with
     |some q=>cases eg
     | none =>
      simp only at eg
      cases hoff:Nat.beq off 0 with
      |false=>rw[hoff] at eg;cases eg
      | true =>
       have:=ebT hoff
       subst this
       rw[hoff] at eg
       simp only at eg
       cases hb:h.hp.get bk with
       |none=>rw[hb] at eg;cases eg
       | some b =>
        rw[hb] at eg
        cases b with
        |mp=>cases eg
        |it=>cases eg
        |lp=>cases eg
        | row cc sz eb ub rw_ fl =>
         cases rw_ with
         |false=>cases eg
         | true =>
          simp only[ustr3] at eg
          cases het:Nat.beq eb e with
          |false=>rw[het] at eg;cases eg
          | true =>
           have:=ebT het
           subst this
           rw[het] at eg
           simp only[ustr4] at eg
           cases hso:strO (X_i (I_y cc (Nat.succ k) 0 [])) with
           |none=>rw[hso] at eg;cases eg
           | some sv =>
            rw[hso] at eg
            simp only[sjE,Prod.mk.injEq] at eg
            obtain⟨rfl,rfl⟩:=eg
            obtain⟨l,hl,rfl⟩:=Aw2 hso
            obtain⟨vs,hvs,rfl⟩:=o_f hl
            have hbc:F_q (Nat.succ k) 0 (h.hp.get bk)=some (l.map λb=>Value.int .u8 (b.toNat:Int)):=by rw[hb];exact hvs
            obtain⟨H,ys,q1,q2,q3,q4⟩:=R.cells hbc
            have hy:=q2.bytes
            subst hy
            obtain⟨H0,arr,fz,he0,hu,hh,hsz,hcc,hr,hfl⟩:=R.has bk _ hb
            rw[q1] at he0
            injection he0 with he0
            subst he0
            obtain⟨hfz,hHo,hHB,hn1,hiff⟩:=hr rfl
            have hlen:l.length=k+1:=by simpa using q3
            have hpp:p'=some ⟨H.blk,0,none⟩:=by
             cases hv with
             |ptr _ _ H2 hh2=>
              rw[q1] at hh2
              injection hh2 with hh2
              subst hh2
              rw[hHo]
            subst hpp
            rw[hHo] at q4
            have hsh:w.shape? H.blk=some (eb,arr.size):=by unfold World.shape?;rw[hh]
            have hcell:∀j x,l[j]?=some x→w.cell? ((⟨H.blk,0,none⟩:Addr).add j)=some (.int .u8 x.toNat):=λj x hj=>q4 j _ (by rw[List.getElem?_map,hj];rfl)
            have hfit:l.length≤arr.size:=by
             have h9:=q4 k (.int .u8 ((l[k]'(by omega)).toNat:Int)) (by rw[List.getElem?_map,gqG (by omega)];rfl)
             rw[P_5,zaQ,cell_of_row w H.blk k arr eb fz hh] at h9
             have:=(gaI.1 h9).1
             omega
            have hrun:=Lib.run_unsafeString_row (P:=P) w pt it o.type eb hp (u_5 hs) H.blk arr.size hsh l (by intro e;subst e;simp at hlen) hfit (by omega) hcell
            rw[hlen] at hrun
            refine⟨.string ⟨l.toArray⟩,w.freeze ⟨H.blk,0,none⟩ (k+1),ρ,.inl ?_,.string _,step_drop R hb q1 (O_k w _ _).1 (O_k w _ _).2.1 (O_k w _ _).2.2 (a_4 w _ _) λj hj=>Y_k w _ _ j hj⟩
            rw[hcall,hrun]
            rfl
end
end Go.Gev
namespace Go.Gev
open Go.RowKit
section
variable {P:Program} {cx:Cx} {o:Oper}
theorem U_1(s:ByteArray):Lib.strCells s=B_9 s.data.toList:=by rw[X_g];rfl
theorem T_j(w:World)(t u ty e:TypeId)(i:TypeInfo)(ht:P.underlying t=some (.slice e))(hu:P.underlying u=some .string)(hi:P.info? e=some i)(hs1:i.size=1)
 (g sLen sCap:Nat) (cur:Array Value) (fz:Nat × Nat) (hg:w.heap[g]?=some (.cells cur e fz)) (hfz:fz=(0,0)∨cur.size≤fz.1) (s:ByteArray)
 (hroom:sLen+s.size≤sCap) (hfit:sLen+s.size≤cur.size) :
 (Builtin.append_ #[t,u] ty #[.slice (some ⟨g,0,none⟩) sLen sCap,.string s]).run P w =
  .ok (.slice (some ⟨g,0,none⟩) (sLen+s.size) sCap) (w.setRow g (cur.toList.take sLen++Lib.strCells s++cur.toList.drop (sLen+s.size)).toArray):=by
 have hf:=Lib.run_firstCells_string (P:=P) w 1 s
 have hst:=J_x P g sLen e fz (Lib.strCells s) 0 cur w hg hfz (by simpa [Lib.strCells_length] using hfit) (Lib.strCells_oneCell s)
 simp only[Nat.add_zero,Lib.strCells_length] at hst
 simp[Builtin.append_,run_underlying ht,run_underlying hu,sizeOf,typeInfo,hi,hs1,Builtin.lenOf,hroom,hf,Addr.add_lit,hst]
theorem x_x{w:World}{t ti ty e:TypeId}{i:TypeInfo}{z:Value}(ht:P.underlying t=some (.slice e))(hti:P.underlying ti=some .string)(hi:P.info? e=some i)(hz:i.zero=some z)
 (hs:i.size=1) (s:ByteArray):RunApp P w e i z #[t,ti] ty (.string s) s.size (Lib.strCells s):=by
 refine⟨λhm a n c hn=>?_,λhm h64 h48=>?_,λg n c cur fz hg hfz hroom hfit=>?_,λb n c olds ho1 ho2 hc h64 hfit hm0=>?_⟩
 ·have hf:(Builtin.firstCells i.size 0 (.string s)).run P w=.ok #[] w:=by
   have:=Lib.run_firstCells_string (P:=P) w i.size s
   rw[hm] at this
   rw[this]
   have hnil:Lib.strCells s = []:=enZ (by rw[Lib.strCells_length];exact hm)
   rw[hnil]
  cases a<;>simp[Builtin.append_,run_underlying ht,run_underlying hti,sizeOf,typeInfo,hi,Builtin.lenOf,hm,hn,hf,storeCells]
 ·have:=run_append_nil_string (P:=P) w t ti ty e i z ht hti hi hz s hm h64 h48
  rw[this]
  congr 4
  unfold Lib.strCells
  apply Array.ext'
  simp
 ·have:=T_j (P:=P) w t ti ty e i ht hti hi hs g n c cur fz hg hfz s hroom (by rw[hs,Nat.mul_one,Lib.strCells_length] at hfit;exact hfit)
  rw[hs,Nat.mul_one,Lib.strCells_length]
  exact this
 ·exact Lib.run_append_grow_string (P:=P) w t ti ty e i z ht hti hi hz b n c olds ho1 ho2 s hc h64 hfit
theorem g_t(l:List UInt8):G_8 (B_9 l)=true:=by
 induction l with
 |nil=>rfl
 |cons b l ih=>show (match true with|true=>G_8 (B_9 l)|false=>false)=true;exact ih
theorem q_x{c:Call}{s x:Operand}{s' x':GX}{t ti e:TypeId}{z:List Value}(ho:o.op=.call c)(hc:c.callee=.builtin .append)(ha:c.args=#[s,x])(hat:c.argTypes=#[t,ti])(ht:P.underlying t=some (.slice e))(hti:P.underlying ti=some .string)
 (hu:F_o P e=some 1) (hb:N_o P e=some 1) (hz:zeroOf P e=some z) (hs:gx cx s=some s') (hx:gx cx x=some x'):Snd P cx o (i_o e 1 s' x'):=by
 intro B ρ en h w a v h' E R eg
 have hsv:=G_j E hs
 have hv:=G_j E hx
 simp only[i_o] at eg
 generalize hqs:a.eval s=us at hsv
 generalize hq:a.eval x=u' at hv
 generalize ev en x'=u at hv eg
 generalize ev en s'=sv at hsv eg
 cases u with
 | string t0 =>
  have:=hv.string_inv
  subst this
  simp only[app1,g_t] at eg
  unfold F_o at hu
  unfold N_o at hb
  unfold zeroOf at hz
  cases hi:P.info? e with
  |none=>rw[hi] at hu;cases hu
  | some i =>
   rw[hi] at hu hb hz
   injection hu with hu
   injection hb with hb
   cases hz0:i.zero with
   |none=>simp only[hz0] at hz;cases hz
   | some zv =>
    simp only[hz0] at hz
    have hzc:zv.cells.size=i.size:=by
     cases hok:okCL zv.cells.toList with
     |false=>rw[hok] at hz;cases hz
     |true=>
      rw[hok] at hz
      cases hl:Nat.beq zv.cells.toList.length i.size with
      |false=>simp only[hl] at hz;cases hz
      |true=>have:=ebT hl;simpa using this
    have hlen:t0.data.toList.length=t0.size:=Array.length_toList
    have A:=x_x (P:=P) (w:=w) (ty:=o.type) ht hti hi hz0 hu t0
    have key:=d_c (P:=P) (e:=e) (ty:=o.type) (args:=#[t,ti]) (m:=t0.size) (s:=sv) (s':=us) (x':=.string t0) (i:=i) (z:=zv) (news:=B_9 t0.data.toList) (ys:=Lib.strCells t0) R hzc (by omega) (by omega) A hsv
     (by rw[U_1,X_g];exact VL.bytes_refl _) (by rw[←U_1,Lib.strCells_length,hu,Nat.mul_one]) (v:=v) (h':=h') (by rw[hu,hb,←hlen];exact eg)
    obtain⟨v',w',ρ',h1,h2,h3⟩:=key
    refine⟨v',w',ρ',.inl ?_,h2,h3⟩
    simp[execOp,ho,resolve,hc,ha,hat,invoke,builtin,hq,hqs,h1]
 |_=>cases eg
theorem Q_5 {f:FuncId} {name:String} (h:R_c P f name=true):∃ fn,P.funcs[f]?=some fn∧fn.body.isNone=true∧fn.name=name∧fn.origin = "":=by
 unfold R_c at h
 cases hf:P.funcs[f]? with
 |none=>rw[hf] at h;cases h
 |some fn=>
  rw[hf] at h
  simp only[Bool.and_eq_true,beq_iff_eq] at h
  exact⟨fn,rfl,h.1.1,h.1.2,h.2⟩
theorem i_n (fn:Func) (hn:fn.name = "internal/abi.NoEscape") (ho:fn.origin = ""):Extern.findNext fn=none∧Extern.find fn=some Extern.AbiNoEscape.same:=by
 obtain⟨nm,og,ta,pa,rt,nf,nt,rs,bd,nr,ou,fi,el,ln,me,tn⟩:=fn
 have hn:nm = "internal/abi.NoEscape":=hn
 have ho:og = "":=ho
 subst hn;subst ho
 exact⟨by kernel_rfl,by kernel_rfl⟩
theorem d_5 (fn:Func) (hn:fn.name = "internal/bytealg.IndexByteString") (ho:fn.origin = ""):Extern.findNext fn=none∧Extern.find fn=some Extern.BytealgIndexByte.indexByte:=by
 obtain⟨nm,og,ta,pa,rt,nf,nt,rs,bd,nr,ou,fi,el,ln,me,tn⟩:=fn
 have hn:nm = "internal/bytealg.IndexByteString":=hn
 have ho:og = "":=ho
 subst hn;subst ho
 exact⟨by kernel_rfl,by kernel_rfl⟩
theorem n_v {c:Call} {f:FuncId} {x:Operand} {x':GX} (ho:o.op=.call c) (hc:c.callee=.value (.func f)) (ha:c.args=#[x]) (hf:R_c P f "internal/abi.NoEscape" = true) (hx:gx cx x=some x'):Snd P cx o (oMv x'):=
 E_5 λB ρ en h w a v h' E R eg=>by
  simp only[oMv,sjE,Prod.mk.injEq] at eg
  obtain⟨rfl,rfl⟩:=eg
  refine⟨rfl,a.eval x,?_,G_j E hx⟩
  obtain⟨fn,h1,h2,h3,h4⟩:=Q_5 hf
  obtain⟨r1,r2⟩:=i_n fn h3 h4
  have hrun:=run_callFunc_extern (P:=P) h1 (by rw[h3];decide) h2 r1 r2 #[a.eval x] w
  have he:(execOp a.eval o).run P w=(callFunc f #[a.eval x]).run P w:=by
   simp[execOp,ho,resolve,hc,ha,Act.eval,Deferred.ofValue,invoke]
  rw[he,hrun]
  rfl
theorem find?_congr'{α:Type}{p q:α→Bool}:∀{l:List α},(∀x∈l,p x=q x)→l.find? p=l.find? q:=by
 intro l
 induction l with
 |nil=>intro _;rfl
 |cons a l ih=>
  intro h
  simp only[List.find?_cons]
  rw[h a mcS,ih λx hx=>h x (mcM _ hx)]
theorem o_4(c:UInt8):∀(l:List UInt8)(k:Nat),(List.range' k l.length).find? (λj=>(l[j-k]?).getD 0==c)=a_2 c.toNat l k:=by
 intro l
 induction l with
 |nil=>intro k;rfl
 | cons b l ih =>
  intro k
  simp only[lcQ,List.range'_succ,List.find?_cons,Nat.sub_self,gcZ,Option.getD_some,a_2]
  have hb:(b==c)=Nat.beq b.toNat c.toNat:=by
   rw[Bool.eq_iff_iff,beq_iff_eq]
   constructor
   ·rintro rfl;exact Nat.beq_refl _
   ·intro h;exact UInt8.toNat_inj.1 (ebT h)
  rw[hb]
  cases Nat.beq b.toNat c.toNat with
  |true=>rfl
  |false=>
   simp only
   rw[←ih (k+1)]
   refine find?_congr' λx hx=>?_
   have hx2:=(List.mem_range'_1.1 hx).1
   obtain⟨d,rfl⟩:∃d,x=k+1+d:=⟨x-(k+1),by omega⟩
   rw[show k+1+d-k=d+1 from by omega,show k+1+d-(k+1)=d from by omega,List.getElem?_cons_succ]
theorem AJ7 {c:Call} {f:FuncId} {x y:Operand} {x' y':GX} (ho:o.op=.call c) (hc:c.callee=.value (.func f)) (ha:c.args=#[x,y]) (hf:R_c P f "internal/bytealg.IndexByteString" = true) (hx:gx cx x=some x') (hy:gx cx y=some y'):Snd P cx o (Bm4 x' y'):=
 E_5 fun B ρ en h w a v h' E R eg => by
  have hv:=G_j E hx
  have hw:=G_j E hy
  obtain⟨e1,rfl⟩:=F_5 (show ret1 h (v_7 (ev en x') (ev en y'))=_ from eg)
  refine⟨rfl,v,?_,?_⟩
  ·generalize hqx:a.eval x=ux at hv
   generalize hqy:a.eval y=uy at hw
   generalize ev en x'=u at hv e1
   generalize ev en y'=t at hw e1
   cases u<;>try cases e1
   rename_i s
   cases t<;>try cases e1
   rename_i k n
   cases k<;>cases n<;>simp only[v_7] at e1<;>try cases e1
   rename_i m
   cases hm:Nat.ble m 255 with
   |false=>rw[hm] at e1;cases e1
   | true =>
    rw[hm] at e1
    simp only[sjE] at e1
    subst e1
    have hle:=lbT hm
    have hs:=hv.string_inv
    have hi:=hw.int_inv
    subst hs;subst hi
    obtain⟨fn,h1,h2,h3,h4⟩:=Q_5 hf
    obtain⟨r1,r2⟩:=d_5 fn h3 h4
    have hrun:=run_callFunc_extern (P:=P) h1 (by rw[h3];decide) h2 r1 r2 #[.string s,.int .u8 (.ofNat m)] w
    have he:(execOp a.eval o).run P w=(callFunc f #[a.eval x,a.eval y]).run P w:=by
     simp[execOp,ho,resolve,hc,ha,Act.eval,Deferred.ofValue,invoke]
    rw[he,hqx,hqy,hrun]
    have hto:(UInt8.ofNat m).toNat=m:=by simp;omega
    have hfind:(List.range s.size).find? (λi=>s[i]! == UInt8.ofNat m)=a_2 m s.data.toList 0:=by
     have:=o_4 (UInt8.ofNat m) s.data.toList 0
     rw[hto,←List.range_eq_range',Array.length_toList] at this
     rw[←this]
     refine find?_congr' λi hi=>?_
     have hlt:i<s.size:=List.mem_range.1 hi
     have hlt':i<s.data.size:=hlt
     rw[getElem!_pos s i hlt,Nat.sub_zero,Array.getElem?_toList,Array.getElem?_eq_getElem hlt']
     rfl
    have hidx:(Extern.BytealgIndexByte.indexByte #[.string s,.int .u8 (.ofNat m)]).run P w=.ok (AV2 (a_2 m s.data.toList 0)) w:=by
     have hdef:Extern.BytealgIndexByte.indexByte #[.string s,.int .u8 (.ofNat m)]=(do
      let b ←Extern.Bytes.bytesOf (.string s)
      let c ←Extern.Bytes.asByte (.int .u8 (.ofNat m))
      match (List.range b.size).find? λi=>b[i]! == c with
      |some i=>pure (goInt i)
      |none=>pure (goInt (-1))):=rfl
     rw[hdef]
     have hc2:(((Int.ofNat m).toNat).toUInt8)=UInt8.ofNat m:=rfl
     simp only[Extern.Bytes.bytesOf,Extern.Bytes.asByte,Sem.run_bind,Sem.run_pure,Result.andThen_ok,hc2,hfind]
     cases a_2 m s.data.toList 0 with
     |none=>rfl
     |some i=>rfl
    rw[hidx]
    rfl
  ·generalize ev en x'=u at e1
   generalize ev en y'=t at e1
   cases u<;>try cases e1
   cases t<;>try cases e1
   rename_i k n
   cases k<;>cases n<;>simp only[v_7] at e1<;>try cases e1
   rename_i m
   cases hm:Nat.ble m 255 with
   |false=>rw[hm] at e1;cases e1
   |true=>
    rw[hm] at e1
    simp only[sjE] at e1
    subst e1
    cases a_2 m _ 0<;>exact .int _ _
theorem c_e (fn:Func) (hn:fn.name = "internal/bytealg.MakeNoZero") (ho:fn.origin = ""):Extern.findNext fn=none∧Extern.find fn=some (Extern.BytealgMakeNoZero.makeNoZero fn.params fn.resultTypes):=by
 obtain⟨nm,og,ta,pa,rt,nf,nt,rs,bd,nr,ou,fi,el,ln,me,tn⟩:=fn
 have hn:nm = "internal/bytealg.MakeNoZero":=hn
 have ho:og = "":=ho
 subst hn;subst ho
 exact⟨by kernel_rfl,by kernel_rfl⟩
theorem Z_t (fn:Func) (hn:fn.name = "internal/bytealg.CountString") (ho:fn.origin = ""):Extern.findNext fn=none∧Extern.find fn=some Extern.BytealgCount.count:=by
 obtain⟨nm,og,ta,pa,rt,nf,nt,rs,bd,nr,ou,fi,el,ln,me,tn⟩:=fn
 have hn:nm = "internal/bytealg.CountString":=hn
 have ho:og = "":=ho
 subst hn;subst ho
 exact⟨by kernel_rfl,by kernel_rfl⟩
theorem p_p{f:FuncId}{fn:Func}{e:TypeId}(hf:P.funcs[f]?=some fn)(h:t_g P f=some e):∃t,fn.resultTypes=#[t]∧P.underlying t=some (.slice e):=by
 unfold t_g at h
 rw[hf] at h
 simp only at h
 split at h
 ·rename_i t ht
  split at h
  ·rename_i e' he
   injection h with h
   subst h
   refine⟨t,?_,he⟩
   apply Array.ext'
   simpa using ht
  ·cases h
 ·cases h
theorem VL.unknown{ρ:Ren}:∀{xs ys:List Value},xs.length=ys.length→(∀x∈xs,x=dunno)→VL ρ xs ys
 |[],[],_,_=>VL.nil
 |x::xs,y::ys,h,hx=>VL.cons (by rw[hx x mcS];exact .dunno y) (VL.unknown (by simpa using h) λz hz=>hx z (mcM _ hz))
 |[],_::_,h,_=>by simp at h
 |_::_,[],h,_=>by simp at h
theorem Aq6:∀(n:Nat),∀x∈rep [dunno] n,x=dunno:=by
 intro n
 induction n with
 |zero=>intro x hx;cases hx
 |succ n ih=>
  intro x hx
  rcases mcQ.1 (show x∈dunno::rep [dunno] n from hx) with h|h
  ·exact h
  ·exact ih x h
theorem AK4 {c:Call} {f:FuncId} {x:Operand} {x':GX} {e:TypeId} (ho:o.op=.call c) (hc:c.callee=.value (.func f)) (ha:c.args=#[x]) (hf:R_c P f "internal/bytealg.MakeNoZero" = true) (he:t_g P f=some e) (hx:gx cx x=some x'):Snd P cx o (AZ8 e x'):=by
 intro B ρ en h w a v h' E R e1
 have hv:=G_j E hx
 simp only[AZ8] at e1
 generalize hqx:a.eval x=ux at hv
 generalize ev en x'=u at hv e1
 cases hn:nat64 u with
 |none=>rw[hn] at e1;cases e1
 | some n =>
  rw[hn] at e1
  simp only[mkNZ] at e1
  cases hb:Nat.ble n 70368744177664 with
  |false=>rw[hb] at e1;cases e1
  | true =>
   rw[hb] at e1
   simp only[sjE,Prod.mk.injEq] at e1
   obtain⟨rfl,rfl⟩:=e1
   have hle:=lbT hb
   have hu:u=.int .i64 (.ofNat n):=by
    cases u<;>try (simp[nat64] at hn;done)
    rename_i k m
    cases k<;>cases m<;>simp only[nat64,sjE] at hn<;>first|(subst hn;rfl)|cases hn
   subst hu
   have hq:=hv.int_inv
   subst hq
   obtain⟨fn,h1,h2,h3,h4⟩:=Q_5 hf
   obtain⟨r1,r2⟩:=c_e fn h3 h4
   obtain⟨t,ht1,ht2⟩:=p_p h1 he
   have hrun:=run_callFunc_extern (P:=P) h1 (by rw[h3];decide) h2 r1 r2 #[.int .i64 (.ofNat n)] w
   obtain⟨cs,q1,q2,q3,q4⟩:=Lib.run_makeNoZero_cap (P:=P) w fn.params t e ht2 n (by omega)
   have he2:(execOp a.eval o).run P w=(callFunc f #[a.eval x]).run P w:=by
    simp[execOp,ho,resolve,hc,ha,Act.eval,Deferred.ofValue,invoke]
   have hlen:(rep [dunno] n).length=n:=by rw[V_r];simp
   have htk:(cs.toList.take n).length=n:=by rw[List.length_take];simp;omega
   refine⟨_,_,_,.inl (by rw[he2,hqx,hrun,ht1];exact congrArg (λr=>Result.andThen r _) q1),?_,T_y (w:=w.drew.drew) R rfl rfl rfl rfl e 1 (rep [dunno] n) cs (cs.toList.take n) (VL.unknown (by rw[hlen,htk]) (Aq6 n)) (by rw[htk])⟩
   exact .slice h.nx 0 n n cs.size _ (rAS _ _ _) (lR _) q2 (q3 (lTr hle (by decide))) (.inr (by simp))
theorem z_4(c:UInt8):∀(l:List UInt8)(n:Nat),countB c.toNat l n=n+Lib.countByte l c:=by
 intro l
 induction l with
 |nil=>intro n;rfl
 | cons b l ih =>
  intro n
  simp only[countB,Lib.countByte]
  have hb:(b==c)=Nat.beq b.toNat c.toNat:=by
   rw[Bool.eq_iff_iff,beq_iff_eq]
   constructor
   ·rintro rfl;exact Nat.beq_refl _
   ·intro h;exact UInt8.toNat_inj.1 (ebT h)
  cases hq:Nat.beq b.toNat c.toNat with
  |true=>rw[hq] at hb;simp only[ih];simp_all [Lib.countByte];omega
  |false=>rw[hq] at hb;simp only[ih];simp_all [Lib.countByte]
theorem AJ3 {c:Call} {f:FuncId} {x y:Operand} {x' y':GX} (ho:o.op=.call c) (hc:c.callee=.value (.func f)) (ha:c.args=#[x,y]) (hf:R_c P f "internal/bytealg.CountString" = true) (hx:gx cx x=some x') (hy:gx cx y=some y'):Snd P cx o (Bm3 x' y'):=
 E_5 λB ρ en h w a v h' E R eg=>by
  have hv:=G_j E hx
  have hw:=G_j E hy
  obtain⟨e1,rfl⟩:=F_5 (show ret1 h (AB4 (ev en x') (ev en y'))=_ from eg)
  refine⟨rfl,v,?_⟩
  generalize hqx:a.eval x=ux at hv
  generalize hqy:a.eval y=uy at hw
  generalize ev en x'=u at hv e1
  generalize ev en y'=t at hw e1
  cases u<;>try cases e1
  rename_i s
  cases t<;>try cases e1
  rename_i k n
  cases k<;>cases n<;>simp only[AB4] at e1<;>try cases e1
  rename_i m
  cases hm:Nat.ble m 255 with
  |false=>rw[hm] at e1;cases e1
  | true =>
   rw[hm] at e1
   simp only[sjE] at e1
   subst e1
   have hle:=lbT hm
   have hs:=hv.string_inv
   have hi:=hw.int_inv
   subst hs;subst hi
   refine⟨?_,.int _ _⟩
   obtain⟨fn,h1,h2,h3,h4⟩:=Q_5 hf
   obtain⟨r1,r2⟩:=Z_t fn h3 h4
   have hrun:=run_callFunc_extern (P:=P) h1 (by rw[h3];decide) h2 r1 r2 #[.string s,.int .u8 (.ofNat m)] w
   have he:(execOp a.eval o).run P w=(callFunc f #[a.eval x,a.eval y]).run P w:=by
    simp[execOp,ho,resolve,hc,ha,Act.eval,Deferred.ofValue,invoke]
   have hto:(UInt8.ofNat m).toNat=m:=by simp;omega
   have hcb:=z_4 (UInt8.ofNat m) s.data.toList 0
   rw[hto,zaQ] at hcb
   rw[he,hqx,hqy,hrun,Lib.run_countString,hcb]
   rfl
end
end Go.Gev
namespace Go.Gev
open Go.RowKit
theorem ME.len{ρ:Ren}{es es':List MapEntry}(m:ME ρ es es'):es.length=es'.length:=by
 induction m with
 |nil=>rfl
 |cons _ _ _ _ ih=>simp[ih]
theorem ME.snoc{ρ:Ren}{es es':List MapEntry}(m:ME ρ es es'){e e':MapEntry}(hk:e'.key=e.key)(hb:e'.born=e.born)(hv:VR ρ e.val e'.val):ME ρ (es ++ [e]) (es' ++ [e']):=by
 induction m with
 |nil=>exact .cons hk hb hv .nil
 |cons h1 h2 h3 _ ih=>exact .cons h1 h2 h3 ih
theorem ME.setVal{ρ:Ren}{es es':List MapEntry}(m:ME ρ es es'){v v':Value}(hv:VR ρ v v'):∀i,ME ρ (Gev.setVal v i es) (es'.modify i λe=>{ e with val:=v' }):=by
 induction m with
 |nil=>intro i;cases i<;>exact .nil
 |cons h1 h2 h3 t ih=>
  intro i
  cases i with
  |zero=>exact .cons h1 h2 hv t
  |succ i=>exact .cons h1 h2 h3 (ih i)
theorem ME.dropAt{ρ:Ren}{es es':List MapEntry}(m:ME ρ es es'):∀i,ME ρ (Gev.dropAt i es) (es'.eraseIdx i):=by
 induction m with
 |nil=>intro i;cases i<;>exact .nil
 |cons h1 h2 h3 t ih=>
  intro i
  cases i with
  |zero=>exact t
  |succ i=>exact .cons h1 h2 h3 (ih i)
theorem y_x(s t:ByteArray):(s==t)=true↔s=t:=by
 cases s;cases t
 rename_i a b
 show (a==b)=true↔_
 rw[beq_iff_eq]
 constructor
 ·rintro rfl;rfl
 ·intro e;injection e
theorem Ad8:∀{a b:List UInt8},eqL a b=true↔a=b:=by
 intro a
 induction a with
 |nil=>intro b;cases b<;>simp[eqL]
 | cons x xs ih =>
  intro b
  cases b with
  |nil=>simp[eqL]
  | cons y ys =>
   simp only[eqL]
   cases h:Nat.beq x.toNat y.toNat with
   |true=>
    have:x=y:=UInt8.toNat_inj.1 (ebT h)
    subst this
    simp[ih]
   |false=>
    have:x≠y:=λe=>by subst e;rw[Nat.beq_refl] at h;cases h
    simp[this]
theorem a_t{kd:TypeDesc}{b:Bool}(hkd:(b=true∧∃kk,kd=.int kk)∨(b=false∧kd=.string)){k y:Value}(hk:keyish b k=true){r:Bool}(h:O_1 k y=some r):Instr.sameNow kd k y=some r∧(r=true→y=k):=by
 cases k<;>try (exact absurd hk Bool.false_ne_true)
 case int kk n =>
  have hb:b=true:=hk
  subst hb
  rcases hkd with⟨_,kk2,rfl⟩|⟨h0,_⟩
  ·cases y<;>try (simp[O_1,eqI2] at h;done)
   rename_i k3 m
   simp only[O_1,eqI2] at h
   cases hkn:Nat.beq (kn kk) (kn k3) with
   |false=>rw[hkn] at h;cases h
   | true =>
    rw[hkn] at h
    injection h with h
    have hk3:kk=k3:=by
     have:=ebT hkn
     revert this
     cases kk<;>cases k3<;>simp[kn]
    subst hk3
    have he:eqI n m=(n==m):=by
     cases n<;>cases m<;>simp only[eqI]
     ·rename_i p q
      rw[Bool.eq_iff_iff];simp;omega
     ·rfl
     ·rfl
     ·rename_i p q
      rw[Bool.eq_iff_iff];simp
    subst h
    simp only[Instr.sameNow,if_true]
    rw[he]
    exact⟨rfl,λe=>by rw[eq_of_beq e]⟩
  ·cases h0
 case string s=>
  have hb:notB b=true:=hk
  have hb:b=false:=by cases b<;>first|rfl|cases hb
  subst hb
  rcases hkd with⟨h0,_⟩|⟨_,rfl⟩
  ·cases h0
  ·cases y<;>try (simp[O_1,eqS2] at h;done)
   rename_i t
   simp only[O_1,eqS2,sjE] at h
   have he:eqL s.data.toList t.data.toList=(s==t):=by
    rw[Bool.eq_iff_iff,Ad8,y_x]
    constructor
    ·intro e
     have:s.data=t.data:=Array.ext' e
     cases s;cases t;simp_all
    ·rintro rfl;rfl
   subst h
   simp only[Instr.sameNow]
   rw[he]
   exact⟨rfl,λe=>by rw[(y_x _ _).1 e]⟩
theorem Ae3{ρ:Ren}{kd:TypeDesc}{b:Bool}(hkd:(b=true∧∃kk,kd=.int kk)∨(b=false∧kd=.string)){k:Value}(hk:keyish b k=true){es es':List MapEntry}(m:ME ρ es es'):∀(i:Nat)(r:Option (Nat × Value)),findM k es i=some r →
 (r=none∧Instr.findNow kd k es' i=some none)∨(∃j v v',r=some (j,v)∧Instr.findNow kd k es' i=some (some (j,v'))∧VR ρ v v'∧i≤j∧∃e,es'[j-i]?=some e∧e.key=k):=by
 induction m with
 |nil=>intro i r h;simp only[findM,sjE] at h;subst h;exact .inl ⟨rfl,rfl⟩
 | @cons e e' es es' h1 h2 h3 t ih =>
  intro i r h
  simp only[findM] at h
  cases hq:O_1 k e.key with
  |none=>rw[hq] at h;cases h
  | some q =>
   rw[hq] at h
   obtain⟨hs,hy⟩:=a_t hkd hk hq
   rw[←h1] at hs hy
   cases q with
   |true=>
    simp only[sjE] at h
    subst h
    refine .inr ⟨i,e.val,e'.val,rfl,?_,h3,lR _,e',by simp,hy rfl⟩
    simp only[Instr.findNow,hs]
   | false =>
    simp only at h
    have hf:Instr.findNow kd k (e'::es') i=Instr.findNow kd k es' (i+1):=by simp only[Instr.findNow,hs]
    rcases ih (i+1) r h with⟨q1,q2⟩|⟨j,v,v',q1,q2,q3,q4,e2,q5,q6⟩
    ·exact .inl ⟨q1,hf.trans q2⟩
    ·refine .inr ⟨j,v,v',q1,hf.trans q2,q3,by omega,e2,?_,q6⟩
     rw[show j-i=(j-(i+1))+1 from by omega,List.getElem?_cons_succ]
     exact q5
theorem MK.len{ρ:Ren}{es es':List MapEntry}(m:MK ρ es es'):es.length=es'.length:=by
 induction m with
 |nil=>rfl
 |cons _ _ _ ih=>simp[ih]
theorem MK.keys{ρ:Ren}{es es':List MapEntry}(m:MK ρ es es'):es'.map (·.key)=es.map (·.key):=by
 induction m with
 |nil=>rfl
 |cons hk _ _ ih=>rw[List.map_cons,List.map_cons,hk,ih]
theorem MK.snoc{ρ:Ren}{es es':List MapEntry}(m:MK ρ es es'){e e':MapEntry}(hk:e'.key=e.key)(hv:VR ρ e.val e'.val):MK ρ (es ++ [e]) (es' ++ [e']):=by
 induction m with
 |nil=>exact .cons hk hv .nil
 |cons h1 h2 _ ih=>exact .cons h1 h2 ih
theorem MK.setVal{ρ:Ren}{es es':List MapEntry}(m:MK ρ es es'){v v':Value}(hv:VR ρ v v'):∀i,MK ρ (Gev.setVal v i es) (es'.modify i λe=>{ e with val:=v' }):=by
 induction m with
 |nil=>intro i;cases i<;>exact .nil
 |cons h1 h2 t ih=>
  intro i
  cases i with
  |zero=>exact .cons h1 hv t
  |succ i=>exact .cons h1 h2 (ih i)
theorem MK.dropAt{ρ:Ren}{es es':List MapEntry}(m:MK ρ es es'):∀i,MK ρ (Gev.dropAt i es) (es'.eraseIdx i):=by
 induction m with
 |nil=>intro i;cases i<;>exact .nil
 |cons h1 h2 t ih=>
  intro i
  cases i with
  |zero=>exact t
  |succ i=>exact .cons h1 h2 (ih i)
theorem MK.get{ρ:Ren}{es es':List MapEntry}(m:MK ρ es es'):∀{j:Nat}{e:MapEntry},es[j]?=some e→∃e',es'[j]?=some e'∧e'.key=e.key∧VR ρ e.val e'.val:=by
 induction m with
 |nil=>intro j e h;simp at h
 |@cons a a' as as' h1 h2 t ih=>
  intro j e h
  cases j with
  |zero=>simp only[gcZ,sjE] at h;subst h;exact⟨a',by simp,h1,h2⟩
  |succ j=>simp only[List.getElem?_cons_succ] at h ⊢;exact ih h
theorem x_6{v:Value}:∀{es:List MapEntry}{i:Nat}{e:MapEntry},e∈Gev.setVal v i es→∃e0∈es,e.born=e0.born:=by
 intro es
 induction es with
 |nil=>intro i e h;cases i<;>cases h
 | cons a t ih =>
  intro i e h
  cases i with
  |zero=>
   rcases mcQ.1 h with rfl|h
   ·exact⟨a,mcS,rfl⟩
   ·exact⟨e,mcM _ h,rfl⟩
  | succ i =>
   rcases mcQ.1 h with rfl|h
   ·exact⟨e,mcS,rfl⟩
   ·obtain⟨e0,h1,h2⟩:=ih h
    exact⟨e0,mcM _ h1,h2⟩
theorem e_3:∀{es:List MapEntry}{i:Nat}{e:MapEntry},e∈Gev.dropAt i es→e∈es:=by
 intro es
 induction es with
 |nil=>intro i e h;cases i<;>cases h
 | cons a t ih =>
  intro i e h
  cases i with
  |zero=>exact mcM _ h
  |succ i=>
   rcases mcQ.1 h with rfl|h
   ·exact mcS
   ·exact mcM _ (ih h)
theorem ME.setBorn{es:List MapEntry}{v:Value}{i:Nat}{q:Nat→Prop}(h:∀e∈es,q e.born):∀e∈Gev.setVal v i es,q e.born:=λe he=>by
 obtain⟨e0,h1,h2⟩:=x_6 he
 rw[h2];exact h e0 h1
theorem m_4{α:Type}:∀{l:List α}{j:Nat}{e:α},l[j]?=some e→l.Perm (e::l.eraseIdx j):=by
 intro l
 induction l with
 |nil=>intro j e h;simp at h
 | cons a t ih =>
  intro j e h
  cases j with
  |zero=>simp only[gcZ,sjE] at h;subst h;exact List.Perm.refl _
  |succ j=>
   simp only[List.getElem?_cons_succ] at h
   exact((ih h).cons a).trans (List.Perm.swap e a _)
theorem c_g{α:Type}{f:α→α}:∀{l:List α}{j:Nat}{e:α},l[j]?=some e→(l.modify j f).Perm (f e::l.eraseIdx j):=by
 intro l
 induction l with
 |nil=>intro j e h;simp at h
 | cons a t ih =>
  intro j e h
  cases j with
  |zero=>simp only[gcZ,sjE] at h;subst h;exact List.Perm.refl _
  |succ j=>
   simp only[List.getElem?_cons_succ] at h
   exact((ih h).cons a).trans (List.Perm.swap (f e) a _)
theorem V_2{β:Type}{g:MapEntry→β}{v:Value}(hg:∀e:MapEntry,g { e with val:=v }=g e):∀(l:List MapEntry)(j:Nat),(l.modify j λe=>{ e with val:=v }).map g=l.map g:=by
 intro l
 induction l with
 |nil=>intro j;cases j<;>rfl
 |cons a t ih=>
  intro j
  cases j with
  |zero=>show g { a with val:=v }::t.map g=_;rw[hg];rfl
  |succ j=>show g a::(t.modify j _).map g=_;rw[ih];rfl
theorem P_2{β:Type}{g:MapEntry→β}{l l2:List MapEntry}(h:l2.map g=l.map g){e:MapEntry}(he:e∈l2):∃e0∈l,g e0=g e:=by
 have:g e∈l.map g:=by rw[←h];exact List.mem_map_of_mem he
 obtain⟨e0,h1,h2⟩:=List.mem_map.1 this
 exact⟨e0,h1,h2⟩
theorem Nice.setVal{es:List MapEntry}{cl:Nat}(n:Nice es cl)(v:Value)(j:Nat):Nice (es.modify j λe=>{ e with val:=v }) cl:=by
 have hb:=V_2 (g:=(·.born)) (v:=v) (λ_=>rfl) es j
 have hk:=V_2 (g:=(·.key)) (v:=v) (λ_=>rfl) es j
 refine⟨λe he=>?_,by rw[hb];exact n.nb,by rw[hk];exact n.nk,?_⟩
 ·obtain⟨e0,h1,h2⟩:=P_2 hb he
  have h2:e0.born=e.born:=h2
  rw[←h2];exact n.lt e0 h1
 ·rcases n.ks with h|h
  ·refine .inl λe he=>?_
   obtain⟨e0,h1,h2⟩:=P_2 hk he
   have h2:e0.key=e.key:=h2
   rw[←h2];exact h e0 h1
  ·refine .inr λe he=>?_
   obtain⟨e0,h1,h2⟩:=P_2 hk he
   have h2:e0.key=e.key:=h2
   rw[←h2];exact h e0 h1
theorem Nice.sub{es es2:List MapEntry}{cl:Nat}(n:Nice es cl)(h:es2.Sublist es):Nice es2 cl:=
 ⟨λe he=>n.lt e (h.subset he),n.nb.sublist (h.map _),n.nk.sublist (h.map _),n.ks.imp (λq e he=>q e (h.subset he)) λq e he=>q e (h.subset he)⟩
theorem c_q{α β:Type}{g:α→β}:∀{l:List α},(l.map g).Nodup→∀x∈l,∀y∈l,g x=g y→x=y:=by
 intro l
 induction l with
 |nil=>intro _ x hx;cases hx
 |cons a t ih=>
  intro h x hx y hy e
  rw[List.map_cons,List.nodup_cons] at h
  rcases mcQ.1 hx with h1|h1<;>rcases mcQ.1 hy with h2|h2
  ·rw[h1,h2]
  ·exact absurd (show g a∈t.map g from by rw[←h1,e];exact List.mem_map_of_mem h2) h.1
  ·exact absurd (show g a∈t.map g from by rw[←h2,←e];exact List.mem_map_of_mem h1) h.1
  ·exact ih h.2 x h1 y h2 e
theorem v_y{b:Bool}{k:Value}(hk:keyish b k=true):O_1 k k=some true:=by
 cases k<;>try cases hk
 ·rename_i kk n
  have h1:Nat.beq (kn kk) (kn kk)=true:=Nat.beq_refl _
  have h2:eqI n n=true:=by cases n<;>exact Nat.beq_refl _
  simp only[O_1,eqI2,h1,h2]
 ·rename_i s
  simp only[O_1,eqS2]
  rw[Ad8.2 rfl]
theorem Ad6{k:Value}{es:List MapEntry}(hks:(∀e∈es,∃n,e.key=.int .i64 n)∨(∀e∈es,∃s,e.key=.string s)){e0:MapEntry}(h0:e0∈es){q:Bool}(hq:O_1 k e0.key=some q):∀e∈es,∃q,O_1 k e.key=some q:=by
 intro e he
 rcases hks with h|h
 ·obtain⟨n0,hn0⟩:=h e0 h0
  obtain⟨n,hn⟩:=h e he
  rw[hn0] at hq
  rw[hn]
  cases k<;>try cases hq
  rename_i kk m
  simp only[O_1,eqI2] at hq ⊢
  cases hkn:Nat.beq (kn kk) (kn .i64) with
  |false=>rw[hkn] at hq;cases hq
  |true=>exact⟨_,rfl⟩
 ·obtain⟨n0,hn0⟩:=h e0 h0
  obtain⟨n,hn⟩:=h e he
  rw[hn0] at hq
  rw[hn]
  cases k<;>try (first|(cases hq;done)|(simp[O_1] at hq;done))
  exact⟨_,rfl⟩
theorem Ae6{k:Value}:∀{es:List MapEntry},(∀e∈es,∃q,O_1 k e.key=some q∧(q=true↔e.key=k))→∀i,
 ((∀e∈es,e.key≠k)∧findM k es i=some none)∨∃j e,es[j]?=some e∧e.key=k∧findM k es i=some (some (i+j,e.val)):=by
 intro es
 induction es with
 |nil=>intro _ i;exact .inl ⟨λe h=>(by cases h),rfl⟩
 | cons a t ih =>
  intro h i
  obtain⟨q,h1,h2⟩:=h a mcS
  cases q with
  |true=>exact .inr ⟨0,a,by simp,h2.1 rfl,by simp[findM,h1]⟩
  | false =>
   have hne:a.key≠k:=λe=>by have:=h2.2 e;cases this
   have hf:findM k (a::t) i=findM k t (i+1):=by simp[findM,h1]
   rcases ih (λe he=>h e (mcM _ he)) (i+1) with⟨q1,q2⟩|⟨j,e,q1,q2,q3⟩
   ·refine .inl ⟨λe he=>?_,hf.trans q2⟩
    rcases mcQ.1 he with rfl|he
    ·exact hne
    ·exact q1 e he
   ·exact .inr ⟨j+1,e,by simpa using q1,q2,by rw[hf,q3];congr 3;omega⟩
theorem W_f{kd:TypeDesc}{k:Value}:∀{es:List MapEntry},(∀e∈es,∃q,Instr.sameNow kd k e.key=some q∧(q=true↔e.key=k))→∀i,
 ((∀e∈es,e.key≠k)∧Instr.findNow kd k es i=some none)∨∃j e,es[j]?=some e∧e.key=k∧Instr.findNow kd k es i=some (some (i+j,e.val)):=by
 intro es
 induction es with
 |nil=>intro _ i;exact .inl ⟨λe h=>(by cases h),rfl⟩
 | cons a t ih =>
  intro h i
  obtain⟨q,h1,h2⟩:=h a mcS
  cases q with
  |true=>exact .inr ⟨0,a,by simp,h2.1 rfl,by simp[Instr.findNow,h1]⟩
  | false =>
   have hne:a.key≠k:=λe=>by have:=h2.2 e;cases this
   have hf:Instr.findNow kd k (a::t) i=Instr.findNow kd k t (i+1):=by simp[Instr.findNow,h1]
   rcases ih (λe he=>h e (mcM _ he)) (i+1) with⟨q1,q2⟩|⟨j,e,q1,q2,q3⟩
   ·refine .inl ⟨λe he=>?_,hf.trans q2⟩
    rcases mcQ.1 he with rfl|he
    ·exact hne
    ·exact q1 e he
   ·exact .inr ⟨j+1,e,by simpa using q1,q2,by rw[hf,q3];congr 3;omega⟩
theorem MR.len{ρ:Ren}{es es':List MapEntry}{cl:Nat}(m:MR ρ es es' cl):es.length=es'.length:=by
 rcases m with m|⟨_,_,es'',c,d⟩
 ·exact m.1.len
 ·rw[d.len,c.length_eq]
theorem MR.find {ρ : Ren} {kd : TypeDesc} {b : Bool} (hkd : (b = true ∧ ∃ kk, kd = .int kk) ∨ (b = false ∧ kd = .string)) {k : Value} (hk : keyish b k = true) {es es' : List MapEntry} {cl : Nat} (m : MR ρ es es' cl) {r : Option (Nat × Value)} (hr : findM k es 0 = some r) :
 (r=none∧Instr.findNow kd k es' 0=some none∧∀v v',VR ρ v v'→(R_v es=true→MR ρ (es ++ [⟨k,v,1000000000000⟩]) (es' ++ [⟨k,v',cl⟩]) (cl+1))∧(R_v es=false→cl<1000000000000→MR ρ (es ++ [⟨k,v,cl⟩]) (es' ++ [⟨k,v',cl⟩]) (cl+1))) ∨
 ∃j j' v v',r=some (j,v)∧Instr.findNow kd k es' 0=some (some (j',v'))∧VR ρ v v'∧(∃e,es'[j']?=some e∧e.key=k) ∧
  (∀v2 v2',VR ρ v2 v2'→MR ρ (Gev.setVal v2 j es) (es'.modify j' λe=>{ e with val:=v2' }) cl)∧MR ρ (Gev.dropAt j es) (es'.eraseIdx j') cl:=by
 rcases m with⟨m,hlt⟩|⟨hbig,nice,es'',hp,mk⟩
 ·rcases Ae3 hkd hk m 0 r hr with⟨rfl,q2⟩|⟨j,v,v',rfl,q2,q3,_,e,q5,q6⟩
  ·refine .inl ⟨rfl,q2,λv v' hv=>⟨λhb=>?_,λ_ hcl=>.inl ⟨m.snoc rfl rfl hv,λe he=>?_⟩⟩⟩
   ·obtain⟨e,t,rfl,h1⟩:=f_b hb
    have:=hlt e mcS
    omega
   ·rcases List.mem_append.1 he with he|he
    ·exact hlt e he
    ·rw[msQ.1 he];exact hcl
  ·exact .inr ⟨j,j,v,v',rfl,q2,q3,⟨e,by simpa using q5,q6⟩,λv2 v2' hv=>.inl ⟨m.setVal hv j,ME.setBorn (q:=λn=>n<1000000000000) hlt⟩,.inl ⟨m.dropAt j,λe he=>hlt e (e_3 he)⟩⟩
 ·cases es with
  |nil=>
   cases mk
   have:=List.nil_perm.1 hp
   subst this
   simp only[findM,sjE] at hr
   subst hr
   refine .inl ⟨rfl,rfl,λv v' hv=>⟨λhb=>(by cases hb),λ_ hcl=>.inl ⟨.cons rfl rfl hv .nil,λe he=>?_⟩⟩⟩
   rw[msQ.1 he];exact hcl
  | cons e0 t =>
   obtain⟨q0,hq0⟩:∃q,O_1 k e0.key=some q:=by
    cases hq:O_1 k e0.key with
    |none=>simp[findM,hq] at hr
    |some q=>exact⟨q,rfl⟩
   obtain⟨e0',g1,g2,_⟩:=mk.get (j:=0) (e:=e0) (by simp)
   have hm0:e0'∈es':=hp.subset (mgE g1)
   have hall:=Ad6 nice.ks hm0 (by rw[g2];exact hq0)
   have htrue:∀{y:Value}{q:Bool},O_1 k y=some q→(q=true↔y=k):=λ{y q} hy=>by
    refine⟨(a_t hkd hk hy).2,λe=>?_⟩
    subst e
    rw[v_y hk] at hy
    exact(Option.some.inj hy).symm
   have hkeys:=mk.keys
   have hesall:∀e∈e0::t,∃q,O_1 k e.key=some q∧(q=true↔e.key=k):=λe he=>by
    obtain⟨e2,h1,h2⟩:=P_2 (g:=(·.key)) hkeys.symm he
    have h2:e2.key=e.key:=h2
    obtain⟨q,hq⟩:=hall e2 (hp.subset h1)
    rw[h2] at hq
    exact⟨q,hq,htrue hq⟩
   have hnow:∀e∈es',∃q,Instr.sameNow kd k e.key=some q∧(q=true↔e.key=k):=λe he=>by
    obtain⟨q,hq⟩:=hall e he
    exact⟨q,(a_t hkd hk hq).1,htrue hq⟩
   have hB:R_v (e0::t)=true:=btL (hbig e0 mcS)
   rcases Ae6 hesall 0 with⟨q1,q2⟩|⟨j,e,q1,q2,q3⟩
   ·rw [q2] at hr
    injection hr with hr
    subst hr
    have hno:∀e∈es',e.key≠k:=λe he=>by
     have:e∈es'':=hp.symm.subset he
     obtain⟨e2,h1,h2⟩:=P_2 (g:=(·.key)) hkeys this
     have h2:e2.key=e.key:=h2
     rw[←h2];exact q1 e2 h1
    rcases W_f hnow 0 with⟨_,p2⟩|⟨j',e',p1,p2,_⟩
    ·refine .inl ⟨rfl,p2,λv v' hv=>⟨λ_=>.inr ⟨λe he=>?_,⟨λe he=>?_,?_,?_,?_⟩,es'' ++ [⟨k,v',cl⟩],hp.append_right _,mk.snoc rfl hv⟩,λhb=>(by rw[hB] at hb;cases hb)⟩⟩
     ·rcases List.mem_append.1 he with he|he
      ·exact hbig e he
      ·rw[msQ.1 he];exact lR _
     ·rcases List.mem_append.1 he with he|he
      ·exact Nat.lt_succ_of_lt (nice.lt e he)
      ·rw[msQ.1 he];exact Nat.lt_succ_self _
     ·rw[List.map_append,List.map_singleton,List.nodup_append]
      refine⟨nice.nb,by simp,λa ha c hc=>?_⟩
      obtain⟨e,he,rfl⟩:=List.mem_map.1 ha
      rw[msQ.1 hc]
      exact Nat.ne_of_lt (nice.lt e he)
     ·rw[List.map_append,List.map_singleton,List.nodup_append]
      refine⟨nice.nk,by simp,λa ha c hc=>?_⟩
      obtain⟨e,he,rfl⟩:=List.mem_map.1 ha
      rw[msQ.1 hc]
      exact hno e he
     ·rcases nice.ks with h|h
      ·refine .inl λe he=>?_
       rcases List.mem_append.1 he with he|he
       ·exact h e he
       ·rw[msQ.1 he]
        obtain⟨n,hn⟩:=h e0' hm0
        rw[←g2,hn] at hq0
        obtain⟨kk,a,rfl⟩:∃kk a,k=.int kk a:=by
         cases k<;>try (first|(cases hq0;done)|(simp[O_1] at hq0;done))
         exact⟨_,_,rfl⟩
        simp only[O_1,eqI2] at hq0
        cases hkn:Nat.beq (kn kk) (kn .i64) with
        |false=>rw[hkn] at hq0;cases hq0
        | true =>
         have hk3:kk=.i64:=by
          have:=ebT hkn
          revert this
          cases kk<;>simp[kn]
         exact⟨a,by rw[hk3]⟩
      ·refine .inr λe he=>?_
       rcases List.mem_append.1 he with he|he
       ·exact h e he
       ·rw[msQ.1 he]
        obtain⟨n,hn⟩:=h e0' hm0
        rw[←g2,hn] at hq0
        cases k<;>try (first|(cases hq0;done)|(simp[O_1] at hq0;done))
        exact⟨_,rfl⟩
    ·exact absurd p2 (hno e' (mgE p1))
   ·rw[q3] at hr
    injection hr with hr
    subst hr
    obtain⟨e2,r1,r2,r3⟩:=mk.get q1
    have hm2:e2∈es':=hp.subset (mgE r1)
    rcases W_f hnow 0 with⟨p1,_⟩|⟨j',e3,p1,p2,p3⟩
    ·exact absurd (r2.trans q2) (p1 e2 hm2)
    ·have he:e3=e2:=c_q nice.nk e3 (mgE p1) e2 hm2 (p2.trans (r2.trans q2).symm)
     subst he
     have hpe:(es''.eraseIdx j).Perm (es'.eraseIdx j'):=((m_4 r1).symm.trans (hp.trans (m_4 p1))).cons_inv
     rw[zaQ] at p3
     refine .inr ⟨j,j',e.val,e3.val,by rw[zaQ],p3,r3,⟨e3,p1,p2⟩,λv2 v2' hv=>.inr ⟨ME.setBorn (q:=λn=>1000000000000≤n) hbig,nice.setVal _ _,_,?_,mk.setVal hv j⟩,.inr ⟨λe he=>hbig e (e_3 he),nice.sub (List.eraseIdx_sublist _ _),_,hpe,mk.dropAt j⟩⟩
     exact(c_g (f:=λe:MapEntry=>{ e with val:=v2' }) r1).trans ((hpe.cons _).trans (c_g (f:=λe:MapEntry=>{ e with val:=v2' }) p1).symm)
theorem U_0{B:Nat}{ρ:Ren}{h:Hs}{w:World}(R:HR B ρ h w){id cl cl2:Nat}{es es2:List MapEntry}{arr2:Array MapEntry}(hb:h.hp.get id=some (.mp es cl)){H:Host}(he:ρ id=some H)(hm:MR ρ es2 arr2.toList cl2) :
 St B ρ h w ρ ⟨h.hp.set id (some (.mp es2 cl2)),h.nx,minN h.lo id⟩ { w with heap:=w.heap.setIfInBounds H.blk (.map arr2 cl2) }:=by
 obtain⟨H0,arr,he0,hB,hh,hme⟩:=R.has id _ hb
 rw[he] at he0
 injection he0 with he0
 subst he0
 have hlt:H.blk<w.heap.size:=(gaI.1 hh).1
 have hget:∀j,(h.hp.set id (some (.mp es2 cl2))).get j=if id=j then some (.mp es2 cl2) else h.hp.get j:=λj=>tgS _ _ _ _
 have hrw:∀j b,(h.hp.set id (some (.mp es2 cl2))).get j=some b→∃b0,h.hp.get j=some b0∧isRw b0=isRw b∧(j≠id→b0=b):=λj b hj=>by
  rw[hget] at hj
  split at hj
  ·rename_i e'
   subst e'
   injection hj with hj
   subst hj
   exact⟨_,hb,rfl,λh=>absurd rfl h⟩
  ·exact⟨b,hj,rfl,λ_=>rfl⟩
 have hfar:∀k,k≠H.blk→(w.heap.setIfInBounds H.blk (.map arr2 cl2))[k]?=w.heap[k]?:=λk hk=>by
  rw[Array.getElem?_setIfInBounds,if_neg (λe=>hk e.symm)]
 refine⟨⟨by simpa using R.base,R.dom,λj b hj=>?_,λj j' b b' K K' hj hj' hne hrb ek ek'=>?_⟩,lR _,rLR _,λ_ _=>rfl,⟨rfl,rfl,rfl,by simp,λk hk=>hfar k (by omega)⟩,by simp,F_1 _ _,λj b hj hl=>?_,λj b hj hjlt=>?_,λj b hj hge=>(by obtain⟨b0,hb0,_,_⟩:=hrw j b hj;have:=R.lt hb0;omega),λk hk hno=>?_,λj K hj e'=>?_⟩
 ·obtain⟨b0,hb0,hr,hsame⟩:=hrw j b hj
  by_cases hji:j=id
  ·subst hji
   rw[hget,if_pos rfl] at hj
   injection hj with hj
   subst hj
   refine⟨H,arr2,he,hB,?_,hm⟩
   show (w.heap.setIfInBounds H.blk (.map arr2 cl2))[H.blk]?=_
   rw[Array.getElem?_setIfInBounds,if_pos rfl,if_pos hlt]
  ·have:=hsame hji
   subst this
   refine(R.has j b0 hb0).mono (rLR _) (λK ek=>hfar _ (λe'=>?_))
   exact R.inj id j _ _ H K hb hb0 (λh=>hji h.symm) rfl he ek e'.symm
 ·obtain⟨b0,hb0,hr,_⟩:=hrw j b hj
  obtain⟨b0',hb0',_,_⟩:=hrw j' b' hj'
  exact R.inj j j' b0 b0' K K' hb0 hb0' hne (hr.trans hrb) ek ek'
 ·have hji:j≠id:=λe'=>by subst e';have:=C_m h.lo j;simp only at hl;omega
  show (h.hp.set id _).get j=_
  rw[hget,if_neg (λe'=>hji e'.symm)]
  exact hj
 ·obtain⟨b0,hb0,hr,hsame⟩:=hrw j b hj
  refine⟨b0,hb0,hr,λhl=>hsame (λe'=>?_)⟩
  subst e'
  have:=C_m h.lo j
  simp only at hl;omega
 ·refine hfar k (λe'=>?_)
  exact hno id _ H hb rfl he (C_m _ _) e'.symm
 ·rw[R.dom j hj] at e';cases e'
theorem Av7{B:Nat}{ρ:Ren}{h:Hs}{w:World}(R:HR B ρ h w) :
 St B ρ h w (ρ.add h.nx ⟨w.heap.size,0,0,0,none⟩) ⟨h.hp.set h.nx (some (.mp [] 0)),Nat.succ h.nx,h.lo⟩ (w.alloc (.map #[] 0)):=by
 have hnx:ρ h.nx=none:=R.dom _ (lR _)
 have hle:=Ren.le_add ⟨w.heap.size,0,0,0,none⟩ hnx
 have hget:∀j,(h.hp.set h.nx (some (.mp [] 0))).get j=if h.nx=j then some (.mp [] 0) else h.hp.get j:=λj=>tgS _ _ _ _
 have hold:∀j b,(h.hp.set h.nx (some (.mp [] 0))).get j=some b→j≠h.nx→h.hp.get j=some b:=λj b hj hne=>by
  rw[hget,if_neg (λe=>hne e.symm)] at hj;exact hj
 have hlt:∀j b,h.hp.get j=some b→∀L,ρ j=some L→L.blk<w.heap.size:=λj b hj L hL=>by
  obtain⟨L',e1,e2⟩:=(R.has j b hj).host_lt
  rw[hL] at e1;injection e1 with e1;subst e1;exact e2
 have hfar:∀k,k<w.heap.size→(w.alloc (.map #[] 0)).heap[k]?=w.heap[k]?:=λk hk=>by
  show (w.heap.push _)[k]?=_
  rw[Array.getElem?_push,if_neg (by omega)]
 have hsz:(w.alloc (.map #[] 0)).heap.size=w.heap.size+1:=by show (w.heap.push _).size=_;simp
 refine⟨⟨by rw[hsz];have:=R.base;omega,λj hj=>?_,λj b hj=>?_,λj j' b b' L L' hj hj' hne hr eL eL'=>?_⟩,Nat.le_succ _,hle,λj hj=>rAO _ _ (by omega),⟨rfl,rfl,rfl,by rw[hsz];omega,λk hk=>hfar k (by have:=R.base;omega)⟩,by rw[hsz];omega,lR _,
  λj b hj hl=>?_,λj b hj hjlt=>?_,λj b hj hge=>?_,λk hk hno=>hfar k hk,λj L hj eL=>?_⟩
 ·have hj':h.nx+1≤j:=hj
  rw[rAO _ _ (by omega)]
  exact R.dom j (by omega)
 ·by_cases hjn:j=h.nx
  ·subst hjn
   rw[hget,if_pos rfl] at hj
   injection hj with hj
   subst hj
   refine⟨_,#[],rAS _ _ _,R.base,?_,.nil⟩
   show (w.heap.push _)[w.heap.size]?=_
   simp
  ·exact(R.has j b (hold j b hj hjn)).mono hle (λL eL=>hfar _ (hlt j b (hold j b hj hjn) L eL))
 ·by_cases e1:j=h.nx
  ·subst e1
   have h1:=hold j' b' hj' (λe=>hne e.symm)
   rw[rAS] at eL
   injection eL with eL
   subst eL
   rw[rAO _ _ (λe=>hne e.symm)] at eL'
   have:=hlt j' b' h1 L' eL'
   show w.heap.size≠L'.blk
   omega
  ·have h1:=hold j b hj e1
   rw[rAO _ _ e1] at eL
   by_cases e2:j'=h.nx
   ·subst e2
    rw[rAS] at eL'
    injection eL' with eL'
    subst eL'
    have:=hlt j b h1 L eL
    show L.blk≠w.heap.size
    omega
   ·rw[rAO _ _ e2] at eL'
    exact R.inj j j' b b' L L' h1 (hold j' b' hj' e2) hne hr eL eL'
 ·show (h.hp.set h.nx _).get j=_
  have:=R.lt hj
  rw[hget,if_neg (by omega)]
  exact hj
 ·exact⟨b,hold j b hj (by omega),rfl,λ_=>rfl⟩
 ·by_cases e1:j=h.nx
  ·subst e1
   replace hj:(h.hp.set h.nx (some (.mp [] 0))).get h.nx=some b:=hj
   rw[hget,if_pos rfl] at hj
   injection hj with hj;subst hj;rfl
  ·have:=R.lt (hold j b hj e1);omega
 ·by_cases e1:j=h.nx
  ·subst e1
   rw[rAS] at eL
   injection eL with eL
   subst eL
   exact .inl (lR _)
  ·rw[rAO _ _ e1] at eL
   rw[R.dom j hj] at eL;cases eL
section
variable {P:Program} {cx:Cx} {o:Oper}
theorem b_e{t:TypeId}{b:Bool}(h:keyT P t=some b):∃kd,P.underlying t=some kd∧((b=true∧∃kk,kd=.int kk)∨(b=false∧kd=.string)):=by
 unfold keyT at h
 cases hu:P.underlying t with
 |none=>rw[hu] at h;cases h
 |some kd=>
  rw[hu] at h
  cases kd<;>simp only at h<;>try cases h
  ·exact⟨_,rfl,.inl ⟨rfl,_,rfl⟩⟩
  ·exact⟨_,rfl,.inr ⟨rfl,rfl⟩⟩
theorem L_t{t:TypeId}{b:Bool}(h:keyT P t=some b)(e:Bool)(n:Nat)(v:Value)(w:World):(Instr.checkKey e (n+1) t v).run P w=.ok () w:=by
 obtain⟨kd,hu,hk⟩:=b_e h
 rcases hk with⟨_,kk,rfl⟩|⟨_,rfl⟩<;>(cases v<;>simp[Instr.checkKey,run_underlying hu])
theorem L_w{t:TypeId}{kd:TypeDesc}(hu:P.underlying t=some kd){k:Value}{es:List MapEntry}{r:Option (Nat × Value)}(hf:Instr.findNow kd k es 0=some r)(w:World):(Instr.findKey t k es).run P w=.ok r w:=by
 simp[Instr.findKey,run_underlying hu,hf]
theorem AH9{ρ:Ren}{t:TypeId}{z:Value}(h:zeroV P t=some z):VR ρ z z∧∃i,P.info? t=some i∧i.zero=some z:=by
 unfold zeroV at h
 cases hi:P.info? t with
 |none=>rw[hi] at h;cases h
 | some i =>
  rw[hi] at h
  cases hz:i.zero with
  |none=>simp only[hz] at h;cases h
  | some z0 =>
   simp only[hz] at h
   cases ho:okC z0 with
   |false=>rw[ho] at h;cases h
   |true=>
    rw[ho] at h
    injection h with h
    subst h
    exact⟨AP5 ho,i,rfl,hz⟩
theorem AO3{ρ:Ren}{z:Value}{ok:Bool}{r r':Option (Nat × Value)}(hz:VR ρ z z)(h:(r=none∧r'=none)∨∃j j' v v',r=some (j,v)∧r'=some (j',v')∧VR ρ v v'):VR ρ (lkV z ok r) (lkV z ok r'):=by
 have two:∀x y,VR ρ x y→∀b:Bool,VR ρ (.tuple #[x,.bool b]) (.tuple #[y,.bool b]):=λx y hxy b=>
  VR.tuple_of (xs:=[x,.bool b]) (ys:=[y,.bool b]) (.cons hxy (.cons (.bool b) .nil))
 rcases h with⟨rfl,rfl⟩|⟨j,j',v,v',rfl,rfl,hv⟩
 ·cases ok
  ·exact hz
  ·exact two _ _ hz _
 ·cases ok
  ·exact hv
  ·exact two _ _ hv _
theorem y_f {t kt et : TypeId} {b ok : Bool} {m k : Operand} {m' k' : GX} {z : Value} (ho : o.op = .lookup t m k ok) (ht : P.underlying t = some (.map kt et)) (hkt : keyT P kt = some b) (hz : zeroV P et = some z) (hm : gx cx m = some m') (hk : gx cx k = some k') : Snd P cx o (Ao0 b z ok m' k') :=
 E_5 fun B ρ en h w a v h' E R eg => by
  have hmv:=G_j E hm
  have hkv:=G_j E hk
  obtain⟨e1,rfl⟩:=F_5 (show ret1 h (lk1 b h z ok (ev en k') (ev en m'))=_ from eg)
  refine⟨rfl,?_⟩
  obtain⟨hzz,iz,hiz,hiz0⟩:=AH9 (ρ:=ρ) hz
  obtain⟨kd,hu,hkd⟩:=b_e hkt
  generalize hqm:a.eval m=um at hmv
  generalize hqk:a.eval k=uk at hkv
  generalize ev en m'=vm at hmv e1
  generalize ev en k'=vk at hkv e1
  have hzr:∀w:World,(zeroValue et).run P w=.ok z w:=λw=>by simp[zeroValue,V_m hiz,hiz0]
  cases hmv with
  |nilmap=>
   simp only[lk1,sjE] at e1
   subst e1
   refine⟨lkV z ok none,?_,AO3 hzz (.inl ⟨rfl,rfl⟩)⟩
   have hfk:=L_w (P:=P) hu (k:=uk) (es:=[]) (r:=none) rfl w
   have hck:(Instr.checkKey true 10000 kt uk).run P w=.ok () w:=L_t (P:=P) hkt true 9999 uk w
   cases ok<;>simp[execOp,ho,hqm,hqk,Instr.lookup,C_v ht,hck,hfk,hzr,lkV]
  | map id H hH =>
   simp only[lk1] at e1
   cases hki:keyish b vk with
   |false=>rw[hki] at e1;cases e1
   | true =>
    rw[hki] at e1
    have hvk:uk=vk:=by
     cases vk<;>try cases hki
     ·exact hkv.int_inv
     ·exact hkv.string_inv
    subst hvk
    cases hb:h'.hp.get id with
    |none=>rw[hb] at e1;cases e1
    | some blk =>
     rw[hb] at e1
     cases blk with
     |row=>cases e1
     |it=>cases e1
     |lp=>cases e1
     | mp es cl =>
      simp only[lk2] at e1
      cases hf:findM uk es 0 with
      |none=>rw[hf] at e1;cases e1
      | some r =>
       rw[hf] at e1
       simp only[lkO,sjE] at e1
       subst e1
       obtain⟨H0,es',he0,hB,hh,hme⟩:=R.has id _ hb
       rw[hH] at he0
       injection he0 with he0
       subst he0
       have hgo:(getObj H.blk).run P w=.ok (.map es' cl) w:=by
        simp[getObj,Sem.run,hh]
       have hck:(Instr.checkKey es'.isEmpty 10000 kt uk).run P w=.ok () w:=L_t (P:=P) hkt es'.isEmpty 9999 uk w
       obtain⟨r',hr',hrr⟩:∃r',Instr.findNow kd uk es'.toList 0=some r'∧((r=none∧r'=none)∨∃j j' v v',r=some (j,v)∧r'=some (j',v')∧VR ρ v v'):=by
        rcases hme.find hkd hki hf with⟨q1,q2,_⟩|⟨j,j',v,v',q1,q2,q3,_⟩
        ·exact⟨none,q2,.inl ⟨q1,rfl⟩⟩
        ·exact⟨some (j',v'),q2,.inr ⟨j,j',v,v',q1,rfl,q3⟩⟩
       have hfk:=L_w (P:=P) hu hr' w
       refine⟨lkV z ok r',?_,AO3 hzz hrr⟩
       cases r' with
       |none=>cases ok<;>simp[execOp,ho,hqm,hqk,Instr.lookup,C_v ht,hgo,hck,hfk,hzr,lkV]
       |some p=>cases ok<;>simp[execOp,ho,hqm,hqk,Instr.lookup,C_v ht,hgo,hck,hfk,lkV]
  |_=>cases e1
theorem V_g{w:World}{g cl:Nat}{es:Array MapEntry}(hh:w.heap[g]?=some (.map es cl)):(getObj g).run P w=.ok (.map es cl) w:=by
 simp[getObj,Sem.run,hh]
theorem S_c{w:World}{g cl:Nat}{es:Array MapEntry}(hh:w.heap[g]?=some (.map es cl))(ob:Obj):(setObj g ob).run P w=.ok () { w with heap:=w.heap.setIfInBounds g ob }:=by
 simp[setObj,Sem.run,hh]
theorem n_i{b:Bool}{k:Value}(hk:keyish b k=true)(n:Nat):Instr.sameBits (n+1) k k=true:=by
 cases k<;>try cases hk
 ·simp[Instr.sameBits]
 ·show (_==_)=true
  exact(y_x _ _).2 rfl
theorem s_5{ρ:Ren}{b:Bool}{k k':Value}(hk:keyish b k=true)(h:VR ρ k k'):k'=k:=by
 cases k<;>try cases hk
 ·exact h.int_inv
 ·exact h.string_inv
theorem x_c{es:Array MapEntry}{j:Nat}{k v:Value}{e:MapEntry}(he:es[j]?=some e)(hk:e.key=k):(es.modify j λe=>{ e with key:=k,val:=v }).toList=es.toList.modify j λe=>{ e with val:=v }:=by
 apply List.ext_getElem?
 intro i
 rw[Array.getElem?_toList,Array.getElem?_modify,List.getElem?_modify]
 by_cases hij:j=i
 ·subst hij
  rw[if_pos rfl,Array.getElem?_toList,he]
  simp[hk]
 ·rw[if_neg hij,Array.getElem?_toList]
  simp[hij]
theorem n_s {t kt et : TypeId} {b : Bool} {m k v : Operand} {m' k' v' : GX} (ho : o.op = .mapUpdate t m k v ∨ o.op = .insert t m k v) (ht : P.underlying t = some (.map kt et)) (hkt : keyT P kt = some b) (hm : gx cx m = some m') (hk : gx cx k = some k') (hv : gx cx v = some v') : Snd P cx o (Ao2 b m' k' v') := by
 intro B ρ en h w a r h' E R eg
 have hmv:=G_j E hm
 have hkv:=G_j E hk
 have hvv:=G_j E hv
 simp only[Ao2] at eg
 obtain⟨kd,hu,hkd⟩:=b_e hkt
 generalize hqm:a.eval m=um at hmv
 generalize hqk:a.eval k=uk at hkv
 generalize hqv:a.eval v=uv at hvv
 generalize ev en m'=vm at hmv eg
 generalize ev en k'=vk at hkv eg
 generalize ev en v'=vv at hvv eg
 have hex:(execOp a.eval o).run P w=((Instr.mapUpdate t um uk uv).run P w).andThen λ_ w=>.ok .skip w:=by
  rcases ho with ho|ho<;>simp[execOp,ho,hqm,hqk,hqv]
 cases hmv with
 | map id H hH =>
  simp only[mapup1] at eg
  cases hki:keyish b vk with
  |false=>rw[hki] at eg;cases eg
  | true =>
   rw[hki] at eg
   have hvk:=s_5 hki hkv
   subst hvk
   cases hb:h.hp.get id with
   |none=>rw[hb] at eg;cases eg
   | some blk =>
    rw[hb] at eg
    cases blk with
    |row=>cases eg
    |it=>cases eg
    |lp=>cases eg
    | mp es cl =>
     simp only[mapup2] at eg
     cases hf:findM uk es 0 with
     |none=>rw[hf] at eg;cases eg
     | some q =>
      rw[hf] at eg
      obtain⟨H0,es',he0,hB,hh,hme⟩:=R.has id _ hb
      rw[hH] at he0
      injection he0 with he0
      subst he0
      have hgo:=V_g (P:=P) hh
      have hck:(Instr.checkKey false 10000 kt uk).run P w=.ok () w:=L_t (P:=P) hkt false 9999 uk w
      rcases hme.find hkd hki hf with⟨rfl,q2,q3⟩|⟨j,j',x,x',rfl,q2,_,⟨e,q5,q6⟩,q7,_⟩
      ·have hfk:=L_w (P:=P) hu q2 w
       simp only[mapup3] at eg
       have hst:=S_c (P:=P) hh (.map (es'.push { key:=uk,val:=uv,born:=cl }) (cl+1))
       have hrun:(execOp a.eval o).run P w=.ok .skip { w with heap:=w.heap.setIfInBounds H.blk (.map (es'.push { key:=uk,val:=uv,born:=cl }) (cl+1)) }:=by
        rw[hex]
        simp[Instr.mapUpdate,C_v ht,hgo,hck,hfk,hst]
       cases hB2:R_v es with
       |true=>
        rw[hB2] at eg
        simp only[mapnew,W_y,sjE,Prod.mk.injEq] at eg
        obtain⟨rfl,rfl⟩:=eg
        exact⟨undef,_,ρ,.inr ⟨hrun,rfl⟩,VR.undef_inv,U_0 (arr2:=es'.push { key:=uk,val:=uv,born:=cl }) (cl2:=cl+1) R hb hH (by rw[Array.toList_push];exact(q3 vv uv hvv).1 hB2)⟩
       | false =>
        rw[hB2] at eg
        simp only[mapnew] at eg
        cases hcl:Nat.blt cl 1000000000000 with
        |false=>rw[hcl] at eg;cases eg
        | true =>
         rw[hcl] at eg
         have hcl2:cl<1000000000000:=by
          have:Nat.ble (cl+1) 1000000000000=true:=hcl
          exact lbT this
         simp only[W_y,sjE,Prod.mk.injEq] at eg
         obtain⟨rfl,rfl⟩:=eg
         exact⟨undef,_,ρ,.inr ⟨hrun,rfl⟩,VR.undef_inv,U_0 (arr2:=es'.push { key:=uk,val:=uv,born:=cl }) (cl2:=cl+1) R hb hH (by rw[Array.toList_push];exact(q3 vv uv hvv).2 hB2 hcl2)⟩
      ·have hfk:=L_w (P:=P) hu q2 w
       simp only[mapup3,W_y,sjE,Prod.mk.injEq] at eg
       obtain⟨rfl,rfl⟩:=eg
       have hej:es'[j']?=some e:=by simpa using q5
       have hold:((es'[j']?).map (·.key)).getD uk=uk:=by rw[hej];simp[q6]
       have hks:(Instr.keyThatStays uk uk).run P w=.ok uk w:=by simp[Instr.keyThatStays,n_i hki 9999]
       have hst:=S_c (P:=P) hh (.map (es'.modify j' λe=>{ e with key:=uk,val:=uv }) cl)
       refine⟨undef,_,ρ,.inr ⟨?_,rfl⟩,VR.undef_inv,U_0 (arr2:=es'.modify j' λe=>{ e with key:=uk,val:=uv }) (cl2:=cl) R hb hH ?_⟩
       ·rw[hex]
        simp only[Instr.mapUpdate,Sem.run_bind,C_v ht,Result.andThen_ok,hgo,hck,hfk,hold,hks,hst]
       ·rw[x_c hej q6]
        exact q7 vv uv hvv
 |nilmap=>cases eg
 |_=>cases eg
theorem n_u{t kt et:TypeId}{r:Option Operand}{x':GX}(ho:o.op=.makeMap t r)(ht:P.underlying t=some (.map kt et))(hx:(r=none∧x'=.c (.int .i64 0))∨∃x,r=some x∧gx cx x=some x'):Snd P cx o (t_t x'):=by
 intro B ρ en h w a v h' E R eg
 simp only[t_t] at eg
 have hi:∃k n,ev en x'=.int k n:=by
  cases hq:ev en x'<;>rw[hq] at eg<;>try cases eg
  exact⟨_,_,rfl⟩
 obtain⟨kk,n,hi⟩:=hi
 rw[hi] at eg
 simp only[mkmap1,sjE,Prod.mk.injEq] at eg
 obtain⟨rfl,rfl⟩:=eg
 refine⟨.map (some w.heap.size),w.alloc (.map #[] 0),_,.inl ?_,.map h.nx ⟨w.heap.size,0,0,0,none⟩ (rAS _ _ _),Av7 R⟩
 rcases hx with⟨rfl,_⟩|⟨x,rfl,hx⟩
 ·simp[execOp,ho,Instr.makeMap]
 ·have hv:=G_j E hx
  rw[hi] at hv
  have hq:=hv.int_inv
  simp[execOp,ho,Instr.makeMap,hq,C_v ht,asInt,asIntOf]
theorem y_i{c:Call}{m:Operand}{m':GX}{t kt et:TypeId}(ho:o.op=.call c)(hc:c.callee=.builtin .len)(ha:c.args=#[m])(hat:c.argTypes[0]?=some t)(ht:P.underlying t=some (.map kt et))(hm:gx cx m=some m'):Snd P cx o (Ao1 m'):=
 E_5 fun B ρ en h w a v h' E R eg => by
  have hmv:=G_j E hm
  obtain⟨e1,rfl⟩:=F_5 (show ret1 h (maplen1 h (ev en m'))=_ from eg)
  refine⟨rfl,?_⟩
  generalize hqm:a.eval m=um at hmv
  generalize ev en m'=vm at hmv e1
  cases hmv with
  |nilmap=>
   simp only[maplen1,sjE] at e1
   subst e1
   exact⟨.int .i64 0,by simp[execOp,ho,resolve,hc,ha,invoke,builtin,Builtin.len_,hat,C_v ht,hqm,goInt],.int _ _⟩
  | map id H hH =>
   simp only[maplen1] at e1
   cases hb:h'.hp.get id with
   |none=>rw[hb] at e1;cases e1
   | some blk =>
    rw[hb] at e1
    cases blk with
    |row=>cases e1
    |it=>cases e1
    |lp=>cases e1
    |mp es cl=>
     simp only[maplen2,sjE] at e1
     subst e1
     obtain⟨H0,es',he0,hB,hh,hme⟩:=R.has id _ hb
     rw[hH] at he0
     injection he0 with he0
     subst he0
     have hgo:=V_g (P:=P) hh
     have hl:es'.size=es.length:=by rw[hme.len];simp
     refine⟨.int .i64 (es.length:Int),?_,.int _ _⟩
     simp[execOp,ho,resolve,hc,ha,invoke,builtin,Builtin.len_,hat,C_v ht,hqm,goInt,hgo,hl]
  |_=>cases e1
theorem y_h {c : Call} {m k : Operand} {m' k' : GX} {t kt et : TypeId} {b : Bool} (ho : o.op = .call c) (hc : c.callee = .builtin .delete) (ha : c.args = #[m, k]) (hat : c.argTypes[0]? = some t) (ht : P.underlying t = some (.map kt et)) (hkt : keyT P kt = some b) (hm : gx cx m = some m') (hk : gx cx k = some k') : Snd P cx o (q_e b m' k') := by
 intro B ρ en h w a r h' E R eg
 have hmv:=G_j E hm
 have hkv:=G_j E hk
 simp only[q_e] at eg
 obtain⟨kd,hu,hkd⟩:=b_e hkt
 generalize hqm:a.eval m=um at hmv
 generalize hqk:a.eval k=uk at hkv
 generalize ev en m'=vm at hmv eg
 generalize ev en k'=vk at hkv eg
 have hex:(execOp a.eval o).run P w=((Builtin.delete_ c.argTypes o.type #[um,uk]).run P w).andThen λv w=>.ok (.value v) w:=by
  simp[execOp,ho,resolve,hc,ha,invoke,builtin,hqm,hqk]
 cases hmv with
 |nilmap=>
  simp only[mapdel1,sjE,Prod.mk.injEq] at eg
  obtain⟨rfl,rfl⟩:=eg
  have hck:(Instr.checkKey true 10000 kt uk).run P w=.ok () w:=L_t (P:=P) hkt true 9999 uk w
  refine⟨undef,w,ρ,.inl ?_,VR.undef_inv,St.refl R⟩
  rw[hex]
  simp[Builtin.delete_,hat,C_v ht,hck]
  rfl
 | map id H hH =>
  simp only[mapdel1] at eg
  cases hki:keyish b vk with
  |false=>rw[hki] at eg;cases eg
  | true =>
   rw[hki] at eg
   have hvk:=s_5 hki hkv
   subst hvk
   cases hb:h.hp.get id with
   |none=>rw[hb] at eg;cases eg
   | some blk =>
    rw[hb] at eg
    cases blk with
    |row=>cases eg
    |it=>cases eg
    |lp=>cases eg
    | mp es cl =>
     simp only[mapdel2] at eg
     cases hf:findM uk es 0 with
     |none=>rw[hf] at eg;cases eg
     | some q =>
      rw[hf] at eg
      obtain⟨H0,es',he0,hB,hh,hme⟩:=R.has id _ hb
      rw[hH] at he0
      injection he0 with he0
      subst he0
      have hgo:=V_g (P:=P) hh
      have hck:(Instr.checkKey es'.isEmpty 10000 kt uk).run P w=.ok () w:=L_t (P:=P) hkt es'.isEmpty 9999 uk w
      rcases hme.find hkd hki hf with⟨rfl,q2,_⟩|⟨j,j',x,x',rfl,q2,_,_,_,q7⟩
      ·have hfk:=L_w (P:=P) hu q2 w
       simp only[mapdel3,W_y,sjE,Prod.mk.injEq] at eg
       obtain⟨rfl,rfl⟩:=eg
       have hst:=S_c (P:=P) hh (.map es' cl)
       refine⟨undef,_,ρ,.inl ?_,VR.undef_inv,U_0 (arr2:=es') (cl2:=cl) R hb hH hme⟩
       rw[hex]
       simp[Builtin.delete_,hat,C_v ht,hgo,hck,hfk,hst]
       rfl
      ·have hfk:=L_w (P:=P) hu q2 w
       simp only[mapdel3,W_y,sjE,Prod.mk.injEq] at eg
       obtain⟨rfl,rfl⟩:=eg
       have hst:=S_c (P:=P) hh (.map (es'.eraseIdxIfInBounds j') cl)
       refine⟨undef,_,ρ,.inl ?_,VR.undef_inv,U_0 (arr2:=es'.eraseIdxIfInBounds j') (cl2:=cl) R hb hH ?_⟩
       ·rw[hex]
        simp[Builtin.delete_,hat,C_v ht,hgo,hck,hfk,hst]
        rfl
       ·have:(es'.eraseIdxIfInBounds j').toList=es'.toList.eraseIdx j':=by simp[Array.eraseIdxIfInBounds];split<;>simp_all
        rw[this]
        exact q7
 |_=>cases eg
end
end Go.Gev
namespace Go.Gev
open Go.RowKit
theorem u_b{B:Nat}{ρ:Ren}{h:Hs}{w:World}(R:HR B ρ h w){id:Nat}{b b2:Blk}(hb:h.hp.get id=some b)(hrw1:isRw b=true)(hrw2:isRw b2=true){H:Host}(he:ρ id=some H)(hB:B≤H.blk)(o:Obj)
 (hbr:BR B ρ { w with heap:=w.heap.setIfInBounds H.blk o } id b2) :
 St B ρ h w ρ ⟨h.hp.set id (some b2),h.nx,minN h.lo id⟩ { w with heap:=w.heap.setIfInBounds H.blk o }:=by
 have hget:∀j,(h.hp.set id (some b2)).get j=if id=j then some b2 else h.hp.get j:=λj=>tgS _ _ _ _
 have hrw:∀j b',(h.hp.set id (some b2)).get j=some b'→∃b0,h.hp.get j=some b0∧isRw b0=isRw b'∧(j≠id→b0=b'):=λj b' hj=>by
  rw[hget] at hj
  split at hj
  ·rename_i e'
   subst e'
   injection hj with hj
   subst hj
   exact⟨_,hb,hrw1.trans hrw2.symm,λh=>absurd rfl h⟩
  ·exact⟨b',hj,rfl,λ_=>rfl⟩
 have hfar:∀k,k≠H.blk→(w.heap.setIfInBounds H.blk o)[k]?=w.heap[k]?:=λk hk=>by
  rw[Array.getElem?_setIfInBounds,if_neg (λe=>hk e.symm)]
 refine⟨⟨by simpa using R.base,R.dom,λj b' hj=>?_,λj j' b' b'' K K' hj hj' hne hrb ek ek'=>?_⟩,lR _,rLR _,λ_ _=>rfl,⟨rfl,rfl,rfl,by simp,λk hk=>hfar k (by omega)⟩,by simp,F_1 _ _,λj b' hj hl=>?_,λj b' hj hjlt=>?_,λj b' hj hge=>(by obtain⟨b0,hb0,_,_⟩:=hrw j b' hj;have:=R.lt hb0;omega),λk hk hno=>?_,λj K hj e'=>?_⟩
 ·obtain⟨b0,hb0,hr,hsame⟩:=hrw j b' hj
  by_cases hji:j=id
  ·subst hji
   rw[hget,if_pos rfl] at hj
   injection hj with hj
   subst hj
   exact hbr
  ·have:=hsame hji
   subst this
   refine(R.has j b0 hb0).mono (rLR _) (λK ek=>hfar _ (λe'=>?_))
   exact R.inj id j _ _ H K hb hb0 (λh=>hji h.symm) hrw1 he ek e'.symm
 ·obtain⟨b0,hb0,hr,_⟩:=hrw j b' hj
  obtain⟨b0',hb0',_,_⟩:=hrw j' b'' hj'
  exact R.inj j j' b0 b0' K K' hb0 hb0' hne (hr.trans hrb) ek ek'
 ·have hji:j≠id:=λe'=>by subst e';have:=C_m h.lo j;simp only at hl;omega
  show (h.hp.set id _).get j=_
  rw[hget,if_neg (λe'=>hji e'.symm)]
  exact hj
 ·obtain⟨b0,hb0,hr,hsame⟩:=hrw j b' hj
  refine⟨b0,hb0,hr,λhl=>hsame (λe'=>?_)⟩
  subst e'
  have:=C_m h.lo j
  simp only at hl;omega
 ·refine hfar k (λe'=>?_)
  exact hno id _ H hb hrw1 he (C_m _ _) e'.symm
 ·rw[R.dom j hj] at e';cases e'
theorem AL0{B:Nat}{ρ:Ren}{h:Hs}{w:World}(R:HR B ρ h w){id:Nat}{b:Blk}(hb:h.hp.get id=some b)(hrw1:isRw b=true){H:Host}(he:ρ id=some H)(hB:B≤H.blk)(o:Obj) :
 St B ρ h w ρ ⟨h.hp.set id none,h.nx,minN h.lo id⟩ { w with heap:=w.heap.setIfInBounds H.blk o }:=by
 have hget:∀j,(h.hp.set id none).get j=if id=j then none else h.hp.get j:=λj=>tgS _ _ _ _
 have hrw:∀j b',(h.hp.set id none).get j=some b'→j≠id∧h.hp.get j=some b':=λj b' hj=>by
  rw[hget] at hj
  split at hj
  ·cases hj
  ·rename_i e'
   exact⟨λq=>e' q.symm,hj⟩
 have hfar:∀k,k≠H.blk→(w.heap.setIfInBounds H.blk o)[k]?=w.heap[k]?:=λk hk=>by
  rw[Array.getElem?_setIfInBounds,if_neg (λe=>hk e.symm)]
 refine⟨⟨by simpa using R.base,R.dom,λj b' hj=>?_,λj j' b' b'' K K' hj hj' hne hrb ek ek'=>?_⟩,lR _,rLR _,λ_ _=>rfl,⟨rfl,rfl,rfl,by simp,λk hk=>hfar k (by omega)⟩,by simp,F_1 _ _,λj b' hj hl=>?_,λj b' hj hjlt=>?_,λj b' hj hge=>(by obtain⟨_,hb0⟩:=hrw j b' hj;have:=R.lt hb0;omega),λk hk hno=>?_,λj K hj e'=>?_⟩
 ·obtain⟨hji,hb0⟩:=hrw j b' hj
  refine(R.has j b' hb0).mono (rLR _) (λK ek=>hfar _ (λe'=>?_))
  exact R.inj id j _ _ H K hb hb0 (λh=>hji h.symm) hrw1 he ek e'.symm
 ·exact R.inj j j' b' b'' K K' (hrw j b' hj).2 (hrw j' b'' hj').2 hne hrb ek ek'
 ·have hji:j≠id:=λe'=>by subst e';have:=C_m h.lo j;simp only at hl;omega
  show (h.hp.set id _).get j=_
  rw[hget,if_neg (λe'=>hji e'.symm)]
  exact hj
 ·exact⟨b',(hrw j b' hj).2,rfl,λ_=>rfl⟩
 ·refine hfar k (λe'=>?_)
  exact hno id _ H hb hrw1 he (C_m _ _) e'.symm
 ·rw[R.dom j hj] at e';cases e'
theorem j_e{B:Nat}{ρ:Ren}{h:Hs}{w w':World}(R:HR B ρ h w){b2:Blk}(hrw2:isRw b2=true){H:Host}(hH:w.heap.size≤H.blk)(hHl:H.blk<w'.heap.size)(hbl:Below w.heap.size w w')
 (hbr:BR B (ρ.add h.nx H) w' h.nx b2) :
 St B ρ h w (ρ.add h.nx H) ⟨h.hp.set h.nx (some b2),Nat.succ h.nx,h.lo⟩ w':=by
 have hnx:ρ h.nx=none:=R.dom _ (lR _)
 have hle:=Ren.le_add H hnx
 have hget:∀j,(h.hp.set h.nx (some b2)).get j=if h.nx=j then some b2 else h.hp.get j:=λj=>tgS _ _ _ _
 have hold:∀j b,(h.hp.set h.nx (some b2)).get j=some b→j≠h.nx→h.hp.get j=some b:=λj b hj hne=>by
  rw[hget,if_neg (λe=>hne e.symm)] at hj;exact hj
 have hlt:∀j b,h.hp.get j=some b→∀L,ρ j=some L→L.blk<w.heap.size:=λj b hj L hL=>by
  obtain⟨L',e1,e2⟩:=(R.has j b hj).host_lt
  rw[hL] at e1;injection e1 with e1;subst e1;exact e2
 have hfar:∀k,k<w.heap.size→w'.heap[k]?=w.heap[k]?:=λk hk=>hbl.block k hk
 refine⟨⟨by have:=R.base;omega,λj hj=>?_,λj b hj=>?_,λj j' b b' L L' hj hj' hne hr eL eL'=>?_⟩,Nat.le_succ _,hle,λj hj=>rAO _ _ (by omega),hbl.mono R.base,by omega,lR _,
  λj b hj hl=>?_,λj b hj hjlt=>?_,λj b hj hge=>?_,λk hk hno=>hfar k hk,λj L hj eL=>?_⟩
 ·have hj':h.nx+1≤j:=hj
  rw[rAO _ _ (by omega)]
  exact R.dom j (by omega)
 ·by_cases hjn:j=h.nx
  ·subst hjn
   rw[hget,if_pos rfl] at hj
   injection hj with hj
   subst hj
   exact hbr
  ·exact(R.has j b (hold j b hj hjn)).mono hle (λL eL=>hfar _ (hlt j b (hold j b hj hjn) L eL))
 ·by_cases e1:j=h.nx
  ·subst e1
   have h1:=hold j' b' hj' (λe=>hne e.symm)
   rw[rAS] at eL
   injection eL with eL
   subst eL
   rw[rAO _ _ (λe=>hne e.symm)] at eL'
   have:=hlt j' b' h1 L' eL'
   omega
  ·have h1:=hold j b hj e1
   rw[rAO _ _ e1] at eL
   by_cases e2:j'=h.nx
   ·subst e2
    rw[rAS] at eL'
    injection eL' with eL'
    subst eL'
    have:=hlt j b h1 L eL
    omega
   ·rw[rAO _ _ e2] at eL'
    exact R.inj j j' b b' L L' h1 (hold j' b' hj' e2) hne hr eL eL'
 ·show (h.hp.set h.nx _).get j=_
  have:=R.lt hj
  rw[hget,if_neg (by omega)]
  exact hj
 ·exact⟨b,hold j b hj (by omega),rfl,λ_=>rfl⟩
 ·by_cases e1:j=h.nx
  ·subst e1
   replace hj:(h.hp.set h.nx (some b2)).get h.nx=some b:=hj
   rw[hget,if_pos rfl] at hj
   injection hj with hj;subst hj;exact hrw2
  ·have:=R.lt (hold j b hj e1);omega
 ·by_cases e1:j=h.nx
  ·subst e1
   rw[rAS] at eL
   injection eL with eL
   subst eL
   exact .inl hH
  ·rw[rAO _ _ e1] at eL
   rw[R.dom j hj] at eL;cases eL
section
variable {P:Program} {cx:Cx} {o:Oper}
theorem n_x{B:Nat}{ρ:Ren}{h:Hs}{w:World}(R:HR B ρ h w){m:Option Nat}{s l:Nat}{m':Option Nat}(hm:(m=none∧m'=none)∨∃k Hm,m=some k∧ρ k=some Hm∧m'=some Hm.blk) :
 St B ρ h w (ρ.add h.nx ⟨w.heap.size,0,0,0,none⟩) ⟨h.hp.set h.nx (some (.it m s [] l)),Nat.succ h.nx,h.lo⟩ (w.alloc (.mapIter m' s #[] l)):=by
 have hsz:(w.alloc (.mapIter m' s #[] l)).heap.size=w.heap.size+1:=by show (w.heap.push _).size=_;simp
 have hat:(w.alloc (.mapIter m' s #[] l)).heap[w.heap.size]?=some (.mapIter m' s #[] l):=heap_alloc_new w _
 refine j_e (b2:=.it m s [] l) R rfl (lR _) (by rw[hsz];show w.heap.size<_;omega) ((Below.refl _ w).alloc (lR _) _) ?_
 refine⟨_,rAS _ _ _,⟨R.base,rfl⟩,?_⟩
 rcases hm with⟨rfl,rfl⟩|⟨k,Hm,rfl,hk,rfl⟩
 ·exact .inl ⟨rfl,hat⟩
 ·refine .inr ⟨k,Hm,rfl,?_,hat⟩
  rw[rAO _ _ (λe=>by subst e;rw[R.dom _ (lR _)] at hk;cases hk)]
  exact hk
theorem At7{t kt et:TypeId}{x:Operand}{x':GX}(ho:o.op=.range t x)(ht:P.underlying t=some (.map kt et))(hx:gx cx x=some x'):Snd P cx o (Ao3 x'):=by
 intro B ρ en h w a v h' E R eg
 have hv:=G_j E hx
 simp only[Ao3] at eg
 generalize hq:a.eval x=u at hv
 generalize ev en x'=y at hv eg
 cases hv with
 |nilmap=>
  simp only[range1,sjE,Prod.mk.injEq] at eg
  obtain⟨rfl,rfl⟩:=eg
  refine⟨.pointer (some ⟨w.heap.size,0,none⟩),w.alloc (.mapIter none 0 #[] 0),_,.inl ?_,.ptr h.nx 0 ⟨w.heap.size,0,0,0,none⟩ (rAS _ _ _),n_x R (.inl ⟨rfl,rfl⟩)⟩
  simp only[execOp,ho,hq,Sem.run_bind,run_range_nilMap w t kt et ht,Result.andThen_ok,Sem.run_pure]
 | map id H hH =>
  simp only[range1] at eg
  cases hb:h.hp.get id with
  |none=>rw[hb] at eg;cases eg
  | some blk =>
   rw[hb] at eg
   cases blk with
   |mp es cl=>
    simp only[range2,sjE,Prod.mk.injEq] at eg
    obtain⟨rfl,rfl⟩:=eg
    obtain⟨H0,es',he0,hB,hh,hme⟩:=R.has id _ hb
    rw[hH] at he0
    injection he0 with he0
    subst he0
    refine⟨.pointer (some ⟨w.heap.size,0,none⟩),w.alloc (.mapIter (some H.blk) cl #[] cl),_,.inl ?_,.ptr h.nx 0 ⟨w.heap.size,0,0,0,none⟩ (rAS _ _ _),n_x R (.inr ⟨id,H,rfl,hH,rfl⟩)⟩
    simp only[execOp,ho,hq,Sem.run_bind,run_range_map w t kt et H.blk es' cl ht hh,Result.andThen_ok,Sem.run_pure]
   |_=>cases eg
 |_=>cases eg
theorem AD3{ρ:Ren}{s:Nat}{e:MapEntry}:∀{es es':List MapEntry},ME ρ es es'→findE s es=some e→∃e',es'.find? (λx=>x.born==s)=some e'∧e'.key=e.key∧VR ρ e.val e'.val:=by
 intro es es' m
 induction m with
 |nil=>intro h;cases h
 | @cons a a' as as' hk hb hv _ ih =>
  intro h
  simp only[findE] at h
  cases hq:Nat.beq a.born s with
  |true=>
   rw[hq] at h
   injection h with h
   subst h
   refine⟨a',?_,hk,hv⟩
   have:(a'.born==s)=true:=by rw[hb,ebT hq];simp
   rw[List.find?_cons,this]
  |false=>
   rw[hq] at h
   obtain⟨e',h1,h2⟩:=ih h
   refine⟨e',?_,h2⟩
   have:(a'.born==s)=false:=by rw[hb];simpa using beq_false.1 hq
   rw[List.find?_cons,this]
   exact h1
theorem w_x:∀{l:List Nat}{s:Nat},lastN l=some s→l.toArray.back?=some s:=by
 intro l s h
 have:l.getLast?=some s:=by
  induction l with
  |nil=>cases h
  |cons a l ih=>
   cases l with
   |nil=>simpa [lastN] using h
   |cons b l=>rw[List.getLast?_cons_cons];exact ih h
 simpa using this
theorem Ao6{ρ:Ren}{v:Value}(h:keyC v=true):VR ρ v v:=by
 cases v<;>first|exact .int _ _|exact .string _|exact .bool _|cases h
theorem Ar9 {x : Operand} {x' : GX} (ho : o.op = .entry x) (hx : gx cx x = some x') : Snd P cx o (AP0 x') :=
 E_5 fun B ρ en h w a v h' E R eg => by
  have hv:=G_j E hx
  obtain⟨e1,rfl⟩:=F_5 (show ret1 h (entry1 h (ev en x'))=_ from eg)
  refine⟨rfl,?_⟩
  generalize hq:a.eval x=u at hv
  generalize ev en x'=y at hv e1
  cases hv with
  | ptr id off H hH =>
   simp only[entry1] at e1
   cases off with
   |succ n=>cases e1
   |zero=>
   cases hb:h'.hp.get id with
   |none=>simp only[hb] at e1;cases e1
   | some blk =>
    simp only[hb] at e1
    cases blk with
    | it m si se la =>
     cases m with
     |none=>cases e1
     | some k =>
      simp only[entry2] at e1
      cases hbk:h'.hp.get k with
      |none=>rw[hbk] at e1;cases e1
      | some blk =>
       rw[hbk] at e1
       cases blk with
       | mp es cl =>
        cases hcl:Nat.beq cl la with
        |false=>simp only[entry3,hcl] at e1;cases e1
        | true =>
         simp only[entry3,hcl] at e1
         cases hB2:R_v es with
         |true=>simp only[hB2] at e1;cases e1
         |false=>
         simp only[hB2] at e1
         cases hl:lastN se with
         |none=>rw[hl] at e1;cases e1
         | some s =>
          simp only[hl] at e1
          cases hf:findE s es with
          |none=>simp only[hf,entry4] at e1;cases e1
          | some e =>
           rw[hf] at e1
           simp only[entry4] at e1
           cases hkc:keyC e.key with
           |false=>rw[hkc] at e1;cases e1
           | true =>
            rw[hkc] at e1
            injection e1 with e1
            subst e1
            obtain⟨H0,he0,hB,hcase⟩:=R.has id _ hb
            rw[hH] at he0
            injection he0 with he0
            subst he0
            obtain⟨Hm,es',hm0,hBm,hhm,hme⟩:=R.has k _ hbk
            rcases hcase with⟨hm,_⟩|⟨k',Hm',hm,hk',hit⟩
            ·cases hm
            ·injection hm with hm
             subst hm
             rw[hm0] at hk'
             injection hk' with hk'
             subst hk'
             obtain⟨e',q1,q2,q3⟩:=AD3 (hme.me hB2) hf
             have hcl:=ebT hcl
             subst hcl
             have hoff:H.off=0:=hB.2
             refine⟨.tuple #[e'.key,e'.val],?_,VR.tuple_of (xs:=[e.key,e.val]) (ys:=[e'.key,e'.val]) (.cons (by rw[q2];exact Ao6 hkc) (.cons q3 .nil))⟩
             have hfa:es'.find? (λx=>x.born==s)=some e':=by rw[←Array.find?_toList];exact q1
             have hent:(Instr.entry (.pointer (some ⟨H.blk,0,none⟩))).run P w=.ok (.tuple #[e'.key,e'.val]) w:=by
              simp only[Instr.entry,getObj,Sem.run_bind,Sem.run,hit,hhm,Result.andThen,w_x hl,bne_self_eq_false,Bool.false_eq_true,if_false,hfa]
              rfl
             simp only[execOp,ho,hq,hoff,Nat.add_zero,Sem.run_bind,hent,Result.andThen_ok,Sem.run_pure]
       |_=>cases e1
    |_=>cases e1
  |_=>cases e1
end
section
variable {P:Program} {cx:Cx} {o:Oper}
theorem Au0{t e:TypeId}{n u:Nat}{x:Operand}{x':GX}(ho:o.op=.slice t x none none none)(ht:P.underlying t=some (.array n e))(hu:F_o P e=some u)(hn:¬(n=0∨1000000<n))(hx:gx cx x=some x'):Snd P cx o (AP2 n x'):=
 E_5 fun B ρ en h w a v h' E R e0 => by
  have hv:=G_j E hx
  obtain⟨e1,rfl⟩:=F_5 (show ret1 h (AP9 n h (addrOf (ev en x')))=_ from e0)
  refine⟨rfl,?_⟩
  cases hp:addrOf (ev en x') with
  |none=>rw[hp] at e1;cases e1
  | some p =>
   rw[hp] at e1
   obtain⟨H,hH,_,hq⟩:=K_m hv hp
   have e1:AQ0 n p.1 p.2 (h'.hp.get p.1)=some v:=e1
   cases hb:h'.hp.get p.1 with
   |none=>rw[hb] at e1;cases e1
   | some blk =>
    rw[hb] at e1
    cases blk with
    | row c m e2 uu rw_ fl =>
     have e1:Ar2 n p.1 p.2 uu=some v:=e1
     cases uu with
     |succ k=>cases e1
     |zero=>
      simp only[Ar2,sjE] at e1
      subst e1
      obtain⟨H',arr,fz,q1,q2,_⟩:=R.has p.1 _ hb
      rw[hH] at q1
      injection q1 with q1
      subst q1
      have hml:n≤maxLen:=by unfold maxLen;omega
      refine⟨.slice (some ⟨H.blk,H.off+p.2,none⟩) n n,?_,.slice p.1 p.2 n n n H hH (lR _) (lR _) hml (.inl q2)⟩
      simp[execOp,ho,hq,Instr.sliceAt,C_v ht,K_u hu,Instr.sliceBounds,Instr.sureAddr,Addr.add]
    |_=>cases e1
end
end Go.Gev
namespace Go.Gev
open Go.RowKit
section
variable {P:Program} {cx:Cx} {o:Oper}
theorem U_o{α:Type}{xs:Array α}{x:α}(h:xs.toList = [x]):xs=#[x]:=by apply Array.ext';simpa using h
theorem Q_q{α:Type}{xs:Array α}{x y:α}(h:xs.toList = [x,y]):xs=#[x,y]:=by apply Array.ext';simpa using h
set_option maxHeartbeats 1000000 in
theorem Ar5{c:Call}{x:Operand}{x':GX}{t e:TypeId}{z:List Value}(ho:o.op=.call c)(hc:c.callee=.builtin .clear)(ha:c.args=#[x])(hat:c.argTypes[0]?=some t)
 (ht:P.underlying t=some (.slice e)) (hz:zeroOf P e=some z) (hx:gx cx x=some x'):Snd P cx o (p_w z x'):=λB ρ en h w a v h' E R hg=>by
 have hvx:=G_j E hx
 unfold p_w at hg
 generalize ev en x'=xv at hvx hg
 generalize hqx:a.eval x=xv' at hvx
 cases xv with
 | slice da dn dc =>
  simp only[clr0] at hg
  have hdl:∃da' dc',xv'=.slice da' dn dc':=by cases hvx<;>exact⟨_,_,rfl⟩
  obtain⟨da',dc',rfl⟩:=hdl
  cases dn with
  |zero=>
   simp only[clr1,sjE,Prod.mk.injEq] at hg
   obtain⟨rfl,rfl⟩:=hg
   refine⟨.tuple #[],w,ρ,.inl ?_,.tuple _ _ rfl (λi a=>by simp at a),St.refl R⟩
   cases da'<;>simp[execOp,ho,resolve,hc,ha,invoke,builtin,Builtin.clear_,hat,C_v ht,hqx]
  | succ n =>
   simp only[clr1] at hg
   cases da with
   |none=>cases hg
   | some da =>
    obtain⟨did,doff,dsp⟩:=da
    cases dsp with
    |some q=>cases hg
    | none =>
     simp only at hg
     cases hst:O_d h did doff (rep z (Nat.succ n)) (h.hp.get did) with
     |none=>rw[hst] at hg;cases hg
     | some h2 =>
      rw[hst] at hg
      simp only[clr2,sjE,Prod.mk.injEq] at hg
      obtain⟨rfl,rfl⟩:=hg
      obtain⟨i,zv,hi,hiz,hzc,hok,hzs⟩:=N_a hz
      obtain⟨H2,w2,r1,r2,r3⟩:=Y_w P R hst (VL.rep hok (Nat.succ n))
      cases hvx with
      |slice _ _ _ _ c3 H3 f1 f2 f3 f4 f5=>
       rw[f1] at r1
       injection r1 with r1
       subst r1
       refine⟨.tuple #[],w2,ρ,.inl ?_,.tuple _ _ rfl (λi a=>by simp at a),r3⟩
       have hzz:(Builtin.zeroCells zv.cells (n+1)).toList=rep z (Nat.succ n):=by rw[U_b,hzc]
       simp[execOp,ho,resolve,hc,ha,invoke,builtin,Builtin.clear_,hat,C_v ht,hqx,zeroValue,V_m hi,hiz,hzz,r2]
 |_=>cases hg
theorem v_4{g:En→Hs→Rs}(h:gopX P cx o=some g):Snd P cx o g:=by
 unfold gopX at h
 split at h
 ·rename_i s d x ho
  split at h
  ·rename_i e hs hd
   split at h
   ·rename_i he
    simp only[bqB,bqS,sjE] at h
    obtain⟨y,hy,rfl⟩:=h
    exact Au3 ho hs hd he hy
   ·cases h
  ·rename_i e hs hd
   split at h
   ·rename_i he
    simp only[bqB,bqS,sjE] at h
    obtain⟨y,hy,rfl⟩:=h
    exact q_7 ho hs hd he hy
   ·cases h
  ·rename_i e0 e hs hd
   split at h
   ·rename_i he
    split at h
    ·rename_i hsd
     have hsd:=eq_of_beq hsd
     subst hsd
     simp only[bqB,bqS,sjE] at h
     obtain⟨y,hy,rfl⟩:=h
     exact AK3 ho hd he hy
    ·cases h
   ·cases h
  ·rename_i t hs hd
   simp only[bqB,bqS] at h
   obtain⟨n,hn,h⟩:=h
   split at h
   ·cases h
   ·rename_i hn0
    simp only[bqS,sjE] at h
    obtain⟨y,hy,rfl⟩:=h
    exact Au4 ho hs hd hn hn0 hy
  ·rename_i t hs hd
   simp only[bqB,bqS] at h
   obtain⟨n,hn,h⟩:=h
   split at h
   ·cases h
   ·rename_i hn0
    simp only[bqS,sjE] at h
    obtain⟨n2,hn2,y,hy,rfl⟩:=h
    rw[hn] at hn2
    injection hn2 with hn2
    subst hn2
    exact q_z ho hs hd hn hn0 hy
  ·cases h
 ·rename_i t r ho
  split at h
  ·rename_i kt et ht
   split at h
   ·injection h with h
    subst h
    exact n_u ho ht (.inl ⟨rfl,rfl⟩)
   ·rename_i x
    simp only[bqB,bqS,sjE] at h
    obtain⟨y,hy,rfl⟩:=h
    exact n_u ho ht (.inr ⟨x,rfl,hy⟩)
  ·cases h
 ·rename_i t m k ok ho
  split at h
  ·rename_i kt et ht
   simp only[bqB,bqS,sjE] at h
   obtain⟨b,hb,z,hz,m',hm,k',hk,rfl⟩:=h
   exact y_f ho ht hb hz hm hk
  ·cases h
 ·rename_i t x ho
  split at h
  ·rename_i kt et ht
   simp only[bqB,bqS,sjE] at h
   obtain⟨x',hx,rfl⟩:=h
   exact At7 ho ht hx
  ·cases h
 ·rename_i x ho
  simp only[bqB,bqS,sjE] at h
  obtain⟨x',hx,rfl⟩:=h
  exact Ar9 ho hx
 ·rename_i t x ho
  split at h
  ·rename_i n e ht
   simp only[bqB,bqS] at h
   obtain⟨u,hu,h⟩:=h
   split at h
   ·cases h
   ·rename_i hn
    simp only[bqS,sjE] at h
    obtain⟨y,hy,rfl⟩:=h
    exact Au0 ho ht hu hn hy
  ·cases h
 ·rename_i t m k v ho
  split at h
  ·rename_i kt et ht
   simp only[bqB,bqS,sjE] at h
   obtain⟨b,hb,m',hm,k',hk,v',hv,rfl⟩:=h
   exact n_s (.inl ho) ht hb hm hk hv
  ·cases h
 ·rename_i t m k v ho
  split at h
  ·rename_i kt et ht
   simp only[bqB,bqS,sjE] at h
   obtain⟨b,hb,m',hm,k',hk,v',hv,rfl⟩:=h
   exact n_s (.inr ho) ht hb hm hk hv
  ·cases h
 ·rename_i c ho
  split at h
  ·rename_i f x hc ha
   split at h
   ·rename_i hf
    simp only[bqB,bqS,sjE] at h
    obtain⟨y,hy,rfl⟩:=h
    exact n_v ho hc (U_o ha) hf hy
   ·split at h
    ·rename_i hf
     simp only[bqB,bqS,sjE] at h
     obtain⟨e,he,y,hy,rfl⟩:=h
     exact AK4 ho hc (U_o ha) hf he hy
    ·cases h
  ·rename_i f x y hc ha
   split at h
   ·rename_i hf
    simp only[bqB,bqS,sjE] at h
    obtain⟨x',hx,y',hy,rfl⟩:=h
    exact AJ7 ho hc (Q_q ha) hf hx hy
   ·split at h
    ·rename_i hf
     simp only[bqB,bqS,sjE] at h
     obtain⟨x',hx,y',hy,rfl⟩:=h
     exact AJ3 ho hc (Q_q ha) hf hx hy
    ·cases h
  ·rename_i x hc ha
   simp only[bqB,bqS,sjE] at h
   obtain⟨y,hy,rfl⟩:=h
   exact At8 ho hc (U_o ha) hy
  ·rename_i m k hc ha
   split at h
   ·rename_i kt et ht
    simp only[bqB,bqS,sjE] at h
    obtain⟨b,hb,m',hm,k',hk,rfl⟩:=h
    obtain⟨t,hat,ht⟩:=Option.bind_eq_some_iff.1 ht
    exact y_h ho hc (Q_q ha) hat ht hb hm hk
   ·cases h
  ·rename_i m hc ha
   split at h
   ·rename_i kt et ht
    simp only[bqB,bqS,sjE] at h
    obtain⟨m',hm,rfl⟩:=h
    obtain⟨t,hat,ht⟩:=Option.bind_eq_some_iff.1 ht
    exact y_i ho hc (U_o ha) hat ht hm
   ·cases h
  ·rename_i x n hc ha
   split at h
   ·rename_i pt it hat
    split at h
    ·rename_i e hp
     simp only[bqB,bqS] at h
     obtain⟨k,hk,h⟩:=h
     split at h
     ·rename_i hk1
      subst hk1
      simp only[bqS,sjE] at h
      obtain⟨y,hy,n',hn,rfl⟩:=h
      exact AK7 ho hc (Q_q ha) (Q_q hat) hp hk hy hn
     ·cases h
    ·cases h
   ·cases h
  ·rename_i s x hc ha
   split at h
   ·rename_i t ti hat
    split at h
    ·rename_i e ht hti
     simp only[bqB,bqS] at h
     obtain⟨u,hu,b,hb,z,hz,h⟩:=h
     split at h
     ·rename_i hub
      obtain⟨rfl,rfl⟩:=hub
      simp only[bqS,sjE] at h
      obtain⟨s',hs,x',hx,rfl⟩:=h
      exact q_x ho hc (Q_q ha) (Q_q hat) ht hti hu hb hz hs hx
     ·cases h
    ·cases h
   ·cases h
  ·rename_i x hc ha
   split at h
   ·rename_i e ht
    simp only[bqB,bqS,sjE] at h ht
    obtain⟨z,hz,x',hx,rfl⟩:=h
    obtain⟨t,hat,ht⟩:=ht
    exact Ar5 ho hc (U_o ha) hat ht hz hx
   ·cases h
  ·cases h
 ·cases h
end
end Go.Gev
