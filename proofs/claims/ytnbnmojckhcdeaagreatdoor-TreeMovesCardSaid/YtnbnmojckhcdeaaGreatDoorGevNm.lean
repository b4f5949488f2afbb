import Derived.Test.YtnbnmojckhcdeaaGreatDoorGevSo
import Derived.Test.YtnbnmojckhcdeaaGreatDoorGevXs
namespace Go.Gev
open Go.RowKit Go.Maps Go.WideElems Go.WideShapes
open Go.Proofs (encStr)
noncomputable section
def V_y:List UInt8:=[108,111,115,116,43,102,111,117,110,100]
def Z_i(T:TypeId)(h:Hs)(n:Int):Option (List (List UInt8))→An
 |none=>none
 |some ks=>match eqI n 1 with
  |true=>K_x encStr E_0 T h (some (ks ++ [V_y]))
  |false=>K_x encStr E_0 T h (some ks)
def t_a:Option Blk→Option (List (List UInt8))
 |some (.mp es cl)=>U_f keyS K_p es cl
 |_=>none
def b_n(h:Hs):Option Value→Option (List (List UInt8))
 |some (.map m)=>match m with
  |none=>some []
  |some k=>t_a (h.hp.get k)
 |_=>none
def Ak9(T:TypeId)(h:Hs)(n:Int):Option (Nat × Nat)→An
 |some q=>Z_i T h n (b_n h (blkCell (Nat.add q.2 2) (h.hp.get q.1)))
 |none=>none
def Al3(T:TypeId)(h:Hs)(n:Int):Option (Option (Nat × Value))→An
 |some (some p)=>Ak9 T h n (addrOf p.2)
 |_=>none
def Al4(T:TypeId)(h:Hs)(n:Int):Option Blk→An
 |some (.mp es _)=>Al3 T h n (findM (.int .i64 n) es 0)
 |_=>none
def Ak7(T:TypeId)(h:Hs)(n:Int):Option Value→An
 |some (.map m)=>match m with
  |some k=>Al4 T h n (h.hp.get k)
  |none=>none
 |_=>none
def AO8(T:TypeId)(h:Hs)(p:Nat × Nat):Value→An
 |.int k n=>match k with
  |.i64=>Ak7 T h n (blkCell (Nat.add p.2 1) (h.hp.get p.1))
  |_=>none
 |_=>none
def Bl7(T:TypeId)(h:Hs)(v:Value):Option (Nat × Nat)→An
 |some p=>AO8 T h p v
 |none=>none
def c_i(T:TypeId)(args:List Value)(h:Hs):An:=match args with
 |[a,b]=>Bl7 T h b (addrOf a)
 |_=>none
end
theorem AG5{P:Program}{t kt et:TypeId}(ht:P.underlying t=some (.map kt et))(hkt:keyT P kt=some true){B:Nat}{ρ:Ren}{h:Hs}{w:World}(R:HR B ρ h w){id:Nat}{H:Host}{es:List MapEntry}{cl:Nat}{n:Int}{j:Nat}{ev:Value}
 (hH:ρ id=some H) (hb:h.hp.get id=some (.mp es cl)) (hf:findM (.int .i64 n) es 0=some (some (j,ev))):∃v',(Instr.lookup t (.map (some H.blk)) (.int .i64 n) false).run P w=.ok v' w∧VR ρ ev v':=by
 obtain⟨kd,hu,hkd⟩:=b_e hkt
 obtain⟨H0,es',he0,hB,hh,hme⟩:=R.has id _ hb
 rw[hH] at he0
 injection he0 with he0
 subst he0
 have hgo:(getObj H.blk).run P w=.ok (.map es' cl) w:=by
  simp[getObj,Sem.run,hh]
 have hck:(Instr.checkKey es'.isEmpty 10000 kt (.int .i64 n)).run P w=.ok () w:=L_t (P:=P) hkt es'.isEmpty 9999 _ w
 rcases hme.find hkd (k:=.int .i64 n) rfl hf with⟨q1,_⟩|⟨j1,j2,v,v',q1,q2,q3,_⟩
 ·cases q1
 ·simp only[sjE,Prod.mk.injEq] at q1
  obtain⟨rfl,rfl⟩:=q1
  have hfk:=L_w (P:=P) hu q2 w
  exact⟨v',by simp[Instr.lookup,C_v ht,hgo,hck,hfk],q3⟩
def KeysAt(P:Program)(K:TypeId)(W:World)(mb:Option Nat)(ks:List (List UInt8)):Prop:=
 (mb=none∧ks = [])∨∃(b nn:Nat) (D0:DataW Unit),mb=some b∧W.ownsMap P K (λ_=>some (.nil,[])) b nn D0∧(strKeys D0).Perm ks∧Maps.size D0≤100000
def NamesC(P:Program)(f:FuncId)(TM K T:TypeId):Prop:=
 ∀ (W : World) (bt ot : Nat) (n : Int) (bm bi oi : Nat) (mb : Option Nat) (ks : List (List UInt8)), W.cell? ⟨bt, ot + 1, none⟩ = some (.map (some bm)) →
  (Instr.lookup TM (.map (some bm)) (.int .i64 n) false).run P W=.ok (.pointer (some ⟨bi,oi,none⟩)) W→W.cell? ⟨bi,oi+2,none⟩=some (.map mb)→KeysAt P K W mb ks →
  Calls P f #[.pointer (some ⟨bt,ot,none⟩),.int .i64 n] W λe w'=>∃(v:Value) (ss:List (List UInt8)),e=.returned v∧ss.Perm (if n=1 then ks ++ [V_y] else ks) ∧
   w'.ownsRow W.heap.size T 1 v ss.length ((ss.mergeSort (λx y=>decide (x≤y))).map encStr)∧(v=.slice none 0 0↔ss = [])∧Below W.heap.size W w'
theorem Y_0{B:Nat}{ρ:Ren}{h:Hs}{w:World}(R:HR B ρ h w){b o:Nat}{v:Value}{H:Host}(hc:blkCell o (h.hp.get b)=some v)(hH:ρ b=some H):∃v',w.cell? ⟨H.blk,H.off+o,none⟩=some v'∧VR ρ v v':=by
 cases hb:h.hp.get b with
 |none=>rw[hb] at hc;cases hc
 | some blk =>
  rw[hb] at hc
  cases blk with
  |row c n e u rw_ fl=>
   have hc:c.get o=some v:=hc
   obtain⟨H',arr,fz,q1,_,hh,_,hcs,_⟩:=R.has b _ hb
   rw[hH] at q1
   injection q1 with q1
   subst q1
   obtain⟨v',q2,q3⟩:=hcs o v hc
   exact⟨v',by simp only[World.cell?,hh];simpa using q2,q3⟩
  |_=>cases hc
set_option maxHeartbeats 1000000 in
theorem Al5 {P : Program} {f : FuncId} {TM kt et K T : TypeId} (hf : (FF P f).isSome = true) (ht : P.underlying TM = some (.map kt et)) (hkt : keyT P kt = some true) (KK : KeyK P K (List UInt8) keyS K_p encStr E_0 strKeys)
 (C:NamesC P f TM K T):SumOk P f (c_i T):=by
 refine⟨Option.isSome_iff_exists.1 hf,λargs args' v h h' B ρ w hr hl Rl=>?_⟩
 unfold c_i at hr
 split at hr
 ·rename_i a b
  obtain⟨a',r1,e1,hva,hl1⟩:=hl.head
  obtain⟨b',r2,e2,hvb,hl2⟩:=hl1.head
  have:=hl2.nil_left
  subst this
  subst e2
  have harg:args'=#[a',b']:=by apply Array.ext';simpa using e1
  subst harg
  cases hp:addrOf a with
  |none=>rw[hp] at hr;cases hr
  |some p=>
  rw[hp] at hr
  have hr:AO8 T h p b=some (.val v h'):=hr
  obtain⟨H,hH,_,rfl⟩:=K_m hva hp
  cases hvb with
  | int k n =>
   cases k<;>try cases hr
   have hr:Ak7 T h n (blkCell (p.2+1) (h.hp.get p.1))=some (.val v h'):=hr
   cases hc:blkCell (p.2+1) (h.hp.get p.1) with
   |none=>rw[hc] at hr;cases hr
   |some mv=>
   rw[hc] at hr
   obtain⟨mv',hc1,hmv⟩:=Y_0 Rl hc hH
   cases hmv with
   | map k Hm hHm =>
    have hr:Al4 T h n (h.hp.get k)=some (.val v h'):=hr
    cases hk:h.hp.get k with
    |none=>rw[hk] at hr;cases hr
    |some blk=>
    rw[hk] at hr
    cases blk with
    | mp es cl =>
     have hr:Al3 T h n (findM (.int .i64 n) es 0)=some (.val v h'):=hr
     cases hf:findM (.int .i64 n) es 0 with
     |none=>rw[hf] at hr;cases hr
     |some r=>
     rw[hf] at hr
     cases r with
     |none=>cases hr
     |some q=>
     obtain⟨j,ev⟩:=q
     have hr:Ak9 T h n (addrOf ev)=some (.val v h'):=hr
     obtain⟨ev',hlk,hev⟩:=AG5 ht hkt Rl hHm hk hf
     cases hp2:addrOf ev with
     |none=>rw[hp2] at hr;cases hr
     |some q=>
     rw[hp2] at hr
     have hr:Z_i T h n (b_n h (blkCell (q.2+2) (h.hp.get q.1)))=some (.val v h'):=hr
     obtain⟨Hi,hHi,_,rfl⟩:=K_m hev hp2
     cases hc2:blkCell (q.2+2) (h.hp.get q.1) with
     |none=>rw[hc2] at hr;cases hr
     |some mv2=>
     rw[hc2] at hr
     obtain⟨mv2',hc3,hmv2⟩:=Y_0 Rl hc2 hHi
     -- the keys
     have keys : ∃ mb ks, mv2' = .map mb ∧ b_n h (some mv2) = some ks ∧ KeysAt P K w mb ks ∨ Z_i T h n (b_n h (some mv2)) = none := by
      cases hmv2 with
      |nilmap=>exact⟨none,[],.inl ⟨rfl,rfl,.inl ⟨rfl,rfl⟩⟩⟩
      | map k2 Hm2 hHm2 =>
       have e:b_n h (some (.map (some k2)))=t_a (h.hp.get k2):=rfl
       cases hk2:h.hp.get k2 with
       |none=>exact⟨none,[],.inr (by rw[e,hk2];rfl)⟩
       | some blk2 =>
        cases blk2 with
        | mp es2 cl2 =>
         have e2:t_a (some (Blk.mp es2 cl2))=U_f keyS K_p es2 cl2:=rfl
         cases hkm:U_f keyS K_p es2 cl2 with
         |none=>exact⟨none,[],.inr (by rw[e,hk2,e2,hkm];rfl)⟩
         |some ks=>
          obtain⟨Hm',es',m1,m2,m3,m4⟩:=Rl.has k2 _ hk2
          rw[hHm2] at m1
          injection m1 with m1
          subst m1
          obtain⟨D0,hown,hperm,hsize⟩:=Ap0 KK m3 m4 hkm
          exact⟨some Hm2.blk,ks,.inl ⟨rfl,by rw[e,hk2,e2,hkm],.inr ⟨Hm2.blk,_,D0,rfl,hown,hperm,hsize⟩⟩⟩
        |_=>exact⟨none,[],.inr (by rw[e,hk2];rfl)⟩
      |_=>exact⟨none,[],.inr rfl⟩
     obtain⟨mb,ks,⟨rfl,hks,hat⟩|hno⟩:=keys
     ·rw[hks] at hr
      refine(C w H.blk (H.off+p.2) n Hm.blk Hi.blk (Hi.off+q.2) mb ks (by rw[Nat.add_assoc];exact hc1) hlk (by rw[Nat.add_assoc];exact hc3) hat).mono λe w' hh=>?_
      obtain⟨v0,ss,rfl,hss,hrow,hnil,hb⟩:=hh
      have hr:∃ks',K_x encStr E_0 T h (some ks')=some (.val v h')∧ss.Perm ks':=by
       have hr:(match eqI n 1 with|true=>K_x encStr E_0 T h (some (ks ++ [V_y]))|false=>K_x encStr E_0 T h (some ks))=some (.val v h'):=hr
       rw[eqI_eq] at hr
       by_cases hn:n=1
       ·rw[if_pos hn] at hss
        exact⟨_,by simpa [hn] using hr,hss⟩
       ·rw[if_neg hn] at hss
        exact⟨_,by rw[show (n==1)=false from beq_false_of_ne hn] at hr;exact hr,hss⟩
      obtain⟨ks',hr,hp⟩:=hr
      have he:∀l,l=(ss.mergeSort E_0)→l=L_7 E_0 ks':=λl hl=>by rw[hl];exact j_b KK.tr KK.to KK.an hp
      rw[show (λx y:List UInt8=>decide (x≤y))=E_0 from by funext x y;rw[K_6]] at hrow
      have he:=he _ rfl
      cases ks' with
      |nil=>
       simp only[K_x,sjE,Out.val.injEq] at hr
       obtain⟨rfl,rfl⟩:=hr
       have:ss = []:=enZ hp.length_eq
       rw[hnil.2 this]
       exact⟨_,ρ,rfl,.nilslice,St.more Rl hb⟩
      |cons x xs=>
       simp only[K_x,sjE,Out.val.injEq] at hr
       obtain⟨rfl,rfl⟩:=hr
       rw[he] at hrow
       have hl2:(L_7 E_0 (x::xs)).length=(x::xs).length:=(K_o E_0 _).length_eq
       have hl3:ss.length=(L_7 E_0 (x::xs)).length:=by rw[hl2];exact hp.length_eq
       rw[hl3] at hrow
       obtain⟨ρ',p1,p2⟩:=St.ownRow Rl hb KK.vr KK.flat (λe=>by rw[e] at hl2;simp at hl2) hrow
       rw[hl2] at p1
       exact⟨_,ρ',rfl,p1,p2⟩
     ·rw[hno] at hr;cases hr
    |_=>cases hr
   |_=>cases hr
  |_=>cases hr
 ·cases hr
end Go.Gev
