import Derived.Test.YtnbnmojckhcdeaaGreatDoorGevDX
namespace Go.Gev
noncomputable section
def memN(k:Nat):List Nat→Bool
 |[]=>false
 |x::xs=>match Nat.beq x k with
  |true=>true
  |false=>memN k xs
def addN(k:Nat)(l:List Nat):List Nat:=match memN k l with
 |true=>l
 |false=>k::l
def tmpsOf:List Operand→List Nat
 |[]=>[]
 |x::xs=>match x with
  |.tmp t=>t::tmpsOf xs
  |_=>tmpsOf xs
def needs(defs:List Nat):List Nat→List Nat→List Nat
 |[],acc=>acc
 |x::xs,acc=>match memN x defs with
  |true=>needs defs xs acc
  |false=>needs defs xs (addN x acc)
def Bj2(ops:Array Oper)(o:Oper):List Nat:=match o.guard with
 |none=>[]
 |some (j,_)=>match (ops[j]?).bind (·.dst) with
  |some t=>[t]
  |none=>[]
def Ao8(ops:Array Oper):List Oper→List Nat→List Nat→List Nat
 |[],_,acc=>acc
 |o::os,defs,acc=>
  let acc:=needs defs (Bj2 ops o++tmpsOf o.op.operands.toList) acc
  Ao8 ops os (match o.dst with|some d=>d::defs|none=>defs) acc
def L_4:Code→List Nat→List Nat
 |.seq a b,acc=>L_4 b (L_4 a acc)
 |.cond c a b,acc=>L_4 b (L_4 a (needs [] (tmpsOf [c]) acc))
 |.block _ b,acc=>L_4 b acc
 |.loop b,acc=>L_4 b acc
 |.rangeFunc f _ a b,acc=>L_4 b (L_4 a (needs [] (tmpsOf [f]) acc))
 |.region _ ops _,acc=>Ao8 ops ops.toList [] acc
 |_,acc=>acc
def W_u:List ResultVar→List Nat→List Nat
 |[],acc=>acc
 |.tmp t::rest,acc=>W_u rest (addN t acc)
 |.cell t _::rest,acc=>W_u rest (addN t acc)
structure Cx where
 look:Nat→GX
def P_r(k:Nat):List Nat→Nat→Option Nat
 |[],_=>none
 |x::xs,i=>match Nat.beq x k with
  |true=>some i
  |false=>P_r k xs (Nat.succ i)
def slot(sl:List Nat)(k:Nat):Option (List Bool):=match P_r k sl 0 with
 |some i=>some (pth i)
 |none=>none
def W_o (k : Nat) : List (Option Nat) → Option Ix
 |[]=>none
 | d :: ds => match d with
  |none=>match W_o k ds with
   |some i=>some (.s i)
   |none=>none
  | some x => match Nat.beq x k with
   |true=>some .z
   |false=>match W_o k ds with
    |some i=>some (.s i)
    |none=>none
def gt(cx:Cx)(t:Nat):GX:=cx.look t
def x_9(sl:List Nat)(t:Nat):GX:=match slot sl t with
 |some p=>.t p
 |none=>.c dunno
def m_3(sl:List Nat)(df:List (Option Nat))(t:Nat):GX:=match W_o t df with
 |some i=>.l i
 |none=>x_9 sl t
def K_d(sl:List Nat)(df:List (Option Nat)):Cx:=⟨m_3 sl df⟩
def okC1:Value→Bool
 |.map r=>match r with
  |none=>true
  |some _=>false
 |.int _ _ | .bool _ | .string _ | .nilIface | .nilFunc=>true
 |.pointer a=>match a with
  |none=>true
  |some _=>false
 | .slice a n c => match a with
  |none=>match n,c with
   |0,0=>true
   |_,_=>false
  |some _=>false
 |_=>false
def okCL:List Value→Bool
 |[]=>true
 |v::vs=>match okC1 v with
  |true=>okCL vs
  |false=>false
def okC(v:Value):Bool:=match v with
 |.agg cs=>okCL cs.toList
 |v=>okC1 v
def gx(cx:Cx):Operand→Option GX
 |.tmp t=>some (gt cx t)
 |.const v=>match okC v with
  |true=>some (.c v)
  |false=>none
 |.global _=>none
 |.func f=>some (.c (.func (.func f) #[] #[]))
def gxs(cx:Cx):List Operand→Option (List GX)
 |[]=>some []
 |x::xs=>match gx cx x,gxs cx xs with
  |some y,some ys=>some (y::ys)
  |_,_=>none
def gxo(cx:Cx):Option Operand→Option (Option GX)
 |none=>some none
 |some x=>match gx cx x with
  |some y=>some (some y)
  |none=>none
def zeroOf (P : Program) (t : TypeId) : Option (List Value) := match P.info? t with
 | some i => match i.zero with
  | some z => match okCL z.cells.toList with
   |true=>match Nat.beq z.cells.toList.length i.size with
    |true=>some z.cells.toList
    |false=>none
   |false=>none
  |none=>none
 |none=>none
def F_o(P:Program)(t:TypeId):Option Nat:=match P.info? t with
 |some i=>some i.size
 |none=>none
def N_o(P:Program)(t:TypeId):Option Nat:=match P.info? t with
 |some i=>some i.bytes
 |none=>none
def P_l(P:Program)(t:TypeId):Option Bool:=match P.underlying t with
 |some (.struct _)|some (.array _ _)=>some true
 |some _=>some false
 |none=>none
def ckOf(P:Program)(t:TypeId):Option CK:=match P.underlying t with
 |some (.int _)=>some .i
 |some .bool=>some .b
 |some .string=>some .s
 |_=>none
def Q_2(P:Program):List Field→Nat→Option (List CK)
 |[],_=>some []
 | f :: fs, i => match (f.name != "_") && (f.offset == i) with
  |true=>match ckOf P f.type,Q_2 P fs (i+1) with
   |some k,some ks=>some (k::ks)
   |_,_=>none
  |false=>none
def cstB:Operand→Bool
 |.const _=>true
 |_=>false
def qIF(c:Bool):E2:=match c with
 |true=>qI0
 |false=>qI
def eqOf(P:Program)(c:Bool)(t:TypeId):Option E2:=match P.underlying t with
 |some .bool=>some qB
 |some (.pointer e)=>match P.info? e with
  |some _=>some qP
  |none=>none
 |some (.slice _)=>some qS
 |some (.interface _)=>some (qIF c)
 | some (.struct fs) => match !P.eqGuardType P.depth t && !P.stoodInHeld t with
  |true=>match Q_2 P fs.toList 0 with
   |some ks=>some (qA ks)
   |none=>none
  |false=>none
 |_=>none
def placesOf(P:Program)(fs:List Field):Option (List (Nat × Nat)):=fs.mapM (λf=>(P.info? f.type).map λi=>(f.offset,i.size))
def V_3(cx:Cx)(place:Nat→Option (Nat × Nat)):List (Nat × Operand)→Option (List (Nat × Nat × GX))
 |[]=>some []
 |(i,x)::rest=>match place i,gx cx x,V_3 cx place rest with
  |some p,some y,some ys=>some ((p.1,p.2,y)::ys)
  |_,_,_=>none
def binF (P : Program) (op : BinOp) (c : Bool) (t : TypeId) : Option (Value → Value → Option Value) := match op with
 |.shl=>some (sh2 .shl)
 |.shr=>some (sh2 .shr)
 | op => match P.underlying t with
  |some (.int _)=>some (i2 (fOf op))
  |some .string=>some (s2 op)
  | some _ => match op with
   |.eql=>match eqOf P c t with
    |some f=>some (e2 false f)
    |none=>none
   |.neq=>match eqOf P c t with
    |some f=>some (e2 true f)
    |none=>none
   |_=>none
  |none=>none
def gopS (P : Program) (cx : Cx) (o : Oper) : Option GOp :=
 match o.op with
 |.move x | .assign x=>do some (.fn <| oMv (←gx cx x))
 |.pick c a b=>do some (.fn <| Ba0 (←gx cx c) (←gx cx a) (←gx cx b))
 |.alloc e=>do some (.fn <| L_0 e (←zeroOf P e))
 |.box e x=>do some (.fn <| oBox e (←gx cx x))
 | .build t parts => match P.underlying t with
  |some (.struct fs)=>do
   let pl ←placesOf P fs.toList
   some (.fn <| I_p (←zeroOf P t) (←V_3 cx (pl.toArray[·]?) parts.toList))
  |some (.array _ e)=>do
   let u ←F_o P e
   some (.fn <| I_p (←zeroOf P t) (←V_3 cx (λi=>some (i*u,u)) parts.toList))
  |_=>none
 | .buildSlice t len parts => match P.underlying t with
  |some (.slice e)=>do
   let u ←F_o P e
   if u=0∨len*u>16777216 then none else some (.fn <| M_d e u len (←zeroOf P e) (←V_3 cx (λi=>some (i*u,u)) parts.toList))
  |_=>none
 |.load t a=>do if ←P_l P t then some (.fn <| f_1 (←F_o P t) (←gx cx a)) else some (.fn <| x_q (←gx cx a))
 |.store t a x=>do some (.fn <| f_8 (←F_o P t) (←gx cx a) (←gx cx x))
 |.nilCheck x=>do some (.fn <| AZ9 (←gx cx x))
 |.binOp op t x y _=>do some (.fn <| oV2 (←binF P op (orB (cstB x) (cstB y)) t) (←gx cx x) (←gx cx y))
 |.unOp op _ x=>do some (.fn <| oUn op (←gx cx x))
 |.convert s d x=>match P.underlying s,P.underlying d with
  |some (.int _),some (.int k)=>do some (.fn <| An6 k (←gx cx x))
  |some .string,some .string=>do some (.fn <| An7 (←gx cx x))
  |_,_=>none
 |.makeInterface t x=>match P.underlying t with
  |some (.interface _)|none=>none
  |_=>do some (.fn <| q_f t (←gx cx x))
 |.makeFunc fn first captured=>do some (.fn <| Y_p fn (←gxs cx first.toList) (←gxs cx captured.toList))
 | .makeSlice t l c => match P.underlying t with
  |some (.slice e)=>do
   let u ←F_o P e
   let b ←N_o P e
   if u=0∨b=0 then none else some (.fn <| i_t e u b (←zeroOf P e) (←gx cx l) (←gx cx c))
  |_=>none
 | .slice t x lo hi mx => match P.underlying t with
  |some (.slice e)=>match mx,hi with
   |some _,none=>none
   |_,_=>do some (.fn <| L_2 (←F_o P e) (←gx cx x) (←gxo cx lo) (←gxo cx hi) (←gxo cx mx))
  |some .string=>match mx with
   |none=>do some (.fn <| Q_t (←gx cx x) (←gxo cx lo) (←gxo cx hi))
   |some _=>none
  |_=>none
 | .fieldAddr t x k => match P.underlying t with
  |some (.struct fs)=>match fs[k]? with
   |some f=>do if (←F_o P f.type)=0 then none else some (.fn <| p_x f.offset (←gx cx x))
   |none=>none
  |_=>none
 | .field t x k => match P.underlying t with
  |some (.struct fs)=>match fs[k]? with
   |some f=>do if ←P_l P f.type then some (.fn <| p_z f.offset (←F_o P f.type) (←gx cx x)) else some (.fn <| An8 f.offset (←gx cx x))
   |none=>none
  |_=>none
 |.indexAddr t x i=>match P.underlying t with
  |some (.slice e)=>do some (.fn <| AZ3 (←F_o P e) (←gx cx x) (←gx cx i))
  |some (.array n e)=>do some (.fn <| p_0 (←F_o P e) n (←gx cx x) (←gx cx i))
  |_=>none
 |.index t x i=>match P.underlying t with
  |some .string=>do some (.fn <| e_d (←gx cx x) (←gx cx i))
  |_=>none
 |.extract x i=>do some (.fn <| AZ2 (←gx cx x) i)
 | .call c => match c.callee with
  |.value (.func f)=>do some (.call f (←gxs cx c.args.toList))
  |.value f=>do some (.callv (←gx cx f) (←gxs cx c.args.toList))
  |.builtin .len=>match c.args.toList,(c.argTypes[0]?).bind P.underlying with
   |[x],some .string=>do some (.fn <| AZ5 (←gx cx x))
   |[x],some (.slice _)=>do some (.fn <| AZ6 (←gx cx x))
   |[_],some (.array n _)=>some (.fn <| AZ4 n)
   |_,_=>none
  |.builtin .cap=>match c.args.toList,(c.argTypes[0]?).bind P.underlying with
   |[x],some (.slice _)=>do some (.fn <| Bm2 (←gx cx x))
   |_,_=>none
  |.builtin .min=>do some (.fn <| O_l false (←gxs cx c.args.toList))
  |.builtin .max=>do some (.fn <| O_l true (←gxs cx c.args.toList))
  | .builtin .append => match c.args.toList, (c.argTypes[0]?).bind P.underlying, (c.argTypes[1]?).bind P.underlying with
   |[s,x],some (.slice e),some (.slice _)=>do
    let u ←F_o P e
    let b ←N_o P e
    let _ ←zeroOf P e
    if u=0∨b=0∨c.argTypes[0]?≠c.argTypes[1]?∨c.argTypes.size≠2 then none else some (.fn <| An5 e u b (←gx cx s) (←gx cx x))
   |[s,x],some (.slice e),some (.int _)=>do
    let u ←F_o P e
    let b ←N_o P e
    if u=0∨b=0∨c.argTypes.size≠2 then none else some (.fn <| i_s e u b (←zeroOf P e) (←gx cx s) (←gx cx x))
   |_,_,_=>none
  |.builtin .copy=>match c.args.toList,(c.argTypes[0]?).bind P.underlying,(c.argTypes[1]?).bind P.underlying with
   |[d,s],some (.slice e),some (.slice _)=>do some (.fn <| AZ1 (←F_o P e) (←gx cx d) (←gx cx s))
   |_,_,_=>none
  |_=>none
 |_=>none
def R_c(P:Program)(f:FuncId)(name:String):Bool:=match P.funcs[f]? with
 |some fn=>fn.body.isNone&&fn.name==name&&fn.origin == ""
 |none=>false
def keyT(P:Program)(t:TypeId):Option Bool:=match P.underlying t with
 |some (.int _)=>some true
 |some .string=>some false
 |_=>none
def zeroV(P:Program)(t:TypeId):Option Value:=match P.info? t with
 | some i => match i.zero with
  |some z=>match okC z with
   |true=>some z
   |false=>none
  |none=>none
 |none=>none
def t_g(P:Program)(f:FuncId):Option TypeId:=match P.funcs[f]? with
 | some fn => match fn.resultTypes.toList with
  |[t]=>match P.underlying t with
   |some (.slice e)=>some e
   |_=>none
  |_=>none
 |none=>none
def gopX (P : Program) (cx : Cx) (o : Oper) : Option (En → Hs → Rs) :=
 match o.op with
 | .convert s d x => match P.underlying s, P.underlying d with
  |some (.slice e),some .string=>match P.underlying e with
   |some (.int .u8)=>do some (AP3 (←gx cx x))
   |_=>none
  |some .string,some (.slice e)=>match P.underlying e with
   |some (.int .u8)=>do some (i_u e (←gx cx x))
   |_=>none
  |some (.slice _),some (.slice e)=>match P.underlying e with
   |some (.int .u8)=>do if s==d then some (AZ7 (←gx cx x)) else none
   |_=>none
  |some (.pointer t),some .unsafePointer=>do if (←F_o P t)=0 then none else some (AP4 (←gx cx x))
  |some .unsafePointer,some (.pointer t)=>do if (←F_o P t)=0 then none else some (t_s t (←F_o P t) (←gx cx x))
  |_,_=>none
 | .makeMap t r => match P.underlying t with
  |some (.map _ _)=>match r with
   |none=>some (t_t (.c (.int .i64 0)))
   |some x=>do some (t_t (←gx cx x))
  |_=>none
 |.lookup t m k ok=>match P.underlying t with
  |some (.map kt et)=>do some (Ao0 (←keyT P kt) (←zeroV P et) ok (←gx cx m) (←gx cx k))
  |_=>none
 |.range t x=>match P.underlying t with
  |some (.map _ _)=>do some (Ao3 (←gx cx x))
  |_=>none
 |.entry x=>do some (AP0 (←gx cx x))
 | .slice t x none none none => match P.underlying t with
  |some (.array n e)=>do
   let _ ←F_o P e
   if n=0∨1000000<n then none else some (AP2 n (←gx cx x))
  |_=>none
 |.mapUpdate t m k v | .insert t m k v=>match P.underlying t with
  |some (.map kt _)=>do some (Ao2 (←keyT P kt) (←gx cx m) (←gx cx k) (←gx cx v))
  |_=>none
 | .call c => match c.callee, c.args.toList with
  | .value (.func f), [x] => match R_c P f "internal/abi.NoEscape" with
   |true=>do some (oMv (←gx cx x))
   |false=>match R_c P f "internal/bytealg.MakeNoZero" with
    |true=>do some (AZ8 (←t_g P f) (←gx cx x))
    |false=>none
  | .value (.func f), [x, y] => match R_c P f "internal/bytealg.IndexByteString" with
   |true=>do some (Bm4 (←gx cx x) (←gx cx y))
   |false=>match R_c P f "internal/bytealg.CountString" with
    |true=>do some (Bm3 (←gx cx x) (←gx cx y))
    |false=>none
  |.builtin .unsafeSliceData,[x]=>do some (AP1 (←gx cx x))
  |.builtin .delete,[m,k]=>match (c.argTypes[0]?).bind P.underlying with
   |some (.map kt _)=>do some (q_e (←keyT P kt) (←gx cx m) (←gx cx k))
   |_=>none
  |.builtin .len,[m]=>match (c.argTypes[0]?).bind P.underlying with
   |some (.map _ _)=>do some (Ao1 (←gx cx m))
   |_=>none
  | .builtin .unsafeString, [x, n] => match c.argTypes.toList with
   |[pt,_]=>match P.underlying pt with
    |some (.pointer e)=>do if (←F_o P e)=1 then some (Ba1 e (←gx cx x) (←gx cx n)) else none
    |_=>none
   |_=>none
  | .builtin .append, [s, x] => match c.argTypes.toList with
   | [t, ti] => match P.underlying t, P.underlying ti with
    |some (.slice e),some .string=>do
     let u ←F_o P e
     let b ←N_o P e
     let _ ←zeroOf P e
     if u=1∧b=1 then some (i_o e b (←gx cx s) (←gx cx x)) else none
    |_,_=>none
   |_=>none
  |.builtin .clear,[x]=>match (c.argTypes[0]?).bind P.underlying with
   |some (.slice e)=>do some (p_w (←zeroOf P e) (←gx cx x))
   |_=>none
  |_,_=>none
 |_=>none
def gop(P:Program)(cx:Cx)(o:Oper):GOp:=match gopX P cx o with
 |some g=>.fn g
 |none=>match gopS P cx o with
  |some g=>g
  |none=>.fn oBad
def O_z(N:Nat)(o:Oper):Option Nat:=match o.dst with
 |none=>none
 |some t=>match Nat.blt t N with
  |true=>some t
  |false=>none
def goper(P:Program)(cx:Cx)(sl:List Nat)(ops:Array Oper)(o:Oper):GOper:=
 ⟨gop P cx o,(match o.dst with|none=>none|some t=>slot sl t),
  (match o.guard with
  |none=>none
  |some (j,want)=>match (ops[j]?).bind (·.dst) with
   |some t=>some (gt cx t,want)
   |none=>some (.c dunno,want))⟩
def gopers(P:Program)(N:Nat)(sl:List Nat)(ops:Array Oper):List Oper→List (Option Nat)→List GOper
 |[],_=>[]
 |o::os,df=>goper P (K_d sl df) sl ops o::gopers P N sl ops os (O_z N o::df)
def d_u(N:Nat):List Nat→Bool
 |[]=>true
 |x::xs=>match Nat.blt x N with
  |true=>d_u N xs
  |false=>false
def L_u:List Edge→List Nat
 |[]=>[]
 |e::es=>match Region.binds .any e with
  |true=>e.on::L_u es
  |false=>L_u es
def nthN:List Nat→Nat→Nat
 |[],_=>0
 |m::ms,i=>match i with
  |0=>m
  |i+1=>nthN ms i
def j_6(ms:List Nat):List Nat→Nat
 |[]=>0
 |e::es=>Nat.lor (Nat.lor (Nat.pow 2 e) (nthN ms e)) (j_6 ms es)
def befs:List Oper→Nat→List Nat→Option (List Nat)
 |[],_,ms=>some ms
 |o::os,i,ms=>match d_u i (L_u o.after.toList) with
  |true=>befs os (Nat.succ i) (ms ++ [j_6 ms (L_u o.after.toList)])
  |false=>none
def lmOf(m:Nat):Nat→List Bool
 |0=>[]
 |j+1=>Nat.testBit m j::lmOf m j
def g_6:Op→Bool
 |.move _ | .assign _ | .pick _ _ _ | .nilCheck _ | .binOp .. | .unOp .. | .makeInterface .. | .makeFunc .. | .fieldAddr .. | .indexAddr .. | .index .. | .extract .. | .field .. | .build ..=>true
 |.call c=>match c.callee with
  |.builtin .len | .builtin .cap | .builtin .min | .builtin .max=>true
  |_=>false
 |_=>false
def Bz7:Op→Bool
 |.load .. | .convert ..=>true
 |_=>false
def lowT(ts:List Nat):Op→Bool
 |.load _ (.tmp t)=>memN t ts
 |_=>false
def lowC(ts:List Nat):Op→Bool
 |.load _ (.tmp t)=>memN t ts
 |.convert ..=>true
 |_=>false
def b_d(lw:Option LW)(o:Op):Bool:=match lw with
 |none=>false
 |some L=>match L.fz with
  |false=>lowC L.ts o
  |true=>lowT L.ts o
def bld(lw:Option LW)(o:Op):Bool:=match b_d lw o with
 |true=>true
 |false=>g_6 o
def mkOp:Op→Bool
 |.alloc .. | .box .. | .makeSlice .. | .makeMap ..=>true
 |_=>false
def off(lw:Option LW)(o:Op):Bool:=match bld lw o with
 |true=>true
 |false=>mkOp o
def blinds(lw:Option LW):List Oper→List Bool
 |[]=>[]
 |o::os=>off lw o.op::blinds lw os
def p_v (ones : Nat) : List Bool → List Nat → List Nat → Nat
 |[],_,_=>ones
 | b :: _, ms, rs => match ms with
  |[]=>0
  | m :: _ => match rs with
   |[]=>0
   |r::_=>match b with
    |true=>r
    |false=>Nat.land m r
def inters(ones:Nat):List Bool→List Nat→List Nat
 |[],_=>[]
 |_::bs,ms=>match ms with
  |[]=>[]
  |_::ms=>p_v ones bs ms (inters ones bs ms)::inters ones bs ms
def kindOf (blind mk : Bool) (nb r m i : Nat) : DK := match blind with
 |true=>.blind
 | false => match mk with
  |true=>.make
  | false => match Nat.beq (Nat.land m nb) nb with
   |true=>match Nat.testBit r i with
    |true=>.bar
    |false=>.light
   |false=>.light
def Z_j(b:Bool)(i nb:Nat):Nat:=match b with
 |true=>nb
 |false=>Nat.lor nb (Nat.pow 2 i)
def posOf(t:Nat):List (Option Nat)→Nat→Option Nat
 |[],_=>none
 | d :: ds, i => match d with
  |none=>posOf t ds (Nat.succ i)
  |some x=>match Nat.beq x t with
   |true=>some i
   |false=>posOf t ds (Nat.succ i)
def ixOf:Nat→Ix
 |0=>.z
 |n+1=>.s (ixOf n)
def ifX(b:Bool)(x:GX):GX:=match b with
 |true=>x
 |false=>.c dunno
def k_7(sl:List Nat)(ms:List Nat)(i m t:Nat):Option Nat→GX
 |none=>x_9 sl t
 |some j=>match Nat.blt j i with
  |true=>ifX (Nat.testBit m j) (.l (ixOf (Nat.sub (Nat.sub i j) 1)))
  |false=>ifX (Nat.testBit (nthN ms j) i) (x_9 sl t)
def N_q(sl:List Nat)(ds:List (Option Nat))(ms:List Nat)(i m t:Nat):GX:=k_7 sl ms i m t (posOf t ds 0)
def lmIf(m i:Nat):DK→List Bool
 |.light=>lmOf m i
 |_=>[]
def dopers(P:Program)(lw:Option LW)(sl:List Nat)(ops:Array Oper)(ds:List (Option Nat))(all:List Nat):List Oper→List Nat→List Nat→Nat→Nat→List DOper
 |[],_,_,_,_=>[]
 | o :: os, ms, rs, i, nb => match ms with
  |[]=>[]
  |m::ms=>match rs with
   |[]=>[]
   |r::rs=>⟨gop P ⟨N_q sl ds all i m⟩ o,(goper P ⟨N_q sl ds all i m⟩ sl ops o).guard,kindOf (bld lw o.op) (mkOp o.op) nb r m i,lmIf m i (kindOf (bld lw o.op) (mkOp o.op) nb r m i),lw,b_d lw o.op⟩::dopers P lw sl ops ds all os ms rs (Nat.succ i) (Z_j (bld lw o.op) i nb)
def V_v(N:Nat):List Oper→List (Option Nat)
 |[]=>[]
 |o::os=>O_z N o::V_v N os
def Z_x(sl:List Nat):List Oper→List (Option (List Bool))
 |[]=>[]
 |o::os=>(match o.dst with|none=>none|some t=>slot sl t)::Z_x sl os
def dstsOf:List Oper→List Nat
 |[]=>[]
 |o::os=>match o.dst with
  |none=>dstsOf os
  |some t=>t::dstsOf os
def W_8:List Nat→Bool
 |[]=>true
 |x::xs=>match memN x xs with
  |true=>false
  |false=>W_8 xs
def Bz3(P:Program)(f:FuncId):Bool:=match P.funcs[f]? with
 |some fn=>fn.name == "(*strings.Builder).String" || fn.name == "slices.Compact[[]int,int]"
 |none=>false
def Bz2(P:Program)(f:FuncId):Bool:=match P.funcs[f]? with
 |some fn=>fn.name == "slices.Compact[[]int,int]"
 |none=>false
def AW6(P:Program):Op→Bool
 |.store ..=>true
 |.call c=>match c.callee with
  |.value (.func f)=>Bz3 P f
  |.builtin .append=>true
  |_=>false
 |_=>false
def Bz1:DK→Bool
 |.bar=>true
 |_=>false
def AT3(t:Nat):List Oper→Option Oper
 |[]=>none
 | o :: os => match o.dst with
  |none=>AT3 t os
  |some x=>match Nat.beq x t with
   |true=>some o
   |false=>AT3 t os
def rootOf (sl : List Nat) (ops : List Oper) : Nat → Operand → Option (List Bool)
 |0,_=>none
 | k + 1, x => match x with
  | .tmp t => match AT3 t ops with
   |none=>slot sl t
   |some o=>match o.op with
    |.move y=>rootOf sl ops k y
    |.nilCheck y=>rootOf sl ops k y
    |.fieldAddr _ y _=>rootOf sl ops k y
    |.indexAddr _ y _=>rootOf sl ops k y
    |_=>none
  |_=>none
def s_l:List Operand→Option Operand
 |a::_=>some a
 |[]=>none
def storeAt(P:Program)(o:Oper):Option Operand:=match o.op with
 |.store _ a _=>some a
 | .call c => match c.callee with
  |.builtin _=>some (.const dunno)
  |.value (.func f)=>match Bz2 P f with
   |true=>some (.const dunno)
   |false=>s_l c.args.toList
  |_=>s_l c.args.toList
 |_=>none
def Bb9 : List Bool → List Bool → Bool
 |[],q=>match q with
  |[]=>true
  |_::_=>false
 | b :: p, q => match q with
  |[]=>false
  | d :: q => match b with
   |true=>match d with
    |true=>Bb9 p q
    |false=>false
   |false=>match d with
    |true=>false
    |false=>Bb9 p q
def Ba2 (P : Program) : List Oper → List Nat → List Nat → Nat → Nat → Option Nat
 |[],_,_,_,_=>none
 | o :: os, ms, rs, i, nb => match ms with
  |[]=>none
  | m :: ms => match rs with
   |[]=>none
   | r :: rs => match AW6 P o.op with
    |true=>match Bz1 (kindOf false false nb r m i) with
     |true=>Ba2 P os ms rs (Nat.succ i) (Z_j (g_6 o.op) i nb)
     |false=>some i
    |false=>Ba2 P os ms rs (Nat.succ i) (Z_j (g_6 o.op) i nb)
def looseAt (k mk : Nat) : List Oper → List Nat → Nat → List Nat
 |[],_,_=>[]
 | o :: os, ms, i => match ms with
  |[]=>[]
  | m :: ms => match o.op with
   | .load _ (.tmp t) => match Nat.testBit mk i with
    |true=>looseAt k mk os ms (Nat.succ i)
    |false=>match Nat.testBit m k with
     |true=>looseAt k mk os ms (Nat.succ i)
     |false=>t::looseAt k mk os ms (Nat.succ i)
   |_=>looseAt k mk os ms (Nat.succ i)
def Ao7 (sl : List Nat) (ops : List Oper) : List Nat → Option (List Bool)
 |[]=>none
 | t :: ts => match ts with
  |[]=>rootOf sl ops 20 (.tmp t)
  | _ :: _ => match rootOf sl ops 20 (.tmp t) with
   |none=>none
   | some p => match Ao7 sl ops ts with
    |none=>none
    |some q=>match Bb9 p q with
     |true=>some p
     |false=>none
def By8(sl:List Nat)(ops:List Oper)(ms:List Nat)(k:Nat):Option LW:=match Ao7 sl ops (looseAt k (nthN ms k) ops ms 0) with
 |none=>none
 |some p=>some ⟨true,p,looseAt k (nthN ms k) ops ms 0⟩
def Z_m(ms:List Nat):Nat:=Nat.sub (Nat.pow 2 ms.length) 1
def X_1 (ops : List Oper) (ms : List Nat) : List Oper → List Nat → Nat → List Nat
 |[],_,_=>[]
 | o :: os, mks, k => match mks with
  |[]=>[]
  | mk :: mks => match g_6 o.op with
   |true=>X_1 ops ms os mks (Nat.succ k)
   | false => match mkOp o.op with
    |true=>X_1 ops ms os mks (Nat.succ k)
    |false=>match Bz7 o.op with
     |true=>X_1 ops ms os mks (Nat.succ k)
     |false=>looseAt k mk ops ms 0++X_1 ops ms os mks (Nat.succ k)
def Bh9(sl:List Nat)(ops:List Oper)(ms:List Nat)(k:Nat):Option Operand→Option LW
 |none=>none
 |some a=>match rootOf sl ops 20 a with
  |some p=>some ⟨false,p,X_1 ops ms ops ms 0⟩
  |none=>By8 sl ops ms k
def Bz8(P:Program)(sl:List Nat)(ops:List Oper)(ms:List Nat):Option Nat→Option LW
 |none=>none
 |some k=>match ops[k]? with
  |none=>none
  |some o=>Bh9 sl ops ms k (storeAt P o)
def lwOf(P:Program)(sl:List Nat)(ops:Array Oper)(ms:List Nat):Option LW:=Bz8 P sl ops.toList ms (Ba2 P ops.toList ms (inters (Z_m ms) (blinds none ops.toList) ms) 0 0)
def AT6(P:Program)(N:Nat)(sl:List Nat)(ops:Array Oper)(ms:List Nat)(lw:Option LW):GCode:=
 .dreg (dopers P lw sl ops (V_v N ops.toList) ms ops.toList ms (inters (Z_m ms) (blinds lw ops.toList) ms) 0 0) (Z_x sl ops.toList) lw
def Ab4(P:Program)(N:Nat)(sl:List Nat)(ops:Array Oper)(ms:List Nat):GCode:=match W_8 (dstsOf ops.toList) with
 |true=>AT6 P N sl ops ms (lwOf P sl ops ms)
 |false=>.reg [⟨.fn oBad,none,none⟩]
def v_w(P:Program)(N:Nat)(sl:List Nat)(ops:Array Oper):GCode:=match befs ops.toList 0 [] with
 |some ms=>Ab4 P N sl ops ms
 |none=>.reg [⟨.fn oBad,none,none⟩]
def badC:GCode:=.reg [⟨.fn oBad,none,none⟩]
def gcode(P:Program)(N:Nat)(sl:List Nat):Code→GCode
 |.skip=>.skip
 |.ret=>.ret
 |.exit id=>.exit id
 |.seq a b=>.seq (gcode P N sl a) (gcode P N sl b)
 |.cond c a b=>match gx (K_d sl []) c with
  |some x=>.cond x (gcode P N sl a) (gcode P N sl b)
  |none=>badC
 |.block id b=>.block id (gcode P N sl b)
 |.loop b=>.loop (gcode P N sl b)
 |.region _ ops draw=>match draw with
  |false=>.reg (gopers P N sl ops ops.toList [])
  |true=>v_w P N sl ops
 |_=>badC
def gres(P:Program)(sl:List Nat):List ResultVar→Option (List GRes)
 |[]=>some []
 |.tmp t::rest=>do some (.t (gt (K_d sl []) t)::(←gres P sl rest))
 |.cell a t::rest=>do some (.cell (gt (K_d sl []) a) (←F_o P t) (←P_l P t)::(←gres P sl rest))
def P_z(sl:List Nat):Nat→Nat→List (Option (List Bool))
 |0,_=>[]
 |n+1,i=>slot sl i::P_z sl n (Nat.succ i)
def AV6(P:Program)(f:Func)(b:Code)(sl:List Nat):Option GFn:=match d_u f.ntmps sl with
 |false=>none
 |true=>match gres P sl f.results.toList with
  |some rs=>some ⟨gcode P f.ntmps sl b,P_z sl (f.params.size+f.nfree) 0,rs⟩
  |none=>none
def gfn(P:Program)(f:Func):Option GFn:=match f.body with
 |some b=>AV6 P f b (W_u f.results.toList (L_4 b []))
 |none=>none
def FF(P:Program)(i:Nat):Option GFn:=match P.funcs.toList.drop i with
 |f::_=>gfn P f
 |[]=>none
end
end Go.Gev
