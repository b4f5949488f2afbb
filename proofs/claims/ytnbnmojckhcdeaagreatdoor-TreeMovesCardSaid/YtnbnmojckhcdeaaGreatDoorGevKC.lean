import Derived.Test.YtnbnmojckhcdeaaGreatDoorGevP
namespace Go.Gev
noncomputable section
def AA6(sl:List Nat)(t:Nat):Nat:=match P_r t sl 0 with
 |some i=>Nat.pow 2 i
 |none=>0
def U_v(sl:List Nat):List Oper→Nat
 |[]=>0
 |o::os=>match o.dst with
  |none=>U_v sl os
  |some t=>Nat.lor (AA6 sl t) (U_v sl os)
def mods(sl:List Nat):Code→Nat
 |.seq a b=>Nat.lor (mods sl a) (mods sl b)
 |.cond _ a b=>Nat.lor (mods sl a) (mods sl b)
 |.block _ b=>mods sl b
 |.loop b=>mods sl b
 |.region _ ops _=>U_v sl ops.toList
 |_=>0
def Y_7(mask:Nat):Nat→List (List Bool)
 |0=>[]
 |i+1=>match Nat.beq (Nat.mod (Nat.div mask (Nat.pow 2 i)) 2) 1 with
  |true=>pth i::Y_7 mask i
  |false=>Y_7 mask i
def msOf(sl:List Nat)(mask:Nat):List (List Bool):=Y_7 mask sl.length
def kopG(P:Program)(cx:Cx)(o:Oper):KOp:=.gen λR en h K=>doOp (toRn R) en h K (gop P cx o)
def kBin(P:Program)(op:BinOp)(c:Bool)(t:TypeId)(x y:GX):Option KOp:=match op with
 |.shl=>some (.pure λen K=>kShl (ev en x) (ev en y) K)
 |.shr=>some (.pure λen K=>kShr (ev en x) (ev en y) K)
 | op => match P.underlying t with
  |some (.int .i64)=>some (.pure λen K=>kI64 op (ev en x) (ev en y) K)
  |some (.int .u64)=>some (.pure λen K=>kU64 op (ev en x) (ev en y) K)
  |some (.int .u8)=>some (.pure λen K=>kU8 op (ev en x) (ev en y) K)
  |_=>match binF P op c t with
   |some f=>some (m_c λen=>f (ev en x) (ev en y))
   |none=>none
def AW7(P:Program)(s d:TypeId)(x:GX):Option KOp:=match P.underlying s,P.underlying d with
 |some (.int _),some (.int .i64)=>some (.pure λen K=>Bk4 (ev en x) K)
 |some (.int _),some (.int .u64)=>some (.pure λen K=>kToU (ev en x) K)
 |some (.int _),some (.int .u8)=>some (.pure λen K=>kTo8 (ev en x) K)
 |some (.int _),some (.int k)=>some (m_c λen=>V_0 k (ev en x))
 |some .string,some .string=>some (m_c λen=>r_5 (ev en x))
 |_,_=>none
def kopS (P : Program) (cx : Cx) (o : Oper) : Option KOp :=
 match o.op with
 |.move x | .assign x=>do
  let y ←gx cx x
  some (.pure λen K=>K (ev en y))
 |.binOp op t x y _=>do kBin P op (orB (cstB x) (cstB y)) t (←gx cx x) (←gx cx y)
 |.unOp op _ x=>do
  let y ←gx cx x
  match op with
  |.not=>some (.pure λen K=>kNot (ev en y) K)
  |op=>some (m_c λen=>un op (ev en y))
 |.convert s d x=>do AW7 P s d (←gx cx x)
 |.load t a=>do
  let y ←gx cx a
  let n ←F_o P t
  match ←P_l P t with
  |true=>some (.read λen h K=>H_7 n (ev en y) h K)
  |false=>some (.read λen h K=>kLoad (ev en y) h K)
 |.store t a x=>do
  let y ←gx cx a
  let z ←gx cx x
  match ←F_o P t with
  |1=>some (.gen λ_ en h K=>H_l (ev en y) (ev en z) h K)
  |n=>some (.gen λ_ en h K=>after K (store1 n h (A_4 (ev en z)) (addrOf (ev en y))))
 |.nilCheck x=>do
  let y ←gx cx x
  some (.pure λen K=>kNil (ev en y) K)
 | .fieldAddr t x k => match P.underlying t with
  | some (.struct fs) => match fs[k]? with
   |some f=>do
    let y ←gx cx x
    match ←F_o P f.type with
    |0=>none
    |_=>some (.pure λen K=>kFieldA f.offset (ev en y) K)
   |none=>none
  |_=>none
 | .field t x k => match P.underlying t with
  | some (.struct fs) => match fs[k]? with
   | some f => do
    let y ←gx cx x
    match ←P_l P f.type with
    |true=>do
     let n ←F_o P f.type
     some (m_c λen=>fields1 f.offset n (ev en y))
    |false=>some (.pure λen K=>Ag3 f.offset (ev en y) K)
   |none=>none
  |_=>none
 | .indexAddr t x i => match P.underlying t with
  |some (.slice e)=>do
   let u ←F_o P e
   let y ←gx cx x
   let z ←gx cx i
   some (.pure λen K=>L_x u (ev en y) (ev en z) K)
  |some (.array n e)=>do
   let u ←F_o P e
   let y ←gx cx x
   let z ←gx cx i
   some (m_c λen=>o_8 u n (J_4 (ev en z)) (ev en y))
  |_=>none
 |.extract x i=>do
  let y ←gx cx x
  some (.pure λen K=>kExtr (ev en y) i K)
 | .call c => match c.callee with
  |.value (.func f)=>do
   let xs ←gxs cx c.args.toList
   some (.gen λR en h K=>E_d R f (evL en xs) h K)
  | .builtin .len => match c.args.toList, (c.argTypes[0]?).bind P.underlying with
   |[x],some .string=>do
    let y ←gx cx x
    some (.pure λen K=>Q_v (ev en y) K)
   |[x],some (.slice _)=>do
    let y ←gx cx x
    some (.pure λen K=>L_o (ev en y) K)
   |_,_=>none
  |_=>none
 |_=>none
def kop(P:Program)(cx:Cx)(o:Oper):KOp:=match gopX P cx o with
 |some g=>.gen λ_ en h K=>after K (g en h)
 |none=>match kopS P cx o with
  |some k=>k
  |none=>kopG P cx o
def kopY (P : Program) (cx : Cx) (o : Oper) : KOp := match o.op with
 | .call c => match c.callee with
  |.value (.func _)=>kop P cx o
  | .value x => match gx cx x with
   |some y=>match gxs cx c.args.toList with
    |some xs=>.gen λR en h K=>s_u R (ev en y) (evL en xs) h K
    |none=>kop P cx o
   |none=>kop P cx o
  |_=>kop P cx o
 | .next x s => match s with
  |false=>match gx cx x with
   |some y=>.gen λ_ en h K=>kNext (ev en y) h K
   |none=>kop P cx o
  |true=>kop P cx o
 |_=>kop P cx o
def koper(P:Program)(cx:Cx)(sl:List Nat)(ops:Array Oper)(o:Oper):KOper:=
 ⟨kopY P cx o,(goper P cx sl ops o).dst,(goper P cx sl ops o).guard⟩
def kopers(P:Program)(N:Nat)(sl:List Nat)(ops:Array Oper):List Oper→List (Option Nat)→List KOper
 |[],_=>[]
 |o::os,df=>koper P (K_d sl df) sl ops o::kopers P N sl ops os (O_z N o::df)
def kdopers(P:Program)(lw:Option LW)(sl:List Nat)(ops:Array Oper)(ds:List (Option Nat))(all:List Nat):List Oper→List Nat→List Nat→Nat→Nat→List KDOper
 |[],_,_,_,_=>[]
 | o :: os, ms, rs, i, nb => match ms with
  |[]=>[]
  |m::ms=>match rs with
   |[]=>[]
   |r::rs=>⟨kop P ⟨N_q sl ds all i m⟩ o,⟨gop P ⟨N_q sl ds all i m⟩ o,(goper P ⟨N_q sl ds all i m⟩ sl ops o).guard,kindOf (bld lw o.op) (mkOp o.op) nb r m i,lmIf m i (kindOf (bld lw o.op) (mkOp o.op) nb r m i),lw,b_d lw o.op⟩⟩::kdopers P lw sl ops ds all os ms rs (Nat.succ i) (Z_j (bld lw o.op) i nb)
def Bk5(P:Program)(N:Nat)(sl:List Nat)(ops:Array Oper)(ms:List Nat)(lw:Option LW):KCode:=
 .dreg (kdopers P lw sl ops (V_v N ops.toList) ms ops.toList ms (inters (Z_m ms) (blinds lw ops.toList) ms) 0 0) (Z_x sl ops.toList) lw
def Ai8(P:Program)(N:Nat)(sl:List Nat)(ops:Array Oper)(ms:List Nat):KCode:=match W_8 (dstsOf ops.toList) with
 |true=>Bk5 P N sl ops ms (lwOf P sl ops ms)
 |false=>.bad
def Ai6(P:Program)(N:Nat)(sl:List Nat)(ops:Array Oper):KCode:=match befs ops.toList 0 [] with
 |some ms=>Ai8 P N sl ops ms
 |none=>.bad
def c_p:List Oper→Bool
 |[]=>true
 |o::os=>match o.op with
  |.defer _=>false
  |_=>c_p os
def c_o:Code→Bool
 |.seq a b=>andB (c_o a) (c_o b)
 |.cond _ a b=>andB (c_o a) (c_o b)
 |.block _ b=>c_o b
 |.loop b=>c_o b
 |.region _ ops _=>c_p ops.toList
 |_=>true
def kcode(P:Program)(N:Nat)(sl:List Nat):Code→KCode
 |.skip=>.skip
 |.ret=>.ret
 |.exit id=>.exit id
 |.seq a b=>.seq (kcode P N sl a) (kcode P N sl b)
 |.cond c a b=>match gx (K_d sl []) c with
  |some x=>.cond (msOf sl (Nat.lor (mods sl a) (mods sl b))) x (kcode P N sl a) (kcode P N sl b)
  |none=>.bad
 |.block id b=>.block (msOf sl (mods sl b)) id (kcode P N sl b)
 |.loop b=>.loop (msOf sl (mods sl b)) (kcode P N sl b)
 | .rangeFunc f ps a b => match gx (K_d sl []) f with
  |some x=>match andB (c_o a) (c_o b) with
   |true=>.rfun x (ps.toList.map (slot sl)) (kcode P N sl a) (kcode P N sl b)
   |false=>.bad
  |none=>.bad
 |.region _ ops draw=>match draw with
  |false=>.reg (kopers P N sl ops ops.toList [])
  |true=>Ai6 P N sl ops
 |_=>.bad
def AX3(P:Program)(f:Func)(b:Code)(sl:List Nat):Option KFn:=match d_u f.ntmps sl with
 |false=>none
 |true=>match gres P sl f.results.toList with
  |some rs=>some ⟨kcode P f.ntmps sl b,P_z sl (f.params.size+f.nfree) 0,rs⟩
  |none=>none
def kfnF(P:Program)(f:Func):Option KFn:=match f.body with
 |some b=>AX3 P f b (W_u f.results.toList (L_4 b []))
 |none=>none
def KF(P:Program)(i:Nat):Option KFn:=match P.funcs.toList.drop i with
 |f::_=>kfnF P f
 |[]=>none
def z_l(P:Program)(N:Nat)(R:RnK)(f:FuncId)(args:List Value)(h:Hs):An:=match KF P f with
 |some g=>kfn noCT R N g args h
 |none=>none
def callT(P:Program)(N:Nat)(R:RnK)(f:FuncId)(args:List Value)(h:Hs):An:=match KF P f with
 |some g=>kfn (z_l P N) R N g args h
 |none=>none
def runK(tab:RnK→RnK)(d:Nat):RnK:=Nat.rec (motive:=λ_=>RnK) (λ_ _ _=>none) (λ_ R f args h=>ifB (Nat.beq f 1000000000) none (tab R f args h)) d
end
end Go.Gev
