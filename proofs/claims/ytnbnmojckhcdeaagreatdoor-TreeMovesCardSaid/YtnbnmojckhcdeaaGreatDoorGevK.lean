import Derived.Test.YtnbnmojckhcdeaaGreatDoorGevComp
namespace Go.Gev
noncomputable section
abbrev An:=Option Out
abbrev RnK:=FuncId→List Value→Hs→An
def toRn(R:RnK):Rn:=λt _ h=>match t with
 |.call f args=>R f args h
 |.code _=>none
abbrev KV:=Value→Hs→An
inductive KOp where
 |pure (pk:En→(Value→An)→An)
 |read (rk:En→Hs→(Value→An)→An)
 |gen (g:RnK→En→Hs→KV→An)
def tw0:Unit:=()
def tw1:Unit:=tw0
def tw2:Unit:=tw1
def tw3:Unit:=tw2
def tw4:Unit:=tw3
def tw5:Unit:=tw4
def tw6:Unit:=tw5
def tw7:Unit:=tw6
def tw8:Unit:=tw7
def tw9:Unit:=tw8
def tw10:Unit:=tw9
def tw11:Unit:=tw10
def tw12:Unit:=tw11
def tw13:Unit:=tw12
def tw14:Unit:=tw13
def tw15:Unit:=tw14
def tw16:Unit:=tw15
def tw17:Unit:=tw16
def tw18:Unit:=tw17
def tw19:Unit:=tw18
def tw20:Unit:=tw19
def tw21:Unit:=tw20
def tw22:Unit:=tw21
def tw23:Unit:=tw22
def tw24:Unit:=tw23
def tw25:Unit:=tw24
def tw26:Unit:=tw25
def tw27:Unit:=tw26
def tw28:Unit:=tw27
def tw29:Unit:=tw28
def tw30:Unit:=tw29
def tw31:Unit:=tw30
def tw32:Unit:=tw31
def tw33:Unit:=tw32
def tw34:Unit:=tw33
def tw35:Unit:=tw34
def tw36:Unit:=tw35
def tw37:Unit:=tw36
def tw38:Unit:=tw37
def tw39:Unit:=tw38
def tw40:Unit:=tw39
def kRun(k:KOp)(R:RnK)(en:En)(h:Hs)(K:KV):An:=(λ_:Unit=>
 KOp.rec (motive:=λ_=>An) (λpk=>pk en (λv=>K v h)) (λrk=>rk en h (λv=>K v h)) (λg=>g R en h K) k) tw40
def enE:En:=⟨.e,[]⟩
def Bd4(v:Value)(F:Bool→An):An:=
 Value.rec (motive_1:=λ_=>An) (motive_2:=λ_=>PUnit) (motive_3:=λ_=>PUnit) F (λ_ _=>none) (λ_ _=>none) (λ_ _ _=>none) (λ_=>none) (λ_=>none) (λ_ _ _=>none) (λ_=>none) (λ_=>none)
  (λ_ _ _ _ _=>none) none (λ_ _ _=>none) none (λ_ _=>none) (λ_ _=>none) (λ_ _=>⟨⟩) ⟨⟩ (λ_ _ _ _=>⟨⟩) v
def vInt(v:Value)(F:IntKind→Int→An):An:=
 Value.rec (motive_1:=λ_=>An) (motive_2:=λ_=>PUnit) (motive_3:=λ_=>PUnit) (λ_=>none) F (λ_ _=>none) (λ_ _ _=>none) (λ_=>none) (λ_=>none) (λ_ _ _=>none) (λ_=>none) (λ_=>none)
  (λ_ _ _ _ _=>none) none (λ_ _ _=>none) none (λ_ _=>none) (λ_ _=>none) (λ_ _=>⟨⟩) ⟨⟩ (λ_ _ _ _=>⟨⟩) v
def vStr(v:Value)(F:ByteArray→An):An:=
 Value.rec (motive_1:=λ_=>An) (motive_2:=λ_=>PUnit) (motive_3:=λ_=>PUnit) (λ_=>none) (λ_ _=>none) (λ_ _=>none) (λ_ _ _=>none) F (λ_=>none) (λ_ _ _=>none) (λ_=>none) (λ_=>none)
  (λ_ _ _ _ _=>none) none (λ_ _ _=>none) none (λ_ _=>none) (λ_ _=>none) (λ_ _=>⟨⟩) ⟨⟩ (λ_ _ _ _=>⟨⟩) v
def vPtr(v:Value)(F:Option Addr→An):An:=
 Value.rec (motive_1:=λ_=>An) (motive_2:=λ_=>PUnit) (motive_3:=λ_=>PUnit) (λ_=>none) (λ_ _=>none) (λ_ _=>none) (λ_ _ _=>none) (λ_=>none) F (λ_ _ _=>none) (λ_=>none) (λ_=>none)
  (λ_ _ _ _ _=>none) none (λ_ _ _=>none) none (λ_ _=>none) (λ_ _=>none) (λ_ _=>⟨⟩) ⟨⟩ (λ_ _ _ _=>⟨⟩) v
def Ay3(v:Value)(F:Option Addr→Nat→Nat→An):An:=
 Value.rec (motive_1:=λ_=>An) (motive_2:=λ_=>PUnit) (motive_3:=λ_=>PUnit) (λ_=>none) (λ_ _=>none) (λ_ _=>none) (λ_ _ _=>none) (λ_=>none) (λ_=>none) F (λ_=>none) (λ_=>none)
  (λ_ _ _ _ _=>none) none (λ_ _ _=>none) none (λ_ _=>none) (λ_ _=>none) (λ_ _=>⟨⟩) ⟨⟩ (λ_ _ _ _=>⟨⟩) v
def vAgg(v:Value)(F:Array Value→An):An:=
 Value.rec (motive_1:=λ_=>An) (motive_2:=λ_=>PUnit) (motive_3:=λ_=>PUnit) (λ_=>none) (λ_ _=>none) (λ_ _=>none) (λ_ _ _=>none) (λ_=>none) (λ_=>none) (λ_ _ _=>none) (λ_=>none) (λ_=>none)
  (λ_ _ _ _ _=>none) none (λ_ _ _=>none) none (λcs _=>F cs) (λ_ _=>none) (λ_ _=>⟨⟩) ⟨⟩ (λ_ _ _ _=>⟨⟩) v
def vTup(v:Value)(F:Array Value→An):An:=
 Value.rec (motive_1:=λ_=>An) (motive_2:=λ_=>PUnit) (motive_3:=λ_=>PUnit) (λ_=>none) (λ_ _=>none) (λ_ _=>none) (λ_ _ _=>none) (λ_=>none) (λ_=>none) (λ_ _ _=>none) (λ_=>none) (λ_=>none)
  (λ_ _ _ _ _=>none) none (λ_ _ _=>none) none (λ_ _=>none) (λvs _=>F vs) (λ_ _=>⟨⟩) ⟨⟩ (λ_ _ _ _=>⟨⟩) v
def cnd(v:Value)(a b:An):An:=Bd4 v λt=>Bool.rec (motive:=λ_=>An) b a t
def gdT(v:Value)(h:Hs)(f:KV→An)(K:KV):An:=
 Value.rec (motive_1:=λ_=>An) (motive_2:=λ_=>PUnit) (motive_3:=λ_=>PUnit) (λb=>Bool.rec (motive:=λ_=>An) (K undef' h) (f K) b) (λ_ _=>none) (λ_ _=>none) (λ_ _ _=>none) (λ_=>none) (λ_=>none) (λ_ _ _=>none) (λ_=>none) (λ_=>none)
  (λ_ _ _ _ _=>none) none (λ_ _ _=>none) none (λ_ _=>none) (λvs _=>List.rec (motive:=λ_=>An) (K undef' h) (λ_ _ _=>none) vs.toList) (λ_ _=>⟨⟩) ⟨⟩ (λ_ _ _ _=>⟨⟩) v
def gdF(v:Value)(h:Hs)(f:KV→An)(K:KV):An:=
 Value.rec (motive_1:=λ_=>An) (motive_2:=λ_=>PUnit) (motive_3:=λ_=>PUnit) (λb=>Bool.rec (motive:=λ_=>An) (f K) (K undef' h) b) (λ_ _=>none) (λ_ _=>none) (λ_ _ _=>none) (λ_=>none) (λ_=>none) (λ_ _ _=>none) (λ_=>none) (λ_=>none)
  (λ_ _ _ _ _=>none) none (λ_ _ _=>none) none (λ_ _=>none) (λvs _=>List.rec (motive:=λ_=>An) (K undef' h) (λ_ _ _=>none) vs.toList) (λ_ _=>⟨⟩) ⟨⟩ (λ_ _ _ _=>⟨⟩) v
def gK(g:Option (GX × Bool))(en:En)(h:Hs)(f:KV→An)(K:KV):An:=(λ_:Unit=>
 Option.rec (motive:=λ_=>An) (f K) (λp=>Prod.rec (motive:=λ_=>An) (λx want=>Bool.rec (motive:=λ_=>An) (gdF (ev en x) h f K) (gdT (ev en x) h f K) want) p) g) tw40
structure KOper where
 op:KOp
 dst:Option (List Bool)
 guard:Option (GX × Bool)
def cOps(R:RnK)(ops:List KOper):Fr→List Value→Hs→(Fr→Hs→An)→An:=(λ_:Unit=>
 List.rec (motive:=λ_=>Fr→List Value→Hs→(Fr→Hs→An)→An) (λfr _ h K=>K fr h)
  (λo _ ih fr loc h K=>gK o.guard ⟨fr,loc⟩ h (kRun o.op R ⟨fr,loc⟩ h) (λv h'=>ih (put o.dst v fr) (v::loc) h' K)) ops) tw40
structure KDOper where
 op:KOp
 old:DOper
def W_k : List Bool → List (Option (Nat × Nat)) → Tr Blk → Tr Blk
 |_,[],t=>t
 | bs, p :: ps, t => match p with
  |none=>W_k bs.tail ps t
  | some p => match bs with
   |[]=>W_j (Nat.sub p.2 p.1) p.1 (W_k [] ps t)
   |b::bs=>match b with
    |true=>W_k bs ps t
    |false=>W_j (Nat.sub p.2 p.1) p.1 (W_k bs ps t)
def R_q(k:DK)(lm:List Bool)(hist:List (Option (Nat × Nat)))(h:Hs):Hs:=
 DK.rec (motive:=λ_=>Hs) ⟨.e,h.nx,h.nx⟩ ⟨W_k lm hist h.hp,h.nx,h.nx⟩ h ⟨.e,h.nx,h.nx⟩ k
def v_p(fr:Fr)(h0:Hs)(d:DOper)(hist:List (Option (Nat × Nat)))(h:Hs):Hs:=
 Bool.rec (motive:=λ_=>Hs) (R_q d.kind d.lm hist h) (lowW fr h0 h d.lw) d.low
def kD (R : RnK) (fr : Fr) (h0 : Hs) (K : List Value → Hs → An) (ops : List KDOper) : List Value → List (Option (Nat × Nat)) → Hs → An := (fun _ : Unit =>
 List.rec (motive:=λ_=>List Value→List (Option (Nat × Nat))→Hs→An) (λloc _ h=>K loc h)
  (λo _ ih loc hist h=>
   KOp.rec (motive:=λ_=>An)
    (λpk=>gK o.old.guard ⟨fr,loc⟩ h (λk=>pk ⟨fr,loc⟩ (λv=>k v h)) (λv _=>ih (v::loc) (none::hist) h))
    (λrk=>gK o.old.guard ⟨fr,loc⟩ h (λk=>rk ⟨fr,loc⟩ (v_p fr h0 o.old hist h) (λv=>k v h)) (λv _=>ih (v::loc) (none::hist) h))
    (λg=>gK o.old.guard ⟨fr,loc⟩ h (λk=>g R ⟨fr,loc⟩ (v_p fr h0 o.old hist h) (λv h1=>dPut k v (F_u h h1 o.old.kind) (k_z fr h h1 o.old))) (λv h'=>ih (v::loc) (some (h.nx,h'.nx)::hist) h'))
    o.op) ops) tw40
def AW9(R:RnK)(ops:List KDOper)(pts:List (Option (List Bool)))(lw:Option LW)(fr:Fr)(h:Hs)(Kn:Fr→Hs→An):An:=(λ_:Unit=>
 Option.rec (motive:=λ_=>An) (kD R fr h (λloc h'=>Kn (putAll pts loc.reverse fr) h') ops [] [] h)
  (λp=>Bool.rec (motive:=λ_=>An) none (kD R fr (Q_f fr h (some p)) (λloc h'=>Kn (putAll pts loc.reverse fr) (dEnd fr h h' (some p))) ops [] [] (Q_f fr h (some p))) (Nat.ble (cutO fr (some p)) h.nx)) lw) tw40
def Tr.getK{α:Type}(t:Tr α):Nat→Option α:=
 Tr.rec (motive:=λ_=>Nat→Option α) (λ_=>none)
  (λv _ _ il ir k=>Nat.rec (motive:=λ_=>Option α) v (λm _=>Bool.rec (motive:=λ_=>Option α) (il (Nat.div m 2)) (ir (Nat.div m 2)) (Nat.beq (Nat.mod m 2) 0)) k) t
def Tr.setK{α:Type}(x:α)(t:Tr α):Nat→Tr α:=
 Tr.rec (motive:=λ_=>Nat→Tr α) (λk=>Tr.setp (some x) (pth k) .e)
  (λv l r il ir k=>Nat.rec (motive:=λ_=>Tr α) (.n (some x) l r) (λm _=>Bool.rec (motive:=λ_=>Tr α) (.n v (il (Nat.div m 2)) r) (.n v l (ir (Nat.div m 2))) (Nat.beq (Nat.mod m 2) 0)) k) t
def ifB(c:Bool)(a b:An):An:=Bool.rec (motive:=λ_=>An) b a c
def adK(a:Addr)(F:Nat→Nat→An):An:=Addr.rec (motive:=λ_=>An) (λb o s=>Option.rec (motive:=λ_=>An) (F b o) (λ_=>none) s) a
def w_e(v:Value)(F:Nat→Nat→An):An:=vPtr v λp=>Option.rec (motive:=λ_=>An) none (λa=>adK a F) p
def getB(h:Hs)(b:Nat)(F:Blk→An):An:=Option.rec (motive:=λ_=>An) none F (Tr.getK h.hp b)
def loF(lo b:Nat)(F:Nat→An):An:=Bool.rec (motive:=λ_=>An) (F b) (F lo) (Nat.ble lo b)
def E_d(R:RnK)(f:FuncId)(args:List Value)(h:Hs)(K:KV):An:=
 Option.rec (motive:=λ_=>An) none (λo=>Out.rec (motive:=λ_=>An) (λ_ _ _=>none) (λv h=>K v h) o) (R f args h)
abbrev CTy:=RnK→FuncId→List Value→Hs→An
def noCT:CTy:=λ_ _ _ _=>none
def AS8(v:Value)(d:An)(F:Nat→An):An:=
 Value.rec (motive_1:=λ_=>An) (motive_2:=λ_=>PUnit) (motive_3:=λ_=>PUnit) (λ_=>d) (λ_ _=>d) (λ_ _=>d) (λ_ _ _=>d) (λ_=>d) (λ_=>d) (λ_ _ _=>d) (λ_=>d) (λo=>Option.rec (motive:=λ_=>An) d F o)
  (λ_ _ _ _ _=>d) d (λ_ _ _=>d) d (λ_ _=>d) (λ_ _=>d) (λ_ _=>⟨⟩) ⟨⟩ (λ_ _ _ _=>⟨⟩) v
def Bd5(v:Value)(F:Fn→List Value→List Value→An):An:=
 Value.rec (motive_1:=λ_=>An) (motive_2:=λ_=>PUnit) (motive_3:=λ_=>PUnit) (λ_=>none) (λ_ _=>none) (λ_ _=>none) (λ_ _ _=>none) (λ_=>none) (λ_=>none) (λ_ _ _=>none) (λ_=>none) (λ_=>none)
  (λfn first cap _ _=>F fn first.toList cap.toList) none (λ_ _ _=>none) none (λ_ _=>none) (λ_ _=>none) (λ_ _=>⟨⟩) ⟨⟩ (λ_ _ _ _=>⟨⟩) v
def nilC{α:Type}(l:List α)(a:An):An:=List.rec (motive:=λ_=>An) a (λ_ _ _=>none) l
def YID:Nat:=1000000000
def extR(l:Nat)(hd:List Value→Hs→An)(R:RnK):RnK:=λf args h=>ifB (Nat.beq f 1000000000)
 (List.rec (motive:=λ_=>An) none (λa xs _=>AS8 a none λk=>ifB (Nat.beq k l) (hd xs h) none) args) (R f args h)
def i_c(h:Hs)(l:Nat)(F:Nat→An):An:=getB h l λB=>
 Blk.rec (motive:=λ_=>An) (λ_ _ _ _ _ _=>none) (λ_ _=>none) (λ_ _ _ _=>none) F B
def Bc2(h:Hs)(l st:Nat)(F:Hs→An):An:=Hs.rec (motive:=λ_=>An) (λhp nx lo=>loF lo l λlo'=>F ⟨Tr.setK (.lp st) hp l,nx,lo'⟩) h
def Bi1(h:Hs)(l:Nat)(F:Hs→An):An:=Hs.rec (motive:=λ_=>An) (λhp nx lo=>loF lo l λlo'=>F ⟨Tr.set hp l none,nx,lo'⟩) h
def Bx0(l:Nat)(h:Hs)(K:Hs→An):An:=i_c h l λst=>Nat.rec (motive:=λ_=>An) (Bc2 h l 1 K) (λ_ _=>none) st
def endR(l st:Nat)(b:Bool)(h:Hs):An:=i_c h l λs=>Nat.rec (motive:=λ_=>An) none (λp _=>Nat.rec (motive:=λ_=>An) (Bc2 h l st λh'=>some (.val (.bool b) h')) (λ_ _=>none) p) s
def finR(l:Nat)(h:Hs)(Kn Kr:Hs→An)(Ke:Nat→Hs→An):An:=i_c h l λs=>Bi1 h l λh'=>
 Nat.rec (motive:=λ_=>An) (Kn h') (λs1 _=>Nat.rec (motive:=λ_=>An) none (λs2 _=>Nat.rec (motive:=λ_=>An) (Kr h') (λid _=>Ke id h') s2) s1) s
def fnG(fn:Fn)(F:FuncId→An):An:=Fn.rec (motive:=λ_=>An) F (λ_=>none) (λ_ _=>none) (λ_ _ _ _=>none) (λ_=>none) fn
def kRf(CT:CTy)(R:RnK)(v:Value)(h:Hs)(hd:Nat→List Value→Hs→An)(Kn Kr:Hs→An)(Ke:Nat→Hs→An):An:=Bd5 v λfn first lb=>fnG fn λg=>nilC first
 (Hs.rec (motive:=λ_=>An) (λhp nx lo=>E_d (CT (extR nx (hd nx) R)) g (.func (.yield nx) #[] #[]::lb) ⟨Tr.setK (.lp 0) hp nx,Nat.succ nx,lo⟩ (λ_ h2=>finR nx h2 Kn Kr Ke)) h)
def s_u(R:RnK)(v:Value)(args:List Value)(h:Hs)(K:KV):An:=Bd5 v λfn first lb=>
 Fn.rec (motive:=λ_=>An) (λg=>E_d R g (first++args++lb) h K) (λ_=>none) (λ_ _=>none) (λ_ _ _ _=>none) (λl=>E_d R 1000000000 (.chan (some l)::args) h K) fn
def allA:List An→An
 |[]=>none
 |[a]=>a
 |a::b::l=>open Classical in if ∀x∈b::l,x=a then a else none
def leftE(seen:List Nat):List MapEntry→List MapEntry
 |[]=>[]
 |e::es=>match seen.contains e.born with
  |true=>leftE seen es
  |false=>e::leftE seen es
def X_b(since:Nat):List MapEntry→Bool
 |[]=>true
 |e::es=>match Nat.blt e.born since with
  |true=>X_b since es
  |false=>false
def bornOk(since:Nat)(es:List MapEntry):Bool:=match R_v es with
 |true=>false
 |false=>X_b since es
def nextE(h:Hs)(b k since:Nat)(seen:List Nat)(cl:Nat)(K:KV)(e:MapEntry):An:=match keyC e.key with
 |true=>K (.tuple #[.bool true,e.key,e.val]) ⟨Tr.setK (.it (some k) since (seen ++ [e.born]) cl) h.hp b,h.nx,minN h.lo b⟩
 |false=>none
def nextL(h:Hs)(b k since:Nat)(seen:List Nat)(cl:Nat)(K:KV):List MapEntry→An
 |[]=>K (.tuple #[.bool false]) h
 |e::es=>allA ((e::es).map (nextE h b k since seen cl K))
def nextM(h:Hs)(b k since:Nat)(seen:List Nat)(la:Nat)(K:KV)(es:List MapEntry)(cl:Nat):An:=match andB (bornOk since es) (Nat.ble since la) with
 |true=>nextL h b k since seen cl K (leftE seen es)
 |false=>none
def kNext(v:Value)(h:Hs)(K:KV):An:=w_e v λb o=>Nat.rec (motive:=λ_=>An) (getB h b λB=>
 Blk.rec (motive:=λ_=>An) (λ_ _ _ _ _ _=>none) (λ_ _=>none) (λm since seen la=>Option.rec (motive:=λ_=>An) (K (.tuple #[.bool false]) h)
  (λk=>getB h k λBm=>Blk.rec (motive:=λ_=>An) (λ_ _ _ _ _ _=>none) (λes cl=>nextM h b k since seen la K es cl) (λ_ _ _ _=>none) (λ_=>none) Bm) m) (λ_=>none) B) (λ_ _=>none) o
inductive KCode where
 |skip
 |ret
 |exit (id:Nat)
 |seq (a b:KCode)
 |cond (ms:List (List Bool)) (c:GX) (a b:KCode)
 |block (ms:List (List Bool)) (id:Nat) (b:KCode)
 |loop (ms:List (List Bool)) (b:KCode)
 |reg (ops:List KOper)
 |dreg (ops:List KDOper) (pts:List (Option (List Bool))) (lw:Option LW)
 |rfun (f:GX) (ps:List (Option (List Bool))) (a b:KCode)
 |bad
def Ar:List (List Bool)→Type
 |[]=>Hs→An
 |_::ps=>Value→Ar ps
def lam:(ps:List (List Bool))→(Fr→Hs→An)→Fr→Ar ps
 |[],F,fr=>λh=>F fr h
 |p::ps,F,fr=>λv=>lam ps F (fr.setp (some v) p)
def app:(ps:List (List Bool))→Ar ps→Fr→Hs→An
 |[],k,_,h=>k h
 |p::ps,k,fr,h=>app ps (k (vOr (fr.getp p))) fr h
def bot:(ps:List (List Bool))→Ar ps
 |[]=>λ_=>none
 |_::ps=>λ_=>bot ps
def jn{T:Type}(k:T)(F:T→An):An:=F k
def lpT{T:Type}(b:T)(N:Nat)(G:T→T):T:=Nat.rec (motive:=λ_=>T) b (λ_ ih=>G ih) N
def unC(args:List Value)(F:Value→List Value→An):An:=List.rec (motive:=λ_=>An) none (λv vs _=>F v vs) args
def unE(ps:List (Option (List Bool))):List Value→Fr→(Fr→An)→An:=
 List.rec (motive:=λ_=>List Value→Fr→(Fr→An)→An) (λargs fr K=>nilC args (K fr)) (λp _ ih args fr K=>unC args (λv vs=>ih vs (put p v fr) K)) ps
def Aq7(ps:List (Option (List Bool)))(ia ib:Fr→Hs→(Fr→Hs→An)→(Fr→Hs→An)→(Nat→Fr→Hs→An)→An)(fr:Fr)(l:Nat)(xs:List Value)(h:Hs):An:=
 i_c h l λ_=>unE ps xs fr λfr1=>ia fr1 h (λfr2 h2=>Bx0 l h2 λh3=>ib fr2 h3 (λ_ h4=>endR l 0 true h4) (λ_ h4=>endR l 2 false h4) (λid _ h4=>endR l (Nat.succ (Nat.succ (Nat.succ id))) false h4)) (λ_ _=>none) (λ_ _ _=>none)
def cev(R:RnK)(N:Nat)(c:KCode):CTy→Fr→Hs→(Fr→Hs→An)→(Fr→Hs→An)→(Nat→Fr→Hs→An)→An:=
 KCode.rec (motive:=λ_=>CTy→Fr→Hs→(Fr→Hs→An)→(Fr→Hs→An)→(Nat→Fr→Hs→An)→An)
  (λ_ fr h Kn _ _=>Kn fr h)
  (λ_ fr h _ Kr _=>Kr fr h)
  (λid _ fr h _ _ Ke=>Ke id fr h)
  (λ_ _ ia ib CT fr h Kn Kr Ke=>ia CT fr h (λfr h=>ib CT fr h Kn Kr Ke) Kr Ke)
  (λms c _ _ ia ib CT fr h Kn Kr Ke=>jn (lam ms Kn fr) (λk=>cnd (ev ⟨fr,[]⟩ c) (ia CT fr h (λfr' h'=>app ms k fr' h') Kr Ke) (ib CT fr h (λfr' h'=>app ms k fr' h') Kr Ke)))
  (λms id _ ib CT fr h Kn Kr Ke=>jn (lam ms Kn fr) (λk=>ib CT fr h (λfr' h'=>app ms k fr' h') Kr (λid' fr' h'=>Bool.rec (motive:=λ_=>An) (Ke id' fr' h') (app ms k fr' h') (Nat.beq id' id))))
  (λms _ ib CT fr h _ Kr Ke=>app ms (lpT (bot ms) N (λself=>lam ms (λfr h=>ib CT fr h (λfr' h'=>app ms self fr' h') Kr Ke) fr)) fr h)
  (λops _ fr h Kn _ _=>cOps R ops fr [] h Kn)
  (λops pts lw _ fr h Kn _ _=>AW9 R ops pts lw fr h Kn)
  (λf ps _ _ ia ib CT fr h Kn Kr Ke=>kRf CT R (ev ⟨fr,[]⟩ f) h (Aq7 ps (ia noCT) (ib noCT) fr) (Kn fr) (Kr fr) (λid h'=>Ke id fr h'))
  (λ_ _ _ _ _ _=>none)
  c
structure KFn where
 body:KCode
 pars:List (Option (List Bool))
 res:List GRes
def unl(ps:List (Option (List Bool))):List Value→Fr→(Fr→An)→An:=
 List.rec (motive:=λ_=>List Value→Fr→(Fr→An)→An) (λ_ fr K=>K fr) (λp _ ih args fr K=>unC args (λv vs=>ih vs (put p v fr) K)) ps
def clrS(h0:Hs)(v:Value)(h:Hs):An:=clear2 h0 v h (M_r h.hp h0.nx ⟨h0.hp,h0.nx,[]⟩ v)
def clrL(h0:Hs)(v:Value)(h:Hs)(vs:List Value):An:=Bool.rec (motive:=λ_=>An) (clrS h0 v h) (some (.val v ⟨h0.hp,h0.nx,h0.lo⟩)) (F_e vs)
def clrV(h0:Hs)(v:Value)(h:Hs):An:=
 Value.rec (motive_1:=λ_=>An) (motive_2:=λ_=>PUnit) (motive_3:=λ_=>PUnit) (λ_=>some (.val v ⟨h0.hp,h0.nx,h0.lo⟩)) (λ_ _=>some (.val v ⟨h0.hp,h0.nx,h0.lo⟩)) (λ_ _=>clrS h0 v h) (λ_ _ _=>clrS h0 v h) (λ_=>some (.val v ⟨h0.hp,h0.nx,h0.lo⟩)) (λ_=>clrS h0 v h) (λ_ _ _=>clrS h0 v h) (λ_=>clrS h0 v h) (λ_=>clrS h0 v h)
  (λ_ _ _ _ _=>clrS h0 v h) (clrS h0 v h) (λ_ _ _=>clrS h0 v h) (clrS h0 v h) (λcs _=>clrL h0 v h cs.toList) (λvs _=>clrL h0 v h vs.toList) (λ_ _=>⟨⟩) ⟨⟩ (λ_ _ _ _=>⟨⟩) v
def clrK(h0:Hs)(v:Value)(h:Hs):An:=
 Bool.rec (motive:=λ_=>An) (Bool.rec (motive:=λ_=>An) (some (.val v ⟨h.hp,h.nx,h.lo⟩)) (some (.val v ⟨h.hp,h.nx,h0.lo⟩)) (Nat.ble h0.lo h.lo)) (clrV h0 v h) (Nat.ble h0.nx h.lo)
def r_q:List GRes→Option (List GX)
 |[]=>some []
 | r :: rs => match r with
  |.t x=>match r_q rs with
   |some xs=>some (x::xs)
   |none=>none
  |.cell _ _ _=>none
def x_r:List Value→Value
 |[]=>.tuple #[]
 |v::ws=>match ws with
  |[]=>v
  |w::us=>.tuple (v::w::us).toArray
def fin(h0:Hs)(rs:List GRes)(fr:Fr)(h:Hs):An:=
 Option.rec (motive:=λ_=>An) (D_4 h0 (G_p h (resV ⟨fr,[]⟩ h rs))) (λxs=>clrK h0 (x_r (evL ⟨fr,[]⟩ xs)) h) (r_q rs)
def enK(h:Hs)(F:Hs→An):An:=Hs.rec (motive:=λ_=>An) (λhp nx _=>F ⟨hp,nx,nx⟩) h
def kfn(CT:CTy)(R:RnK)(N:Nat)(g:KFn)(args:List Value)(h:Hs):An:=
 unl g.pars args .e (λfr=>enK h (λh1=>cev R N g.body CT fr h1 (fin h g.res) (fin h g.res) (λ_ _ _=>none)))
end
end Go.Gev
