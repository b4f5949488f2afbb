/- The evaluator in continuation form, which the kernel runs fast: definitions. -/
import Derived.Test.YtndlcnfnoiabbaaGevComp
namespace Go.Gev
noncomputable section
abbrev An := Option Out
abbrev RnK := FuncId → List Value → Hs → An
def toRn (R : RnK) : Rn := fun t _ h => match t with
 | .call f args => R f args h
 | .code _ => none
abbrev KV := Value → Hs → An
inductive KOp where
 | pure (pk : En → (Value → An) → An)
 | read (rk : En → Hs → (Value → An) → An)
 | gen (g : RnK → En → Hs → KV → An)
def tw0 : Unit := ()
def tw1 : Unit := tw0
def tw2 : Unit := tw1
def tw3 : Unit := tw2
def tw4 : Unit := tw3
def tw5 : Unit := tw4
def tw6 : Unit := tw5
def tw7 : Unit := tw6
def tw8 : Unit := tw7
def tw9 : Unit := tw8
def tw10 : Unit := tw9
def tw11 : Unit := tw10
def tw12 : Unit := tw11
def tw13 : Unit := tw12
def tw14 : Unit := tw13
def tw15 : Unit := tw14
def tw16 : Unit := tw15
def tw17 : Unit := tw16
def tw18 : Unit := tw17
def tw19 : Unit := tw18
def tw20 : Unit := tw19
def tw21 : Unit := tw20
def tw22 : Unit := tw21
def tw23 : Unit := tw22
def tw24 : Unit := tw23
def tw25 : Unit := tw24
def tw26 : Unit := tw25
def tw27 : Unit := tw26
def tw28 : Unit := tw27
def tw29 : Unit := tw28
def tw30 : Unit := tw29
def tw31 : Unit := tw30
def tw32 : Unit := tw31
def tw33 : Unit := tw32
def tw34 : Unit := tw33
def tw35 : Unit := tw34
def tw36 : Unit := tw35
def tw37 : Unit := tw36
def tw38 : Unit := tw37
def tw39 : Unit := tw38
def tw40 : Unit := tw39
def kRun (k : KOp) (R : RnK) (en : En) (h : Hs) (K : KV) : An := (fun _ : Unit =>
 KOp.rec (motive := fun _ => An) (fun pk => pk en (fun v => K v h)) (fun rk => rk en h (fun v => K v h)) (fun g => g R en h K) k) tw40
def enE : En := ⟨.e, []⟩
def vBool (v : Value) (F : Bool → An) : An :=
 Value.rec (motive_1 := fun _ => An) (motive_2 := fun _ => PUnit) (motive_3 := fun _ => PUnit) F (fun _ _ => none) (fun _ _ => none) (fun _ _ _ => none) (fun _ => none) (fun _ => none) (fun _ _ _ => none) (fun _ => none) (fun _ => none)
  (fun _ _ _ _ _ => none) none (fun _ _ _ => none) none (fun _ _ => none) (fun _ _ => none) (fun _ _ => ⟨⟩) ⟨⟩ (fun _ _ _ _ => ⟨⟩) v
def vInt (v : Value) (F : IntKind → Int → An) : An :=
 Value.rec (motive_1 := fun _ => An) (motive_2 := fun _ => PUnit) (motive_3 := fun _ => PUnit) (fun _ => none) F (fun _ _ => none) (fun _ _ _ => none) (fun _ => none) (fun _ => none) (fun _ _ _ => none) (fun _ => none) (fun _ => none)
  (fun _ _ _ _ _ => none) none (fun _ _ _ => none) none (fun _ _ => none) (fun _ _ => none) (fun _ _ => ⟨⟩) ⟨⟩ (fun _ _ _ _ => ⟨⟩) v
def vStr (v : Value) (F : ByteArray → An) : An :=
 Value.rec (motive_1 := fun _ => An) (motive_2 := fun _ => PUnit) (motive_3 := fun _ => PUnit) (fun _ => none) (fun _ _ => none) (fun _ _ => none) (fun _ _ _ => none) F (fun _ => none) (fun _ _ _ => none) (fun _ => none) (fun _ => none)
  (fun _ _ _ _ _ => none) none (fun _ _ _ => none) none (fun _ _ => none) (fun _ _ => none) (fun _ _ => ⟨⟩) ⟨⟩ (fun _ _ _ _ => ⟨⟩) v
def vPtr (v : Value) (F : Option Addr → An) : An :=
 Value.rec (motive_1 := fun _ => An) (motive_2 := fun _ => PUnit) (motive_3 := fun _ => PUnit) (fun _ => none) (fun _ _ => none) (fun _ _ => none) (fun _ _ _ => none) (fun _ => none) F (fun _ _ _ => none) (fun _ => none) (fun _ => none)
  (fun _ _ _ _ _ => none) none (fun _ _ _ => none) none (fun _ _ => none) (fun _ _ => none) (fun _ _ => ⟨⟩) ⟨⟩ (fun _ _ _ _ => ⟨⟩) v
def vSlice (v : Value) (F : Option Addr → Nat → Nat → An) : An :=
 Value.rec (motive_1 := fun _ => An) (motive_2 := fun _ => PUnit) (motive_3 := fun _ => PUnit) (fun _ => none) (fun _ _ => none) (fun _ _ => none) (fun _ _ _ => none) (fun _ => none) (fun _ => none) F (fun _ => none) (fun _ => none)
  (fun _ _ _ _ _ => none) none (fun _ _ _ => none) none (fun _ _ => none) (fun _ _ => none) (fun _ _ => ⟨⟩) ⟨⟩ (fun _ _ _ _ => ⟨⟩) v
def vAgg (v : Value) (F : Array Value → An) : An :=
 Value.rec (motive_1 := fun _ => An) (motive_2 := fun _ => PUnit) (motive_3 := fun _ => PUnit) (fun _ => none) (fun _ _ => none) (fun _ _ => none) (fun _ _ _ => none) (fun _ => none) (fun _ => none) (fun _ _ _ => none) (fun _ => none) (fun _ => none)
  (fun _ _ _ _ _ => none) none (fun _ _ _ => none) none (fun cs _ => F cs) (fun _ _ => none) (fun _ _ => ⟨⟩) ⟨⟩ (fun _ _ _ _ => ⟨⟩) v
def vTup (v : Value) (F : Array Value → An) : An :=
 Value.rec (motive_1 := fun _ => An) (motive_2 := fun _ => PUnit) (motive_3 := fun _ => PUnit) (fun _ => none) (fun _ _ => none) (fun _ _ => none) (fun _ _ _ => none) (fun _ => none) (fun _ => none) (fun _ _ _ => none) (fun _ => none) (fun _ => none)
  (fun _ _ _ _ _ => none) none (fun _ _ _ => none) none (fun _ _ => none) (fun vs _ => F vs) (fun _ _ => ⟨⟩) ⟨⟩ (fun _ _ _ _ => ⟨⟩) v
def cnd (v : Value) (a b : An) : An := vBool v fun t => Bool.rec (motive := fun _ => An) b a t
def gdT (v : Value) (h : Hs) (f : KV → An) (K : KV) : An :=
 Value.rec (motive_1 := fun _ => An) (motive_2 := fun _ => PUnit) (motive_3 := fun _ => PUnit) (fun b => Bool.rec (motive := fun _ => An) (K undef' h) (f K) b) (fun _ _ => none) (fun _ _ => none) (fun _ _ _ => none) (fun _ => none) (fun _ => none) (fun _ _ _ => none) (fun _ => none) (fun _ => none)
  (fun _ _ _ _ _ => none) none (fun _ _ _ => none) none (fun _ _ => none) (fun vs _ => List.rec (motive := fun _ => An) (K undef' h) (fun _ _ _ => none) vs.toList) (fun _ _ => ⟨⟩) ⟨⟩ (fun _ _ _ _ => ⟨⟩) v
def gdF (v : Value) (h : Hs) (f : KV → An) (K : KV) : An :=
 Value.rec (motive_1 := fun _ => An) (motive_2 := fun _ => PUnit) (motive_3 := fun _ => PUnit) (fun b => Bool.rec (motive := fun _ => An) (f K) (K undef' h) b) (fun _ _ => none) (fun _ _ => none) (fun _ _ _ => none) (fun _ => none) (fun _ => none) (fun _ _ _ => none) (fun _ => none) (fun _ => none)
  (fun _ _ _ _ _ => none) none (fun _ _ _ => none) none (fun _ _ => none) (fun vs _ => List.rec (motive := fun _ => An) (K undef' h) (fun _ _ _ => none) vs.toList) (fun _ _ => ⟨⟩) ⟨⟩ (fun _ _ _ _ => ⟨⟩) v
def gK (g : Option (GX × Bool)) (en : En) (h : Hs) (f : KV → An) (K : KV) : An := (fun _ : Unit =>
 Option.rec (motive := fun _ => An) (f K) (fun p => Prod.rec (motive := fun _ => An) (fun x want => Bool.rec (motive := fun _ => An) (gdF (ev en x) h f K) (gdT (ev en x) h f K) want) p) g) tw40
structure KOper where
 op : KOp
 dst : Option (List Bool)
 guard : Option (GX × Bool)
def cOps (R : RnK) (ops : List KOper) : Fr → List Value → Hs → (Fr → Hs → An) → An := (fun _ : Unit =>
 List.rec (motive := fun _ => Fr → List Value → Hs → (Fr → Hs → An) → An) (fun fr _ h K => K fr h)
  (fun o _ ih fr loc h K => gK o.guard ⟨fr, loc⟩ h (kRun o.op R ⟨fr, loc⟩ h) (fun v h' => ih (put o.dst v fr) (v :: loc) h' K)) ops) tw40
structure KDOper where
 op : KOp
 old : DOper
def hideS : List Bool → List (Option (Nat × Nat)) → Tr Blk → Tr Blk
 | _, [], t => t
 | bs, p :: ps, t => match p with
  | none => hideS bs.tail ps t
  | some p => match bs with
   | [] => hideN (Nat.sub p.2 p.1) p.1 (hideS [] ps t)
   | b :: bs => match b with
    | true => hideS bs ps t
    | false => hideN (Nat.sub p.2 p.1) p.1 (hideS bs ps t)
def dHidS (k : DK) (lm : List Bool) (hist : List (Option (Nat × Nat))) (h : Hs) : Hs :=
 DK.rec (motive := fun _ => Hs) ⟨.e, h.nx, h.nx⟩ ⟨hideS lm hist h.hp, h.nx, h.nx⟩ h ⟨.e, h.nx, h.nx⟩ k
def dHidV (fr : Fr) (h0 : Hs) (d : DOper) (hist : List (Option (Nat × Nat))) (h : Hs) : Hs :=
 Bool.rec (motive := fun _ => Hs) (dHidS d.kind d.lm hist h) (lowW fr h0 h d.lw) d.low
def kD (R : RnK) (fr : Fr) (h0 : Hs) (K : List Value → Hs → An) (ops : List KDOper) : List Value → List (Option (Nat × Nat)) → Hs → An := (fun _ : Unit =>
 List.rec (motive := fun _ => List Value → List (Option (Nat × Nat)) → Hs → An) (fun loc _ h => K loc h)
  (fun o _ ih loc hist h =>
   KOp.rec (motive := fun _ => An)
    (fun pk => gK o.old.guard ⟨fr, loc⟩ h (fun k => pk ⟨fr, loc⟩ (fun v => k v h)) (fun v _ => ih (v :: loc) (none :: hist) h))
    (fun rk => gK o.old.guard ⟨fr, loc⟩ h (fun k => rk ⟨fr, loc⟩ (dHidV fr h0 o.old hist h) (fun v => k v h)) (fun v _ => ih (v :: loc) (none :: hist) h))
    (fun g => gK o.old.guard ⟨fr, loc⟩ h (fun k => g R ⟨fr, loc⟩ (dHidV fr h0 o.old hist h) (fun v h1 => dPut k v (dNext h h1 o.old.kind) (dFitW fr h h1 o.old))) (fun v h' => ih (v :: loc) (some (h.nx, h'.nx) :: hist) h'))
    o.op) ops) tw40
def kDreg (R : RnK) (ops : List KDOper) (pts : List (Option (List Bool))) (lw : Option LW) (fr : Fr) (h : Hs) (Kn : Fr → Hs → An) : An := (fun _ : Unit =>
 Option.rec (motive := fun _ => An) (kD R fr h (fun loc h' => Kn (putAll pts loc.reverse fr) h') ops [] [] h)
  (fun p => Bool.rec (motive := fun _ => An) none (kD R fr (dStart fr h (some p)) (fun loc h' => Kn (putAll pts loc.reverse fr) (dEnd fr h h' (some p))) ops [] [] (dStart fr h (some p))) (Nat.ble (cutO fr (some p)) h.nx)) lw) tw40
def Tr.getK {α : Type} (t : Tr α) : Nat → Option α :=
 Tr.rec (motive := fun _ => Nat → Option α) (fun _ => none)
  (fun v _ _ il ir k => Nat.rec (motive := fun _ => Option α) v (fun m _ => Bool.rec (motive := fun _ => Option α) (il (Nat.div m 2)) (ir (Nat.div m 2)) (Nat.beq (Nat.mod m 2) 0)) k) t
def Tr.setK {α : Type} (x : α) (t : Tr α) : Nat → Tr α :=
 Tr.rec (motive := fun _ => Nat → Tr α) (fun k => Tr.setp (some x) (pth k) .e)
  (fun v l r il ir k => Nat.rec (motive := fun _ => Tr α) (.n (some x) l r) (fun m _ => Bool.rec (motive := fun _ => Tr α) (.n v (il (Nat.div m 2)) r) (.n v l (ir (Nat.div m 2))) (Nat.beq (Nat.mod m 2) 0)) k) t
def ifB (c : Bool) (a b : An) : An := Bool.rec (motive := fun _ => An) b a c
def adK (a : Addr) (F : Nat → Nat → An) : An := Addr.rec (motive := fun _ => An) (fun b o s => Option.rec (motive := fun _ => An) (F b o) (fun _ => none) s) a
def kAddr (v : Value) (F : Nat → Nat → An) : An := vPtr v fun p => Option.rec (motive := fun _ => An) none (fun a => adK a F) p
def getB (h : Hs) (b : Nat) (F : Blk → An) : An := Option.rec (motive := fun _ => An) none F (Tr.getK h.hp b)
def loF (lo b : Nat) (F : Nat → An) : An := Bool.rec (motive := fun _ => An) (F b) (F lo) (Nat.ble lo b)
def kCall (R : RnK) (f : FuncId) (args : List Value) (h : Hs) (K : KV) : An :=
 Option.rec (motive := fun _ => An) none (fun o => Out.rec (motive := fun _ => An) (fun _ _ _ => none) (fun v h => K v h) o) (R f args h)
abbrev CTy := RnK → FuncId → List Value → Hs → An
def noCT : CTy := fun _ _ _ _ => none
def chanR (v : Value) (d : An) (F : Nat → An) : An :=
 Value.rec (motive_1 := fun _ => An) (motive_2 := fun _ => PUnit) (motive_3 := fun _ => PUnit) (fun _ => d) (fun _ _ => d) (fun _ _ => d) (fun _ _ _ => d) (fun _ => d) (fun _ => d) (fun _ _ _ => d) (fun _ => d) (fun o => Option.rec (motive := fun _ => An) d F o)
  (fun _ _ _ _ _ => d) d (fun _ _ _ => d) d (fun _ _ => d) (fun _ _ => d) (fun _ _ => ⟨⟩) ⟨⟩ (fun _ _ _ _ => ⟨⟩) v
def vFunc (v : Value) (F : Fn → List Value → List Value → An) : An :=
 Value.rec (motive_1 := fun _ => An) (motive_2 := fun _ => PUnit) (motive_3 := fun _ => PUnit) (fun _ => none) (fun _ _ => none) (fun _ _ => none) (fun _ _ _ => none) (fun _ => none) (fun _ => none) (fun _ _ _ => none) (fun _ => none) (fun _ => none)
  (fun fn first cap _ _ => F fn first.toList cap.toList) none (fun _ _ _ => none) none (fun _ _ => none) (fun _ _ => none) (fun _ _ => ⟨⟩) ⟨⟩ (fun _ _ _ _ => ⟨⟩) v
def nilC {α : Type} (l : List α) (a : An) : An := List.rec (motive := fun _ => An) a (fun _ _ _ => none) l
def YID : Nat := 1000000000
def extR (l : Nat) (hd : List Value → Hs → An) (R : RnK) : RnK := fun f args h => ifB (Nat.beq f 1000000000)
 (List.rec (motive := fun _ => An) none (fun a xs _ => chanR a none fun k => ifB (Nat.beq k l) (hd xs h) none) args) (R f args h)
def getLp (h : Hs) (l : Nat) (F : Nat → An) : An := getB h l fun B =>
 Blk.rec (motive := fun _ => An) (fun _ _ _ _ _ _ => none) (fun _ _ => none) (fun _ _ _ _ => none) F B
def setLp (h : Hs) (l st : Nat) (F : Hs → An) : An := Hs.rec (motive := fun _ => An) (fun hp nx lo => loF lo l fun lo' => F ⟨Tr.setK (.lp st) hp l, nx, lo'⟩) h
def delLp (h : Hs) (l : Nat) (F : Hs → An) : An := Hs.rec (motive := fun _ => An) (fun hp nx lo => loF lo l fun lo' => F ⟨Tr.set hp l none, nx, lo'⟩) h
def busyH (l : Nat) (h : Hs) (K : Hs → An) : An := getLp h l fun st => Nat.rec (motive := fun _ => An) (setLp h l 1 K) (fun _ _ => none) st
def endR (l st : Nat) (b : Bool) (h : Hs) : An := getLp h l fun s => Nat.rec (motive := fun _ => An) none (fun p _ => Nat.rec (motive := fun _ => An) (setLp h l st fun h' => some (.val (.bool b) h')) (fun _ _ => none) p) s
def finR (l : Nat) (h : Hs) (Kn Kr : Hs → An) (Ke : Nat → Hs → An) : An := getLp h l fun s => delLp h l fun h' =>
 Nat.rec (motive := fun _ => An) (Kn h') (fun s1 _ => Nat.rec (motive := fun _ => An) none (fun s2 _ => Nat.rec (motive := fun _ => An) (Kr h') (fun id _ => Ke id h') s2) s1) s
def fnG (fn : Fn) (F : FuncId → An) : An := Fn.rec (motive := fun _ => An) F (fun _ => none) (fun _ _ => none) (fun _ _ _ _ => none) (fun _ => none) fn
def kRf (CT : CTy) (R : RnK) (v : Value) (h : Hs) (hd : Nat → List Value → Hs → An) (Kn Kr : Hs → An) (Ke : Nat → Hs → An) : An := vFunc v fun fn first lb => fnG fn fun g => nilC first
 (Hs.rec (motive := fun _ => An) (fun hp nx lo => kCall (CT (extR nx (hd nx) R)) g (.func (.yield nx) #[] #[] :: lb) ⟨Tr.setK (.lp 0) hp nx, Nat.succ nx, lo⟩ (fun _ h2 => finR nx h2 Kn Kr Ke)) h)
def kCallV (R : RnK) (v : Value) (args : List Value) (h : Hs) (K : KV) : An := vFunc v fun fn first lb =>
 Fn.rec (motive := fun _ => An) (fun g => kCall R g (first ++ args ++ lb) h K) (fun _ => none) (fun _ _ => none) (fun _ _ _ _ => none) (fun l => kCall R 1000000000 (.chan (some l) :: args) h K) fn
def allA : List An → An
 | [] => none
 | [a] => a
 | a :: b :: l => open Classical in if ∀ x ∈ b :: l, x = a then a else none
def leftE (seen : List Nat) : List MapEntry → List MapEntry
 | [] => []
 | e :: es => match seen.contains e.born with
  | true => leftE seen es
  | false => e :: leftE seen es
def bornLt (since : Nat) : List MapEntry → Bool
 | [] => true
 | e :: es => match Nat.blt e.born since with
  | true => bornLt since es
  | false => false
def bornOk (since : Nat) (es : List MapEntry) : Bool := match isBig es with
 | true => false
 | false => bornLt since es
def nextE (h : Hs) (b k since : Nat) (seen : List Nat) (cl : Nat) (K : KV) (e : MapEntry) : An := match keyC e.key with
 | true => K (.tuple #[.bool true, e.key, e.val]) ⟨Tr.setK (.it (some k) since (seen ++ [e.born]) cl) h.hp b, h.nx, minN h.lo b⟩
 | false => none
def nextL (h : Hs) (b k since : Nat) (seen : List Nat) (cl : Nat) (K : KV) : List MapEntry → An
 | [] => K (.tuple #[.bool false]) h
 | e :: es => allA ((e :: es).map (nextE h b k since seen cl K))
def nextM (h : Hs) (b k since : Nat) (seen : List Nat) (la : Nat) (K : KV) (es : List MapEntry) (cl : Nat) : An := match andB (bornOk since es) (Nat.ble since la) with
 | true => nextL h b k since seen cl K (leftE seen es)
 | false => none
def kNext (v : Value) (h : Hs) (K : KV) : An := kAddr v fun b o => Nat.rec (motive := fun _ => An) (getB h b fun B =>
 Blk.rec (motive := fun _ => An) (fun _ _ _ _ _ _ => none) (fun _ _ => none) (fun m since seen la => Option.rec (motive := fun _ => An) (K (.tuple #[.bool false]) h)
  (fun k => getB h k fun Bm => Blk.rec (motive := fun _ => An) (fun _ _ _ _ _ _ => none) (fun es cl => nextM h b k since seen la K es cl) (fun _ _ _ _ => none) (fun _ => none) Bm) m) (fun _ => none) B) (fun _ _ => none) o
inductive KCode where
 | skip
 | ret
 | exit (id : Nat)
 | seq (a b : KCode)
 | cond (ms : List (List Bool)) (c : GX) (a b : KCode)
 | block (ms : List (List Bool)) (id : Nat) (b : KCode)
 | loop (ms : List (List Bool)) (b : KCode)
 | reg (ops : List KOper)
 | dreg (ops : List KDOper) (pts : List (Option (List Bool))) (lw : Option LW)
 | rfun (f : GX) (ps : List (Option (List Bool))) (a b : KCode)
 | bad
def Ar : List (List Bool) → Type
 | [] => Hs → An
 | _ :: ps => Value → Ar ps
def lam : (ps : List (List Bool)) → (Fr → Hs → An) → Fr → Ar ps
 | [], F, fr => fun h => F fr h
 | p :: ps, F, fr => fun v => lam ps F (fr.setp (some v) p)
def app : (ps : List (List Bool)) → Ar ps → Fr → Hs → An
 | [], k, _, h => k h
 | p :: ps, k, fr, h => app ps (k (vOr (fr.getp p))) fr h
def bot : (ps : List (List Bool)) → Ar ps
 | [] => fun _ => none
 | _ :: ps => fun _ => bot ps
def jn {T : Type} (k : T) (F : T → An) : An := F k
def lpT {T : Type} (b : T) (N : Nat) (G : T → T) : T := Nat.rec (motive := fun _ => T) b (fun _ ih => G ih) N
def unC (args : List Value) (F : Value → List Value → An) : An := List.rec (motive := fun _ => An) none (fun v vs _ => F v vs) args
def unE (ps : List (Option (List Bool))) : List Value → Fr → (Fr → An) → An :=
 List.rec (motive := fun _ => List Value → Fr → (Fr → An) → An) (fun args fr K => nilC args (K fr)) (fun p _ ih args fr K => unC args (fun v vs => ih vs (put p v fr) K)) ps
def roundK (ps : List (Option (List Bool))) (ia ib : Fr → Hs → (Fr → Hs → An) → (Fr → Hs → An) → (Nat → Fr → Hs → An) → An) (fr : Fr) (l : Nat) (xs : List Value) (h : Hs) : An :=
 getLp h l fun _ => unE ps xs fr fun fr1 => ia fr1 h (fun fr2 h2 => busyH l h2 fun h3 => ib fr2 h3 (fun _ h4 => endR l 0 true h4) (fun _ h4 => endR l 2 false h4) (fun id _ h4 => endR l (Nat.succ (Nat.succ (Nat.succ id))) false h4)) (fun _ _ => none) (fun _ _ _ => none)
def cev (R : RnK) (N : Nat) (c : KCode) : CTy → Fr → Hs → (Fr → Hs → An) → (Fr → Hs → An) → (Nat → Fr → Hs → An) → An :=
 KCode.rec (motive := fun _ => CTy → Fr → Hs → (Fr → Hs → An) → (Fr → Hs → An) → (Nat → Fr → Hs → An) → An)
  (fun _ fr h Kn _ _ => Kn fr h)
  (fun _ fr h _ Kr _ => Kr fr h)
  (fun id _ fr h _ _ Ke => Ke id fr h)
  (fun _ _ ia ib CT fr h Kn Kr Ke => ia CT fr h (fun fr h => ib CT fr h Kn Kr Ke) Kr Ke)
  (fun ms c _ _ ia ib CT fr h Kn Kr Ke => jn (lam ms Kn fr) (fun k => cnd (ev ⟨fr, []⟩ c) (ia CT fr h (fun fr' h' => app ms k fr' h') Kr Ke) (ib CT fr h (fun fr' h' => app ms k fr' h') Kr Ke)))
  (fun ms id _ ib CT fr h Kn Kr Ke => jn (lam ms Kn fr) (fun k => ib CT fr h (fun fr' h' => app ms k fr' h') Kr (fun id' fr' h' => Bool.rec (motive := fun _ => An) (Ke id' fr' h') (app ms k fr' h') (Nat.beq id' id))))
  (fun ms _ ib CT fr h _ Kr Ke => app ms (lpT (bot ms) N (fun self => lam ms (fun fr h => ib CT fr h (fun fr' h' => app ms self fr' h') Kr Ke) fr)) fr h)
  (fun ops _ fr h Kn _ _ => cOps R ops fr [] h Kn)
  (fun ops pts lw _ fr h Kn _ _ => kDreg R ops pts lw fr h Kn)
  (fun f ps _ _ ia ib CT fr h Kn Kr Ke => kRf CT R (ev ⟨fr, []⟩ f) h (roundK ps (ia noCT) (ib noCT) fr) (Kn fr) (Kr fr) (fun id h' => Ke id fr h'))
  (fun _ _ _ _ _ _ => none)
  c
structure KFn where
 body : KCode
 pars : List (Option (List Bool))
 res : List GRes
def unl (ps : List (Option (List Bool))) : List Value → Fr → (Fr → An) → An :=
 List.rec (motive := fun _ => List Value → Fr → (Fr → An) → An) (fun _ fr K => K fr) (fun p _ ih args fr K => unC args (fun v vs => ih vs (put p v fr) K)) ps
def clrS (h0 : Hs) (v : Value) (h : Hs) : An := clear2 h0 v h (mvAll h.hp h0.nx ⟨h0.hp, h0.nx, []⟩ v)
def clrL (h0 : Hs) (v : Value) (h : Hs) (vs : List Value) : An := Bool.rec (motive := fun _ => An) (clrS h0 v h) (some (.val v ⟨h0.hp, h0.nx, h0.lo⟩)) (flatL vs)
def clrV (h0 : Hs) (v : Value) (h : Hs) : An :=
 Value.rec (motive_1 := fun _ => An) (motive_2 := fun _ => PUnit) (motive_3 := fun _ => PUnit) (fun _ => some (.val v ⟨h0.hp, h0.nx, h0.lo⟩)) (fun _ _ => some (.val v ⟨h0.hp, h0.nx, h0.lo⟩)) (fun _ _ => clrS h0 v h) (fun _ _ _ => clrS h0 v h) (fun _ => some (.val v ⟨h0.hp, h0.nx, h0.lo⟩)) (fun _ => clrS h0 v h) (fun _ _ _ => clrS h0 v h) (fun _ => clrS h0 v h) (fun _ => clrS h0 v h)
  (fun _ _ _ _ _ => clrS h0 v h) (clrS h0 v h) (fun _ _ _ => clrS h0 v h) (clrS h0 v h) (fun cs _ => clrL h0 v h cs.toList) (fun vs _ => clrL h0 v h vs.toList) (fun _ _ => ⟨⟩) ⟨⟩ (fun _ _ _ _ => ⟨⟩) v
def clrK (h0 : Hs) (v : Value) (h : Hs) : An :=
 Bool.rec (motive := fun _ => An) (Bool.rec (motive := fun _ => An) (some (.val v ⟨h.hp, h.nx, h.lo⟩)) (some (.val v ⟨h.hp, h.nx, h0.lo⟩)) (Nat.ble h0.lo h.lo)) (clrV h0 v h) (Nat.ble h0.nx h.lo)
def tmpsR : List GRes → Option (List GX)
 | [] => some []
 | r :: rs => match r with
  | .t x => match tmpsR rs with
   | some xs => some (x :: xs)
   | none => none
  | .cell _ _ _ => none
def packV : List Value → Value
 | [] => .tuple #[]
 | v :: ws => match ws with
  | [] => v
  | w :: us => .tuple (v :: w :: us).toArray
def fin (h0 : Hs) (rs : List GRes) (fr : Fr) (h : Hs) : An :=
 Option.rec (motive := fun _ => An) (clearUp h0 (packR h (resV ⟨fr, []⟩ h rs))) (fun xs => clrK h0 (packV (evL ⟨fr, []⟩ xs)) h) (tmpsR rs)
def enK (h : Hs) (F : Hs → An) : An := Hs.rec (motive := fun _ => An) (fun hp nx _ => F ⟨hp, nx, nx⟩) h
def kfn (CT : CTy) (R : RnK) (N : Nat) (g : KFn) (args : List Value) (h : Hs) : An :=
 unl g.pars args .e (fun fr => enK h (fun h1 => cev R N g.body CT fr h1 (fin h g.res) (fin h g.res) (fun _ _ _ => none)))
end
end Go.Gev
