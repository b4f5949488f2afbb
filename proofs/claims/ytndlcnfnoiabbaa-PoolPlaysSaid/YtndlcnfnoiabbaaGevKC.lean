/- From the model's code to the fast evaluator's. -/
import Derived.Test.YtndlcnfnoiabbaaGevP
namespace Go.Gev
noncomputable section
def bitOf (sl : List Nat) (t : Nat) : Nat := match slotAt t sl 0 with
 | some i => Nat.pow 2 i
 | none => 0
def opsMods (sl : List Nat) : List Oper → Nat
 | [] => 0
 | o :: os => match o.dst with
  | none => opsMods sl os
  | some t => Nat.lor (bitOf sl t) (opsMods sl os)
def mods (sl : List Nat) : Code → Nat
 | .seq a b => Nat.lor (mods sl a) (mods sl b)
 | .cond _ a b => Nat.lor (mods sl a) (mods sl b)
 | .block _ b => mods sl b
 | .loop b => mods sl b
 | .region _ ops _ => opsMods sl ops.toList
 | _ => 0
def msFrom (mask : Nat) : Nat → List (List Bool)
 | 0 => []
 | i + 1 => match Nat.beq (Nat.mod (Nat.div mask (Nat.pow 2 i)) 2) 1 with
  | true => pth i :: msFrom mask i
  | false => msFrom mask i
def msOf (sl : List Nat) (mask : Nat) : List (List Bool) := msFrom mask sl.length
def kopG (P : Program) (cx : Cx) (o : Oper) : KOp := .gen fun R en h K => doOp (toRn R) en h K (gop P cx o)
def kBin (P : Program) (op : BinOp) (c : Bool) (t : TypeId) (x y : GX) : Option KOp := match op with
 | .shl => some (.pure fun en K => kShl (ev en x) (ev en y) K)
 | .shr => some (.pure fun en K => kShr (ev en x) (ev en y) K)
 | op => match P.underlying t with
  | some (.int .i64) => some (.pure fun en K => kI64 op (ev en x) (ev en y) K)
  | some (.int .u64) => some (.pure fun en K => kU64 op (ev en x) (ev en y) K)
  | some (.int .u8) => some (.pure fun en K => kU8 op (ev en x) (ev en y) K)
  | _ => match binF P op c t with
   | some f => some (kPure fun en => f (ev en x) (ev en y))
   | none => none
def kConv (P : Program) (s d : TypeId) (x : GX) : Option KOp := match P.underlying s, P.underlying d with
 | some (.int _), some (.int .i64) => some (.pure fun en K => kTo64 (ev en x) K)
 | some (.int _), some (.int .u64) => some (.pure fun en K => kToU (ev en x) K)
 | some (.int _), some (.int .u8) => some (.pure fun en K => kTo8 (ev en x) K)
 | some (.int _), some (.int k) => some (kPure fun en => convI1 k (ev en x))
 | some .string, some .string => some (kPure fun en => convS1 (ev en x))
 | _, _ => none
def kopS (P : Program) (cx : Cx) (o : Oper) : Option KOp :=
 match o.op with
 | .move x | .assign x => do
  let y ← gx cx x
  some (.pure fun en K => K (ev en y))
 | .binOp op t x y _ => do kBin P op (orB (cstB x) (cstB y)) t (← gx cx x) (← gx cx y)
 | .unOp op _ x => do
  let y ← gx cx x
  match op with
  | .not => some (.pure fun en K => kNot (ev en y) K)
  | op => some (kPure fun en => un op (ev en y))
 | .convert s d x => do kConv P s d (← gx cx x)
 | .load t a => do
  let y ← gx cx a
  let n ← sizeOfT P t
  match ← isAggT P t with
  | true => some (.read fun en h K => kLoads n (ev en y) h K)
  | false => some (.read fun en h K => kLoad (ev en y) h K)
 | .store t a x => do
  let y ← gx cx a
  let z ← gx cx x
  match ← sizeOfT P t with
  | 1 => some (.gen fun _ en h K => kStore1 (ev en y) (ev en z) h K)
  | n => some (.gen fun _ en h K => after K (store1 n h (cellsL (ev en z)) (addrOf (ev en y))))
 | .nilCheck x => do
  let y ← gx cx x
  some (.pure fun en K => kNil (ev en y) K)
 | .fieldAddr t x k => match P.underlying t with
  | some (.struct fs) => match fs[k]? with
   | some f => do
    let y ← gx cx x
    match ← sizeOfT P f.type with
    | 0 => none
    | _ => some (.pure fun en K => kFieldA f.offset (ev en y) K)
   | none => none
  | _ => none
 | .field t x k => match P.underlying t with
  | some (.struct fs) => match fs[k]? with
   | some f => do
    let y ← gx cx x
    match ← isAggT P f.type with
    | true => do
     let n ← sizeOfT P f.type
     some (kPure fun en => fields1 f.offset n (ev en y))
    | false => some (.pure fun en K => kField f.offset (ev en y) K)
   | none => none
  | _ => none
 | .indexAddr t x i => match P.underlying t with
  | some (.slice e) => do
   let u ← sizeOfT P e
   let y ← gx cx x
   let z ← gx cx i
   some (.pure fun en K => kIdxA u (ev en y) (ev en z) K)
  | some (.array n e) => do
   let u ← sizeOfT P e
   let y ← gx cx x
   let z ← gx cx i
   some (kPure fun en => idxArr1 u n (natOf (ev en z)) (ev en y))
  | _ => none
 | .extract x i => do
  let y ← gx cx x
  some (.pure fun en K => kExtr (ev en y) i K)
 | .call c => match c.callee with
  | .value (.func f) => do
   let xs ← gxs cx c.args.toList
   some (.gen fun R en h K => kCall R f (evL en xs) h K)
  | .builtin .len => match c.args.toList, (c.argTypes[0]?).bind P.underlying with
   | [x], some .string => do
    let y ← gx cx x
    some (.pure fun en K => kLenS (ev en y) K)
   | [x], some (.slice _) => do
    let y ← gx cx x
    some (.pure fun en K => kLenV (ev en y) K)
   | _, _ => none
  | _ => none
 | _ => none
def kop (P : Program) (cx : Cx) (o : Oper) : KOp := match gopX P cx o with
 | some g => .gen fun _ en h K => after K (g en h)
 | none => match kopS P cx o with
  | some k => k
  | none => kopG P cx o
def kopY (P : Program) (cx : Cx) (o : Oper) : KOp := match o.op with
 | .call c => match c.callee with
  | .value (.func _) => kop P cx o
  | .value x => match gx cx x with
   | some y => match gxs cx c.args.toList with
    | some xs => .gen fun R en h K => kCallV R (ev en y) (evL en xs) h K
    | none => kop P cx o
   | none => kop P cx o
  | _ => kop P cx o
 | .next x s => match s with
  | false => match gx cx x with
   | some y => .gen fun _ en h K => kNext (ev en y) h K
   | none => kop P cx o
  | true => kop P cx o
 | _ => kop P cx o
def koper (P : Program) (cx : Cx) (sl : List Nat) (ops : Array Oper) (o : Oper) : KOper :=
 ⟨kopY P cx o, (goper P cx sl ops o).dst, (goper P cx sl ops o).guard⟩
def kopers (P : Program) (N : Nat) (sl : List Nat) (ops : Array Oper) : List Oper → List (Option Nat) → List KOper
 | [], _ => []
 | o :: os, df => koper P (plainCx sl df) sl ops o :: kopers P N sl ops os (dstOf N o :: df)
def kdopers (P : Program) (lw : Option LW) (sl : List Nat) (ops : Array Oper) (ds : List (Option Nat)) (all : List Nat) : List Oper → List Nat → List Nat → Nat → Nat → List KDOper
 | [], _, _, _, _ => []
 | o :: os, ms, rs, i, nb => match ms with
  | [] => []
  | m :: ms => match rs with
   | [] => []
   | r :: rs => ⟨kop P ⟨drawLook sl ds all i m⟩ o, ⟨gop P ⟨drawLook sl ds all i m⟩ o, (goper P ⟨drawLook sl ds all i m⟩ sl ops o).guard, kindOf (bld lw o.op) (mkOp o.op) nb r m i, lmIf m i (kindOf (bld lw o.op) (mkOp o.op) nb r m i), lw, isLow lw o.op⟩⟩ :: kdopers P lw sl ops ds all os ms rs (Nat.succ i) (nbStep (bld lw o.op) i nb)
def kdregW (P : Program) (N : Nat) (sl : List Nat) (ops : Array Oper) (ms : List Nat) (lw : Option LW) : KCode :=
 .dreg (kdopers P lw sl ops (dstNs N ops.toList) ms ops.toList ms (inters (onesOf ms) (blinds lw ops.toList) ms) 0 0) (ptsOf sl ops.toList) lw
def kdregOf (P : Program) (N : Nat) (sl : List Nat) (ops : Array Oper) (ms : List Nat) : KCode := match apartN (dstsOf ops.toList) with
 | true => kdregW P N sl ops ms (lwOf P sl ops ms)
 | false => .bad
def kdregC (P : Program) (N : Nat) (sl : List Nat) (ops : Array Oper) : KCode := match befs ops.toList 0 [] with
 | some ms => kdregOf P N sl ops ms
 | none => .bad
def noDefL : List Oper → Bool
 | [] => true
 | o :: os => match o.op with
  | .defer _ => false
  | _ => noDefL os
def noDef : Code → Bool
 | .seq a b => andB (noDef a) (noDef b)
 | .cond _ a b => andB (noDef a) (noDef b)
 | .block _ b => noDef b
 | .loop b => noDef b
 | .region _ ops _ => noDefL ops.toList
 | _ => true
def kcode (P : Program) (N : Nat) (sl : List Nat) : Code → KCode
 | .skip => .skip
 | .ret => .ret
 | .exit id => .exit id
 | .seq a b => .seq (kcode P N sl a) (kcode P N sl b)
 | .cond c a b => match gx (plainCx sl []) c with
  | some x => .cond (msOf sl (Nat.lor (mods sl a) (mods sl b))) x (kcode P N sl a) (kcode P N sl b)
  | none => .bad
 | .block id b => .block (msOf sl (mods sl b)) id (kcode P N sl b)
 | .loop b => .loop (msOf sl (mods sl b)) (kcode P N sl b)
 | .rangeFunc f ps a b => match gx (plainCx sl []) f with
  | some x => match andB (noDef a) (noDef b) with
   | true => .rfun x (ps.toList.map (slot sl)) (kcode P N sl a) (kcode P N sl b)
   | false => .bad
  | none => .bad
 | .region _ ops draw => match draw with
  | false => .reg (kopers P N sl ops ops.toList [])
  | true => kdregC P N sl ops
 | _ => .bad
def kfnAt (P : Program) (f : Func) (b : Code) (sl : List Nat) : Option KFn := match allLt f.ntmps sl with
 | false => none
 | true => match gres P sl f.results.toList with
  | some rs => some ⟨kcode P f.ntmps sl b, parsFrom sl (f.params.size + f.nfree) 0, rs⟩
  | none => none
def kfnF (P : Program) (f : Func) : Option KFn := match f.body with
 | some b => kfnAt P f b (resNeed f.results.toList (codeNeed b []))
 | none => none
def KF (P : Program) (i : Nat) : Option KFn := match P.funcs.toList.drop i with
 | f :: _ => kfnF P f
 | [] => none
def callT0 (P : Program) (N : Nat) (R : RnK) (f : FuncId) (args : List Value) (h : Hs) : An := match KF P f with
 | some g => kfn noCT R N g args h
 | none => none
def callT (P : Program) (N : Nat) (R : RnK) (f : FuncId) (args : List Value) (h : Hs) : An := match KF P f with
 | some g => kfn (callT0 P N) R N g args h
 | none => none
def runK (tab : RnK → RnK) (d : Nat) : RnK := Nat.rec (motive := fun _ => RnK) (fun _ _ _ => none) (fun _ R f args h => ifB (Nat.beq f 1000000000) none (tab R f args h)) d
end
end Go.Gev
