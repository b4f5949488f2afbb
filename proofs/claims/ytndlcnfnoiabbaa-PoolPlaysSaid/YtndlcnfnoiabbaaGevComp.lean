/- From the model's code to the evaluator's. -/
import Derived.Test.YtndlcnfnoiabbaaGevDX
namespace Go.Gev
noncomputable section
def memN (k : Nat) : List Nat → Bool
 | [] => false
 | x :: xs => match Nat.beq x k with
  | true => true
  | false => memN k xs
def addN (k : Nat) (l : List Nat) : List Nat := match memN k l with
 | true => l
 | false => k :: l
def tmpsOf : List Operand → List Nat
 | [] => []
 | x :: xs => match x with
  | .tmp t => t :: tmpsOf xs
  | _ => tmpsOf xs
def needs (defs : List Nat) : List Nat → List Nat → List Nat
 | [], acc => acc
 | x :: xs, acc => match memN x defs with
  | true => needs defs xs acc
  | false => needs defs xs (addN x acc)
def guardT (ops : Array Oper) (o : Oper) : List Nat := match o.guard with
 | none => []
 | some (j, _) => match (ops[j]?).bind (·.dst) with
  | some t => [t]
  | none => []
def opsNeed (ops : Array Oper) : List Oper → List Nat → List Nat → List Nat
 | [], _, acc => acc
 | o :: os, defs, acc =>
  let acc := needs defs (guardT ops o ++ tmpsOf o.op.operands.toList) acc
  opsNeed ops os (match o.dst with | some d => d :: defs | none => defs) acc
def codeNeed : Code → List Nat → List Nat
 | .seq a b, acc => codeNeed b (codeNeed a acc)
 | .cond c a b, acc => codeNeed b (codeNeed a (needs [] (tmpsOf [c]) acc))
 | .block _ b, acc => codeNeed b acc
 | .loop b, acc => codeNeed b acc
 | .rangeFunc f _ a b, acc => codeNeed b (codeNeed a (needs [] (tmpsOf [f]) acc))
 | .region _ ops _, acc => opsNeed ops ops.toList [] acc
 | _, acc => acc
def resNeed : List ResultVar → List Nat → List Nat
 | [], acc => acc
 | .tmp t :: rest, acc => resNeed rest (addN t acc)
 | .cell t _ :: rest, acc => resNeed rest (addN t acc)
structure Cx where
 look : Nat → GX
def slotAt (k : Nat) : List Nat → Nat → Option Nat
 | [], _ => none
 | x :: xs, i => match Nat.beq x k with
  | true => some i
  | false => slotAt k xs (Nat.succ i)
def slot (sl : List Nat) (k : Nat) : Option (List Bool) := match slotAt k sl 0 with
 | some i => some (pth i)
 | none => none
def locAt (k : Nat) : List (Option Nat) → Option Ix
 | [] => none
 | d :: ds => match d with
  | none => match locAt k ds with
   | some i => some (.s i)
   | none => none
  | some x => match Nat.beq x k with
   | true => some .z
   | false => match locAt k ds with
    | some i => some (.s i)
    | none => none
def gt (cx : Cx) (t : Nat) : GX := cx.look t
def slotX (sl : List Nat) (t : Nat) : GX := match slot sl t with
 | some p => .t p
 | none => .c dunno
def plainLook (sl : List Nat) (df : List (Option Nat)) (t : Nat) : GX := match locAt t df with
 | some i => .l i
 | none => slotX sl t
def plainCx (sl : List Nat) (df : List (Option Nat)) : Cx := ⟨plainLook sl df⟩
def okC1 : Value → Bool
 | .map r => match r with
  | none => true
  | some _ => false
 | .int _ _ | .bool _ | .string _ | .nilIface | .nilFunc => true
 | .pointer a => match a with
  | none => true
  | some _ => false
 | .slice a n c => match a with
  | none => match n, c with
   | 0, 0 => true
   | _, _ => false
  | some _ => false
 | _ => false
def okCL : List Value → Bool
 | [] => true
 | v :: vs => match okC1 v with
  | true => okCL vs
  | false => false
def okC (v : Value) : Bool := match v with
 | .agg cs => okCL cs.toList
 | v => okC1 v
def gx (cx : Cx) : Operand → Option GX
 | .tmp t => some (gt cx t)
 | .const v => match okC v with
  | true => some (.c v)
  | false => none
 | .global _ => none
 | .func f => some (.c (.func (.func f) #[] #[]))
def gxs (cx : Cx) : List Operand → Option (List GX)
 | [] => some []
 | x :: xs => match gx cx x, gxs cx xs with
  | some y, some ys => some (y :: ys)
  | _, _ => none
def gxo (cx : Cx) : Option Operand → Option (Option GX)
 | none => some none
 | some x => match gx cx x with
  | some y => some (some y)
  | none => none
def zeroOf (P : Program) (t : TypeId) : Option (List Value) := match P.info? t with
 | some i => match i.zero with
  | some z => match okCL z.cells.toList with
   | true => match Nat.beq z.cells.toList.length i.size with
    | true => some z.cells.toList
    | false => none
   | false => none
  | none => none
 | none => none
def sizeOfT (P : Program) (t : TypeId) : Option Nat := match P.info? t with
 | some i => some i.size
 | none => none
def bytesOfT (P : Program) (t : TypeId) : Option Nat := match P.info? t with
 | some i => some i.bytes
 | none => none
def isAggT (P : Program) (t : TypeId) : Option Bool := match P.underlying t with
 | some (.struct _) | some (.array _ _) => some true
 | some _ => some false
 | none => none
def ckOf (P : Program) (t : TypeId) : Option CK := match P.underlying t with
 | some (.int _) => some .i
 | some .bool => some .b
 | some .string => some .s
 | _ => none
def ckFields (P : Program) : List Field → Nat → Option (List CK)
 | [], _ => some []
 | f :: fs, i => match (f.name != "_") && (f.offset == i) with
  | true => match ckOf P f.type, ckFields P fs (i + 1) with
   | some k, some ks => some (k :: ks)
   | _, _ => none
  | false => none
def cstB : Operand → Bool
 | .const _ => true
 | _ => false
def qIF (c : Bool) : E2 := match c with
 | true => qI0
 | false => qI
def eqOf (P : Program) (c : Bool) (t : TypeId) : Option E2 := match P.underlying t with
 | some .bool => some qB
 | some (.pointer e) => match P.info? e with
  | some _ => some qP
  | none => none
 | some (.slice _) => some qS
 | some (.interface _) => some (qIF c)
 | some (.struct fs) => match !P.eqGuardType P.depth t && !P.stoodInHeld t with
  | true => match ckFields P fs.toList 0 with
   | some ks => some (qA ks)
   | none => none
  | false => none
 | _ => none
def placesOf (P : Program) (fs : List Field) : Option (List (Nat × Nat)) := fs.mapM (fun f => (P.info? f.type).map fun i => (f.offset, i.size))
def partsP (cx : Cx) (place : Nat → Option (Nat × Nat)) : List (Nat × Operand) → Option (List (Nat × Nat × GX))
 | [] => some []
 | (i, x) :: rest => match place i, gx cx x, partsP cx place rest with
  | some p, some y, some ys => some ((p.1, p.2, y) :: ys)
  | _, _, _ => none
def binF (P : Program) (op : BinOp) (c : Bool) (t : TypeId) : Option (Value → Value → Option Value) := match op with
 | .shl => some (sh2 .shl)
 | .shr => some (sh2 .shr)
 | op => match P.underlying t with
  | some (.int _) => some (i2 (fOf op))
  | some .string => some (s2 op)
  | some _ => match op with
   | .eql => match eqOf P c t with
    | some f => some (e2 false f)
    | none => none
   | .neq => match eqOf P c t with
    | some f => some (e2 true f)
    | none => none
   | _ => none
  | none => none
def gopS (P : Program) (cx : Cx) (o : Oper) : Option GOp :=
 match o.op with
 | .move x | .assign x => do some (.fn <| oMv (← gx cx x))
 | .pick c a b => do some (.fn <| oPick (← gx cx c) (← gx cx a) (← gx cx b))
 | .alloc e => do some (.fn <| oAlloc e (← zeroOf P e))
 | .box e x => do some (.fn <| oBox e (← gx cx x))
 | .build t parts => match P.underlying t with
  | some (.struct fs) => do
   let pl ← placesOf P fs.toList
   some (.fn <| oBuild (← zeroOf P t) (← partsP cx (pl.toArray[·]?) parts.toList))
  | some (.array _ e) => do
   let u ← sizeOfT P e
   some (.fn <| oBuild (← zeroOf P t) (← partsP cx (fun i => some (i * u, u)) parts.toList))
  | _ => none
 | .buildSlice t len parts => match P.underlying t with
  | some (.slice e) => do
   let u ← sizeOfT P e
   if u = 0 ∨ len * u > 16777216 then none else some (.fn <| oMkrow e u len (← zeroOf P e) (← partsP cx (fun i => some (i * u, u)) parts.toList))
  | _ => none
 | .load t a => do if ← isAggT P t then some (.fn <| oLoads (← sizeOfT P t) (← gx cx a)) else some (.fn <| oLoad (← gx cx a))
 | .store t a x => do some (.fn <| oStore (← sizeOfT P t) (← gx cx a) (← gx cx x))
 | .nilCheck x => do some (.fn <| oNilc (← gx cx x))
 | .binOp op t x y _ => do some (.fn <| oV2 (← binF P op (orB (cstB x) (cstB y)) t) (← gx cx x) (← gx cx y))
 | .unOp op _ x => do some (.fn <| oUn op (← gx cx x))
 | .convert s d x => match P.underlying s, P.underlying d with
  | some (.int _), some (.int k) => do some (.fn <| oConvI k (← gx cx x))
  | some .string, some .string => do some (.fn <| oConvS (← gx cx x))
  | _, _ => none
 | .makeInterface t x => match P.underlying t with
  | some (.interface _) | none => none
  | _ => do some (.fn <| oMkface t (← gx cx x))
 | .makeFunc fn first captured => do some (.fn <| oMkfunc fn (← gxs cx first.toList) (← gxs cx captured.toList))
 | .makeSlice t l c => match P.underlying t with
  | some (.slice e) => do
   let u ← sizeOfT P e
   let b ← bytesOfT P e
   if u = 0 ∨ b = 0 then none else some (.fn <| oMkslice e u b (← zeroOf P e) (← gx cx l) (← gx cx c))
  | _ => none
 | .slice t x lo hi mx => match P.underlying t with
  | some (.slice e) => match mx, hi with
   | some _, none => none
   | _, _ => do some (.fn <| oSlice (← sizeOfT P e) (← gx cx x) (← gxo cx lo) (← gxo cx hi) (← gxo cx mx))
  | some .string => match mx with
   | none => do some (.fn <| oCutstr (← gx cx x) (← gxo cx lo) (← gxo cx hi))
   | some _ => none
  | _ => none
 | .fieldAddr t x k => match P.underlying t with
  | some (.struct fs) => match fs[k]? with
   | some f => do if (← sizeOfT P f.type) = 0 then none else some (.fn <| oFieldA f.offset (← gx cx x))
   | none => none
  | _ => none
 | .field t x k => match P.underlying t with
  | some (.struct fs) => match fs[k]? with
   | some f => do if ← isAggT P f.type then some (.fn <| oFields f.offset (← sizeOfT P f.type) (← gx cx x)) else some (.fn <| oField f.offset (← gx cx x))
   | none => none
  | _ => none
 | .indexAddr t x i => match P.underlying t with
  | some (.slice e) => do some (.fn <| oIdxA (← sizeOfT P e) (← gx cx x) (← gx cx i))
  | some (.array n e) => do some (.fn <| oIdxArr (← sizeOfT P e) n (← gx cx x) (← gx cx i))
  | _ => none
 | .index t x i => match P.underlying t with
  | some .string => do some (.fn <| oIdxS (← gx cx x) (← gx cx i))
  | _ => none
 | .extract x i => do some (.fn <| oExtr (← gx cx x) i)
 | .call c => match c.callee with
  | .value (.func f) => do some (.call f (← gxs cx c.args.toList))
  | .value f => do some (.callv (← gx cx f) (← gxs cx c.args.toList))
  | .builtin .len => match c.args.toList, (c.argTypes[0]?).bind P.underlying with
   | [x], some .string => do some (.fn <| oLenS (← gx cx x))
   | [x], some (.slice _) => do some (.fn <| oLenV (← gx cx x))
   | [_], some (.array n _) => some (.fn <| oLenC n)
   | _, _ => none
  | .builtin .cap => match c.args.toList, (c.argTypes[0]?).bind P.underlying with
   | [x], some (.slice _) => do some (.fn <| oCapV (← gx cx x))
   | _, _ => none
  | .builtin .min => do some (.fn <| oMinmax false (← gxs cx c.args.toList))
  | .builtin .max => do some (.fn <| oMinmax true (← gxs cx c.args.toList))
  | .builtin .append => match c.args.toList, (c.argTypes[0]?).bind P.underlying, (c.argTypes[1]?).bind P.underlying with
   | [s, x], some (.slice e), some (.slice _) => do
    let u ← sizeOfT P e
    let b ← bytesOfT P e
    let _ ← zeroOf P e
    if u = 0 ∨ b = 0 ∨ c.argTypes[0]? ≠ c.argTypes[1]? ∨ c.argTypes.size ≠ 2 then none else some (.fn <| oAppend e u b (← gx cx s) (← gx cx x))
   | [s, x], some (.slice e), some (.int _) => do
    let u ← sizeOfT P e
    let b ← bytesOfT P e
    if u = 0 ∨ b = 0 ∨ c.argTypes.size ≠ 2 then none else some (.fn <| oAppendZ e u b (← zeroOf P e) (← gx cx s) (← gx cx x))
   | _, _, _ => none
  | .builtin .copy => match c.args.toList, (c.argTypes[0]?).bind P.underlying, (c.argTypes[1]?).bind P.underlying with
   | [d, s], some (.slice e), some (.slice _) => do some (.fn <| oCopy (← sizeOfT P e) (← gx cx d) (← gx cx s))
   | _, _, _ => none
  | _ => none
 | _ => none
def standIn (P : Program) (f : FuncId) (name : String) : Bool := match P.funcs[f]? with
 | some fn => fn.body.isNone && fn.name == name && fn.origin == ""
 | none => false
def keyT (P : Program) (t : TypeId) : Option Bool := match P.underlying t with
 | some (.int _) => some true
 | some .string => some false
 | _ => none
def zeroV (P : Program) (t : TypeId) : Option Value := match P.info? t with
 | some i => match i.zero with
  | some z => match okC z with
   | true => some z
   | false => none
  | none => none
 | none => none
def mkNZof (P : Program) (f : FuncId) : Option TypeId := match P.funcs[f]? with
 | some fn => match fn.resultTypes.toList with
  | [t] => match P.underlying t with
   | some (.slice e) => some e
   | _ => none
  | _ => none
 | none => none
def gopX (P : Program) (cx : Cx) (o : Oper) : Option (En → Hs → Rs) :=
 match o.op with
 | .convert s d x => match P.underlying s, P.underlying d with
  | some (.slice e), some .string => match P.underlying e with
   | some (.int .u8) => do some (oToStr (← gx cx x))
   | _ => none
  | some .string, some (.slice e) => match P.underlying e with
   | some (.int .u8) => do some (oToBytes e (← gx cx x))
   | _ => none
  | some (.slice _), some (.slice e) => match P.underlying e with
   | some (.int .u8) => do if s == d then some (oMark (← gx cx x)) else none
   | _ => none
  | some (.pointer t), some .unsafePointer => do if (← sizeOfT P t) = 0 then none else some (oToUns (← gx cx x))
  | some .unsafePointer, some (.pointer t) => do if (← sizeOfT P t) = 0 then none else some (oFromUns t (← sizeOfT P t) (← gx cx x))
  | _, _ => none
 | .makeMap t r => match P.underlying t with
  | some (.map _ _) => match r with
   | none => some (oMkmap (.c (.int .i64 0)))
   | some x => do some (oMkmap (← gx cx x))
  | _ => none
 | .lookup t m k ok => match P.underlying t with
  | some (.map kt et) => do some (oLookup (← keyT P kt) (← zeroV P et) ok (← gx cx m) (← gx cx k))
  | _ => none
 | .range t x => match P.underlying t with
  | some (.map _ _) => do some (oRange (← gx cx x))
  | _ => none
 | .entry x => do some (oEntry (← gx cx x))
 | .slice t x none none none => match P.underlying t with
  | some (.array n e) => do
   let _ ← sizeOfT P e
   if n = 0 ∨ 1000000 < n then none else some (oSlArr n (← gx cx x))
  | _ => none
 | .mapUpdate t m k v | .insert t m k v => match P.underlying t with
  | some (.map kt _) => do some (oMapup (← keyT P kt) (← gx cx m) (← gx cx k) (← gx cx v))
  | _ => none
 | .call c => match c.callee, c.args.toList with
  | .value (.func f), [x] => match standIn P f "internal/abi.NoEscape" with
   | true => do some (oMv (← gx cx x))
   | false => match standIn P f "internal/bytealg.MakeNoZero" with
    | true => do some (oMkNZ (← mkNZof P f) (← gx cx x))
    | false => none
  | .value (.func f), [x, y] => match standIn P f "internal/bytealg.IndexByteString" with
   | true => do some (oIdxB (← gx cx x) (← gx cx y))
   | false => match standIn P f "internal/bytealg.CountString" with
    | true => do some (oCntB (← gx cx x) (← gx cx y))
    | false => none
  | .builtin .unsafeSliceData, [x] => do some (oSdata (← gx cx x))
  | .builtin .delete, [m, k] => match (c.argTypes[0]?).bind P.underlying with
   | some (.map kt _) => do some (oMapdel (← keyT P kt) (← gx cx m) (← gx cx k))
   | _ => none
  | .builtin .len, [m] => match (c.argTypes[0]?).bind P.underlying with
   | some (.map _ _) => do some (oMaplen (← gx cx m))
   | _ => none
  | .builtin .unsafeString, [x, n] => match c.argTypes.toList with
   | [pt, _] => match P.underlying pt with
    | some (.pointer e) => do if (← sizeOfT P e) = 1 then some (oUstr e (← gx cx x) (← gx cx n)) else none
    | _ => none
   | _ => none
  | .builtin .append, [s, x] => match c.argTypes.toList with
   | [t, ti] => match P.underlying t, P.underlying ti with
    | some (.slice e), some .string => do
     let u ← sizeOfT P e
     let b ← bytesOfT P e
     let _ ← zeroOf P e
     if u = 1 ∧ b = 1 then some (oAppendS e b (← gx cx s) (← gx cx x)) else none
    | _, _ => none
   | _ => none
  | .builtin .clear, [x] => match (c.argTypes[0]?).bind P.underlying with
   | some (.slice e) => do some (oClearS (← zeroOf P e) (← gx cx x))
   | _ => none
  | _, _ => none
 | _ => none
def gop (P : Program) (cx : Cx) (o : Oper) : GOp := match gopX P cx o with
 | some g => .fn g
 | none => match gopS P cx o with
  | some g => g
  | none => .fn oBad
def dstOf (N : Nat) (o : Oper) : Option Nat := match o.dst with
 | none => none
 | some t => match Nat.blt t N with
  | true => some t
  | false => none
def goper (P : Program) (cx : Cx) (sl : List Nat) (ops : Array Oper) (o : Oper) : GOper :=
 ⟨gop P cx o, (match o.dst with | none => none | some t => slot sl t),
  (match o.guard with
  | none => none
  | some (j, want) => match (ops[j]?).bind (·.dst) with
   | some t => some (gt cx t, want)
   | none => some (.c dunno, want))⟩
def gopers (P : Program) (N : Nat) (sl : List Nat) (ops : Array Oper) : List Oper → List (Option Nat) → List GOper
 | [], _ => []
 | o :: os, df => goper P (plainCx sl df) sl ops o :: gopers P N sl ops os (dstOf N o :: df)
def allLt (N : Nat) : List Nat → Bool
 | [] => true
 | x :: xs => match Nat.blt x N with
  | true => allLt N xs
  | false => false
def edgesOf : List Edge → List Nat
 | [] => []
 | e :: es => match Region.binds .any e with
  | true => e.on :: edgesOf es
  | false => edgesOf es
def nthN : List Nat → Nat → Nat
 | [], _ => 0
 | m :: ms, i => match i with
  | 0 => m
  | i + 1 => nthN ms i
def befOf (ms : List Nat) : List Nat → Nat
 | [] => 0
 | e :: es => Nat.lor (Nat.lor (Nat.pow 2 e) (nthN ms e)) (befOf ms es)
def befs : List Oper → Nat → List Nat → Option (List Nat)
 | [], _, ms => some ms
 | o :: os, i, ms => match allLt i (edgesOf o.after.toList) with
  | true => befs os (Nat.succ i) (ms ++ [befOf ms (edgesOf o.after.toList)])
  | false => none
def lmOf (m : Nat) : Nat → List Bool
 | 0 => []
 | j + 1 => Nat.testBit m j :: lmOf m j
def blindOp : Op → Bool
 | .move _ | .assign _ | .pick _ _ _ | .nilCheck _ | .binOp .. | .unOp .. | .makeInterface .. | .makeFunc .. | .fieldAddr .. | .indexAddr .. | .index .. | .extract .. | .field .. | .build .. => true
 | .call c => match c.callee with
  | .builtin .len | .builtin .cap | .builtin .min | .builtin .max => true
  | _ => false
 | _ => false
def lowOp : Op → Bool
 | .load .. | .convert .. => true
 | _ => false
def lowT (ts : List Nat) : Op → Bool
 | .load _ (.tmp t) => memN t ts
 | _ => false
def lowC (ts : List Nat) : Op → Bool
 | .load _ (.tmp t) => memN t ts
 | .convert .. => true
 | _ => false
def isLow (lw : Option LW) (o : Op) : Bool := match lw with
 | none => false
 | some L => match L.fz with
  | false => lowC L.ts o
  | true => lowT L.ts o
def bld (lw : Option LW) (o : Op) : Bool := match isLow lw o with
 | true => true
 | false => blindOp o
def mkOp : Op → Bool
 | .alloc .. | .box .. | .makeSlice .. | .makeMap .. => true
 | _ => false
def off (lw : Option LW) (o : Op) : Bool := match bld lw o with
 | true => true
 | false => mkOp o
def blinds (lw : Option LW) : List Oper → List Bool
 | [] => []
 | o :: os => off lw o.op :: blinds lw os
def nextI (ones : Nat) : List Bool → List Nat → List Nat → Nat
 | [], _, _ => ones
 | b :: _, ms, rs => match ms with
  | [] => 0
  | m :: _ => match rs with
   | [] => 0
   | r :: _ => match b with
    | true => r
    | false => Nat.land m r
def inters (ones : Nat) : List Bool → List Nat → List Nat
 | [], _ => []
 | _ :: bs, ms => match ms with
  | [] => []
  | _ :: ms => nextI ones bs ms (inters ones bs ms) :: inters ones bs ms
def kindOf (blind mk : Bool) (nb r m i : Nat) : DK := match blind with
 | true => .blind
 | false => match mk with
  | true => .make
  | false => match Nat.beq (Nat.land m nb) nb with
   | true => match Nat.testBit r i with
    | true => .bar
    | false => .light
   | false => .light
def nbStep (b : Bool) (i nb : Nat) : Nat := match b with
 | true => nb
 | false => Nat.lor nb (Nat.pow 2 i)
def posOf (t : Nat) : List (Option Nat) → Nat → Option Nat
 | [], _ => none
 | d :: ds, i => match d with
  | none => posOf t ds (Nat.succ i)
  | some x => match Nat.beq x t with
   | true => some i
   | false => posOf t ds (Nat.succ i)
def ixOf : Nat → Ix
 | 0 => .z
 | n + 1 => .s (ixOf n)
def ifX (b : Bool) (x : GX) : GX := match b with
 | true => x
 | false => .c dunno
def drawLook2 (sl : List Nat) (ms : List Nat) (i m t : Nat) : Option Nat → GX
 | none => slotX sl t
 | some j => match Nat.blt j i with
  | true => ifX (Nat.testBit m j) (.l (ixOf (Nat.sub (Nat.sub i j) 1)))
  | false => ifX (Nat.testBit (nthN ms j) i) (slotX sl t)
def drawLook (sl : List Nat) (ds : List (Option Nat)) (ms : List Nat) (i m t : Nat) : GX := drawLook2 sl ms i m t (posOf t ds 0)
def lmIf (m i : Nat) : DK → List Bool
 | .light => lmOf m i
 | _ => []
def dopers (P : Program) (lw : Option LW) (sl : List Nat) (ops : Array Oper) (ds : List (Option Nat)) (all : List Nat) : List Oper → List Nat → List Nat → Nat → Nat → List DOper
 | [], _, _, _, _ => []
 | o :: os, ms, rs, i, nb => match ms with
  | [] => []
  | m :: ms => match rs with
   | [] => []
   | r :: rs => ⟨gop P ⟨drawLook sl ds all i m⟩ o, (goper P ⟨drawLook sl ds all i m⟩ sl ops o).guard, kindOf (bld lw o.op) (mkOp o.op) nb r m i, lmIf m i (kindOf (bld lw o.op) (mkOp o.op) nb r m i), lw, isLow lw o.op⟩ :: dopers P lw sl ops ds all os ms rs (Nat.succ i) (nbStep (bld lw o.op) i nb)
def dstNs (N : Nat) : List Oper → List (Option Nat)
 | [] => []
 | o :: os => dstOf N o :: dstNs N os
def ptsOf (sl : List Nat) : List Oper → List (Option (List Bool))
 | [] => []
 | o :: os => (match o.dst with | none => none | some t => slot sl t) :: ptsOf sl os
def dstsOf : List Oper → List Nat
 | [] => []
 | o :: os => match o.dst with
  | none => dstsOf os
  | some t => t :: dstsOf os
def apartN : List Nat → Bool
 | [] => true
 | x :: xs => match memN x xs with
  | true => false
  | false => apartN xs
def isMut (P : Program) (f : FuncId) : Bool := match P.funcs[f]? with
 | some fn => fn.name == "(*strings.Builder).String" || fn.name == "slices.Compact[[]int,int]"
 | none => false
def isFar (P : Program) (f : FuncId) : Bool := match P.funcs[f]? with
 | some fn => fn.name == "slices.Compact[[]int,int]"
 | none => false
def isStore (P : Program) : Op → Bool
 | .store .. => true
 | .call c => match c.callee with
  | .value (.func f) => isMut P f
  | .builtin .append => true
  | _ => false
 | _ => false
def isBar : DK → Bool
 | .bar => true
 | _ => false
def defOf (t : Nat) : List Oper → Option Oper
 | [] => none
 | o :: os => match o.dst with
  | none => defOf t os
  | some x => match Nat.beq x t with
   | true => some o
   | false => defOf t os
def rootOf (sl : List Nat) (ops : List Oper) : Nat → Operand → Option (List Bool)
 | 0, _ => none
 | k + 1, x => match x with
  | .tmp t => match defOf t ops with
   | none => slot sl t
   | some o => match o.op with
    | .move y => rootOf sl ops k y
    | .nilCheck y => rootOf sl ops k y
    | .fieldAddr _ y _ => rootOf sl ops k y
    | .indexAddr _ y _ => rootOf sl ops k y
    | _ => none
  | _ => none
def firstArg : List Operand → Option Operand
 | a :: _ => some a
 | [] => none
def storeAt (P : Program) (o : Oper) : Option Operand := match o.op with
 | .store _ a _ => some a
 | .call c => match c.callee with
  | .builtin _ => some (.const dunno)
  | .value (.func f) => match isFar P f with
   | true => some (.const dunno)
   | false => firstArg c.args.toList
  | _ => firstArg c.args.toList
 | _ => none
def sameP : List Bool → List Bool → Bool
 | [], q => match q with
  | [] => true
  | _ :: _ => false
 | b :: p, q => match q with
  | [] => false
  | d :: q => match b with
   | true => match d with
    | true => sameP p q
    | false => false
   | false => match d with
    | true => false
    | false => sameP p q
def oddAt (P : Program) : List Oper → List Nat → List Nat → Nat → Nat → Option Nat
 | [], _, _, _, _ => none
 | o :: os, ms, rs, i, nb => match ms with
  | [] => none
  | m :: ms => match rs with
   | [] => none
   | r :: rs => match isStore P o.op with
    | true => match isBar (kindOf false false nb r m i) with
     | true => oddAt P os ms rs (Nat.succ i) (nbStep (blindOp o.op) i nb)
     | false => some i
    | false => oddAt P os ms rs (Nat.succ i) (nbStep (blindOp o.op) i nb)
def looseAt (k mk : Nat) : List Oper → List Nat → Nat → List Nat
 | [], _, _ => []
 | o :: os, ms, i => match ms with
  | [] => []
  | m :: ms => match o.op with
   | .load _ (.tmp t) => match Nat.testBit mk i with
    | true => looseAt k mk os ms (Nat.succ i)
    | false => match Nat.testBit m k with
     | true => looseAt k mk os ms (Nat.succ i)
     | false => t :: looseAt k mk os ms (Nat.succ i)
   | _ => looseAt k mk os ms (Nat.succ i)
def oneRoot (sl : List Nat) (ops : List Oper) : List Nat → Option (List Bool)
 | [] => none
 | t :: ts => match ts with
  | [] => rootOf sl ops 20 (.tmp t)
  | _ :: _ => match rootOf sl ops 20 (.tmp t) with
   | none => none
   | some p => match oneRoot sl ops ts with
    | none => none
    | some q => match sameP p q with
     | true => some p
     | false => none
def fzFor (sl : List Nat) (ops : List Oper) (ms : List Nat) (k : Nat) : Option LW := match oneRoot sl ops (looseAt k (nthN ms k) ops ms 0) with
 | none => none
 | some p => some ⟨true, p, looseAt k (nthN ms k) ops ms 0⟩
def onesOf (ms : List Nat) : Nat := Nat.sub (Nat.pow 2 ms.length) 1
def looseAll (ops : List Oper) (ms : List Nat) : List Oper → List Nat → Nat → List Nat
 | [], _, _ => []
 | o :: os, mks, k => match mks with
  | [] => []
  | mk :: mks => match blindOp o.op with
   | true => looseAll ops ms os mks (Nat.succ k)
   | false => match mkOp o.op with
    | true => looseAll ops ms os mks (Nat.succ k)
    | false => match lowOp o.op with
     | true => looseAll ops ms os mks (Nat.succ k)
     | false => looseAt k mk ops ms 0 ++ looseAll ops ms os mks (Nat.succ k)
def cutFor (sl : List Nat) (ops : List Oper) (ms : List Nat) (k : Nat) : Option Operand → Option LW
 | none => none
 | some a => match rootOf sl ops 20 a with
  | some p => some ⟨false, p, looseAll ops ms ops ms 0⟩
  | none => fzFor sl ops ms k
def lwOf2 (P : Program) (sl : List Nat) (ops : List Oper) (ms : List Nat) : Option Nat → Option LW
 | none => none
 | some k => match ops[k]? with
  | none => none
  | some o => cutFor sl ops ms k (storeAt P o)
def lwOf (P : Program) (sl : List Nat) (ops : Array Oper) (ms : List Nat) : Option LW := lwOf2 P sl ops.toList ms (oddAt P ops.toList ms (inters (onesOf ms) (blinds none ops.toList) ms) 0 0)
def dregW (P : Program) (N : Nat) (sl : List Nat) (ops : Array Oper) (ms : List Nat) (lw : Option LW) : GCode :=
 .dreg (dopers P lw sl ops (dstNs N ops.toList) ms ops.toList ms (inters (onesOf ms) (blinds lw ops.toList) ms) 0 0) (ptsOf sl ops.toList) lw
def dregOf (P : Program) (N : Nat) (sl : List Nat) (ops : Array Oper) (ms : List Nat) : GCode := match apartN (dstsOf ops.toList) with
 | true => dregW P N sl ops ms (lwOf P sl ops ms)
 | false => .reg [⟨.fn oBad, none, none⟩]
def dregC (P : Program) (N : Nat) (sl : List Nat) (ops : Array Oper) : GCode := match befs ops.toList 0 [] with
 | some ms => dregOf P N sl ops ms
 | none => .reg [⟨.fn oBad, none, none⟩]
def badC : GCode := .reg [⟨.fn oBad, none, none⟩]
def gcode (P : Program) (N : Nat) (sl : List Nat) : Code → GCode
 | .skip => .skip
 | .ret => .ret
 | .exit id => .exit id
 | .seq a b => .seq (gcode P N sl a) (gcode P N sl b)
 | .cond c a b => match gx (plainCx sl []) c with
  | some x => .cond x (gcode P N sl a) (gcode P N sl b)
  | none => badC
 | .block id b => .block id (gcode P N sl b)
 | .loop b => .loop (gcode P N sl b)
 | .region _ ops draw => match draw with
  | false => .reg (gopers P N sl ops ops.toList [])
  | true => dregC P N sl ops
 | _ => badC
def gres (P : Program) (sl : List Nat) : List ResultVar → Option (List GRes)
 | [] => some []
 | .tmp t :: rest => do some (.t (gt (plainCx sl []) t) :: (← gres P sl rest))
 | .cell a t :: rest => do some (.cell (gt (plainCx sl []) a) (← sizeOfT P t) (← isAggT P t) :: (← gres P sl rest))
def parsFrom (sl : List Nat) : Nat → Nat → List (Option (List Bool))
 | 0, _ => []
 | n + 1, i => slot sl i :: parsFrom sl n (Nat.succ i)
def gfnAt (P : Program) (f : Func) (b : Code) (sl : List Nat) : Option GFn := match allLt f.ntmps sl with
 | false => none
 | true => match gres P sl f.results.toList with
  | some rs => some ⟨gcode P f.ntmps sl b, parsFrom sl (f.params.size + f.nfree) 0, rs⟩
  | none => none
def gfn (P : Program) (f : Func) : Option GFn := match f.body with
 | some b => gfnAt P f b (resNeed f.results.toList (codeNeed b []))
 | none => none
def FF (P : Program) (i : Nat) : Option GFn := match P.funcs.toList.drop i with
 | f :: _ => gfn P f
 | [] => none
end
end Go.Gev
