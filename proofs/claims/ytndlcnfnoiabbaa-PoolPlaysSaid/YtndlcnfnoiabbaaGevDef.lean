/- A deterministic evaluator for a part of the model's code, over a heap of its own: definitions. -/
import Derived.Calls
namespace Go.Gev
noncomputable section
inductive Tr (α : Type) where
 | e : Tr α
 | n (v : Option α) (l r : Tr α) : Tr α
def Tr.getp {α : Type} (p : List Bool) : Tr α → Option α :=
 List.rec (motive := fun _ => Tr α → Option α) (fun t => Tr.rec (motive := fun _ => Option α) none (fun v _ _ _ _ => v) t)
  (fun b _ ih t => Tr.rec (motive := fun _ => Option α) none (fun _ l r _ _ => Bool.rec (motive := fun _ => Option α) (ih l) (ih r) b) t) p
def Tr.frc {α : Type} (k : Tr α → Tr α) (t : Tr α) : Tr α := Tr.rec (motive := fun _ => Tr α) (k .e) (fun v l r _ _ => k (.n v l r)) t
def frcB {α : Type} (t : Tr α) (b : Bool) : Bool := Tr.rec (motive := fun _ => Bool) b (fun _ _ _ _ _ => b) t
def Tr.setp {α : Type} (x : Option α) (p : List Bool) : Tr α → Tr α :=
 List.rec (motive := fun _ => Tr α → Tr α) (fun t => Tr.rec (motive := fun _ => Tr α) (.n x .e .e) (fun _ l r _ _ => .n x l r) t)
  (fun b _ ih t => Tr.rec (motive := fun _ => Tr α) (Bool.rec (motive := fun _ => Tr α) (.n none (ih .e) .e) (.n none .e (ih .e)) b)
   (fun v l r _ _ => Bool.rec (motive := fun _ => Tr α) (Tr.frc (fun l' => .n v l' r) (ih l)) (Tr.frc (fun r' => .n v l r') (ih r)) b) t) p
def pthF : Nat → Nat → List Bool
 | 0, _ => []
 | f + 1, k => match k with
  | 0 => []
  | k + 1 => Nat.beq (Nat.mod k 2) 0 :: pthF f (Nat.div k 2)
def pth (k : Nat) : List Bool := pthF (Nat.succ k) k
def Tr.get {α : Type} (t : Tr α) (k : Nat) : Option α := t.getp (pth k)
def Tr.set {α : Type} (t : Tr α) (k : Nat) (x : Option α) : Tr α := t.setp x (pth k)
def ofListFrom {α : Type} : List α → Nat → Tr α → Tr α
 | [], _, t => t
 | v :: vs, i, t => Tr.frc (fun t' => ofListFrom vs (Nat.succ i) t') (t.set i (some v))
def ofList {α : Type} (vs : List α) : Tr α := ofListFrom vs 0 .e
inductive Blk where
 /-- cells, how many, the element's type, cells of an element (0: no append), may it be written, has it no address -/
 | row (c : Tr Value) (n : Nat) (e : TypeId) (u : Nat) (rw fl : Bool)
 | mp (es : List MapEntry) (clock : Nat)
 /-- a walk over a map: which, since when, the stamps seen, the last step's clock -/
 | it (m : Option Nat) (since : Nat) (seen : List Nat) (last : Nat)
 /-- a range over a function: 0 ready, 1 in a round, 2 left by 'ret', 3 + id left by 'exit id' -/
 | lp (st : Nat)
structure Hs where
 hp : Tr Blk
 nx : Nat
 lo : Nat
inductive Ix where
 | z
 | s (i : Ix)
inductive GX where
 | l (i : Ix)
 | t (p : List Bool)
 | c (v : Value)
def undef' : Value := .tuple #[]
def dunno : Value := .chan none
abbrev Fr := Tr Value
structure En where
 fr : Fr
 loc : List Value
def vOr : Option Value → Value
 | some v => v
 | none => dunno
def nthL (i : Ix) : List Value → Value :=
 Ix.rec (motive := fun _ => List Value → Value) (fun l => List.rec (motive := fun _ => Value) dunno (fun v _ _ => v) l)
  (fun _ ih l => List.rec (motive := fun _ => Value) dunno (fun _ vs _ => ih vs) l) i
def ev (en : En) : GX → Value
 | .l i => nthL i en.loc
 | .t p => vOr (en.fr.getp p)
 | .c v => v
def flat1 : Value → Bool
 | .pointer a | .slice a _ _ => match a with
  | none => true
  | some _ => false
 | .int _ _ | .bool _ | .string _ | .nilIface | .nilFunc => true
 | _ => false
def flatL : List Value → Bool
 | [] => true
 | v :: vs => match flat1 v with
  | true => flatL vs
  | false => false
def isBig : List MapEntry → Bool
 | [] => false
 | e :: _ => Nat.ble 1000000000000 e.born
def eqI : Int → Int → Bool
 | .ofNat a, .ofNat b => Nat.beq a b
 | .negSucc a, .negSucc b => Nat.beq a b
 | _, _ => false
def leI : Int → Int → Bool
 | .ofNat a, .ofNat b => Nat.ble a b
 | .ofNat _, .negSucc _ => false
 | .negSucc _, .ofNat _ => true
 | .negSucc a, .negSucc b => Nat.ble b a
def ltI (a b : Int) : Bool := match leI b a with
 | true => false
 | false => true
def inK : IntKind → Int → Bool
 | .i64, .ofNat n => Nat.ble n 9223372036854775807
 | .i64, .negSucc n => Nat.ble n 9223372036854775807
 | .u64, .ofNat n => Nat.ble n 18446744073709551615
 | .u8, .ofNat n => Nat.ble n 255
 | .u32, .ofNat n => Nat.ble n 4294967295
 | .i32, .ofNat n => Nat.ble n 2147483647
 | _, _ => false
def wrapF (k : IntKind) (n : Int) : Int := match inK k n with
 | true => n
 | false => match k, n with
  | .u64, .ofNat m => .ofNat (Nat.mod m 18446744073709551616)
  | k, n => k.wrap n
def bitI (op : BinOp) (k : IntKind) : Int → Int → Option Int
 | .ofNat m, .ofNat n => match op with
  | .and => some (wrapF k (.ofNat (Nat.land (Nat.mod m (Nat.pow 2 k.bits)) (Nat.mod n (Nat.pow 2 k.bits)))))
  | .or => some (wrapF k (.ofNat (Nat.lor (Nat.mod m (Nat.pow 2 k.bits)) (Nat.mod n (Nat.pow 2 k.bits)))))
  | .xor => some (wrapF k (.ofNat (Nat.xor (Nat.mod m (Nat.pow 2 k.bits)) (Nat.mod n (Nat.pow 2 k.bits)))))
  | .andNot => some (wrapF k (.ofNat (Nat.land (Nat.mod m (Nat.pow 2 k.bits)) (Nat.sub (Nat.sub (Nat.pow 2 k.bits) 1) (Nat.mod n (Nat.pow 2 k.bits))))))
  | _ => none
 | _, _ => none
def notB : Bool → Bool
 | true => false
 | false => true
def minN (a b : Nat) : Nat := match Nat.ble a b with
 | true => a
 | false => b
abbrev F2 := IntKind → Int → Int → Option Value
def fAdd : F2 := fun k a b => some (.int k (wrapF k (Int.add a b)))
def fSub : F2 := fun k a b => some (.int k (wrapF k (Int.sub a b)))
def fMul : F2 := fun k a b => some (.int k (wrapF k (Int.mul a b)))
def fQuo : F2 := fun k a b => match eqI b 0 with
 | true => none
 | false => some (.int k (wrapF k (Int.tdiv a b)))
def fRem : F2 := fun k a b => match eqI b 0 with
 | true => none
 | false => some (.int k (Int.tmod a b))
def fEql : F2 := fun _ a b => some (.bool (eqI a b))
def fNeq : F2 := fun _ a b => some (.bool (notB (eqI a b)))
def fLss : F2 := fun _ a b => some (.bool (ltI a b))
def fLeq : F2 := fun _ a b => some (.bool (leI a b))
def fGtr : F2 := fun _ a b => some (.bool (ltI b a))
def fGeq : F2 := fun _ a b => some (.bool (leI b a))
def fBits (op : BinOp) : F2 := fun k a b => match bitI op k a b with
 | some r => some (.int k r)
 | none => none
def fNone : F2 := fun _ _ _ => none
def fOf : BinOp → F2
 | .add => fAdd
 | .sub => fSub
 | .mul => fMul
 | .quo => fQuo
 | .rem => fRem
 | .eql => fEql
 | .neq => fNeq
 | .lss => fLss
 | .leq => fLeq
 | .gtr => fGtr
 | .geq => fGeq
 | .and => fBits .and
 | .or => fBits .or
 | .xor => fBits .xor
 | .andNot => fBits .andNot
 | .shl => fNone
 | .shr => fNone
def shI (op : BinOp) (k : IntKind) (a : Int) (b : Int) : Option Value :=
 match b with
 | .negSucc _ => none
 | .ofNat n => match op with
  | .shl => some (.int k (wrapF k (Int.mul a (.ofNat (Nat.pow 2 (minN n k.bits))))))
  | .shr => match a with
   | .ofNat m => some (.int k (.ofNat (Nat.div m (Nat.pow 2 (minN n k.bits)))))
   | .negSucc _ => some (.int k (Int.fdiv a (.ofNat (Nat.pow 2 (minN n k.bits)))))
  | _ => none
def kn : IntKind → Nat
 | .i8 => 0
 | .i16 => 1
 | .i32 => 2
 | .i64 => 3
 | .u8 => 4
 | .u16 => 5
 | .u32 => 6
 | .u64 => 7
def eqB : Bool → Bool → Bool
 | true, true => true
 | false, false => true
 | _, _ => false
def andB : Bool → Bool → Bool
 | true, b => b
 | false, _ => false
def orB : Bool → Bool → Bool
 | true, _ => true
 | false, b => b
def eqL : List UInt8 → List UInt8 → Bool
 | [], [] => true
 | a :: x, b :: y => match Nat.beq a.toNat b.toNat with
  | true => eqL x y
  | false => false
 | _, _ => false
def ltL : List UInt8 → List UInt8 → Bool
 | _, [] => false
 | [], _ :: _ => true
 | a :: x, b :: y => match Nat.blt a.toNat b.toNat with
  | true => true
  | false => match Nat.beq a.toNat b.toNat with
   | true => ltL x y
   | false => false
def binS (op : BinOp) (a b : ByteArray) : Option Value :=
 match op with
 | .add => match Nat.ble (Nat.add a.size b.size) 9223372036854775807 with
  | true => some (.string (a ++ b))
  | false => none
 | .eql => some (.bool (eqL a.data.toList b.data.toList))
 | .neq => some (.bool (notB (eqL a.data.toList b.data.toList)))
 | .lss => some (.bool (ltL a.data.toList b.data.toList))
 | .leq => some (.bool (orB (ltL a.data.toList b.data.toList) (eqL a.data.toList b.data.toList)))
 | .gtr => some (.bool (notB (orB (ltL a.data.toList b.data.toList) (eqL a.data.toList b.data.toList))))
 | .geq => some (.bool (notB (ltL a.data.toList b.data.toList)))
 | _ => none
inductive CK where
 | i
 | b
 | s
def eqI2 (k : IntKind) (a : Int) : Value → Option Bool
 | .int k' b => match Nat.beq (kn k) (kn k') with
  | true => some (eqI a b)
  | false => none
 | _ => none
def eqB2 (a : Bool) : Value → Option Bool
 | .bool b => some (eqB a b)
 | _ => none
def eqS2 (a : ByteArray) : Value → Option Bool
 | .string b => some (eqL a.data.toList b.data.toList)
 | _ => none
def eqCell (c : CK) (x y : Value) : Option Bool := match c, x with
 | .i, .int k a => eqI2 k a y
 | .b, .bool a => eqB2 a y
 | .s, .string a => eqS2 a y
 | _, _ => none
def eqCells : List CK → List Value → List Value → Option Bool
 | [], _, _ => some true
 | c :: cs, xs, ys => match xs, ys with
  | x :: xs, y :: ys => match eqCell c x y with
   | some t => match t with
    | true => eqCells cs xs ys
    | false => some false
   | none => none
  | _, _ => none
abbrev E2 := Value → Value → Option Bool
def qB : E2 := fun x y => match x with
 | .bool a => eqB2 a y
 | _ => none
def qP : E2 := fun x y => match x, y with
 | .pointer a, .pointer b => match a, b with
  | none, none => some true
  | some _, none => some false
  | none, some _ => some false
  | some a, some b => match a.spot, b.spot with
   | none, none => match Nat.beq a.block b.block with
    | true => match Nat.beq a.off b.off with
     | true => some true
     | false => none
    | false => none
   | _, _ => none
 | _, _ => none
def qS : E2 := fun x y => match x, y with
 | .slice a _ _, .slice b _ _ => match a, b with
  | none, none => some true
  | some _, none => some false
  | none, some _ => some false
  | some _, some _ => none
 | _, _ => none
def qI : E2 := fun x y => match x, y with
 | .nilIface, .iface _ _ => some false
 | .iface _ _, .nilIface => some false
 | _, _ => none
def qI0 : E2 := fun x y => match x, y with
 | .nilIface, .nilIface => some true
 | .nilIface, .iface _ _ => some false
 | .iface _ _, .nilIface => some false
 | _, _ => none
def qA (ks : List CK) : E2 := fun x y => match x, y with
 | .agg xs, .agg ys => eqCells ks xs.toList ys.toList
 | _, _ => none
def i2b (f : F2) (k : IntKind) (a : Int) : Value → Option Value
 | .int k' b => match Nat.beq (kn k) (kn k') with
  | true => f k a b
  | false => none
 | _ => none
def i2 (f : F2) : Value → Value → Option Value
 | .int k a, y => i2b f k a y
 | _, _ => none
def sh2b (op : BinOp) (k : IntKind) (a : Int) : Value → Option Value
 | .int _ b => shI op k a b
 | _ => none
def sh2 (op : BinOp) : Value → Value → Option Value
 | .int k a, y => sh2b op k a y
 | _, _ => none
def s2b (op : BinOp) (a : ByteArray) : Value → Option Value
 | .string b => binS op a b
 | _ => none
def s2 (op : BinOp) : Value → Value → Option Value
 | .string a, y => s2b op a y
 | _, _ => none
def boolO (neg : Bool) : Option Bool → Option Value
 | some b => match neg with
  | true => some (.bool (notB b))
  | false => some (.bool b)
 | none => none
def e2 (neg : Bool) (f : E2) (x y : Value) : Option Value := boolO neg (f x y)
def un (op : UnOp) (x : Value) : Option Value :=
 match op, x with
 | .neg, .int k n => some (.int k (wrapF k (Int.sub 0 n)))
 | .not, .bool b => some (.bool (notB b))
 | .xor, .int .u64 (.ofNat n) => some (.int .u64 (wrapF .u64 (.ofNat (Nat.xor 18446744073709551615 (Nat.mod n 18446744073709551616)))))
 | _, _ => none
def oneC : Value → Bool
 | .agg _ | .tuple _ | .chan _ => false
 | _ => true
def allOne : List Value → Bool
 | [] => true
 | v :: vs => match oneC v with
  | true => allOne vs
  | false => false
def cellsL : Value → List Value
 | .agg cs => cs.toList
 | v => [v]
def newRow (h : Hs) (e u : Nat) (cs : List Value) : Hs :=
 ⟨h.hp.set h.nx (some (.row (ofList cs) cs.length e u true (flatL cs))), Nat.succ h.nx, h.lo⟩
def loadN (c : Tr Value) : Nat → Nat → List Value → Option (List Value)
 | 0, _, acc => some acc.reverse
 | n + 1, off, acc => match c.get off with
  | some v => loadN c n (Nat.succ off) (v :: acc)
  | none => none
def storeN : List Value → Nat → Tr Value → Option (Tr Value)
 | [], _, c => some c
 | v :: vs, off, c => match oneC v with
  | false => none
  | true => match c.get off with
   | some _ => storeN vs (Nat.succ off) (c.set off (some v))
   | none => none
def splice : Nat → List Value → List Value → List Value
 | _, [], cs => cs
 | 0, v :: vs, cs => match cs with
  | [] => []
  | _ :: cs => v :: splice 0 vs cs
 | o + 1, vs, cs => match cs with
  | [] => []
  | c :: cs => c :: splice o vs cs
def isDunno : Value → Bool
 | .chan _ => true
 | _ => false
def fill1 (K : List Value → Option (List Value)) (off size : Nat) (v : Value) (cs : List Value) : Option (List Value) := match isDunno v with
 | true => none
 | false => match Nat.beq (cellsL v).length size with
  | false => none
  | true => match Nat.ble (Nat.add off size) cs.length with
   | false => none
   | true => K (splice off (cellsL v) cs)
def fillL (fr : En) : List (Nat × Nat × GX) → List Value → Option (List Value)
 | [], cs => some cs
 | p :: rest, cs => fill1 (fillL fr rest) p.1 p.2.1 (ev fr p.2.2) cs
def rep (z : List Value) : Nat → List Value
 | 0 => []
 | n + 1 => z ++ rep z n
abbrev Rs := Option (Value × Hs)
def evL (fr : En) : List GX → List Value
 | [] => []
 | x :: xs => ev fr x :: evL fr xs
def ret1 (h : Hs) : Option Value → Rs
 | some v => some (v, h)
 | none => none
def oMv (x : GX) (fr : En) (h : Hs) : Rs := some (ev fr x, h)
def pickB (a b : GX) (fr : En) (h : Hs) : Value → Rs
 | .bool t => match t with
  | true => some (ev fr a, h)
  | false => some (ev fr b, h)
 | _ => none
def oPick (c a b : GX) (fr : En) (h : Hs) : Rs := pickB a b fr h (ev fr c)
def oAlloc (e : TypeId) (z : List Value) (_ : En) (h : Hs) : Rs := some (.pointer (some ⟨h.nx, 0, none⟩), newRow h e 0 z)
def oBox (e : TypeId) (x : GX) (fr : En) (h : Hs) : Rs := match isDunno (ev fr x) with
 | true => none
 | false => some (.pointer (some ⟨h.nx, 0, none⟩), newRow h e 0 (cellsL (ev fr x)))
def build1 (h : Hs) : Option (List Value) → Rs
 | some cs => some (.agg cs.toArray, h)
 | none => none
def oBuild (z : List Value) (parts : List (Nat × Nat × GX)) (fr : En) (h : Hs) : Rs := build1 h (fillL fr parts z)
def mkrow1 (e u len : Nat) (h : Hs) : Option (List Value) → Rs
 | some cs => some (.slice (some ⟨h.nx, 0, none⟩) len len, newRow h e u cs)
 | none => none
def oMkrow (e u len : Nat) (z : List Value) (parts : List (Nat × Nat × GX)) (fr : En) (h : Hs) : Rs := mkrow1 e u len h (fillL fr parts (rep z len))
def blkCell (off : Nat) : Option Blk → Option Value
 | some (.row c _ _ _ _ _) => c.get off
 | _ => none
def blkCells (n off : Nat) : Option Blk → Option (List Value)
 | some (.row c _ _ _ _ _) => loadN c n off []
 | _ => none
def addrOf : Value → Option (Nat × Nat)
 | .pointer p => match p with
  | some a => match a.spot with
   | none => some (a.block, a.off)
   | some _ => none
  | none => none
 | _ => none
def load1 (h : Hs) : Option (Nat × Nat) → Rs
 | some p => ret1 h (blkCell p.2 (h.hp.get p.1))
 | none => none
def oLoad (x : GX) (fr : En) (h : Hs) : Rs := load1 h (addrOf (ev fr x))
def loads1 (n : Nat) (h : Hs) : Option (Nat × Nat) → Rs
 | some p => build1 h (blkCells n p.2 (h.hp.get p.1))
 | none => none
def oLoads (n : Nat) (x : GX) (fr : En) (h : Hs) : Rs := loads1 n h (addrOf (ev fr x))
def setRow (h : Hs) (id m e u : Nat) (fl : Bool) : Option (Tr Value) → Option Hs
 | some c => some ⟨h.hp.set id (some (.row c m e u true fl)), h.nx, minN h.lo id⟩
 | none => none
def storeB (h : Hs) (id off : Nat) (vs : List Value) : Option Blk → Option Hs
 | some (.row c m e u rw fl) => match rw with
  | true => match vs with
   | [] => none
   | v :: ws => setRow h id m e u (andB fl (flatL (v :: ws))) (storeN (v :: ws) off c)
  | false => none
 | _ => none
def unit1 : Option Hs → Rs
 | some h => some (undef', h)
 | none => none
def store2 (h : Hs) (vs : List Value) : Option (Nat × Nat) → Rs
 | some p => unit1 (storeB h p.1 p.2 vs (h.hp.get p.1))
 | none => none
def store1 (n : Nat) (h : Hs) (vs : List Value) (a : Option (Nat × Nat)) : Rs := match Nat.beq vs.length n with
 | true => store2 h vs a
 | false => none
def oStore (n : Nat) (a x : GX) (fr : En) (h : Hs) : Rs := store1 n h (cellsL (ev fr x)) (addrOf (ev fr a))
def nilc1 : Value → Option Value
 | .pointer p => match p with
  | some a => some (.pointer (some a))
  | none => none
 | .func fn first captured => match fn with
  | .func f => some (.func (.func f) first captured)
  | _ => none
 | _ => none
def oNilc (x : GX) (fr : En) (h : Hs) : Rs := ret1 h (nilc1 (ev fr x))
def oV2 (f : Value → Value → Option Value) (x y : GX) (fr : En) (h : Hs) : Rs := ret1 h (f (ev fr x) (ev fr y))
def oUn (op : UnOp) (x : GX) (fr : En) (h : Hs) : Rs := ret1 h (un op (ev fr x))
def convI1 (k : IntKind) : Value → Option Value
 | .int _ n => some (.int k (wrapF k n))
 | _ => none
def oConvI (k : IntKind) (x : GX) (fr : En) (h : Hs) : Rs := ret1 h (convI1 k (ev fr x))
def convS1 : Value → Option Value
 | .string s => some (.string s)
 | _ => none
def oConvS (x : GX) (fr : En) (h : Hs) : Rs := ret1 h (convS1 (ev fr x))
def oMkface (t : TypeId) (x : GX) (fr : En) (h : Hs) : Rs := some (.iface t (ev fr x), h)
def oMkfunc (fn : Fn) (first captured : List GX) (fr : En) (h : Hs) : Rs := match fn with
 | .func f => some (.func (.func f) (evL fr first).toArray (evL fr captured).toArray, h)
 | _ => none
def natOf : Value → Option Nat
 | .int _ n => match n with
  | .ofNat n => some n
  | .negSucc _ => none
 | _ => none
def mkslice1 (e u b : Nat) (z : List Value) (h : Hs) : Option Nat → Option Nat → Rs
 | some l, some c => match Nat.ble l c with
  | false => none
  | true => match Nat.ble (Nat.mul b c) 281474976710656 with
   | false => none
   | true => some (.slice (some ⟨h.nx, 0, none⟩) l c, newRow h e u (rep z c))
 | _, _ => none
def oMkslice (e u b : Nat) (z : List Value) (l c : GX) (fr : En) (h : Hs) : Rs := mkslice1 e u b z h (natOf (ev fr l)) (natOf (ev fr c))
def top1 (top : Nat) : Option Nat → Option Nat
 | some n => match Nat.ble n top with
  | true => some n
  | false => none
 | none => none
def bnd (fr : En) (dflt top : Nat) : Option GX → Option Nat
 | none => some dflt
 | some x => top1 top (natOf (ev fr x))
def unitOk (u : Nat) : Option Blk → Bool
 | some (.row _ _ _ u' _ _) => orB (Nat.beq u' 0) (Nat.beq u' u)
 | _ => false
def cutB (h : Hs) (u l hh m : Nat) (a : Addr) : Option Value := match Nat.beq l 0 with
 | true => some (.slice (some a) hh m)
 | false => match Nat.beq hh l with
  | true => some (.slice (some ⟨a.block, a.off, some 0⟩) 0 0)
  | false => match unitOk u (h.hp.get a.block) with
   | true => some (.slice (some ⟨a.block, Nat.add a.off (Nat.mul l u), none⟩) (Nat.sub hh l) (Nat.sub m l))
   | false => none
def cutA (h : Hs) (u l hh m : Nat) (a : Option Addr) : Option Value := match a with
 | none => match Nat.beq hh 0 with
  | true => some (.slice none 0 0)
  | false => none
 | some a => match a.spot with
  | some _ => match Nat.beq hh 0 with
   | true => some (.slice (some a) 0 0)
   | false => none
  | none => cutB h u l hh m a
def slice3 (h : Hs) (u : Nat) (fr : En) (a : Option Addr) (lo : Option GX) (m : Nat) : Option Nat → Option Value
 | none => none
 | some hh => match bnd fr 0 hh lo with
  | none => none
  | some l => cutA h u l hh m a
def slice2 (h : Hs) (u : Nat) (fr : En) (a : Option Addr) (len : Nat) (lo hi : Option GX) : Option Nat → Option Value
 | none => none
 | some m => slice3 h u fr a lo m (bnd fr len m hi)
def slice1 (h : Hs) (u : Nat) (fr : En) (lo hi mx : Option GX) : Value → Option Value
 | .slice a len cap => slice2 h u fr a len lo hi (bnd fr cap cap mx)
 | _ => none
def oSlice (u : Nat) (x : GX) (lo hi mx : Option GX) (fr : En) (h : Hs) : Rs := ret1 h (slice1 h u fr lo hi mx (ev fr x))
def cutstr2 (fr : En) (s : ByteArray) (lo : Option GX) : Option Nat → Option Value
 | none => none
 | some hh => match bnd fr 0 hh lo with
  | none => none
  | some l => some (.string (s.extract l hh))
def cutstr1 (fr : En) (lo hi : Option GX) : Value → Option Value
 | .string s => cutstr2 fr s lo (bnd fr s.size s.size hi)
 | _ => none
def oCutstr (x : GX) (lo hi : Option GX) (fr : En) (h : Hs) : Rs := ret1 h (cutstr1 fr lo hi (ev fr x))
def fieldA1 (k : Nat) : Option (Nat × Nat) → Option Value
 | some p => some (.pointer (some ⟨p.1, Nat.add p.2 k, none⟩))
 | none => none
def oFieldA (k : Nat) (x : GX) (fr : En) (h : Hs) : Rs := ret1 h (fieldA1 k (addrOf (ev fr x)))
def nthV : List Value → Nat → Option Value
 | [], _ => none
 | v :: vs, i => match i with
  | 0 => some v
  | i + 1 => nthV vs i
def field1 (off : Nat) : Value → Option Value
 | .agg cs => nthV cs.toList off
 | _ => none
def oField (off : Nat) (x : GX) (fr : En) (h : Hs) : Rs := ret1 h (field1 off (ev fr x))
def fields1 (off n : Nat) : Value → Option Value
 | .agg cs => match Nat.ble (Nat.add off n) cs.toList.length with
  | true => some (.agg ((cs.toList.drop off).take n).toArray)
  | false => none
 | _ => none
def oFields (off n : Nat) (x : GX) (fr : En) (h : Hs) : Rs := ret1 h (fields1 off n (ev fr x))
def idxA2 (u len : Nat) (a : Option Addr) : Option Nat → Option Value
 | none => none
 | some k => match Nat.blt k len with
  | false => none
  | true => match a with
   | none => none
   | some a => match a.spot with
    | some _ => none
    | none => some (.pointer (some ⟨a.block, Nat.add a.off (Nat.mul k u), none⟩))
def idxA1 (u : Nat) (i : Option Nat) : Value → Option Value
 | .slice a len _ => idxA2 u len a i
 | _ => none
def oIdxA (u : Nat) (x i : GX) (fr : En) (h : Hs) : Rs := ret1 h (idxA1 u (natOf (ev fr i)) (ev fr x))
def idxArr1 (u len : Nat) (i : Option Nat) : Value → Option Value
 | .pointer a => idxA2 u len a i
 | _ => none
def oIdxArr (u len : Nat) (x i : GX) (fr : En) (h : Hs) : Rs := ret1 h (idxArr1 u len (natOf (ev fr i)) (ev fr x))
def nthB : List UInt8 → Nat → Option Value
 | [], _ => none
 | v :: vs, i => match i with
  | 0 => some (.int .u8 (.ofNat v.toNat))
  | i + 1 => nthB vs i
def idxS1 : Value → Option Nat → Option Value
 | .string s, some k => nthB s.data.toList k
 | _, _ => none
def oIdxS (x i : GX) (fr : En) (h : Hs) : Rs := ret1 h (idxS1 (ev fr x) (natOf (ev fr i)))
def extr1 (i : Nat) : Value → Option Value
 | .tuple vs => nthV vs.toList i
 | _ => none
def oExtr (x : GX) (i : Nat) (fr : En) (h : Hs) : Rs := ret1 h (extr1 i (ev fr x))
def lenS1 : Value → Option Value
 | .string s => some (.int .i64 (.ofNat s.size))
 | _ => none
def oLenS (x : GX) (fr : En) (h : Hs) : Rs := ret1 h (lenS1 (ev fr x))
def lenV1 : Value → Option Value
 | .slice _ n _ => some (.int .i64 (.ofNat n))
 | _ => none
def oLenV (x : GX) (fr : En) (h : Hs) : Rs := ret1 h (lenV1 (ev fr x))
def oLenC (n : Nat) (_ : En) (h : Hs) : Rs := some (.int .i64 (.ofNat n), h)
def capV1 : Value → Option Value
 | .slice a _ _ => match a with
  | none => some (.int .i64 0)
  | some _ => none
 | _ => none
def oCapV (x : GX) (fr : En) (h : Hs) : Rs := ret1 h (capV1 (ev fr x))
def mm1 (mx : Bool) : List Value → Option Value
 | [.int k a, .int _ b] => match mx with
  | true => some (.int k (match ltI a b with | true => b | false => a))
  | false => some (.int k (match ltI b a with | true => b | false => a))
 | _ => none
def oMinmax (mx : Bool) (args : List GX) (fr : En) (h : Hs) : Rs := ret1 h (mm1 mx (evL fr args))
def rowOf (h : Hs) (u n : Nat) : Option Addr → Option (List Value)
 | none => match n with
  | 0 => some []
  | _ + 1 => none
 | some a => match n with
  | 0 => some []
  | n + 1 => match a.spot with
   | some _ => none
   | none => blkCells (Nat.mul (Nat.succ n) u) a.off (h.hp.get a.block)
def app4 (h : Hs) (e u id n m : Nat) (c : Tr Value) (sz : Nat) (fl : Bool) (news : List Value) : Bool → Option (List Value) → Rs
 | true, _ => some (.slice (some ⟨h.nx, 0, none⟩) (Nat.add n m) (Nat.add n m),
  ⟨(h.hp.set id none).set h.nx (some (.row (ofListFrom news sz c) (Nat.add sz news.length) e u true (andB fl (flatL news)))), Nat.succ h.nx, minN h.lo id⟩)
 | false, some old => some (.slice (some ⟨h.nx, 0, none⟩) (Nat.add n m) (Nat.add n m),
  ⟨(h.hp.set id none).set h.nx (some (.row (ofList (old ++ news)) (Nat.add old.length news.length) e u true (andB fl (flatL news)))), Nat.succ h.nx, minN h.lo id⟩)
 | false, none => none
def app3 (h : Hs) (e u id n m : Nat) (news : List Value) : Option Blk → Rs
 | some (.row c sz e' u' rw fl) => match rw with
  | false => none
  | true => match Nat.beq u u' with
   | false => none
   | true => match Nat.beq e e' with
    | false => none
    | true => app4 h e u id n m c sz fl news (frcB c (Nat.beq (Nat.mul n u) sz)) (loadN c (Nat.mul n u) 0 [])
 | _ => none
def app2 (h : Hs) (e u by_ m : Nat) (news : List Value) : Value → Rs
 | .slice a n _ => match Nat.ble (Nat.mul (Nat.add n m) by_) 70368744177664 with
  | false => none
  | true => match a with
   | none => match m with
    | 0 => some (.slice none 0 0, h)
    | m + 1 => some (.slice (some ⟨h.nx, 0, none⟩) (Nat.succ m) (Nat.succ m), newRow h e u news)
   | some a => match a.spot with
    | some _ => none
    | none => match Nat.beq a.off 0 with
     | false => none
     | true => app3 h e u a.block n m news (h.hp.get a.block)
 | _ => none
def app1 (h : Hs) (e u by_ m : Nat) (s : Value) : Option (List Value) → Rs
 | some news => match allOne news with
  | true => app2 h e u by_ m news s
  | false => none
 | none => none
def app0 (e u by_ : Nat) (h : Hs) (s : Value) : Value → Rs
 | .slice a m _ => app1 h e u by_ m s (rowOf h u m a)
 | _ => none
def oAppend (e u by_ : Nat) (s x : GX) (fr : En) (h : Hs) : Rs := app0 e u by_ h (ev fr s) (ev fr x)
def appZ1 (h : Hs) (e u by_ : Nat) (z : List Value) (s : Value) : Option Nat → Rs
 | none => none
 | some m => match Nat.ble (Nat.mul m by_) 70368744177664 with
  | true => app1 h e u by_ m s (some (rep z m))
  | false => none
def oAppendZ (e u by_ : Nat) (z : List Value) (s x : GX) (fr : En) (h : Hs) : Rs := appZ1 h e u by_ z (ev fr s) (natOf (ev fr x))
def copy3 (n : Nat) : Option Hs → Rs
 | some h => some (.int .i64 (.ofNat n), h)
 | none => none
def copy2 (h : Hs) (n : Nat) (d : Option Addr) : Option (List Value) → Rs
 | none => none
 | some vs => match d with
  | none => none
  | some d => match d.spot with
   | some _ => none
   | none => copy3 n (storeB h d.block d.off vs (h.hp.get d.block))
def copy1 (u : Nat) (h : Hs) (d s : Option Addr) : Nat → Rs
 | 0 => some (.int .i64 0, h)
 | n + 1 => copy2 h (Nat.succ n) d (rowOf h u (Nat.succ n) s)
def copy0 (u : Nat) (h : Hs) : Value → Value → Rs
 | .slice da dn _, .slice sa sn _ => copy1 u h da sa (minN sn dn)
 | _, _ => none
def oCopy (u : Nat) (d s : GX) (fr : En) (h : Hs) : Rs := copy0 u h (ev fr d) (ev fr s)
def oBad (_ : En) (_ : Hs) : Rs := none
inductive GOp where
 | fn (g : En → Hs → Rs)
 | call (f : FuncId) (args : List GX)
 | callv (f : GX) (args : List GX)
structure GOper where
 op : GOp
 dst : Option (List Bool)
 guard : Option (GX × Bool)
inductive DK where
 | blind
 | light
 | bar
 /-- it makes blocks and looks at none -/
 | make
structure LW where
 fz : Bool
 p : List Bool
 ts : List Nat
structure DOper where
 op : GOp
 guard : Option (GX × Bool)
 kind : DK
 lm : List Bool
 /-- where the region's cut stands; is this operation low? -/
 lw : Option LW
 low : Bool
inductive GCode where
 | skip
 | ret
 | exit (id : Nat)
 | seq (a b : GCode)
 | cond (c : GX) (a b : GCode)
 | block (id : Nat) (b : GCode)
 | loop (b : GCode)
 | reg (ops : List GOper)
 /-- a region that draws its order: the operations, where their values go -/
 | dreg (ops : List DOper) (pts : List (Option (List Bool))) (lw : Option LW)
inductive GRes where
 | t (x : GX)
 | cell (x : GX) (n : Nat) (ag : Bool)
structure GFn where
 body : GCode
 pars : List (Option (List Bool))
 res : List GRes
inductive Ex where
 | nor
 | ret
 | exit (id : Nat)
def put (dst : Option (List Bool)) (v : Value) (fr : Fr) : Fr := match dst with
 | none => fr
 | some p => fr.setp (some v) p
def enterF : List Value → List (Option (List Bool)) → Fr → Fr
 | [], _, t => t
 | v :: vs, ps, t => match ps with
  | [] => t
  | p :: ps => enterF vs ps (put p v t)
def consR (rest : Option (List Value)) : Option Value → Option (List Value)
 | some v => match rest with
  | some vs => some (v :: vs)
  | none => none
 | none => none
def aggO : Option (List Value) → Option Value
 | some cs => some (.agg cs.toArray)
 | none => none
def cellV (h : Hs) (n : Nat) (ag : Bool) : Option (Nat × Nat) → Option Value
 | some p => match ag with
  | true => aggO (blkCells n p.2 (h.hp.get p.1))
  | false => blkCell p.2 (h.hp.get p.1)
 | none => none
def resV (en : En) (h : Hs) : List GRes → Option (List Value)
 | [] => some []
 | r :: rest => match r with
  | .t x => consR (resV en h rest) (some (ev en x))
  | .cell x n ag => consR (resV en h rest) (cellV h n ag (addrOf (ev en x)))
def yes (want : Bool) : Value → Option Bool
 | .bool b => some (eqB b want)
 | .tuple vs => match vs.toList with
  | [] => some false
  | _ => none
 | _ => none
def goes (en : En) : Option (GX × Bool) → Option Bool
 | none => some true
 | some g => yes g.2 (ev en g.1)
structure Mv where
 hp : Tr Blk
 nx : Nat
 mp : List (Nat × Nat)
def lookN (k : Nat) : List (Nat × Nat) → Option Nat
 | [] => none
 | p :: ps => match Nat.beq p.1 k with
  | true => some p.2
  | false => lookN k ps
def mvNew (m : Mv) (id : Nat) : Option Blk → Option (Nat × Mv)
 | some (.row c n e u rw fl) => match fl with
  | true => some (m.nx, ⟨m.hp.set m.nx (some (.row c n e u rw true)), Nat.succ m.nx, (id, m.nx) :: m.mp⟩)
  | false => none
 | _ => none
def mvOld (src : Tr Blk) (m : Mv) (id : Nat) : Option Nat → Option (Nat × Mv)
 | some id' => some (id', m)
 | none => mvNew m id (src.get id)
def mvId (src : Tr Blk) (n0 : Nat) (m : Mv) (id : Nat) : Option (Nat × Mv) := match Nat.blt id n0 with
 | true => some (id, m)
 | false => mvOld src m id (lookN id m.mp)
def atNew (off : Nat) (K : Addr → Value) : Option (Nat × Mv) → Option (Value × Mv)
 | some p => some (K ⟨p.1, off, none⟩, p.2)
 | none => none
def mvAddr (src : Tr Blk) (n0 : Nat) (m : Mv) (K : Addr → Value) (a : Addr) : Option (Value × Mv) := match a.spot with
 | none => atNew a.off K (mvId src n0 m a.block)
 | some _ => some (K a, m)
def mvCell (src : Tr Blk) (n0 : Nat) (m : Mv) (v : Value) : Option (Value × Mv) := match v with
 | .pointer a => match a with
  | none => some (.pointer none, m)
  | some a => mvAddr src n0 m (fun a => .pointer (some a)) a
 | .slice a n c => match a with
  | none => some (.slice none n c, m)
  | some a => mvAddr src n0 m (fun a => .slice (some a) n c) a
 | v => match flat1 v with
  | true => some (v, m)
  | false => none
def mvCons (rest : Mv → Option (List Value × Mv)) : Option (Value × Mv) → Option (List Value × Mv)
 | none => none
 | some p => match rest p.2 with
  | none => none
  | some q => some (p.1 :: q.1, q.2)
def mvCells (src : Tr Blk) (n0 : Nat) : List Value → Mv → Option (List Value × Mv)
 | [], m => some ([], m)
 | v :: vs, m => mvCons (mvCells src n0 vs) (mvCell src n0 m v)
def mvWrap (K : List Value → Value) : Option (List Value × Mv) → Option (Value × Mv)
 | none => none
 | some p => some (K p.1, p.2)
def mvPart (src : Tr Blk) (n0 : Nat) (m : Mv) (v : Value) : Option (Value × Mv) := match v with
 | .agg cs => mvWrap (fun l => .agg l.toArray) (mvCells src n0 cs.toList m)
 | v => mvCell src n0 m v
def mvParts (src : Tr Blk) (n0 : Nat) : List Value → Mv → Option (List Value × Mv)
 | [], m => some ([], m)
 | v :: vs, m => mvCons (mvParts src n0 vs) (mvPart src n0 m v)
def mvAll (src : Tr Blk) (n0 : Nat) (m : Mv) (v : Value) : Option (Value × Mv) := match v with
 | .tuple vs => mvWrap (fun l => .tuple l.toArray) (mvParts src n0 vs.toList m)
 | v => mvPart src n0 m v
inductive Task where
 | code (c : GCode)
 | call (f : FuncId) (args : List Value)
inductive Out where
 | fin (e : Ex) (fr : Fr) (h : Hs)
 | val (v : Value) (h : Hs)
abbrev Rn := Task → Fr → Hs → Option Out
def clear2 (h0 : Hs) (v : Value) (h : Hs) : Option (Value × Mv) → Option Out
 | some p => some (.val p.1 ⟨p.2.hp, p.2.nx, h0.lo⟩)
 | none => some (.val v ⟨h.hp, h.nx, h0.lo⟩)
def clear1 (h0 : Hs) (v : Value) (h : Hs) : Bool → Option Out
 | true => some (.val v ⟨h.hp, h.nx, minN h0.lo h.lo⟩)
 | false => clear2 h0 v h (mvAll h.hp h0.nx ⟨h0.hp, h0.nx, []⟩ v)
def clearUp (h0 : Hs) : Option Out → Option Out
 | some (.val v h) => clear1 h0 v h (Nat.blt h.lo h0.nx)
 | _ => none
def isVal (K : Value → Hs → Option Out) : Option Out → Option Out
 | some (.val v h) => K v h
 | _ => none
def after (K : Value → Hs → Option Out) : Rs → Option Out
 | some p => K p.1 p.2
 | none => none
def callV (R : Rn) (args : List Value) (h : Hs) : Value → Option Out
 | .func fn first captured => match fn with
  | .func f => R (.call f (first.toList ++ args ++ captured.toList)) .e h
  | _ => none
 | _ => none
def doOp (R : Rn) (en : En) (h : Hs) (K : Value → Hs → Option Out) : GOp → Option Out
 | .fn g => after K (g en h)
 | .call f args => isVal K (R (.call f (evL en args)) .e h)
 | .callv f args => isVal K (callV R (evL en args) h (ev en f))
def opGo (R : Rn) (en : En) (h : Hs) (o : GOper) (K : Value → Hs → Option Out) : Option Bool → Option Out
 | some b => match b with
  | true => doOp R en h K o.op
  | false => K undef' h
 | none => none
def runOps (R : Rn) (ops : List GOper) : Fr → List Value → Hs → Option Out :=
 List.rec (motive := fun _ => Fr → List Value → Hs → Option Out) (fun fr _ h => some (.fin .nor fr h))
  (fun o _ ih fr loc h => opGo R ⟨fr, loc⟩ h o (fun v h' => ih (put o.dst v fr) (v :: loc) h') (goes ⟨fr, loc⟩ o.guard)) ops
def hideN : Nat → Nat → Tr Blk → Tr Blk
 | 0, _, t => t
 | n + 1, i, t => hideN n (Nat.succ i) (t.set i none)
def hideH : List Bool → List (Nat × Nat) → Tr Blk → Tr Blk
 | _, [], t => t
 | bs, p :: ps, t => match bs with
  | [] => hideN (Nat.sub p.2 p.1) p.1 (hideH [] ps t)
  | b :: bs => match b with
   | true => hideH bs ps t
   | false => hideN (Nat.sub p.2 p.1) p.1 (hideH bs ps t)
def backN (src : Tr Blk) : Nat → Nat → Tr Blk → Tr Blk
 | 0, _, t => t
 | n + 1, i, t => backN src n (Nat.succ i) (t.set i (src.get i))
def dHid (k : DK) (lm : List Bool) (hist : List (Nat × Nat)) (h : Hs) : Hs := match k with
 | .blind => ⟨.e, h.nx, h.nx⟩
 | .light => ⟨hideH lm hist h.hp, h.nx, h.nx⟩
 | .bar => h
 | .make => ⟨.e, h.nx, h.nx⟩
def dFit (h h1 : Hs) : DK → Bool
 | .blind => andB (Nat.beq h1.nx h.nx) (Nat.ble h.nx h1.lo)
 | .light => andB (Nat.ble h.nx h1.nx) (Nat.ble h.nx h1.lo)
 | .bar => Nat.ble h.nx h1.nx
 | .make => andB (Nat.ble h.nx h1.nx) (Nat.ble h.nx h1.lo)
def dNext (h h1 : Hs) : DK → Hs
 | .blind => h
 | .light => ⟨backN h1.hp (Nat.sub h1.nx h.nx) h.nx h.hp, h1.nx, h.lo⟩
 | .bar => h1
 | .make => ⟨backN h1.hp (Nat.sub h1.nx h.nx) h.nx h.hp, h1.nx, h.lo⟩
def lowA : Option Addr → Nat
 | some a => a.block
 | none => 0
def cutV : Value → Nat
 | .pointer a => lowA a
 | .slice a _ _ => lowA a
 | _ => 0
def fzId (fr : Fr) (L : LW) : Nat := cutV (vOr (fr.getp L.p))
def cutL (fr : Fr) (L : LW) : Nat := match L.fz with
 | true => 0
 | false => fzId fr L
def cutO (fr : Fr) : Option LW → Nat
 | none => 0
 | some L => cutL fr L
def frzB : Blk → Option Blk
 | .row c n e u _ fl => some (.row c n e u false fl)
 | .mp _ _ => none
 | .it _ _ _ _ => none
 | .lp _ => none
def frz1 : Option Blk → Option Blk
 | some b => frzB b
 | none => none
def fzB : Blk → Option Blk
 | .row c n e u rw fl => match rw with
  | true => none
  | false => some (.row c n e u false fl)
 | .mp _ _ => none
 | .it _ _ _ _ => none
 | .lp _ => none
def fzOnly : Option Blk → Option Blk
 | some b => fzB b
 | none => none
def lowM (c : Nat) (h0 h : Hs) : Hs := ⟨hideN (Nat.sub h0.nx c) c h0.hp, h.nx, h.nx⟩
def lowF (id : Nat) (h0 h : Hs) : Hs := ⟨Tr.set .e id (fzOnly (h0.hp.get id)), h.nx, h.nx⟩
def lowL (fr : Fr) (h0 h : Hs) (L : LW) : Hs := match L.fz with
 | true => lowF (fzId fr L) h0 h
 | false => lowM (fzId fr L) h0 h
def lowW (fr : Fr) (h0 h : Hs) : Option LW → Hs
 | none => lowM 0 h0 h
 | some L => lowL fr h0 h L
def dHidW (fr : Fr) (h0 : Hs) (d : DOper) (hist : List (Nat × Nat)) (h : Hs) : Hs := match d.low with
 | true => lowW fr h0 h d.lw
 | false => dHid d.kind d.lm hist h
def dFitW (fr : Fr) (h h1 : Hs) (d : DOper) : Bool := andB (dFit h h1 d.kind) (Nat.ble (cutO fr d.lw) h1.lo)
def dPut (K : Value → Hs → Option Out) (v : Value) (h : Hs) : Bool → Option Out
 | true => K v h
 | false => none
def dGo (R : Rn) (fr : Fr) (en : En) (hid h : Hs) (o : DOper) (K : Value → Hs → Option Out) : Option Bool → Option Out
 | some b => match b with
  | true => doOp R en hid (fun v h1 => dPut K v (dNext h h1 o.kind) (dFitW fr h h1 o)) o.op
  | false => K undef' h
 | none => none
def dStep (R : Rn) (fr : Fr) (h0 : Hs) (loc : List Value) (hist : List (Nat × Nat)) (h : Hs) (o : DOper) (K : Value → Hs → Option Out) : Option Out :=
 dGo R fr ⟨fr, loc⟩ (dHidW fr h0 o hist h) h o K (goes ⟨fr, loc⟩ o.guard)
def runD (R : Rn) (fr : Fr) (h0 : Hs) (K : List Value → Hs → Option Out) (ops : List DOper) : List Value → List (Nat × Nat) → Hs → Option Out :=
 List.rec (motive := fun _ => List Value → List (Nat × Nat) → Hs → Option Out) (fun loc _ h => K loc h)
  (fun o _ ih loc hist h => dStep R fr h0 loc hist h o (fun v h' => ih (v :: loc) ((h.nx, h'.nx) :: hist) h')) ops
def putAll : List (Option (List Bool)) → List Value → Fr → Fr
 | [], _, fr => fr
 | p :: ps, vs, fr => match vs with
  | [] => fr
  | v :: vs => putAll ps vs (put p v fr)
def startL (fr : Fr) (h : Hs) (L : LW) : Hs := match L.fz with
 | true => ⟨h.hp.set (fzId fr L) (frz1 (h.hp.get (fzId fr L))), h.nx, h.nx⟩
 | false => ⟨h.hp, h.nx, h.nx⟩
def dStart (fr : Fr) (h : Hs) : Option LW → Hs
 | none => h
 | some L => startL fr h L
def endL (fr : Fr) (h h' : Hs) (L : LW) : Hs := match L.fz with
 | true => ⟨h'.hp.set (fzId fr L) (h.hp.get (fzId fr L)), h'.nx, minN h.lo h'.lo⟩
 | false => ⟨h'.hp, h'.nx, minN h.lo h'.lo⟩
def dEnd (fr : Fr) (h h' : Hs) : Option LW → Hs
 | none => h'
 | some L => endL fr h h' L
def runDreg (R : Rn) (ops : List DOper) (pts : List (Option (List Bool))) (lw : Option LW) (fr : Fr) (h : Hs) : Option Out := match Nat.ble (cutO fr lw) h.nx with
 | true => runD R fr (dStart fr h lw) (fun loc h' => some (.fin .nor (putAll pts loc.reverse fr) (dEnd fr h h' lw))) ops [] [] (dStart fr h lw)
 | false => none
def thenDo (R : Rn) (b : GCode) : Option Out → Option Out
 | some (.fin .nor fr h) => R (.code b) fr h
 | r => r
def outOf (id : Nat) : Option Out → Option Out
 | some (.fin (.exit id') fr h) => match Nat.beq id' id with
  | true => some (.fin .nor fr h)
  | false => some (.fin (.exit id') fr h)
 | r => r
def branch (R : Rn) (a b : GCode) (fr : Fr) (h : Hs) : Value → Option Out
 | .bool t => match t with
  | true => R (.code a) fr h
  | false => R (.code b) fr h
 | _ => none
def packR (h : Hs) : Option (List Value) → Option Out
 | none => none
 | some vs => match vs with
  | [] => some (.val (.tuple #[]) h)
  | v :: ws => match ws with
   | [] => some (.val v h)
   | w :: us => some (.val (.tuple (v :: w :: us).toArray) h)
def leave (rs : List GRes) : Option Out → Option Out
 | some (.fin e fr h) => match e with
  | .exit _ => none
  | _ => packR h (resV ⟨fr, []⟩ h rs)
 | _ => none
def enter (R : Rn) (args : List Value) (h : Hs) : Option GFn → Option Out
 | none => none
 | some g => clearUp h (leave g.res (R (.code g.body) (enterF args g.pars .e) ⟨h.hp, h.nx, h.nx⟩))
def stepC (R : Rn) (fr : Fr) (h : Hs) : GCode → Option Out
 | .skip => some (.fin .nor fr h)
 | .ret => some (.fin .ret fr h)
 | .exit id => some (.fin (.exit id) fr h)
 | .seq a b => thenDo R b (R (.code a) fr h)
 | .cond c a b => branch R a b fr h (ev ⟨fr, []⟩ c)
 | .block id b => outOf id (R (.code b) fr h)
 | .loop b => thenDo R (.loop b) (R (.code b) fr h)
 | .reg ops => runOps R ops fr [] h
 | .dreg ops pts lw => runDreg R ops pts lw fr h
def stepT (F : Nat → Option GFn) (R : Rn) (fr : Fr) (h : Hs) : Task → Option Out
 | .call f args => enter R args h (F f)
 | .code c => stepC R fr h c
def run (F : Nat → Option GFn) (k : Nat) : Rn :=
 Nat.rec (motive := fun _ => Rn) (fun _ _ _ => none) (fun _ ih t fr h => stepT F ih fr h t) k
end
end Go.Gev
