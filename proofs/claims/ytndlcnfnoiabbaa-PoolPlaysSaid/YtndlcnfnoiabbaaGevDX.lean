/- More operations of the evaluator: definitions: bytes and strings, unsafe's few, what the model stands in for. -/
import Derived.Test.YtndlcnfnoiabbaaGevDef
namespace Go.Gev
noncomputable section
def byteOf : Value → Option UInt8
 | .int k n => match k, n with
  | .u8, .ofNat n => match Nat.ble n 255 with
   | true => some (UInt8.ofNat n)
   | false => none
  | _, _ => none
 | _ => none
def bytesV : List Value → Option (List UInt8)
 | [] => some []
 | v :: vs => match byteOf v with
  | none => none
  | some b => match bytesV vs with
   | none => none
   | some bs => some (b :: bs)
def strO : Option (List UInt8) → Option Value
 | some l => some (.string ⟨l.toArray⟩)
 | none => none
def bytesO : Option (List Value) → Option (List UInt8)
 | some vs => bytesV vs
 | none => none
def toStr1 (h : Hs) : Value → Option Value
 | .slice a n _ => strO (bytesO (rowOf h 1 n a))
 | _ => none
def oToStr (x : GX) (fr : En) (h : Hs) : Rs := ret1 h (toStr1 h (ev fr x))
def byteVs : List UInt8 → List Value
 | [] => []
 | b :: bs => .int .u8 (.ofNat b.toNat) :: byteVs bs
def toBytes1 (e : TypeId) (h : Hs) : Value → Rs
 | .string s => match Nat.ble s.data.toList.length 70368744177664 with
  | true => some (.slice (some ⟨h.nx, 0, none⟩) s.data.toList.length s.data.toList.length, newRow h e 1 (byteVs s.data.toList))
  | false => none
 | _ => none
def oToBytes (e : TypeId) (x : GX) (fr : En) (h : Hs) : Rs := toBytes1 e h (ev fr x)
def mark3 (h : Hs) (id n m : Nat) : Option Blk → Rs
 | some (.row c sz e _ rw fl) => match rw with
  | true => some (.slice (some ⟨h.nx, 0, none⟩) n m, ⟨(h.hp.set id none).set h.nx (some (.row c sz e 0 true fl)), Nat.succ h.nx, minN h.lo id⟩)
  | false => none
 | _ => none
def mark2 (h : Hs) (a : Addr) (n m : Nat) : Rs := match a.spot with
 | some _ => none
 | none => match Nat.beq a.off 0 with
  | true => mark3 h a.block n m (h.hp.get a.block)
  | false => none
def mark1 (h : Hs) : Value → Rs
 | .slice a n m => match a with
  | some a => mark2 h a n m
  | none => none
 | _ => none
def oMark (x : GX) (fr : En) (h : Hs) : Rs := mark1 h (ev fr x)
def isSm : Option Value → Bool
 | some _ => true
 | none => false
def toUns1 (h : Hs) (v : Value) : Option (Nat × Nat) → Option Value
 | some p => match isSm (blkCell p.2 (h.hp.get p.1)) with
  | true => some v
  | false => none
 | none => none
def oToUns (x : GX) (fr : En) (h : Hs) : Rs := ret1 h (toUns1 h (ev fr x) (addrOf (ev fr x)))
def headOf (u sz : Nat) : Option Blk → Bool
 | some (.row _ n e _ rw _) => match rw with
  | true => match Nat.beq e u with
   | true => Nat.ble sz n
   | false => false
  | false => false
 | _ => false
def fromUns1 (u sz : Nat) (h : Hs) (v : Value) : Option (Nat × Nat) → Option Value
 | some p => match Nat.beq p.2 0 with
  | true => match headOf u sz (h.hp.get p.1) with
   | true => some v
   | false => none
  | false => none
 | none => none
def oFromUns (u sz : Nat) (x : GX) (fr : En) (h : Hs) : Rs := ret1 h (fromUns1 u sz h (ev fr x) (addrOf (ev fr x)))
def sdata1 : Value → Option Value
 | .slice a n _ => match a with
  | none => some (.pointer none)
  | some a => match n with
   | 0 => none
   | _ + 1 => some (.pointer (some a))
 | _ => none
def oSdata (x : GX) (fr : En) (h : Hs) : Rs := ret1 h (sdata1 (ev fr x))
def ustr4 (h : Hs) (id : Nat) : Option Value → Rs
 | some v => some (v, ⟨h.hp.set id none, h.nx, minN h.lo id⟩)
 | none => none
def ustr3 (e : TypeId) (h : Hs) (id n : Nat) : Option Blk → Rs
 | some (.row c _ eb _ rw _) => match rw with
  | true => match Nat.beq eb e with
   | true => ustr4 h id (strO (bytesO (loadN c n 0 [])))
   | false => none
  | false => none
 | _ => none
def ustr2 (e : TypeId) (h : Hs) (n : Nat) : Option Addr → Rs
 | none => none
 | some a => match a.spot with
  | some _ => none
  | none => match Nat.beq a.off 0 with
   | true => ustr3 e h a.block n (h.hp.get a.block)
   | false => none
def ustr1 (e : TypeId) (h : Hs) : Value → Option Nat → Rs
 | .pointer p, some n => match n with
  | 0 => some (.string ByteArray.empty, h)
  | n + 1 => match Nat.ble (Nat.succ n) 9223372036854775807 with
   | true => ustr2 e h (Nat.succ n) p
   | false => none
 | _, _ => none
def nat64 : Value → Option Nat
 | .int k n => match k, n with
  | .i64, .ofNat n => some n
  | _, _ => none
 | _ => none
def oUstr (e : TypeId) (x n : GX) (fr : En) (h : Hs) : Rs := ustr1 e h (ev fr x) (nat64 (ev fr n))
def oAppendS (e by_ : Nat) (s x : GX) (fr : En) (h : Hs) : Rs := match ev fr x with
 | .string t => app1 h e 1 by_ t.data.toList.length (ev fr s) (some (byteVs t.data.toList))
 | _ => none
def findB (c : Nat) : List UInt8 → Nat → Option Nat
 | [], _ => none
 | b :: bs, i => match Nat.beq b.toNat c with
  | true => some i
  | false => findB c bs (Nat.succ i)
def findV : Option Nat → Value
 | some i => .int .i64 (.ofNat i)
 | none => .int .i64 (.negSucc 0)
def idxB1 : Value → Value → Option Value
 | .string s, .int k n => match k, n with
  | .u8, .ofNat c => match Nat.ble c 255 with
   | true => some (findV (findB c s.data.toList 0))
   | false => none
  | _, _ => none
 | _, _ => none
def oIdxB (s c : GX) (fr : En) (h : Hs) : Rs := ret1 h (idxB1 (ev fr s) (ev fr c))
def mkNZ (e : Nat) (h : Hs) : Option Nat → Rs
 | some n => match Nat.ble n 70368744177664 with
  | true => some (.slice (some ⟨h.nx, 0, none⟩) n n, newRow h e 1 (rep [dunno] n))
  | false => none
 | none => none
def oMkNZ (e : Nat) (x : GX) (fr : En) (h : Hs) : Rs := mkNZ e h (nat64 (ev fr x))
def countB (c : Nat) : List UInt8 → Nat → Nat
 | [], n => n
 | b :: bs, n => match Nat.beq b.toNat c with
  | true => countB c bs (Nat.succ n)
  | false => countB c bs n
def cntB1 : Value → Value → Option Value
 | .string s, .int k n => match k, n with
  | .u8, .ofNat c => match Nat.ble c 255 with
   | true => some (.int .i64 (.ofNat (countB c s.data.toList 0)))
   | false => none
  | _, _ => none
 | _, _ => none
def oCntB (s c : GX) (fr : En) (h : Hs) : Rs := ret1 h (cntB1 (ev fr s) (ev fr c))
def eqKey (k : Value) (y : Value) : Option Bool := match k with
 | .int kd a => eqI2 kd a y
 | .string a => eqS2 a y
 | _ => none
def keyish (b : Bool) : Value → Bool
 | .int _ _ => b
 | .string _ => notB b
 | _ => false
def findM (k : Value) : List MapEntry → Nat → Option (Option (Nat × Value))
 | [], _ => some none
 | e :: es, i => match eqKey k e.key with
  | none => none
  | some b => match b with
   | true => some (some (i, e.val))
   | false => findM k es (Nat.succ i)
def lkV (z : Value) (ok : Bool) : Option (Nat × Value) → Value
 | some p => match ok with
  | true => .tuple #[p.2, .bool true]
  | false => p.2
 | none => match ok with
  | true => .tuple #[z, .bool false]
  | false => z
def lkO (z : Value) (ok : Bool) : Option (Option (Nat × Value)) → Option Value
 | some r => some (lkV z ok r)
 | none => none
def lk2 (z : Value) (ok : Bool) (k : Value) : Option Blk → Option Value
 | some (.mp es _) => lkO z ok (findM k es 0)
 | _ => none
def lk1 (b : Bool) (h : Hs) (z : Value) (ok : Bool) (k : Value) : Value → Option Value
 | .map r => match r with
  | none => some (lkV z ok none)
  | some id => match keyish b k with
   | true => lk2 z ok k (h.hp.get id)
   | false => none
 | _ => none
def oLookup (b : Bool) (z : Value) (ok : Bool) (m k : GX) (fr : En) (h : Hs) : Rs := ret1 h (lk1 b h z ok (ev fr k) (ev fr m))
def mkmap1 (h : Hs) : Value → Rs
 | .int _ _ => some (.map (some h.nx), ⟨h.hp.set h.nx (some (.mp [] 0)), Nat.succ h.nx, h.lo⟩)
 | _ => none
def oMkmap (x : GX) (fr : En) (h : Hs) : Rs := mkmap1 h (ev fr x)
def setVal (v : Value) : Nat → List MapEntry → List MapEntry
 | _, [] => []
 | 0, e :: es => ⟨e.key, v, e.born⟩ :: es
 | i + 1, e :: es => e :: setVal v i es
def dropAt : Nat → List MapEntry → List MapEntry
 | _, [] => []
 | 0, _ :: es => es
 | i + 1, e :: es => e :: dropAt i es
def setMp (h : Hs) (id : Nat) (es : List MapEntry) (cl : Nat) : Rs := some (undef', ⟨h.hp.set id (some (.mp es cl)), h.nx, minN h.lo id⟩)
def mapnew (h : Hs) (id : Nat) (k v : Value) (es : List MapEntry) (cl : Nat) : Bool → Rs
 | true => setMp h id (es ++ [⟨k, v, 1000000000000⟩]) (Nat.succ cl)
 | false => match Nat.blt cl 1000000000000 with
  | true => setMp h id (es ++ [⟨k, v, cl⟩]) (Nat.succ cl)
  | false => none
def mapup3 (h : Hs) (id : Nat) (k v : Value) (es : List MapEntry) (cl : Nat) : Option (Option (Nat × Value)) → Rs
 | none => none
 | some r => match r with
  | some p => setMp h id (setVal v p.1 es) cl
  | none => mapnew h id k v es cl (isBig es)
def mapup2 (h : Hs) (id : Nat) (k v : Value) : Option Blk → Rs
 | some (.mp es cl) => mapup3 h id k v es cl (findM k es 0)
 | _ => none
def mapup1 (b : Bool) (h : Hs) (k v : Value) : Value → Rs
 | .map r => match r with
  | none => none
  | some id => match keyish b k with
   | true => mapup2 h id k v (h.hp.get id)
   | false => none
 | _ => none
def oMapup (b : Bool) (m k v : GX) (fr : En) (h : Hs) : Rs := mapup1 b h (ev fr k) (ev fr v) (ev fr m)
def mapdel3 (h : Hs) (id : Nat) (es : List MapEntry) (cl : Nat) : Option (Option (Nat × Value)) → Rs
 | none => none
 | some r => match r with
  | some p => setMp h id (dropAt p.1 es) cl
  | none => setMp h id es cl
def mapdel2 (h : Hs) (id : Nat) (k : Value) : Option Blk → Rs
 | some (.mp es cl) => mapdel3 h id es cl (findM k es 0)
 | _ => none
def mapdel1 (b : Bool) (h : Hs) (k : Value) : Value → Rs
 | .map r => match r with
  | none => some (undef', h)
  | some id => match keyish b k with
   | true => mapdel2 h id k (h.hp.get id)
   | false => none
 | _ => none
def oMapdel (b : Bool) (m k : GX) (fr : En) (h : Hs) : Rs := mapdel1 b h (ev fr k) (ev fr m)
def maplen2 : Option Blk → Option Value
 | some (.mp es _) => some (.int .i64 (.ofNat es.length))
 | _ => none
def maplen1 (h : Hs) : Value → Option Value
 | .map r => match r with
  | none => some (.int .i64 (.ofNat 0))
  | some id => maplen2 (h.hp.get id)
 | _ => none
def oMaplen (m : GX) (fr : En) (h : Hs) : Rs := ret1 h (maplen1 h (ev fr m))
def range2 (h : Hs) (id : Nat) : Option Blk → Rs
 | some (.mp _ cl) => some (.pointer (some ⟨h.nx, 0, none⟩), ⟨h.hp.set h.nx (some (.it (some id) cl [] cl)), Nat.succ h.nx, h.lo⟩)
 | _ => none
def range1 (h : Hs) : Value → Rs
 | .map r => match r with
  | none => some (.pointer (some ⟨h.nx, 0, none⟩), ⟨h.hp.set h.nx (some (.it none 0 [] 0)), Nat.succ h.nx, h.lo⟩)
  | some id => range2 h id (h.hp.get id)
 | _ => none
def oRange (x : GX) (fr : En) (h : Hs) : Rs := range1 h (ev fr x)
def findE (s : Nat) : List MapEntry → Option MapEntry
 | [] => none
 | e :: es => match Nat.beq e.born s with
  | true => some e
  | false => findE s es
def lastN : List Nat → Option Nat
 | [] => none
 | a :: l => match l with
  | [] => some a
  | b :: l => lastN (b :: l)
def keyC : Value → Bool
 | .int _ _ | .string _ | .bool _ => true
 | _ => false
def entry4 : Option MapEntry → Option Value
 | some e => match keyC e.key with
  | true => some (.tuple #[e.key, e.val])
  | false => none
 | none => none
def entry3 (se : List Nat) (la : Nat) : Option Blk → Option Value
 | some (.mp es cl) => match Nat.beq cl la with
  | true => match isBig es with
   | true => none
   | false => match lastN se with
    | some s => entry4 (findE s es)
    | none => none
  | false => none
 | _ => none
def entry2 (h : Hs) : Option Blk → Option Value
 | some (.it m _ se la) => match m with
  | some k => entry3 se la (h.hp.get k)
  | none => none
 | _ => none
def entry1 (h : Hs) : Value → Option Value
 | .pointer p => match p with
  | some a => match a.off with
   | 0 => match a.spot with
    | none => entry2 h (h.hp.get a.block)
    | some _ => none
   | _ + 1 => none
  | none => none
 | _ => none
def oEntry (x : GX) (fr : En) (h : Hs) : Rs := ret1 h (entry1 h (ev fr x))
def slArr3 (n b o : Nat) : Nat → Option Value
 | 0 => some (.slice (some ⟨b, o, none⟩) n n)
 | _ + 1 => none
def slArr2 (n b o : Nat) : Option Blk → Option Value
 | some (.row _ _ _ u _ _) => slArr3 n b o u
 | _ => none
def slArr1 (n : Nat) (h : Hs) : Option (Nat × Nat) → Option Value
 | some p => slArr2 n p.1 p.2 (h.hp.get p.1)
 | none => none
def oSlArr (n : Nat) (x : GX) (fr : En) (h : Hs) : Rs := ret1 h (slArr1 n h (addrOf (ev fr x)))
def clr2 : Option Hs → Rs
 | some h => some (.tuple #[], h)
 | none => none
def clr1 (z : List Value) (h : Hs) (d : Option Addr) : Nat → Rs
 | 0 => some (.tuple #[], h)
 | n + 1 => match d with
  | none => none
  | some d => match d.spot with
   | some _ => none
   | none => clr2 (storeB h d.block d.off (rep z (Nat.succ n)) (h.hp.get d.block))
def clr0 (z : List Value) (h : Hs) : Value → Rs
 | .slice d n _ => clr1 z h d n
 | _ => none
def oClearS (z : List Value) (x : GX) (fr : En) (h : Hs) : Rs := clr0 z h (ev fr x)
end
end Go.Gev
