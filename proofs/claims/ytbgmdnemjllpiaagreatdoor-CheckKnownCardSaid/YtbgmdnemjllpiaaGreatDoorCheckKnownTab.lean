/- The functions that 'CheckKnown' reaches, in the fast evaluator's form, each held against the program's own text by the kernel. Written by a program. -/
import Derived.Test.YtbgmdnemjllpiaaGreatDoorGevKM
import Derived.Test.YtbgmdnemjllpiaaGreatDoorProg
import Derived.KernelRfl
namespace Go.Proofs.YtbgmdnemjllpiaaGreatDoor.checkKnown
open Go.Gev
set_option linter.unusedVariables false
/-- lintel/lintellaw19.awake -/
noncomputable def r4 (R : RnK) (N : Nat) (args : List Value) (h : Hs) : An := enK h fun h0 =>
 kCall R 5 [(Value.int .i64 (.ofNat 64))] h0 (fun x0 h1 =>
 kCall R 6 [x0] h1 (fun x2 h3 =>
 kExtr x2 0 (fun x4 =>
 kExtr x2 1 (fun x5 =>
 kCall R 7 [(Value.slice none 0 0)] h3 (fun x6 h7 =>
 kI64 .eql x5 (Value.int .i64 (.ofNat 0)) (fun x8 =>
 gdT x8 h7 (fun k9 => k9 x4 h7) (fun x10 h11 =>
 gdT x8 h11 (fun k12 => kCall R 7 [x10] h11 (k12)) (fun x13 h14 =>
 gdT x8 h14 (fun k15 => kLenV x13 (fun x16 => k15 x16 h14)) (fun x17 h18 =>
 gdT x8 h18 (fun k19 => kI64 .eql x17 (Value.int .i64 (.ofNat 0)) (fun x20 => k19 x20 h18)) (fun x21 h22 =>
 after (fun x23 h24 =>
 gdT x23 h24 (fun k25 => k25 x4 h24) (fun x26 h27 =>
 gdT x23 h27 (fun k28 => kCall R 15 [x26] h27 (k28)) (fun x29 h30 =>
 after (fun x31 h32 =>
 gdT x31 h32 (fun k33 => k33 x6 h32) (fun x34 h35 =>
 gdT x31 h35 (fun k36 => after (k36) (oBuild [(Value.int .i64 (.ofNat 0)), (Value.int .i64 (.ofNat 0)), (Value.int .i64 (.ofNat 0)), (Value.int .i64 (.ofNat 0))] [(0, 1, .c (Value.int .i64 (.ofNat 0))), (1, 1, .c (Value.int .i64 (.ofNat 1)))] enE h35)) (fun x37 h38 =>
 gdT x31 h38 (fun k39 => after (k39) (oMkrow 49 4 1 [(Value.int .i64 (.ofNat 0)), (Value.int .i64 (.ofNat 0)), (Value.int .i64 (.ofNat 0)), (Value.int .i64 (.ofNat 0))] [(0, 4, .c x37)] enE h38)) (fun x40 h41 =>
 gdT x31 h41 (fun k42 => kCall R 12 [x34, x40] h41 (k42)) (fun x43 h44 =>
 after (fun x45 h46 =>
 clrK h x45 h46) (pickB (.c x43) (.c (Value.bool false)) enE h44 x31)))))) (pickB (.c x29) (.c (Value.bool false)) enE h30 x23)))) (pickB (.c x21) (.c (Value.bool false)) enE h22 x8)))))))))))

theorem q4 (R : RnK) (N : Nat) (args : List Value) (h : Hs) : r4 R N args h = callT Tryz.prog N R 4 args h := by kernel_rfl

/-- lintel/geom.Plain -/
noncomputable def r5 (R : RnK) (N : Nat) (args : List Value) (h : Hs) : An := unC args fun a0 sq0 => enK h fun h0 =>
 after (fun x0 h1 =>
 after (fun x2 h3 =>
 after (fun x4 h5 =>
 clearUp h (packR h5 (resV enE h5 [.cell (.c x0) 4 true]))) (store1 4 h3 (cellsL x2) (addrOf x0))) (oBuild [(Value.int .i64 (.ofNat 0)), (Value.int .i64 (.ofNat 0)), (Value.int .i64 (.ofNat 0)), (Value.int .i64 (.ofNat 0))] [(0, 1, .c a0), (1, 1, .c (Value.int .i64 (.ofNat 10))), (2, 1, .c (Value.int .i64 (.ofNat 1))), (3, 1, .c (Value.int .i64 (.ofNat 20)))] enE h1)) (oAlloc 24 [(Value.int .i64 (.ofNat 0)), (Value.int .i64 (.ofNat 0)), (Value.int .i64 (.ofNat 0)), (Value.int .i64 (.ofNat 0))] enE h0)

theorem q5 (R : RnK) (N : Nat) (args : List Value) (h : Hs) : r5 R N args h = callT Tryz.prog N R 5 args h := by kernel_rfl

/-- lintel/image.Make -/
noncomputable def r6 (R : RnK) (N : Nat) (args : List Value) (h : Hs) : An := unC args fun a0 sq0 => enK h fun h0 =>
 after (fun x0 h1 =>
 kLoads 4 x0 h1 (fun x2 =>
 kCall R 16 [x2] h1 (fun x3 h4 =>
 kNot x3 (fun x5 =>
 jn (fun (x7 x8 : Value) (h9 : Hs) =>
 kFieldA 0 x0 (fun x10 =>
 kLoad x10 h9 (fun x11 =>
 kI64 .mul (Value.int .i64 (.ofNat 8)) x11 (fun x12 =>
 after (fun x13 h14 =>
 after (fun x15 h16 =>
 kStore1 x15 x13 h16 (fun x17 h18 =>
 after (fun x19 h20 =>
 kLoads 4 x0 h20 (fun x21 =>
 kCall R 18 [x21] h20 (fun x22 h23 =>
 kExtr x22 0 (fun x24 =>
 kExtr x22 1 (fun x25 =>
 kLoads 4 x0 h23 (fun x26 =>
 after (fun x27 h28 =>
 kCall R 19 [x27] h28 (fun x29 h30 =>
 isVal (fun x31 h32 =>
 kLoads 4 x0 (Hs.mk h32.hp h32.nx h32.nx) (fun x33 =>
 kCall R 20 [x33] (Hs.mk h32.hp h32.nx h32.nx) (fun v146 u147 => dPut (fun x34 h35 =>
 kLoads 4 x0 (dHidS .light [false, false, false] [some (h32.nx, h35.nx), none, none] h35) (fun x36 =>
 after (fun v144 u145 => dPut (fun x37 h38 =>
 kCall R 19 [x37] h38 (fun v142 u143 => dPut (fun x39 h40 =>
 isVal (fun v140 u141 => dPut (fun x41 h42 =>
 kLoads 4 x0 h42 (fun x43 =>
 kCall R 21 [x43, (Value.int .i64 (.ofNat 1))] h42 (fun x44 h45 =>
 after (fun x46 h47 =>
 kCall R 10 [x46] h47 (fun x48 h49 =>
 isVal (fun x50 h51 =>
 kLoads 4 x0 h51 (fun x52 =>
 kCall R 21 [x52, (Value.int .i64 (.ofNat 2))] h51 (fun x53 h54 =>
 after (fun x55 h56 =>
 after (fun x57 h58 =>
 after (fun x59 h60 =>
 kCall R 10 [x59] h60 (fun x61 h62 =>
 isVal (fun x63 h64 =>
 kLoads 4 x0 h64 (fun x65 =>
 kCall R 22 [x65] h64 (fun x66 h67 =>
 kExtr x66 0 (fun x68 =>
 kExtr x66 1 (fun x69 =>
 kFieldA 0 x0 (fun x70 =>
 kLoad x70 h67 (fun x71 =>
 kCall R 23 [x71] h67 (fun x72 h73 =>
 after (fun x74 h75 =>
 kStore1 x74 x72 h75 (fun x76 h77 =>
 kFieldA 0 x0 (fun x78 =>
 kLoad x78 h77 (fun x79 =>
 jn (fun (x81 x82 x83 x84 : Value) (h85 : Hs) =>
 kLoads 4 x0 h85 (fun x86 =>
 kCall R 25 [x86] h85 (fun x87 h88 =>
 kExtr x87 0 (fun x89 =>
 kExtr x87 1 (fun x90 =>
 kFieldA 0 x74 (fun x91 =>
 kLoad x91 h88 (fun x92 =>
 isVal (fun x93 h94 =>
 kLoad x15 h94 (fun x95 =>
 clrK h (Value.tuple #[x95, (Value.int .i64 (.ofNat 0))]) h94)) (callV (toRn R) [x89, x92] h88 x19)))))))) fun k80 =>
 lpT (T := Value → Value → Value → Value → Hs → An) (fun _ _ _ _ _ => none) N (fun k96 =>
 fun (x98 x99 x100 x101 : Value) (h102 : Hs) =>
 kI64 .lss x98 x79 (fun x103 =>
 jn (fun (h105 : Hs) =>
 jn (fun (x107 x108 : Value) (h109 : Hs) =>
 kI64 .add x98 (Value.int .i64 (.ofNat 1)) (fun x110 =>
 k96 x110 x103 x107 x108 h109)) fun k106 =>
 kI64 .lss x98 x68 (fun x111 =>
 gdF x111 h105 (fun k112 => k112 x98 h105) (fun x113 h114 =>
 gdF x111 h114 (fun k115 => k115 x68 h114) (fun x116 h117 =>
 gdF x111 h117 (fun k118 => k118 x69 h117) (fun x119 h120 =>
 gdF x111 h120 (fun k121 => kI64 .add x116 x119 (fun x122 => k121 x122 h120)) (fun x123 h124 =>
 gdF x111 h124 (fun k125 => kI64 .geq x113 x123 (fun x126 => k125 x126 h124)) (fun x127 h128 =>
 after (fun x129 h130 =>
 jn (fun (h132 : Hs) =>
 k106 x98 x129 h132) fun k131 =>
 cnd x129
 (kLoads 1 x74 h130 (fun x133 =>
 after (fun x134 h135 =>
 kCall R 24 [x133, (Value.bool true), x134] h135 (fun x136 h137 =>
 kStore1 x74 x136 h137 (fun x138 h139 =>
 k131 h139))) (oMkrow 3 1 1 [(Value.int .i64 (.ofNat 0))] [(0, 1, .c x98)] enE h130)))
 (k131 h130)) (pickB (.c (Value.bool true)) (.c x127) enE h128 x111)))))))) fun k104 =>
 cnd x103
 (k104 h102)
 (k80 x98 x103 x100 x101 h102))) (Value.int .i64 (.ofNat 0)) dunno dunno dunno h77)))) (oAlloc 65 [(Value.slice none 0 0)] enE h73))))))))) (callV (toRn R) [x53, x61] h62 x19))) (oBuild [(Value.int .i64 (.ofNat 0)), (Value.int .i64 (.ofNat 0)), (Value.int .i64 (.ofNat 0)), (Value.slice none 0 0)] [(0, 1, .c (Value.int .i64 (.ofNat 2))), (1, 1, .c (Value.int .i64 (.ofNat 1))), (2, 1, .c x25), (3, 1, .c x57)] enE h58)) (oMkrow 40 2 1 [(Value.int .i64 (.ofNat 0)), (Value.int .i64 (.ofNat 0))] [(0, 2, .c x55)] enE h56)) (oBuild [(Value.int .i64 (.ofNat 0)), (Value.int .i64 (.ofNat 0))] [(0, 1, .c x24), (1, 1, .c x25)] enE h54)))) (callV (toRn R) [x44, x48] h49 x19))) (oBuild [(Value.int .i64 (.ofNat 0)), (Value.int .i64 (.ofNat 0)), (Value.int .i64 (.ofNat 0)), (Value.slice none 0 0)] [(0, 1, .c (Value.int .i64 (.ofNat 2))), (1, 1, .c (Value.int .i64 (.ofNat 1)))] enE h45)))) v140 (dNext h40 u141 .bar) (andB (dFit h40 u141 .bar) (Nat.ble 0 u141.lo))) (callV (toRn R) [x34, x39] h40 x19)) v142 (dNext h38 u143 .bar) (andB (dFit h38 u143 .bar) (Nat.ble 0 u143.lo)))) v144 (dNext h35 u145 .blind) (andB (dFit h35 u145 .blind) (Nat.ble 0 u145.lo))) (oBuild [(Value.int .i64 (.ofNat 0)), (Value.int .i64 (.ofNat 0)), (Value.int .i64 (.ofNat 0)), (Value.int .i64 (.ofNat 0)), (Value.int .u64 (.ofNat 0))] [(0, 4, .c x36)] enE (Hs.mk .e h35.nx h35.nx)))) v146 (dNext h32 u147 .light) (andB (dFit h32 u147 .light) (Nat.ble 0 u147.lo))))) (callV (toRn R) [(Value.int .i64 (.ofNat 0)), x29] h30 x19))) (oBuild [(Value.int .i64 (.ofNat 0)), (Value.int .i64 (.ofNat 0)), (Value.int .i64 (.ofNat 0)), (Value.int .i64 (.ofNat 0)), (Value.int .u64 (.ofNat 0))] [(0, 4, .c x26)] enE h23))))))) (oMkfunc (.func 17) [] [.c x15] enE h18))) (oAlloc 26 [(Value.slice none 0 0)] enE h14)) (mkslice1 34 1 8 [(Value.int .u64 (.ofNat 0))] h9 (natOf x12) (natOf x12)))))) fun k6 =>
 cnd x5
 (clrK h (Value.tuple #[(Value.slice none 0 0), (Value.int .i64 (.ofNat 1))]) h4)
 (k6 (Value.slice none 0 0) (Value.int .i64 (.ofNat 0)) h4))))) (oBox 24 (.c a0) enE h0)

theorem q6 (R : RnK) (N : Nat) (args : List Value) (h : Hs) : r6 R N args h = callT Tryz.prog N R 6 args h := by kernel_rfl

/-- lintel/check.Run -/
noncomputable def r7 (R : RnK) (N : Nat) (args : List Value) (h : Hs) : An := unC args fun a0 sq0 => enK h fun h0 =>
 kLenV a0 (fun x0 =>
 kI64 .quo x0 (Value.int .i64 (.ofNat 8)) (fun x1 =>
 kLenV a0 (fun x2 =>
 kI64 .rem x2 (Value.int .i64 (.ofNat 8)) (fun x3 =>
 kI64 .neq x3 (Value.int .i64 (.ofNat 0)) (fun x4 =>
 gdF x4 h0 (fun k5 => k5 x1 h0) (fun x6 h7 =>
 gdF x4 h7 (fun k8 => kI64 .lss x6 (Value.int .i64 (.ofNat 64)) (fun x9 => k8 x9 h7)) (fun x10 h11 =>
 after (fun x12 h13 =>
 gdF x12 h13 (fun k14 => k14 x1 h13) (fun x15 h16 =>
 gdF x12 h16 (fun k17 => kI64 .gtr x15 (Value.int .i64 (.ofNat 1024)) (fun x18 => k17 x18 h16)) (fun x19 h20 =>
 after (fun x21 h22 =>
 jn (fun (x24 : Value) (h25 : Hs) =>
 kCall R 26 [a0] h25 (fun x26 h27 =>
 kExtr x26 0 (fun x28 =>
 kExtr x26 1 (fun x29 =>
 after (fun x30 h31 =>
 after (fun x32 h33 =>
 kI64 .neq x29 (Value.int .i64 (.ofNat 0)) (fun x34 =>
 jn (fun (x36 : Value) (h37 : Hs) =>
 kLoads 5 x30 (Hs.mk h37.hp h37.nx h37.nx) (fun x38 =>
 kFieldA 0 x30 (fun x39 =>
 kFieldA 1 x39 (fun x40 =>
 kLoad x40 (Hs.mk h37.hp h37.nx h37.nx) (fun x41 =>
 kI64 .add x41 (Value.int .i64 (.ofNat 1)) (fun x42 =>
 after (fun v103 u104 => dPut (fun x43 h44 =>
 kFieldA 0 x30 (fun x45 =>
 kFieldA 1 x45 (fun x46 =>
 kLoad x46 (dHidS .light [true, true, false, false, false, false, false, false] [none, none, some (h37.nx, h44.nx), none, none, none, none, none] h44) (fun x47 =>
 kI64 .add x47 (Value.int .i64 (.ofNat 1)) (fun x48 =>
 after (fun v101 u102 => dPut (fun x49 h50 =>
 after (fun v99 u100 => dPut (fun x51 h52 =>
 after (fun v97 u98 => dPut (fun x53 h54 =>
 kCall R 27 [x53] h54 (fun x55 h56 =>
 kCall R 28 [x53] h56 (fun x57 h58 =>
 jn (fun (x60 x61 : Value) (h62 : Hs) =>
 kCall R 30 [x53] h62 (fun x63 h64 =>
 kCall R 31 [x53] h64 (fun x65 h66 =>
 kCall R 32 [x53] h66 (fun x67 h68 =>
 kCall R 33 [x53] h68 (fun x69 h70 =>
 kCall R 34 [x53] h70 (fun x71 h72 =>
 kNil x53 (fun x73 =>
 kFieldA 8 x73 (fun x74 =>
 kLoad x74 h72 (fun x75 =>
 kCall R 35 [x75, (Value.func (.func 36) #[] #[])] h72 (fun x76 h77 =>
 kNil x53 (fun x78 =>
 kFieldA 8 x78 (fun x79 =>
 kLoad x79 h77 (fun x80 =>
 clrK h x80 h77))))))))))))) fun k59 =>
 lpT (T := Value → Value → Hs → An) (fun _ _ _ => none) N (fun k81 =>
 fun (x83 x84 : Value) (h85 : Hs) =>
 kFieldA 0 x30 (fun x86 =>
 kFieldA 1 x86 (fun x87 =>
 kLoad x87 h85 (fun x88 =>
 kI64 .leq x83 x88 (fun x89 =>
 jn (fun (h91 : Hs) =>
 jn (fun (h93 : Hs) =>
 kI64 .add x83 (Value.int .i64 (.ofNat 1)) (fun x94 =>
 k81 x94 x89 h93)) fun k92 =>
 kCall R 29 [x53, x83] h91 (fun x95 h96 =>
 k92 h96)) fun k90 =>
 cnd x89
 (k90 h85)
 (k59 x83 x89 h85)))))) (Value.int .i64 (.ofNat 1)) dunno h58))) v97 (dNext h52 u98 .make) (andB (dFit h52 u98 .make) (Nat.ble 0 u98.lo))) (oBox 77 (.c x51) enE (Hs.mk .e h52.nx h52.nx))) v99 (dNext h50 u100 .blind) (andB (dFit h50 u100 .blind) (Nat.ble 0 u100.lo))) (oBuild [(Value.int .i64 (.ofNat 0)), (Value.int .i64 (.ofNat 0)), (Value.int .i64 (.ofNat 0)), (Value.int .i64 (.ofNat 0)), (Value.slice none 0 0), (Value.slice none 0 0), (Value.slice none 0 0), (Value.slice none 0 0), (Value.slice none 0 0)] [(0, 5, .c x38), (5, 1, .c x43), (6, 1, .c x49)] enE (Hs.mk .e h50.nx h50.nx))) v101 (dNext h44 u102 .make) (andB (dFit h44 u102 .make) (Nat.ble 0 u102.lo))) (mkslice1 4 1 1 [(Value.bool false)] (Hs.mk .e h44.nx h44.nx) (natOf x48) (natOf x48))))))) v103 (dNext h37 u104 .make) (andB (dFit h37 u104 .make) (Nat.ble 0 u104.lo))) (mkslice1 43 4 48 [(Value.int .i64 (.ofNat 0)), (Value.int .i64 (.ofNat 0)), (Value.int .i64 (.ofNat 0)), (Value.slice none 0 0)] (Hs.mk .e h37.nx h37.nx) (natOf x42) (natOf x42)))))))) fun k35 =>
 cnd x34
 (after (fun x105 h106 =>
 after (fun x107 h108 =>
 clrK h x107 h108) (oMkrow 51 4 1 [(Value.int .i64 (.ofNat 0)), (Value.int .i64 (.ofNat 0)), (Value.int .i64 (.ofNat 0)), (Value.int .i64 (.ofNat 0))] [(0, 4, .c x105)] enE h106)) (oBuild [(Value.int .i64 (.ofNat 0)), (Value.int .i64 (.ofNat 0)), (Value.int .i64 (.ofNat 0)), (Value.int .i64 (.ofNat 0))] [(0, 1, .c (Value.int .i64 (.ofNat 0))), (1, 1, .c (Value.int .i64 (.ofNat 2))), (2, 1, .c (Value.int .i64 (.ofNat 0))), (3, 1, .c (Value.int .i64 (.ofNat 0)))] enE h33))
 (k35 x24 h33))) (store1 5 h31 (cellsL x28) (addrOf x30))) (oAlloc 69 [(Value.int .i64 (.ofNat 0)), (Value.int .i64 (.ofNat 0)), (Value.int .i64 (.ofNat 0)), (Value.int .i64 (.ofNat 0)), (Value.slice none 0 0)] enE h27))))) fun k23 =>
 cnd x21
 (after (fun x109 h110 =>
 after (fun x111 h112 =>
 clrK h x111 h112) (oMkrow 51 4 1 [(Value.int .i64 (.ofNat 0)), (Value.int .i64 (.ofNat 0)), (Value.int .i64 (.ofNat 0)), (Value.int .i64 (.ofNat 0))] [(0, 4, .c x109)] enE h110)) (oBuild [(Value.int .i64 (.ofNat 0)), (Value.int .i64 (.ofNat 0)), (Value.int .i64 (.ofNat 0)), (Value.int .i64 (.ofNat 0))] [(0, 1, .c (Value.int .i64 (.ofNat 0))), (1, 1, .c (Value.int .i64 (.ofNat 1))), (2, 1, .c (Value.int .i64 (.ofNat 0))), (3, 1, .c (Value.int .i64 (.ofNat 0)))] enE h22))
 (k23 (Value.slice none 0 0) h22)) (pickB (.c (Value.bool true)) (.c x19) enE h20 x12)))) (pickB (.c (Value.bool true)) (.c x10) enE h11 x4))))))))

theorem q7 (R : RnK) (N : Nat) (args : List Value) (h : Hs) : r7 R N args h = callT Tryz.prog N R 7 args h := by kernel_rfl

/-- lintel/lintellaw19.put -/
noncomputable def r8 (R : RnK) (N : Nat) (args : List Value) (h : Hs) : An := unC args fun a0 sq0 => unC sq0 fun a1 sq1 => unC sq1 fun a2 sq2 => enK h fun h0 =>
 after (fun x0 h1 =>
 after (fun x2 h3 =>
 jn (fun (x5 x6 : Value) (h7 : Hs) =>
 clrK h x2 h7) fun k4 =>
 lpT (T := Value → Value → Hs → An) (fun _ _ _ => none) N (fun k8 =>
 fun (x10 x11 : Value) (h12 : Hs) =>
 kI64 .lss x10 (Value.int .i64 (.ofNat 8)) (fun x13 =>
 gdT x13 h12 (fun k14 => k14 x10 h12) (fun x15 h16 =>
 gdT x13 h16 (fun k17 => k17 a2 h16) (fun x18 h19 =>
 gdT x13 h19 (fun k20 => kLenV x18 (fun x21 => k20 x21 h19)) (fun x22 h23 =>
 gdT x13 h23 (fun k24 => kI64 .lss x15 x22 (fun x25 => k24 x25 h23)) (fun x26 h27 =>
 after (fun x28 h29 =>
 jn (fun (h31 : Hs) =>
 jn (fun (h33 : Hs) =>
 kI64 .add x10 (Value.int .i64 (.ofNat 1)) (fun x34 =>
 k8 x34 x28 h33)) fun k32 =>
 kI64 .mul (Value.int .i64 (.ofNat 8)) a1 (fun x35 =>
 kI64 .add x35 x10 (fun x36 =>
 kIdxA 1 a2 x10 (fun x37 =>
 kLoad x37 h31 (fun x38 =>
 kIdxA 1 x2 x36 (fun x39 =>
 kStore1 x39 x38 h31 (fun x40 h41 =>
 k32 h41))))))) fun k30 =>
 cnd x28
 (k30 h29)
 (k4 x10 x28 h29)) (pickB (.c x26) (.c (Value.bool false)) enE h27 x13))))))) (Value.int .i64 (.ofNat 0)) dunno h3) (app0 34 1 8 h1 x0 a0)) (oMkrow 34 1 0 [(Value.int .u64 (.ofNat 0))] [] enE h0)

theorem q8 (R : RnK) (N : Nat) (args : List Value) (h : Hs) : r8 R N args h = callT Tryz.prog N R 8 args h := by kernel_rfl

/-- lintel/lintellaw19.with -/
noncomputable def r9 (R : RnK) (N : Nat) (args : List Value) (h : Hs) : An := unC args fun a0 sq0 => unC sq0 fun a1 sq1 => enK h fun h0 =>
 after (fun x0 h1 =>
 after (fun x2 h3 =>
 jn (fun (x5 x6 x7 : Value) (h8 : Hs) =>
 clrK h x2 h8) fun k4 =>
 lpT (T := Value → Value → Value → Hs → An) (fun _ _ _ _ => none) N (fun k9 =>
 fun (x11 x12 x13 : Value) (h14 : Hs) =>
 kLenV a1 (fun x15 =>
 kI64 .lss x11 x15 (fun x16 =>
 jn (fun (h18 : Hs) =>
 jn (fun (x20 : Value) (h21 : Hs) =>
 kI64 .add x11 (Value.int .i64 (.ofNat 1)) (fun x22 =>
 k9 x22 x16 x20 h21)) fun k19 =>
 kIdxA 2 a1 x11 (fun x23 =>
 kFieldA 0 x23 (fun x24 =>
 kLoad x24 h18 (fun x25 =>
 kI64 .geq x25 (Value.int .i64 (.ofNat 0)) (fun x26 =>
 gdT x26 h18 (fun k27 => k27 a1 h18) (fun x28 h29 =>
 gdT x26 h29 (fun k30 => k30 x11 h29) (fun x31 h32 =>
 gdT x26 h32 (fun k33 => kIdxA 2 x28 x31 (fun x34 => k33 x34 h32)) (fun x35 h36 =>
 gdT x26 h36 (fun k37 => kFieldA 0 x35 (fun x38 => k37 x38 h36)) (fun x39 h40 =>
 gdT x26 h40 (fun k41 => kLoad x39 h40 (fun x42 => k41 x42 h40)) (fun x43 h44 =>
 gdT x26 h44 (fun k45 => k45 x2 h44) (fun x46 h47 =>
 gdT x26 h47 (fun k48 => kLenV x46 (fun x49 => k48 x49 h47)) (fun x50 h51 =>
 gdT x26 h51 (fun k52 => kI64 .lss x43 x50 (fun x53 => k52 x53 h51)) (fun x54 h55 =>
 after (fun x56 h57 =>
 jn (fun (h59 : Hs) =>
 k19 x56 h59) fun k58 =>
 cnd x56
 (kIdxA 2 a1 x11 (fun x60 =>
 kFieldA 0 x60 (fun x61 =>
 kLoad x61 (Hs.mk h57.hp h57.nx h57.nx) (fun x62 =>
 kIdxA 2 a1 x11 (fun x63 =>
 kFieldA 1 x63 (fun x64 =>
 kLoad x64 (Hs.mk h57.hp h57.nx h57.nx) (fun x65 =>
 kIdxA 1 x2 x62 (fun x66 =>
 kStore1 x66 x65 h57 (fun v69 u70 => dPut (fun x67 h68 =>
 k58 h68) v69 (dNext h57 u70 .bar) (andB (dFit h57 u70 .bar) (Nat.ble 0 u70.lo)))))))))))
 (k58 h57)) (pickB (.c x54) (.c (Value.bool false)) enE h55 x26)))))))))))))) fun k17 =>
 cnd x16
 (k17 h14)
 (k4 x11 x16 x13 h14)))) (Value.int .i64 (.ofNat 0)) dunno dunno h3) (app0 34 1 8 h1 x0 a0)) (oMkrow 34 1 0 [(Value.int .u64 (.ofNat 0))] [] enE h0)

theorem q9 (R : RnK) (N : Nat) (args : List Value) (h : Hs) : r9 R N args h = callT Tryz.prog N R 9 args h := by kernel_rfl

/-- lintel/lintellaw19.finds -/
noncomputable def r12 (R : RnK) (N : Nat) (args : List Value) (h : Hs) : An := unC args fun a0 sq0 => unC sq0 fun a1 sq1 => enK h fun h0 =>
 kLenV a0 (fun x0 =>
 kLenV a1 (fun x1 =>
 kI64 .neq x0 x1 (fun x2 =>
 jn (fun (x4 : Value) (h5 : Hs) =>
 jn (fun (x7 x8 x9 x10 : Value) (h11 : Hs) =>
 clrK h (Value.bool true) h11) fun k6 =>
 lpT (T := Value → Value → Value → Value → Hs → An) (fun _ _ _ _ _ => none) N (fun k12 =>
 fun (x14 x15 x16 x17 : Value) (h18 : Hs) =>
 kLenV a0 (fun x19 =>
 kI64 .lss x14 x19 (fun x20 =>
 jn (fun (h22 : Hs) =>
 jn (fun (x24 x25 : Value) (h26 : Hs) =>
 kI64 .add x14 (Value.int .i64 (.ofNat 1)) (fun x27 =>
 k12 x27 x20 x24 x25 h26)) fun k23 =>
 kIdxA 4 a0 x14 (fun x28 =>
 kFieldA 0 x28 (fun x29 =>
 kLoad x29 (Hs.mk h22.hp h22.nx h22.nx) (fun x30 =>
 kIdxA 4 a1 x14 (fun x31 =>
 kFieldA 0 x31 (fun x32 =>
 kLoad x32 (Hs.mk h22.hp h22.nx h22.nx) (fun x33 =>
 kI64 .neq x30 x33 (fun x34 =>
 gdF x34 h22 (fun k35 => k35 a0 h22) (fun x36 _ =>
 gdF x34 h22 (fun k38 => k38 x14 h22) (fun x39 _ =>
 gdF x34 h22 (fun k41 => kIdxA 4 x36 x39 (fun x42 => k41 x42 h22)) (fun x43 _ =>
 gdF x34 h22 (fun k45 => kFieldA 1 x43 (fun x46 => k45 x46 h22)) (fun x47 _ =>
 gdF x34 h22 (fun k49 => kLoad x47 (Hs.mk h22.hp h22.nx h22.nx) (fun x50 => k49 x50 h22)) (fun x51 _ =>
 gdF x34 h22 (fun k53 => k53 a1 h22) (fun x54 _ =>
 gdF x34 h22 (fun k56 => k56 x14 h22) (fun x57 _ =>
 gdF x34 h22 (fun k59 => kIdxA 4 x54 x57 (fun x60 => k59 x60 h22)) (fun x61 _ =>
 gdF x34 h22 (fun k63 => kFieldA 1 x61 (fun x64 => k63 x64 h22)) (fun x65 _ =>
 gdF x34 h22 (fun k67 => kLoad x65 (Hs.mk h22.hp h22.nx h22.nx) (fun x68 => k67 x68 h22)) (fun x69 _ =>
 gdF x34 h22 (fun k71 => kI64 .neq x51 x69 (fun x72 => k71 x72 h22)) (fun x73 _ =>
 after (fun v168 u169 => dPut (fun x75 h76 =>
 gdF x75 h76 (fun k77 => k77 a0 h76) (fun x78 _ =>
 gdF x75 h76 (fun k80 => k80 x14 h76) (fun x81 _ =>
 gdF x75 h76 (fun k83 => kIdxA 4 x78 x81 (fun x84 => k83 x84 h76)) (fun x85 _ =>
 gdF x75 h76 (fun k87 => kFieldA 2 x85 (fun x88 => k87 x88 h76)) (fun x89 _ =>
 gdF x75 h76 (fun k91 => kLoad x89 (dHidS .light [true, true, true, true, true, true, true, true, true, true, true, true, true, true, true, true, true, true, true, true, true, true, true, true, true, true, true, true, true] [none, none, none, none, none, some (h22.nx, h76.nx), none, none, none, none, none, none, none, none, none, none, none, none, none, none, none, none, none, none, none, none, none, none, none] h76) (fun x92 => k91 x92 h76)) (fun x93 _ =>
 gdF x75 h76 (fun k95 => k95 a1 h76) (fun x96 _ =>
 gdF x75 h76 (fun k98 => k98 x14 h76) (fun x99 _ =>
 gdF x75 h76 (fun k101 => kIdxA 4 x96 x99 (fun x102 => k101 x102 h76)) (fun x103 _ =>
 gdF x75 h76 (fun k105 => kFieldA 2 x103 (fun x106 => k105 x106 h76)) (fun x107 _ =>
 gdF x75 h76 (fun k109 => kLoad x107 (dHidS .light [true, true, true, true, false, false, false, false, false, true, true, true, true, true, true, true, true, true, true, true, true, true, true, true, true, true, true, true, true, true, true, true, true, true] [none, none, none, none, none, none, none, none, none, none, some (h22.nx, h76.nx), none, none, none, none, none, none, none, none, none, none, none, none, none, none, none, none, none, none, none, none, none, none, none] h76) (fun x110 => k109 x110 h76)) (fun x111 _ =>
 gdF x75 h76 (fun k113 => kI64 .neq x93 x111 (fun x114 => k113 x114 h76)) (fun x115 _ =>
 after (fun v166 u167 => dPut (fun x117 h118 =>
 gdF x117 h118 (fun k119 => k119 a0 h118) (fun x120 _ =>
 gdF x117 h118 (fun k122 => k122 x14 h118) (fun x123 _ =>
 gdF x117 h118 (fun k125 => kIdxA 4 x120 x123 (fun x126 => k125 x126 h118)) (fun x127 _ =>
 gdF x117 h118 (fun k129 => kFieldA 3 x127 (fun x130 => k129 x130 h118)) (fun x131 _ =>
 gdF x117 h118 (fun k133 => kLoad x131 (dHidS .light [true, true, true, true, true, true, true, true, true, true, true, true, true, true, true, true, true, true, true, true, true, true, true, true, true, true, true, true, true, true, true, true, true, true, true, true, true, true, true, true, true, true] [none, none, none, none, none, some (h76.nx, h118.nx), none, none, none, none, none, none, none, none, none, none, none, none, some (h22.nx, h76.nx), none, none, none, none, none, none, none, none, none, none, none, none, none, none, none, none, none, none, none, none, none, none, none] h118) (fun x134 => k133 x134 h118)) (fun x135 _ =>
 gdF x117 h118 (fun k137 => k137 a1 h118) (fun x138 _ =>
 gdF x117 h118 (fun k140 => k140 x14 h118) (fun x141 _ =>
 gdF x117 h118 (fun k143 => kIdxA 4 x138 x141 (fun x144 => k143 x144 h118)) (fun x145 _ =>
 gdF x117 h118 (fun k147 => kFieldA 3 x145 (fun x148 => k147 x148 h118)) (fun x149 _ =>
 gdF x117 h118 (fun k151 => kLoad x149 (dHidS .light [true, true, true, true, false, false, false, false, false, true, true, true, true, true, true, true, true, true, true, true, true, true, true, true, true, true, true, true, true, true, true, true, true, true, true, true, true, true, true, true, true, true, true, true, true, true, true] [none, none, none, none, none, none, none, none, none, none, some (h76.nx, h118.nx), none, none, none, none, none, none, none, none, none, none, none, none, some (h22.nx, h76.nx), none, none, none, none, none, none, none, none, none, none, none, none, none, none, none, none, none, none, none, none, none, none, none] h118) (fun x152 => k151 x152 h118)) (fun x153 _ =>
 gdF x117 h118 (fun k155 => kI64 .neq x135 x153 (fun x156 => k155 x156 h118)) (fun x157 _ =>
 after (fun v164 u165 => dPut (fun x159 h160 =>
 jn (fun (x162 : Value) (h163 : Hs) =>
 k23 x159 x162 h163) fun k161 =>
 cnd x159
 (clrK h (Value.bool false) h160)
 (k161 x17 h160)) v164 (dNext h118 u165 .blind) (andB (dFit h118 u165 .blind) (Nat.ble 0 u165.lo))) (pickB (.c (Value.bool true)) (.c x157) enE (Hs.mk .e h118.nx h118.nx) x117))))))))))))) v166 (dNext h76 u167 .blind) (andB (dFit h76 u167 .blind) (Nat.ble 0 u167.lo))) (pickB (.c (Value.bool true)) (.c x115) enE (Hs.mk .e h76.nx h76.nx) x75))))))))))))) v168 (dNext h22 u169 .blind) (andB (dFit h22 u169 .blind) (Nat.ble 0 u169.lo))) (pickB (.c (Value.bool true)) (.c x73) enE (Hs.mk .e h22.nx h22.nx) x34)))))))))))))))))))) fun k21 =>
 cnd x20
 (k21 h18)
 (k6 x14 x20 x16 x17 h18)))) (Value.int .i64 (.ofNat 0)) dunno dunno x4 h5) fun k3 =>
 cnd x2
 (clrK h (Value.bool false) h0)
 (k3 (Value.bool false) h0))))

theorem q12 (R : RnK) (N : Nat) (args : List Value) (h : Hs) : r12 R N args h = callT Tryz.prog N R 12 args h := by kernel_rfl

/-- lintel/check.Show -/
noncomputable def r13 (R : RnK) (N : Nat) (args : List Value) (h : Hs) : An := unC args fun a0 sq0 => enK h fun h0 =>
 after (fun x0 h1 =>
 kFieldA 0 x0 (fun x2 =>
 kLoad x2 h1 (fun x3 =>
 kFieldA 1 x0 (fun x4 =>
 kLoad x4 h1 (fun x5 =>
 kFieldA 2 x0 (fun x6 =>
 kLoad x6 h1 (fun x7 =>
 kFieldA 3 x0 (fun x8 =>
 kLoad x8 h1 (fun x9 =>
 after (fun x10 h11 =>
 kLenV x10 (fun x12 =>
 jn (fun (x14 x15 x16 x17 : Value) (h18 : Hs) =>
 kCall R 42 [x16, (Value.string ⟨#[32]⟩)] h18 (fun x19 h20 =>
 clrK h x19 h20)) fun k13 =>
 lpT (T := Value → Value → Value → Value → Hs → An) (fun _ _ _ _ _ => none) N (fun k21 =>
 fun (x23 x24 x25 x26 : Value) (h27 : Hs) =>
 kI64 .lss x23 x12 (fun x28 =>
 jn (fun (h30 : Hs) =>
 jn (fun (x32 x33 : Value) (h34 : Hs) =>
 kI64 .add x23 (Value.int .i64 (.ofNat 1)) (fun x35 =>
 k21 x35 x28 x32 x33 h34)) fun k31 =>
 kIdxA 1 x10 x23 (fun x36 =>
 kLoad x36 h30 (fun x37 =>
 kCall R 41 [x37] h30 (fun x38 h39 =>
 after (fun x40 h41 =>
 after (fun x42 h43 =>
 k31 x42 x37 h43) (app0 9 1 16 h41 x25 x40)) (oMkrow 9 1 1 [(Value.string ⟨#[]⟩)] [(0, 1, .c x38)] enE h39))))) fun k29 =>
 cnd x28
 (k29 h27)
 (k13 x23 x28 x25 x26 h27))) (Value.int .i64 (.ofNat 0)) dunno (Value.slice none 0 0) dunno h11)) (oMkrow 3 1 4 [(Value.int .i64 (.ofNat 0))] [(0, 1, .c x3), (1, 1, .c x5), (2, 1, .c x7), (3, 1, .c x9)] enE h1)))))))))) (oBox 51 (.c a0) enE h0)

theorem q13 (R : RnK) (N : Nat) (args : List Value) (h : Hs) : r13 R N args h = callT Tryz.prog N R 13 args h := by kernel_rfl

/-- lintel/check.Count -/
noncomputable def r14 (R : RnK) (N : Nat) (args : List Value) (h : Hs) : An := unC args fun a0 sq0 => unC sq0 fun a1 sq1 => enK h fun h0 =>
 kLenV a0 (fun x0 =>
 jn (fun (x2 x3 x4 x5 x6 : Value) (h7 : Hs) =>
 clrK h x6 h7) fun k1 =>
 lpT (T := Value → Value → Value → Value → Value → Hs → An) (fun _ _ _ _ _ _ => none) N (fun k8 =>
 fun (x10 x11 x12 x13 x14 : Value) (h15 : Hs) =>
 kI64 .lss x10 x0 (fun x16 =>
 jn (fun (h18 : Hs) =>
 jn (fun (x20 x21 x22 : Value) (h23 : Hs) =>
 kI64 .add x10 (Value.int .i64 (.ofNat 1)) (fun x24 =>
 k8 x24 x16 x20 x21 x22 h23)) fun k19 =>
 kIdxA 4 a0 x10 (fun x25 =>
 kLoads 4 x25 h18 (fun x26 =>
 after (fun x27 h28 =>
 after (fun x29 h30 =>
 kFieldA 0 x27 (fun x31 =>
 kLoad x31 h30 (fun x32 =>
 kI64 .eql x32 a1 (fun x33 =>
 jn (fun (x35 : Value) (h36 : Hs) =>
 k19 x27 x33 x35 h36) fun k34 =>
 cnd x33
 (kI64 .add x14 (Value.int .i64 (.ofNat 1)) (fun x37 =>
 k34 x37 h30))
 (k34 x14 h30))))) (store1 4 h28 (cellsL x26) (addrOf x27))) (oAlloc 51 [(Value.int .i64 (.ofNat 0)), (Value.int .i64 (.ofNat 0)), (Value.int .i64 (.ofNat 0)), (Value.int .i64 (.ofNat 0))] enE h18)))) fun k17 =>
 cnd x16
 (k17 h15)
 (k1 x10 x16 x12 x13 x14 h15))) (Value.int .i64 (.ofNat 0)) dunno dunno dunno (Value.int .i64 (.ofNat 0)) h0)

theorem q14 (R : RnK) (N : Nat) (args : List Value) (h : Hs) : r14 R N args h = callT Tryz.prog N R 14 args h := by kernel_rfl

/-- lintel/check.Fine -/
noncomputable def r15 (R : RnK) (N : Nat) (args : List Value) (h : Hs) : An := unC args fun a0 sq0 => enK h fun h0 =>
 kCall R 7 [a0] h0 (fun x0 h1 =>
 kLenV x0 (fun x2 =>
 kI64 .eql x2 (Value.int .i64 (.ofNat 0)) (fun x3 =>
 clrK h x3 h1)))

theorem q15 (R : RnK) (N : Nat) (args : List Value) (h : Hs) : r15 R N args h = callT Tryz.prog N R 15 args h := by kernel_rfl

/-- lintel/geom.Good -/
noncomputable def r16 (R : RnK) (N : Nat) (args : List Value) (h : Hs) : An := unC args fun a0 sq0 => enK h fun h0 =>
 after (fun x0 h1 =>
 kFieldA 0 x0 (fun x2 =>
 kLoad x2 h1 (fun x3 =>
 kCall R 43 [x3, (Value.int .i64 (.ofNat 64)), (Value.int .i64 (.ofNat 1024))] h1 (fun x4 h5 =>
 kNot x4 (fun x6 =>
 gdF x6 h5 (fun k7 => kFieldA 1 x0 (fun x8 => k7 x8 h5)) (fun x9 h10 =>
 gdF x6 h10 (fun k11 => kLoad x9 h10 (fun x12 => k11 x12 h10)) (fun x13 h14 =>
 gdF x6 h14 (fun k15 => kCall R 43 [x13, (Value.int .i64 (.ofNat 4)), (Value.int .i64 (.ofNat 64))] h14 (k15)) (fun x16 h17 =>
 gdF x6 h17 (fun k18 => kNot x16 (fun x19 => k18 x19 h17)) (fun x20 h21 =>
 after (fun x22 h23 =>
 gdF x22 h23 (fun k24 => kFieldA 2 x0 (fun x25 => k24 x25 h23)) (fun x26 h27 =>
 gdF x22 h27 (fun k28 => kLoad x26 h27 (fun x29 => k28 x29 h27)) (fun x30 h31 =>
 gdF x22 h31 (fun k32 => kCall R 43 [x30, (Value.int .i64 (.ofNat 1)), (Value.int .i64 (.ofNat 8))] h31 (k32)) (fun x33 h34 =>
 gdF x22 h34 (fun k35 => kNot x33 (fun x36 => k35 x36 h34)) (fun x37 h38 =>
 after (fun x39 h40 =>
 gdF x39 h40 (fun k41 => kFieldA 3 x0 (fun x42 => k41 x42 h40)) (fun x43 h44 =>
 gdF x39 h44 (fun k45 => kLoad x43 h44 (fun x46 => k45 x46 h44)) (fun x47 h48 =>
 gdF x39 h48 (fun k49 => kCall R 43 [x47, (Value.int .i64 (.ofNat 16)), (Value.int .i64 (.ofNat 110))] h48 (k49)) (fun x50 h51 =>
 gdF x39 h51 (fun k52 => kNot x50 (fun x53 => k52 x53 h51)) (fun x54 h55 =>
 after (fun x56 h57 =>
 jn (fun (x59 : Value) (h60 : Hs) =>
 kLoads 4 x0 h60 (fun x61 =>
 kCall R 44 [x61] h60 (fun x62 h63 =>
 kExtr x62 0 (fun x64 =>
 kExtr x62 1 (fun x65 =>
 kI64 .geq x65 (Value.int .i64 (.ofNat 1)) (fun x66 =>
 clrK h x66 h63)))))) fun k58 =>
 cnd x56
 (clrK h (Value.bool false) h57)
 (k58 (Value.bool false) h57)) (pickB (.c (Value.bool true)) (.c x54) enE h55 x39)))))) (pickB (.c (Value.bool true)) (.c x37) enE h38 x22)))))) (pickB (.c (Value.bool true)) (.c x20) enE h21 x6)))))))))) (oBox 24 (.c a0) enE h0)

theorem q16 (R : RnK) (N : Nat) (args : List Value) (h : Hs) : r16 R N args h = callT Tryz.prog N R 16 args h := by kernel_rfl

/-- lintel/image.Make$1 -/
noncomputable def r17 (R : RnK) (N : Nat) (args : List Value) (h : Hs) : An := unC args fun a0 sq0 => unC sq0 fun a1 sq1 => unC sq1 fun a2 sq2 => enK h fun h0 =>
 kLoad a2 h0 (fun x0 =>
 kI64 .mul (Value.int .i64 (.ofNat 8)) a0 (fun x1 =>
 after (fun x2 h3 =>
 after (fun x4 h5 =>
 clrK h (Value.tuple #[]) h5) (copy0 1 h3 x2 a1)) (oSlice 1 (.c x0) (some (.c x1)) none none enE h0)))

theorem q17 (R : RnK) (N : Nat) (args : List Value) (h : Hs) : r17 R N args h = callT Tryz.prog N R 17 args h := by kernel_rfl

/-- lintel/geom.Lost -/
noncomputable def r18 (R : RnK) (N : Nat) (args : List Value) (h : Hs) : An := unC args fun a0 sq0 => enK h fun h0 =>
 after (fun x0 h1 =>
 kLoads 4 x0 h1 (fun x2 =>
 kCall R 16 [x2] h1 (fun x3 h4 =>
 kNot x3 (fun x5 =>
 jn (fun (x7 x8 : Value) (h9 : Hs) =>
 kLoads 4 x0 (Hs.mk h9.hp h9.nx h9.nx) (fun x10 =>
 kFieldA 1 x0 (fun x11 =>
 kLoad x11 (Hs.mk h9.hp h9.nx h9.nx) (fun x12 =>
 kCall R 21 [x10, x12] (Hs.mk h9.hp h9.nx h9.nx) (fun v18 u19 => dPut (fun x13 h14 =>
 kI64 .add x13 (Value.int .i64 (.ofNat 1)) (fun x15 =>
 kFieldA 1 x0 (fun x16 =>
 kLoad x16 (dHidS .light [true, false, false, false, false, false] [none, none, some (h9.nx, h14.nx), none, none, none] h14) (fun x17 =>
 clrK h (Value.tuple #[x15, x17]) h14)))) v18 (dNext h9 u19 .light) (andB (dFit h9 u19 .light) (Nat.ble 0 u19.lo))))))) fun k6 =>
 cnd x5
 (clrK h (Value.tuple #[(Value.int .i64 (.ofNat 0)), (Value.int .i64 (.ofNat 0))]) h4)
 (k6 (Value.int .i64 (.ofNat 0)) (Value.int .i64 (.ofNat 0)) h4))))) (oBox 24 (.c a0) enE h0)

theorem q18 (R : RnK) (N : Nat) (args : List Value) (h : Hs) : r18 R N args h = callT Tryz.prog N R 18 args h := by kernel_rfl

/-- lintel/head.Put -/
noncomputable def r19 (R : RnK) (N : Nat) (args : List Value) (h : Hs) : An := unC args fun a0 sq0 => enK h fun h0 =>
 after (fun x0 h1 =>
 kFieldA 0 x0 (fun x2 =>
 kLoads 4 x2 h1 (fun x3 =>
 kCall R 16 [x3] h1 (fun x4 h5 =>
 kNot x4 (fun x6 =>
 jn (fun (x8 : Value) (h9 : Hs) =>
 kFieldA 0 x0 (fun x10 =>
 kFieldA 0 x10 (fun x11 =>
 kLoad x11 h9 (fun x12 =>
 kToU x12 (fun x13 =>
 kFieldA 0 x0 (fun x14 =>
 kFieldA 1 x14 (fun x15 =>
 kLoad x15 h9 (fun x16 =>
 kToU x16 (fun x17 =>
 kFieldA 0 x0 (fun x18 =>
 kFieldA 2 x18 (fun x19 =>
 kLoad x19 h9 (fun x20 =>
 kToU x20 (fun x21 =>
 kFieldA 0 x0 (fun x22 =>
 kFieldA 3 x22 (fun x23 =>
 kLoad x23 h9 (fun x24 =>
 kToU x24 (fun x25 =>
 after (fun x26 h27 =>
 kFieldA 4 x0 (fun x28 =>
 kLoad x28 (Hs.mk h27.hp h27.nx h27.nx) (fun x29 =>
 kCall R 39 [x26] (Hs.mk h27.hp h27.nx h27.nx) (fun v40 u41 => dPut (fun x30 h31 =>
 after (fun v38 u39 => dPut (fun x32 h33 =>
 after (fun v36 u37 => dPut (fun x34 h35 =>
 clrK h x34 h35) v36 (dNext h33 u37 .bar) (andB (dFit h33 u37 .bar) (Nat.ble 0 u37.lo))) (app0 34 1 8 h33 x26 x32)) v38 (dNext h31 u39 .bar) (andB (dFit h31 u39 .bar) (Nat.ble 0 u39.lo))) (oMkrow 34 1 2 [(Value.int .u64 (.ofNat 0))] [(0, 1, .c x29), (1, 1, .c x30)] enE h31)) v40 (dNext h27 u41 .light) (andB (dFit h27 u41 .light) (Nat.ble 0 u41.lo)))))) (oMkrow 34 1 6 [(Value.int .u64 (.ofNat 0))] [(0, 1, .c (Value.int .u64 (.ofNat 5497010944029229057))), (1, 1, .c x13), (2, 1, .c x17), (3, 1, .c x21), (4, 1, .c x25), (5, 1, .c (Value.int .u64 (.ofNat 0)))] enE h9)))))))))))))))))) fun k7 =>
 cnd x6
 (clrK h (Value.slice none 0 0) h5)
 (k7 (Value.slice none 0 0) h5)))))) (oBox 61 (.c a0) enE h0)

theorem q19 (R : RnK) (N : Nat) (args : List Value) (h : Hs) : r19 R N args h = callT Tryz.prog N R 19 args h := by kernel_rfl

/-- lintel/geom.Back -/
noncomputable def r20 (R : RnK) (N : Nat) (args : List Value) (h : Hs) : An := unC args fun a0 sq0 => enK h fun h0 =>
 after (fun x0 h1 =>
 kLoads 4 x0 h1 (fun x2 =>
 kCall R 16 [x2] h1 (fun x3 h4 =>
 kNot x3 (fun x5 =>
 jn (fun (x7 : Value) (h8 : Hs) =>
 kFieldA 0 x0 (fun x9 =>
 kLoad x9 h8 (fun x10 =>
 kI64 .sub x10 (Value.int .i64 (.ofNat 1)) (fun x11 =>
 clrK h x11 h8)))) fun k6 =>
 cnd x5
 (clrK h (Value.int .i64 (.ofNat 0)) h4)
 (k6 (Value.int .i64 (.ofNat 0)) h4))))) (oBox 24 (.c a0) enE h0)

theorem q20 (R : RnK) (N : Nat) (args : List Value) (h : Hs) : r20 R N args h = callT Tryz.prog N R 20 args h := by kernel_rfl

/-- lintel/geom.Node -/
noncomputable def r21 (R : RnK) (N : Nat) (args : List Value) (h : Hs) : An := unC args fun a0 sq0 => unC sq0 fun a1 sq1 => enK h fun h0 =>
 after (fun x0 h1 =>
 kLoads 4 x0 h1 (fun x2 =>
 kCall R 16 [x2] h1 (fun x3 h4 =>
 kNot x3 (fun x5 =>
 gdF x5 h4 (fun k6 => k6 a1 h4) (fun x7 h8 =>
 gdF x5 h8 (fun k9 => kFieldA 1 x0 (fun x10 => k9 x10 h8)) (fun x11 h12 =>
 gdF x5 h12 (fun k13 => kLoad x11 h12 (fun x14 => k13 x14 h12)) (fun x15 h16 =>
 gdF x5 h16 (fun k17 => kCall R 43 [x7, (Value.int .i64 (.ofNat 1)), x15] h16 (k17)) (fun x18 h19 =>
 gdF x5 h19 (fun k20 => kNot x18 (fun x21 => k20 x21 h19)) (fun x22 h23 =>
 after (fun x24 h25 =>
 jn (fun (x27 : Value) (h28 : Hs) =>
 kLoads 4 x0 h28 (fun x29 =>
 kCall R 45 [x29] h28 (fun x30 h31 =>
 kExtr x30 0 (fun x32 =>
 kExtr x30 1 (fun x33 =>
 kI64 .add x32 x33 (fun x34 =>
 kI64 .add x34 a1 (fun x35 =>
 kI64 .sub x35 (Value.int .i64 (.ofNat 1)) (fun x36 =>
 clrK h x36 h31)))))))) fun k26 =>
 cnd x24
 (clrK h (Value.int .i64 (.ofNat 0)) h25)
 (k26 (Value.int .i64 (.ofNat 0)) h25)) (pickB (.c (Value.bool true)) (.c x22) enE h23 x5)))))))))) (oBox 24 (.c a0) enE h0)

theorem q21 (R : RnK) (N : Nat) (args : List Value) (h : Hs) : r21 R N args h = callT Tryz.prog N R 21 args h := by kernel_rfl

/-- lintel/geom.Data -/
noncomputable def r22 (R : RnK) (N : Nat) (args : List Value) (h : Hs) : An := unC args fun a0 sq0 => enK h fun h0 =>
 after (fun x0 h1 =>
 kLoads 4 x0 h1 (fun x2 =>
 kCall R 16 [x2] h1 (fun x3 h4 =>
 kNot x3 (fun x5 =>
 jn (fun (x7 x8 : Value) (h9 : Hs) =>
 kLoads 4 x0 h9 (fun x10 =>
 kCall R 44 [x10] h9 (fun x11 h12 =>
 kExtr x11 0 (fun x13 =>
 kExtr x11 1 (fun x14 =>
 clrK h (Value.tuple #[x13, x14]) h12))))) fun k6 =>
 cnd x5
 (clrK h (Value.tuple #[(Value.int .i64 (.ofNat 0)), (Value.int .i64 (.ofNat 0))]) h4)
 (k6 (Value.int .i64 (.ofNat 0)) (Value.int .i64 (.ofNat 0)) h4))))) (oBox 24 (.c a0) enE h0)

theorem q22 (R : RnK) (N : Nat) (args : List Value) (h : Hs) : r22 R N args h = callT Tryz.prog N R 22 args h := by kernel_rfl

/-- lintel/bits.New -/
noncomputable def r23 (R : RnK) (N : Nat) (args : List Value) (h : Hs) : An := unC args fun a0 sq0 => enK h fun h0 =>
 after (fun x0 h1 =>
 after (fun x2 h3 =>
 after (fun x4 h5 =>
 kI64 .add x4 (Value.int .i64 (.ofNat 64)) (fun x6 =>
 kI64 .sub x6 (Value.int .i64 (.ofNat 1)) (fun x7 =>
 kI64 .quo x7 (Value.int .i64 (.ofNat 64)) (fun x8 =>
 after (fun x9 h10 =>
 after (fun x11 h12 =>
 kStore1 x0 x11 h12 (fun x13 h14 =>
 clearUp h (packR h14 (resV enE h14 [.cell (.c x0) 1 true])))) (oBuild [(Value.slice none 0 0)] [(0, 1, .c x9)] enE h10)) (mkslice1 34 1 8 [(Value.int .u64 (.ofNat 0))] h5 (natOf x8) (natOf x8)))))) (oMinmax false [.c x2, .c (Value.int .i64 (.ofNat 65536))] enE h3)) (oMinmax true [.c a0, .c (Value.int .i64 (.ofNat 0))] enE h1)) (oAlloc 65 [(Value.slice none 0 0)] enE h0)

theorem q23 (R : RnK) (N : Nat) (args : List Value) (h : Hs) : r23 R N args h = callT Tryz.prog N R 23 args h := by kernel_rfl

/-- lintel/bits.Set -/
noncomputable def r24 (R : RnK) (N : Nat) (args : List Value) (h : Hs) : An := unC args fun a0 sq0 => unC sq0 fun a1 sq1 => unC sq1 fun a2 sq2 => enK h fun h0 =>
 after (fun x0 h1 =>
 after (fun x2 h3 =>
 kFieldA 0 x0 (fun x4 =>
 kLoad x4 h3 (fun x5 =>
 kCall R 46 [x5] h3 (fun x6 h7 =>
 after (fun x8 h9 =>
 after (fun x10 h11 =>
 kStore1 x10 x8 h11 (fun x12 h13 =>
 kLenV a2 (fun x14 =>
 jn (fun (x16 x17 x18 x19 x20 : Value) (h21 : Hs) =>
 kLoads 1 x10 h21 (fun x22 =>
 kStore1 x2 x22 h21 (fun x23 h24 =>
 clearUp h (packR h24 (resV enE h24 [.cell (.c x2) 1 true]))))) fun k15 =>
 lpT (T := Value → Value → Value → Value → Value → Hs → An) (fun _ _ _ _ _ _ => none) N (fun k25 =>
 fun (x27 x28 x29 x30 x31 : Value) (h32 : Hs) =>
 kI64 .lss x27 x14 (fun x33 =>
 jn (fun (h35 : Hs) =>
 jn (fun (x37 x38 x39 : Value) (h40 : Hs) =>
 kI64 .add x27 (Value.int .i64 (.ofNat 1)) (fun x41 =>
 k25 x41 x33 x37 x38 x39 h40)) fun k36 =>
 kIdxA 1 a2 x27 (fun x42 =>
 kLoad x42 h35 (fun x43 =>
 kLoads 1 x0 h35 (fun x44 =>
 kCall R 47 [x44, x43] h35 (fun x45 h46 =>
 kNot x45 (fun x47 =>
 jn (fun (h49 : Hs) =>
 kFieldA 0 x10 (fun x50 =>
 kLoad x50 h49 (fun x51 =>
 kI64 .quo x43 (Value.int .i64 (.ofNat 64)) (fun x52 =>
 kIdxA 1 x51 x52 (fun x53 =>
 kLoad x53 h49 (fun x54 =>
 kI64 .rem x43 (Value.int .i64 (.ofNat 64)) (fun x55 =>
 kShl (Value.int .u64 (.ofNat 1)) x55 (fun x56 =>
 kU64 .andNot x54 x56 (fun x57 =>
 kIdxA 1 x51 x52 (fun x58 =>
 kStore1 x58 x57 h49 (fun v76 u77 => dPut (fun x59 h60 =>
 jn (fun (h62 : Hs) =>
 k36 x43 x47 a1 h62) fun k61 =>
 cnd a1
 (kFieldA 0 x10 (fun x63 =>
 kLoad x63 h60 (fun x64 =>
 kI64 .quo x43 (Value.int .i64 (.ofNat 64)) (fun x65 =>
 kIdxA 1 x64 x65 (fun x66 =>
 kLoad x66 h60 (fun x67 =>
 kI64 .rem x43 (Value.int .i64 (.ofNat 64)) (fun x68 =>
 kShl (Value.int .u64 (.ofNat 1)) x68 (fun x69 =>
 kU64 .or x67 x69 (fun x70 =>
 kIdxA 1 x64 x65 (fun x71 =>
 kStore1 x71 x70 h60 (fun v74 u75 => dPut (fun x72 h73 =>
 k61 h73) v74 (dNext h60 u75 .bar) (andB (dFit h60 u75 .bar) (Nat.ble 0 u75.lo)))))))))))))
 (k61 h60)) v76 (dNext h49 u77 .bar) (andB (dFit h49 u77 .bar) (Nat.ble 0 u77.lo))))))))))))) fun k48 =>
 cnd x47
 (k36 x43 x47 x31 h46)
 (k48 h46))))))) fun k34 =>
 cnd x33
 (k34 h32)
 (k15 x27 x33 x29 x30 x31 h32))) (Value.int .i64 (.ofNat 0)) dunno dunno dunno dunno h13))) (oAlloc 65 [(Value.slice none 0 0)] enE h9)) (oBuild [(Value.slice none 0 0)] [(0, 1, .c x6)] enE h7))))) (oAlloc 65 [(Value.slice none 0 0)] enE h1)) (oBox 65 (.c a0) enE h0)

theorem q24 (R : RnK) (N : Nat) (args : List Value) (h : Hs) : r24 R N args h = callT Tryz.prog N R 24 args h := by kernel_rfl

/-- lintel/geom.Bits -/
noncomputable def r25 (R : RnK) (N : Nat) (args : List Value) (h : Hs) : An := unC args fun a0 sq0 => enK h fun h0 =>
 after (fun x0 h1 =>
 kLoads 4 x0 h1 (fun x2 =>
 kCall R 16 [x2] h1 (fun x3 h4 =>
 kNot x3 (fun x5 =>
 jn (fun (x7 x8 : Value) (h9 : Hs) =>
 kLoads 4 x0 h9 (fun x10 =>
 kCall R 45 [x10] h9 (fun x11 h12 =>
 kExtr x11 0 (fun x13 =>
 kExtr x11 1 (fun x14 =>
 clrK h (Value.tuple #[x13, x14]) h12))))) fun k6 =>
 cnd x5
 (clrK h (Value.tuple #[(Value.int .i64 (.ofNat 0)), (Value.int .i64 (.ofNat 0))]) h4)
 (k6 (Value.int .i64 (.ofNat 0)) (Value.int .i64 (.ofNat 0)) h4))))) (oBox 24 (.c a0) enE h0)

theorem q25 (R : RnK) (N : Nat) (args : List Value) (h : Hs) : r25 R N args h = callT Tryz.prog N R 25 args h := by kernel_rfl

/-- lintel/image.Open -/
noncomputable def r26 (R : RnK) (N : Nat) (args : List Value) (h : Hs) : An := unC args fun a0 sq0 => enK h fun h0 =>
 after (fun x0 h1 =>
 kCall R 48 [a0] h1 (fun x2 h3 =>
 kExtr x2 0 (fun x4 =>
 kExtr x2 1 (fun x5 =>
 kExtr x2 2 (fun x6 =>
 after (fun x7 h8 =>
 after (fun x9 h10 =>
 kNot x5 (fun x11 =>
 gdT x11 h10 (fun k12 => k12 x6 h10) (fun x13 h14 =>
 gdT x11 h14 (fun k15 => kNot x13 (fun x16 => k15 x16 h14)) (fun x17 h18 =>
 after (fun x19 h20 =>
 jn (fun (x22 : Value) (h23 : Hs) =>
 kFieldA 0 x7 (fun x24 =>
 kLoads 4 x24 (Hs.mk h23.hp h23.nx h23.nx) (fun x25 =>
 kCall R 46 [a0] (Hs.mk h23.hp h23.nx h23.nx) (fun v36 u37 => dPut (fun x26 h27 =>
 after (fun v34 u35 => dPut (fun x28 h29 =>
 after (fun v32 u33 => dPut (fun x30 h31 =>
 clearUp h (packR h31 (resV enE h31 [.cell (.c x0) 5 true, .t (.c (Value.int .i64 (.ofNat 0)))]))) v32 (dNext h29 u33 .bar) (andB (dFit h29 u33 .bar) (Nat.ble 0 u33.lo))) (store1 5 h29 (cellsL x28) (addrOf x0))) v34 (dNext h27 u35 .blind) (andB (dFit h27 u35 .blind) (Nat.ble 0 u35.lo))) (oBuild [(Value.int .i64 (.ofNat 0)), (Value.int .i64 (.ofNat 0)), (Value.int .i64 (.ofNat 0)), (Value.int .i64 (.ofNat 0)), (Value.slice none 0 0)] [(0, 4, .c x25), (4, 1, .c x26)] enE (Hs.mk .e h27.nx h27.nx))) v36 (dNext h23 u37 .light) (andB (dFit h23 u37 .light) (Nat.ble 0 u37.lo)))))) fun k21 =>
 cnd x19
 (after (fun x38 h39 =>
 after (fun x40 h41 =>
 clearUp h (packR h41 (resV enE h41 [.cell (.c x0) 5 true, .t (.c (Value.int .i64 (.ofNat 13)))]))) (store1 5 h39 (cellsL x38) (addrOf x0))) (oBuild [(Value.int .i64 (.ofNat 0)), (Value.int .i64 (.ofNat 0)), (Value.int .i64 (.ofNat 0)), (Value.int .i64 (.ofNat 0)), (Value.slice none 0 0)] [] enE h20))
 (k21 (Value.int .i64 (.ofNat 0)) h20)) (pickB (.c x17) (.c (Value.bool false)) enE h18 x11))))) (store1 5 h8 (cellsL x4) (addrOf x7))) (oAlloc 61 [(Value.int .i64 (.ofNat 0)), (Value.int .i64 (.ofNat 0)), (Value.int .i64 (.ofNat 0)), (Value.int .i64 (.ofNat 0)), (Value.int .u64 (.ofNat 0))] enE h3)))))) (oAlloc 69 [(Value.int .i64 (.ofNat 0)), (Value.int .i64 (.ofNat 0)), (Value.int .i64 (.ofNat 0)), (Value.int .i64 (.ofNat 0)), (Value.slice none 0 0)] enE h0)

theorem q26 (R : RnK) (N : Nat) (args : List Value) (h : Hs) : r26 R N args h = callT Tryz.prog N R 26 args h := by kernel_rfl

/-- (*lintel/check.looker).heads -/
noncomputable def r27 (R : RnK) (N : Nat) (args : List Value) (h : Hs) : An := unC args fun a0 sq0 => enK h fun h0 =>
 kNil a0 (fun x0 =>
 kFieldA 0 x0 (fun x1 =>
 kFieldA 0 x1 (fun x2 =>
 kFieldA 0 x2 (fun x3 =>
 kLoad x3 h0 (fun x4 =>
 kI64 .sub x4 (Value.int .i64 (.ofNat 1)) (fun x5 =>
 kNil a0 (fun x6 =>
 kFieldA 0 x6 (fun x7 =>
 kLoads 5 x7 h0 (fun x8 =>
 kCall R 50 [x8, (Value.int .i64 (.ofNat 0))] h0 (fun x9 h10 =>
 kCall R 49 [x9] h10 (fun x11 h12 =>
 kExtr x11 0 (fun x13 =>
 kExtr x11 1 (fun x14 =>
 after (fun x15 h16 =>
 after (fun x17 h18 =>
 kNil a0 (fun x19 =>
 kFieldA 0 x19 (fun x20 =>
 kLoads 5 x20 h18 (fun x21 =>
 kCall R 50 [x21, x5] h18 (fun x22 h23 =>
 kCall R 49 [x22] h23 (fun x24 h25 =>
 kExtr x24 0 (fun x26 =>
 kExtr x24 1 (fun x27 =>
 after (fun x28 h29 =>
 after (fun x30 h31 =>
 gdT x14 h31 (fun k32 => kFieldA 0 x15 (fun x33 => k32 x33 h31)) (fun x34 _ =>
 gdT x14 h31 (fun k36 => kFieldA 0 x34 (fun x37 => k36 x37 h31)) (fun x38 _ =>
 gdT x14 h31 (fun k40 => kLoad x38 (Hs.mk h31.hp h31.nx h31.nx) (fun x41 => k40 x41 h31)) (fun x42 _ =>
 gdT x14 h31 (fun k44 => k44 a0 h31) (fun x45 _ =>
 gdT x14 h31 (fun k47 => kNil x45 (fun x48 => k47 x48 h31)) (fun x49 _ =>
 gdT x14 h31 (fun k51 => kFieldA 0 x49 (fun x52 => k51 x52 h31)) (fun x53 _ =>
 gdT x14 h31 (fun k55 => kFieldA 0 x53 (fun x56 => k55 x56 h31)) (fun x57 _ =>
 gdT x14 h31 (fun k59 => kFieldA 0 x57 (fun x60 => k59 x60 h31)) (fun x61 _ =>
 gdT x14 h31 (fun k63 => kLoad x61 (Hs.mk h31.hp h31.nx h31.nx) (fun x64 => k63 x64 h31)) (fun x65 _ =>
 gdT x14 h31 (fun k67 => kI64 .eql x42 x65 (fun x68 => k67 x68 h31)) (fun x69 _ =>
 after (fun v134 u135 => dPut (fun x71 h72 =>
 gdT x27 h72 (fun k73 => kFieldA 0 x28 (fun x74 => k73 x74 h72)) (fun x75 _ =>
 gdT x27 h72 (fun k77 => kLoads 4 x75 (Hs.mk h72.hp h72.nx h72.nx) (fun x78 => k77 x78 h72)) (fun x79 _ =>
 gdT x27 h72 (fun k81 => k81 a0 h72) (fun x82 _ =>
 gdT x27 h72 (fun k84 => kNil x82 (fun x85 => k84 x85 h72)) (fun x86 _ =>
 gdT x27 h72 (fun k88 => kFieldA 0 x86 (fun x89 => k88 x89 h72)) (fun x90 _ =>
 gdT x27 h72 (fun k92 => kFieldA 0 x90 (fun x93 => k92 x93 h72)) (fun x94 _ =>
 gdT x27 h72 (fun k96 => kLoads 4 x94 (Hs.mk h72.hp h72.nx h72.nx) (fun x97 => k96 x97 h72)) (fun x98 _ =>
 gdT x27 h72 (fun k100 => obK (fun x101 => k100 x101 h72) (e2 false (qA [.i, .i, .i, .i]) x79 x98)) (fun x102 _ =>
 after (fun v132 u133 => dPut (fun x104 h105 =>
 kNot x71 (fun x106 =>
 jn (fun (x108 : Value) (h109 : Hs) =>
 kNot x104 (fun x110 =>
 jn (fun (x112 : Value) (h113 : Hs) =>
 clrK h (Value.tuple #[]) h113) fun k111 =>
 cnd x110
 (kCall R 51 [a0, (Value.int .i64 (.ofNat 0)), (Value.int .i64 (.ofNat 4)), x5, (Value.int .i64 (.ofNat 0))] h109 (fun x114 h115 =>
 k111 dunno h115))
 (kFieldA 4 x28 (fun x116 =>
 kLoad x116 h109 (fun x117 =>
 kU64 .neq x117 (Value.int .u64 (.ofNat 0)) (fun x118 =>
 jn (fun (h120 : Hs) =>
 k111 x118 h120) fun k119 =>
 cnd x118
 (kCall R 51 [a0, (Value.int .i64 (.ofNat 0)), (Value.int .i64 (.ofNat 5)), x5, (Value.int .i64 (.ofNat 0))] h109 (fun x121 h122 =>
 k119 h122))
 (k119 h109))))))) fun k107 =>
 cnd x106
 (kCall R 51 [a0, (Value.int .i64 (.ofNat 0)), (Value.int .i64 (.ofNat 3)), (Value.int .i64 (.ofNat 0)), (Value.int .i64 (.ofNat 0))] h105 (fun x123 h124 =>
 k107 dunno h124))
 (kFieldA 4 x15 (fun x125 =>
 kLoad x125 h105 (fun x126 =>
 kU64 .neq x126 (Value.int .u64 (.ofNat 0)) (fun x127 =>
 jn (fun (h129 : Hs) =>
 k107 x127 h129) fun k128 =>
 cnd x127
 (kCall R 51 [a0, (Value.int .i64 (.ofNat 0)), (Value.int .i64 (.ofNat 5)), (Value.int .i64 (.ofNat 0)), (Value.int .i64 (.ofNat 0))] h105 (fun x130 h131 =>
 k128 h131))
 (k128 h105))))))) v132 (dNext h72 u133 .blind) (andB (dFit h72 u133 .blind) (Nat.ble 0 u133.lo))) (pickB (.c x102) (.c (Value.bool false)) enE (Hs.mk .e h72.nx h72.nx) x27)))))))))) v134 (dNext h31 u135 .blind) (andB (dFit h31 u135 .blind) (Nat.ble 0 u135.lo))) (pickB (.c x69) (.c (Value.bool false)) enE (Hs.mk .e h31.nx h31.nx) x14)))))))))))) (store1 5 h29 (cellsL x26) (addrOf x28))) (oAlloc 61 [(Value.int .i64 (.ofNat 0)), (Value.int .i64 (.ofNat 0)), (Value.int .i64 (.ofNat 0)), (Value.int .i64 (.ofNat 0)), (Value.int .u64 (.ofNat 0))] enE h25))))))))) (store1 5 h16 (cellsL x13) (addrOf x15))) (oAlloc 61 [(Value.int .i64 (.ofNat 0)), (Value.int .i64 (.ofNat 0)), (Value.int .i64 (.ofNat 0)), (Value.int .i64 (.ofNat 0)), (Value.int .u64 (.ofNat 0))] enE h12))))))))))))))

theorem q27 (R : RnK) (N : Nat) (args : List Value) (h : Hs) : r27 R N args h = callT Tryz.prog N R 27 args h := by kernel_rfl

/-- (*lintel/check.looker).books -/
noncomputable def r28 (R : RnK) (N : Nat) (args : List Value) (h : Hs) : An := unC args fun a0 sq0 => enK h fun h0 =>
 kNil a0 (fun x0 =>
 kFieldA 0 x0 (fun x1 =>
 kFieldA 0 x1 (fun x2 =>
 kFieldA 2 x2 (fun x3 =>
 kLoad x3 h0 (fun x4 =>
 jn (fun (x6 x7 x8 x9 x10 : Value) (h11 : Hs) =>
 clrK h (Value.tuple #[]) h11) fun k5 =>
 lpT (T := Value → Value → Value → Value → Value → Hs → An) (fun _ _ _ _ _ _ => none) N (fun k12 =>
 fun (x14 x15 x16 x17 x18 : Value) (h19 : Hs) =>
 kI64 .lss x14 x4 (fun x20 =>
 jn (fun (h22 : Hs) =>
 jn (fun (x24 x25 x26 : Value) (h27 : Hs) =>
 kI64 .add x14 (Value.int .i64 (.ofNat 1)) (fun x28 =>
 k12 x28 x20 x24 x25 x26 h27)) fun k23 =>
 kNil a0 (fun x29 =>
 kFieldA 0 x29 (fun x30 =>
 kFieldA 0 x30 (fun x31 =>
 kLoads 4 x31 h22 (fun x32 =>
 kCall R 52 [x32, x14] h22 (fun x33 h34 =>
 kExtr x33 0 (fun x35 =>
 kExtr x33 1 (fun x36 =>
 kNil a0 (fun x37 =>
 kFieldA 0 x37 (fun x38 =>
 kFieldA 4 x38 (fun x39 =>
 kLoad x39 h34 (fun x40 =>
 kI64 .mul (Value.int .i64 (.ofNat 8)) x35 (fun x41 =>
 kIdxA 1 x40 x41 (fun x42 =>
 kLoad x42 h34 (fun x43 =>
 kU64 .neq x43 (Value.int .u64 (.ofNat 0)) (fun x44 =>
 jn (fun (h46 : Hs) =>
 k23 x14 x35 x44 h46) fun k45 =>
 cnd x44
 (kCall R 51 [a0, (Value.int .i64 (.ofNat 1)), (Value.int .i64 (.ofNat 1)), x14, (Value.int .i64 (.ofNat 0))] h34 (fun x47 h48 =>
 k45 h48))
 (k45 h34))))))))))))))))) fun k21 =>
 cnd x20
 (k21 h19)
 (k5 x14 x20 x16 x17 x18 h19))) (Value.int .i64 (.ofNat 0)) dunno dunno dunno dunno h0)))))

theorem q28 (R : RnK) (N : Nat) (args : List Value) (h : Hs) : r28 R N args h = callT Tryz.prog N R 28 args h := by kernel_rfl

/-- (*lintel/check.looker).shared -/
noncomputable def r30 (R : RnK) (N : Nat) (args : List Value) (h : Hs) : An := unC args fun a0 sq0 => enK h fun h0 =>
 after (fun x0 h1 =>
 kNil a0 (fun x2 =>
 kFieldA 6 x2 (fun x3 =>
 kLoad x3 h1 (fun x4 =>
 kLenV x4 (fun x5 =>
 jn (fun (x7 x8 x9 x10 x11 x12 x13 x14 x15 x16 x17 x18 x19 : Value) (h20 : Hs) =>
 clrK h (Value.tuple #[]) h20) fun k6 =>
 lpT (T := Value → Value → Value → Value → Value → Value → Value → Value → Value → Value → Value → Value → Value → Hs → An) (fun _ _ _ _ _ _ _ _ _ _ _ _ _ _ => none) N (fun k21 =>
 fun (x23 x24 x25 x26 x27 x28 x29 x30 x31 x32 x33 x34 x35 : Value) (h36 : Hs) =>
 kI64 .lss x23 x5 (fun x37 =>
 jn (fun (h39 : Hs) =>
 jn (fun (x41 x42 x43 x44 x45 x46 x47 x48 x49 x50 x51 : Value) (h52 : Hs) =>
 kI64 .add x23 (Value.int .i64 (.ofNat 1)) (fun x53 =>
 k21 x53 x37 x41 x42 x43 x44 x45 x46 x47 x48 x49 x50 x51 h52)) fun k40 =>
 kCall R 56 [a0, x23] h39 (fun x54 h55 =>
 kLenV x54 (fun x56 =>
 jn (fun (x58 x59 x60 x61 x62 x63 x64 : Value) (h65 : Hs) =>
 kI64 .neq x63 (Value.int .i64 (.ofNat 0)) (fun x66 =>
 jn (fun (h68 : Hs) =>
 k40 x23 x58 x56 x59 x54 x60 x61 x62 x63 x64 x66 h68) fun k67 =>
 cnd x66
 (kCall R 51 [a0, (Value.int .i64 (.ofNat 3)), (Value.int .i64 (.ofNat 1)), x23, x63] h65 (fun x69 h70 =>
 k67 h70))
 (k67 h65))) fun k57 =>
 lpT (T := Value → Value → Value → Value → Value → Value → Value → Hs → An) (fun _ _ _ _ _ _ _ _ => none) N (fun k71 =>
 fun (x73 x74 x75 x76 x77 x78 x79 : Value) (h80 : Hs) =>
 kI64 .lss x73 x56 (fun x81 =>
 jn (fun (h83 : Hs) =>
 jn (fun (x85 x86 x87 x88 x89 : Value) (h90 : Hs) =>
 kI64 .add x73 (Value.int .i64 (.ofNat 1)) (fun x91 =>
 k71 x91 x81 x85 x86 x87 x88 x89 h90)) fun k84 =>
 kIdxA 1 x54 x73 (fun x92 =>
 kLoad x92 h83 (fun x93 =>
 after (fun x94 h95 =>
 kI64 .eql x94 (Value.int .i64 (.ofNat 0)) (fun x96 =>
 jn (fun (x98 x99 : Value) (h100 : Hs) =>
 k84 x93 x94 x96 x98 x99 h100) fun k97 =>
 cnd x96
 (after (fun x101 h102 =>
 k97 x78 x79 h102) (mapup1 true h95 x93 x23 x0))
 (kI64 .eql x78 (Value.int .i64 (.ofNat 0)) (fun x103 =>
 gdF x103 h95 (fun k104 => k104 x94 h95) (fun x105 h106 =>
 gdF x103 h106 (fun k107 => k107 x78 h106) (fun x108 h109 =>
 gdF x103 h109 (fun k110 => kI64 .lss x105 x108 (fun x111 => k110 x111 h109)) (fun x112 h113 =>
 after (fun x114 h115 =>
 jn (fun (x117 : Value) (h118 : Hs) =>
 k97 x117 x114 h118) fun k116 =>
 cnd x114
 (k116 x94 h115)
 (k116 x78 h115)) (pickB (.c (Value.bool true)) (.c x112) enE h113 x103)))))))) (ret1 h83 (lk1 true h83 (Value.int .i64 (.ofNat 0)) false x93 x0))))) fun k82 =>
 cnd x81
 (k82 h80)
 (k57 x73 x81 x75 x76 x77 x78 x79 h80))) (Value.int .i64 (.ofNat 0)) x28 x30 x31 x32 (Value.int .i64 (.ofNat 0)) x34 h55))) fun k38 =>
 cnd x37
 (k38 h36)
 (k6 x23 x37 x25 x26 x27 x28 x29 x30 x31 x32 x33 x34 x35 h36))) (Value.int .i64 (.ofNat 0)) dunno dunno dunno dunno dunno dunno dunno dunno dunno dunno dunno dunno h1))))) (mkmap1 h0 (Value.int .i64 0))

theorem q30 (R : RnK) (N : Nat) (args : List Value) (h : Hs) : r30 R N args h = callT Tryz.prog N R 30 args h := by kernel_rfl

/-- (*lintel/check.looker).slots -/
noncomputable def r31 (R : RnK) (N : Nat) (args : List Value) (h : Hs) : An := unC args fun a0 sq0 => enK h fun h0 =>
 after (fun x0 h1 =>
 kNil a0 (fun x2 =>
 kFieldA 6 x2 (fun x3 =>
 kLoad x3 h1 (fun x4 =>
 kLenV x4 (fun x5 =>
 jn (fun (x7 x8 x9 x10 x11 x12 x13 x14 x15 x16 x17 x18 x19 x20 x21 x22 x23 x24 x25 : Value) (h26 : Hs) =>
 clrK h (Value.tuple #[]) h26) fun k6 =>
 lpT (T := Value → Value → Value → Value → Value → Value → Value → Value → Value → Value → Value → Value → Value → Value → Value → Value → Value → Value → Value → Hs → An) (fun _ _ _ _ _ _ _ _ _ _ _ _ _ _ _ _ _ _ _ _ => none) N (fun k27 =>
 fun (x29 x30 x31 x32 x33 x34 x35 x36 x37 x38 x39 x40 x41 x42 x43 x44 x45 x46 x47 : Value) (h48 : Hs) =>
 kI64 .lss x29 x5 (fun x49 =>
 jn (fun (h51 : Hs) =>
 jn (fun (x53 x54 x55 x56 x57 x58 x59 x60 x61 x62 x63 x64 x65 x66 x67 x68 x69 : Value) (h70 : Hs) =>
 kI64 .add x29 (Value.int .i64 (.ofNat 1)) (fun x71 =>
 k27 x71 x49 x53 x54 x55 x56 x57 x58 x59 x60 x61 x62 x63 x64 x65 x66 x67 x68 x69 h70)) fun k52 =>
 kNil a0 (fun x72 =>
 kFieldA 6 x72 (fun x73 =>
 kLoad x73 h51 (fun x74 =>
 kIdxA 1 x74 x29 (fun x75 =>
 kLoad x75 h51 (fun x76 =>
 kNot x76 (fun x77 =>
 gdF x77 h51 (fun k78 => k78 a0 h51) (fun x79 h80 =>
 gdF x77 h80 (fun k81 => kNil x79 (fun x82 => k81 x82 h80)) (fun x83 h84 =>
 gdF x77 h84 (fun k85 => kFieldA 5 x83 (fun x86 => k85 x86 h84)) (fun x87 h88 =>
 gdF x77 h88 (fun k89 => kLoad x87 h88 (fun x90 => k89 x90 h88)) (fun x91 h92 =>
 gdF x77 h92 (fun k93 => k93 x29 h92) (fun x94 h95 =>
 gdF x77 h95 (fun k96 => kIdxA 4 x91 x94 (fun x97 => k96 x97 h95)) (fun x98 h99 =>
 gdF x77 h99 (fun k100 => kFieldA 0 x98 (fun x101 => k100 x101 h99)) (fun x102 h103 =>
 gdF x77 h103 (fun k104 => kLoad x102 h103 (fun x105 => k104 x105 h103)) (fun x106 h107 =>
 gdF x77 h107 (fun k108 => kI64 .neq x106 (Value.int .i64 (.ofNat 2)) (fun x109 => k108 x109 h107)) (fun x110 h111 =>
 after (fun x112 h113 =>
 jn (fun (h115 : Hs) =>
 after (fun x116 h117 =>
 kCall R 56 [a0, x29] h117 (fun x118 h119 =>
 kLenV x118 (fun x120 =>
 jn (fun (x122 x123 x124 x125 x126 x127 x128 x129 x130 x131 x132 x133 : Value) (h134 : Hs) =>
 k52 x29 x112 x122 x120 x123 x118 x124 x125 x126 x127 x128 x129 x116 x130 x131 x132 x133 h134) fun k121 =>
 lpT (T := Value → Value → Value → Value → Value → Value → Value → Value → Value → Value → Value → Value → Hs → An) (fun _ _ _ _ _ _ _ _ _ _ _ _ _ => none) N (fun k135 =>
 fun (x137 x138 x139 x140 x141 x142 x143 x144 x145 x146 x147 x148 : Value) (h149 : Hs) =>
 kI64 .lss x137 x120 (fun x150 =>
 jn (fun (h152 : Hs) =>
 jn (fun (x154 x155 x156 x157 x158 x159 x160 x161 x162 x163 : Value) (h164 : Hs) =>
 kI64 .add x137 (Value.int .i64 (.ofNat 1)) (fun x165 =>
 k135 x165 x150 x154 x155 x156 x157 x158 x159 x160 x161 x162 x163 h164)) fun k153 =>
 kIdxA 1 x118 x137 (fun x166 =>
 kLoad x166 h152 (fun x167 =>
 kNil a0 (fun x168 =>
 kFieldA 0 x168 (fun x169 =>
 kLoads 5 x169 h152 (fun x170 =>
 kCall R 50 [x170, x167] h152 (fun x171 h172 =>
 kCall R 57 [x171] h172 (fun x173 h174 =>
 kExtr x173 0 (fun x175 =>
 kExtr x173 1 (fun x176 =>
 after (fun x177 h178 =>
 after (fun x179 h180 =>
 kNot x176 (fun x181 =>
 jn (fun (h183 : Hs) =>
 kFieldA 0 x177 (fun x184 =>
 kLoad x184 h183 (fun x185 =>
 kI64 .eql x185 (Value.int .i64 (.ofNat 0)) (fun x186 =>
 jn (fun (h188 : Hs) =>
 kLoads 2 x177 h188 (fun x189 =>
 after (fun x190 h191 =>
 kFieldA 1 x177 (fun x192 =>
 kLoad x192 h191 (fun x193 =>
 after (fun x194 h195 =>
 kCall R 58 [a0, x190, x194] h195 (fun x196 h197 =>
 kFieldA 1 x177 (fun x198 =>
 kLoad x198 h197 (fun x199 =>
 after (fun x200 h201 =>
 kI64 .eql x196 (Value.int .i64 (.ofNat 0)) (fun x202 =>
 gdT x202 h201 (fun k203 => k203 a0 h201) (fun x204 _ =>
 gdT x202 h201 (fun k206 => kNil x204 (fun x207 => k206 x207 h201)) (fun x208 _ =>
 gdT x202 h201 (fun k210 => kFieldA 5 x208 (fun x211 => k210 x211 h201)) (fun x212 _ =>
 gdT x202 h201 (fun k214 => kLoad x212 (Hs.mk h201.hp h201.nx h201.nx) (fun x215 => k214 x215 h201)) (fun x216 _ =>
 gdT x202 h201 (fun k218 => kFieldA 0 x177 (fun x219 => k218 x219 h201)) (fun x220 _ =>
 gdT x202 h201 (fun k222 => kLoad x220 (Hs.mk h201.hp h201.nx h201.nx) (fun x223 => k222 x223 h201)) (fun x224 _ =>
 gdT x202 h201 (fun k226 => kIdxA 4 x216 x224 (fun x227 => k226 x227 h201)) (fun x228 _ =>
 gdT x202 h201 (fun k230 => kFieldA 0 x228 (fun x231 => k230 x231 h201)) (fun x232 _ =>
 gdT x202 h201 (fun k234 => kLoad x232 h201 (fun x235 => k234 x235 h201)) (fun x236 _ =>
 gdT x202 h201 (fun k238 => kI64 .eql x236 (Value.int .i64 (.ofNat 2)) (fun x239 => k238 x239 h201)) (fun x240 _ =>
 after (fun v286 u287 => dPut (fun x242 h243 =>
 jn (fun (x245 x246 : Value) (h247 : Hs) =>
 kI64 .neq x245 (Value.int .i64 (.ofNat 0)) (fun x248 =>
 jn (fun (h250 : Hs) =>
 k153 x167 x176 x181 x137 x177 x186 x245 x242 x246 x248 h250) fun k249 =>
 cnd x248
 (kCall R 51 [a0, (Value.int .i64 (.ofNat 4)), x245, x29, x137] h247 (fun x251 h252 =>
 k249 h252))
 (kNil a0 (fun x253 =>
 kFieldA 7 x253 (fun x254 =>
 kLoad x254 (Hs.mk h247.hp h247.nx h247.nx) (fun x255 =>
 kLoads 2 x177 (Hs.mk h247.hp h247.nx h247.nx) (fun x256 =>
 after (fun v273 u274 => dPut (fun x257 h258 =>
 after (fun v271 u272 => dPut (fun x259 h260 =>
 after (fun v269 u270 => dPut (fun x261 h262 =>
 kNil a0 (fun x263 =>
 kFieldA 7 x263 (fun x264 =>
 kStore1 x264 x261 h262 (fun v267 u268 => dPut (fun x265 h266 =>
 k249 h266) v267 (dNext h262 u268 .bar) (andB (dFit h262 u268 .bar) (Nat.ble 0 u268.lo)))))) v269 (dNext h260 u270 .bar) (andB (dFit h260 u270 .bar) (Nat.ble 0 u270.lo))) (app0 112 4 40 h260 x255 x259)) v271 (dNext h258 u272 .light) (andB (dFit h258 u272 .light) (Nat.ble 0 u272.lo))) (oMkrow 112 4 1 [(Value.int .i64 (.ofNat 0)), (Value.int .i64 (.ofNat 0)), (Value.int .i64 (.ofNat 0)), (Value.string ⟨#[]⟩)] [(0, 4, .c x257)] enE (dHidS .light [true, true, true, true, false, false, false, false, false] [some (h247.nx, h258.nx), none, none, none, none, none, none, none, none] h258))) v273 (dNext h247 u274 .blind) (andB (dFit h247 u274 .blind) (Nat.ble 0 u274.lo))) (oBuild [(Value.int .i64 (.ofNat 0)), (Value.int .i64 (.ofNat 0)), (Value.int .i64 (.ofNat 0)), (Value.string ⟨#[]⟩)] [(0, 1, .c x29), (1, 1, .c x137), (2, 2, .c x256)] enE (Hs.mk .e h247.nx h247.nx))))))))) fun k244 =>
 cnd x242
 (kFieldA 0 x177 (fun x275 =>
 kLoad x275 h243 (fun x276 =>
 after (fun x277 h278 =>
 jn (fun (x280 : Value) (h281 : Hs) =>
 kFieldA 0 x177 (fun x282 =>
 kLoad x282 h281 (fun x283 =>
 after (fun x284 h285 =>
 k244 x280 x277 h285) (mapup1 true h281 x283 (Value.bool true) x0)))) fun k279 =>
 cnd x277
 (k279 (Value.int .i64 (.ofNat 6)) h278)
 (k279 x196 h278)) (ret1 h243 (lk1 true h243 (Value.bool false) false x276 x0)))))
 (k244 x196 x147 h243)) v286 (dNext h201 u287 .blind) (andB (dFit h201 u287 .blind) (Nat.ble 0 u287.lo))) (pickB (.c x240) (.c (Value.bool false)) enE (Hs.mk .e h201.nx h201.nx) x202))))))))))))) (mapup1 false h197 x199 (Value.bool true) x116))))) (ret1 h191 (lk1 false h191 (Value.bool false) false x193 x116))))) (oBuild [(Value.int .i64 (.ofNat 0)), (Value.int .i64 (.ofNat 0)), (Value.int .i64 (.ofNat 0)), (Value.string ⟨#[]⟩)] [(0, 1, .c x29), (1, 1, .c x137), (2, 2, .c x189)] enE h188))) fun k187 =>
 cnd x186
 (k153 x167 x176 x181 x137 x177 x186 x145 x146 x147 x148 h183)
 (k187 h183))))) fun k182 =>
 cnd x181
 (kCall R 51 [a0, (Value.int .i64 (.ofNat 4)), (Value.int .i64 (.ofNat 1)), x29, x137] h180 (fun x288 h289 =>
 k153 x167 x176 x181 x137 x177 x144 x145 x146 x147 x148 h289))
 (k182 h180))) (store1 2 h178 (cellsL x175) (addrOf x177))) (oAlloc 46 [(Value.int .i64 (.ofNat 0)), (Value.string ⟨#[]⟩)] enE h174))))))))))) fun k151 =>
 cnd x150
 (k151 h149)
 (k121 x137 x150 x139 x140 x141 x142 x143 x144 x145 x146 x147 x148 h149))) (Value.int .i64 (.ofNat 0)) x35 x37 x38 x39 x40 x41 x42 x44 x45 x46 x47 h119))) (mkmap1 h115 (Value.int .i64 0))) fun k114 =>
 cnd x112
 (k52 x29 x112 x33 x34 x35 x36 x37 x38 x39 x40 x41 x42 x43 x44 x45 x46 x47 h113)
 (k114 h113)) (pickB (.c (Value.bool true)) (.c x110) enE h111 x77))))))))))))))))) fun k50 =>
 cnd x49
 (k50 h48)
 (k6 x29 x49 x31 x32 x33 x34 x35 x36 x37 x38 x39 x40 x41 x42 x43 x44 x45 x46 x47 h48))) (Value.int .i64 (.ofNat 0)) dunno dunno dunno dunno dunno dunno dunno dunno dunno dunno dunno dunno dunno dunno dunno dunno dunno dunno h1))))) (mkmap1 h0 (Value.int .i64 0))

theorem q31 (R : RnK) (N : Nat) (args : List Value) (h : Hs) : r31 R N args h = callT Tryz.prog N R 31 args h := by kernel_rfl

/-- (*lintel/check.looker).reach -/
noncomputable def r32 (R : RnK) (N : Nat) (args : List Value) (h : Hs) : An := unC args fun a0 sq0 => enK h fun h0 =>
 after (fun x0 h1 =>
 after (fun x2 h3 =>
 after (fun x4 h5 =>
 jn (fun (x7 x8 x9 x10 x11 x12 x13 x14 : Value) (h15 : Hs) =>
 kNil a0 (fun x16 =>
 kFieldA 6 x16 (fun x17 =>
 kLoad x17 h15 (fun x18 =>
 kLenV x18 (fun x19 =>
 jn (fun (x21 x22 x23 x24 x25 : Value) (h26 : Hs) =>
 clrK h (Value.tuple #[]) h26) fun k20 =>
 lpT (T := Value → Value → Value → Value → Value → Hs → An) (fun _ _ _ _ _ _ => none) N (fun k27 =>
 fun (x29 x30 x31 x32 x33 : Value) (h34 : Hs) =>
 kI64 .lss x29 x19 (fun x35 =>
 jn (fun (h37 : Hs) =>
 jn (fun (x39 x40 x41 : Value) (h42 : Hs) =>
 kI64 .add x29 (Value.int .i64 (.ofNat 1)) (fun x43 =>
 k27 x43 x35 x39 x40 x41 h42)) fun k38 =>
 kIdxA 1 x18 x29 (fun x44 =>
 kLoad x44 h37 (fun x45 =>
 gdT x45 h37 (fun k46 => k46 x0 h37) (fun x47 h48 =>
 gdT x45 h48 (fun k49 => k49 x29 h48) (fun x50 h51 =>
 gdT x45 h51 (fun k52 => after (k52) (ret1 h51 (lk1 true h51 (Value.bool false) false x50 x47))) (fun x53 h54 =>
 gdT x45 h54 (fun k55 => kNot x53 (fun x56 => k55 x56 h54)) (fun x57 h58 =>
 after (fun x59 h60 =>
 jn (fun (h62 : Hs) =>
 k38 x45 x29 x59 h62) fun k61 =>
 cnd x59
 (kCall R 51 [a0, (Value.int .i64 (.ofNat 5)), (Value.int .i64 (.ofNat 1)), x29, (Value.int .i64 (.ofNat 0))] h60 (fun x63 h64 =>
 k61 h64))
 (k61 h60)) (pickB (.c x57) (.c (Value.bool false)) enE h58 x45)))))))) fun k36 =>
 cnd x35
 (k36 h34)
 (k20 x29 x35 x31 x32 x33 h34))) (Value.int .i64 (.ofNat 0)) dunno dunno dunno dunno h15))))) fun k6 =>
 lpT (T := Value → Value → Value → Value → Value → Value → Value → Value → Hs → An) (fun _ _ _ _ _ _ _ _ _ => none) N (fun k65 =>
 fun (x67 x68 x69 x70 x71 x72 x73 x74 : Value) (h75 : Hs) =>
 jn (fun (h77 : Hs) =>
 jn (fun (x79 x80 x81 x82 x83 x84 x85 : Value) (h86 : Hs) =>
 k65 x79 x67 x80 x81 x82 x83 x84 x85 h86) fun k78 =>
 kNil a0 (fun x87 =>
 kFieldA 7 x87 (fun x88 =>
 kLoad x88 h77 (fun x89 =>
 kLenV x89 (fun x90 =>
 jn (fun (x92 x93 x94 x95 x96 : Value) (h97 : Hs) =>
 k78 x92 x93 x90 x94 x89 x95 x96 h97) fun k91 =>
 lpT (T := Value → Value → Value → Value → Value → Hs → An) (fun _ _ _ _ _ _ => none) N (fun k98 =>
 fun (x100 x101 x102 x103 x104 : Value) (h105 : Hs) =>
 kI64 .lss x101 x90 (fun x106 =>
 jn (fun (h108 : Hs) =>
 jn (fun (x110 x111 x112 : Value) (h113 : Hs) =>
 kI64 .add x101 (Value.int .i64 (.ofNat 1)) (fun x114 =>
 k98 x110 x114 x106 x111 x112 h113)) fun k109 =>
 kIdxA 4 x89 x101 (fun x115 =>
 kLoads 4 x115 h108 (fun x116 =>
 after (fun x117 h118 =>
 after (fun x119 h120 =>
 kFieldA 0 x117 (fun x121 =>
 kLoad x121 h120 (fun x122 =>
 after (fun v196 u197 => dPut (fun x123 h124 =>
 gdT x123 h124 (fun k125 => k125 a0 h124) (fun x126 _ =>
 gdT x123 h124 (fun k128 => kNil x126 (fun x129 => k128 x129 h124)) (fun x130 _ =>
 gdT x123 h124 (fun k132 => kFieldA 6 x130 (fun x133 => k132 x133 h124)) (fun x134 _ =>
 gdT x123 h124 (fun k136 => kLoad x134 (dHidS .light [true, true, true, true, true, true, true, true] [none, none, none, none, some (h120.nx, h124.nx), none, none, none] h124) (fun x137 => k136 x137 h124)) (fun x138 _ =>
 gdT x123 h124 (fun k140 => kFieldA 0 x117 (fun x141 => k140 x141 h124)) (fun x142 _ =>
 gdT x123 h124 (fun k144 => kLoad x142 (dHidS .light [true, false, false, false, false, true, true, true, true, true] [none, none, none, none, none, none, some (h120.nx, h124.nx), none, none, none] h124) (fun x145 => k144 x145 h124)) (fun x146 _ =>
 gdT x123 h124 (fun k148 => kIdxA 1 x138 x146 (fun x149 => k148 x149 h124)) (fun x150 _ =>
 gdT x123 h124 (fun k152 => kLoad x150 h124 (fun x153 => k152 x153 h124)) (fun x154 _ =>
 after (fun v194 u195 => dPut (fun x156 h157 =>
 gdT x156 h157 (fun k158 => k158 x0 h157) (fun x159 _ =>
 gdT x156 h157 (fun k161 => kFieldA 2 x117 (fun x162 => k161 x162 h157)) (fun x163 _ =>
 gdT x156 h157 (fun k165 => kFieldA 0 x163 (fun x166 => k165 x166 h157)) (fun x167 _ =>
 gdT x156 h157 (fun k169 => kLoad x167 h157 (fun x170 => k169 x170 h157)) (fun x171 _ =>
 gdT x156 h157 (fun k173 => after (fun v174 u175 => dPut k173 v174 (dNext h157 u175 .bar) (andB (dFit h157 u175 .bar) (Nat.ble 0 u175.lo))) (ret1 h157 (lk1 true h157 (Value.bool false) false x171 x159))) (fun x176 h177 =>
 gdT x156 h177 (fun k178 => kNot x176 (fun x179 => k178 x179 h177)) (fun x180 _ =>
 after (fun v192 u193 => dPut (fun x182 h183 =>
 jn (fun (x185 : Value) (h186 : Hs) =>
 k109 x185 x117 x182 h186) fun k184 =>
 cnd x182
 (kFieldA 2 x117 (fun x187 =>
 kFieldA 0 x187 (fun x188 =>
 kLoad x188 h183 (fun x189 =>
 after (fun x190 h191 =>
 k184 (Value.bool true) h191) (mapup1 true h183 x189 (Value.bool true) x0)))))
 (k184 x100 h183)) v192 (dNext h177 u193 .blind) (andB (dFit h177 u193 .blind) (Nat.ble 0 u193.lo))) (pickB (.c x180) (.c (Value.bool false)) enE (Hs.mk .e h177.nx h177.nx) x156)))))))) v194 (dNext h124 u195 .blind) (andB (dFit h124 u195 .blind) (Nat.ble 0 u195.lo))) (pickB (.c x154) (.c (Value.bool false)) enE (Hs.mk .e h124.nx h124.nx) x123)))))))))) v196 (dNext h120 u197 .bar) (andB (dFit h120 u197 .bar) (Nat.ble 0 u197.lo))) (ret1 h120 (lk1 true h120 (Value.bool false) false x122 x0))))) (store1 4 h118 (cellsL x116) (addrOf x117))) (oAlloc 112 [(Value.int .i64 (.ofNat 0)), (Value.int .i64 (.ofNat 0)), (Value.int .i64 (.ofNat 0)), (Value.string ⟨#[]⟩)] enE h108)))) fun k107 =>
 cnd x106
 (k107 h105)
 (k91 x100 x101 x106 x103 x104 h105))) (Value.bool false) (Value.int .i64 (.ofNat 0)) x71 x73 x74 h77))))) fun k76 =>
 cnd x67
 (k76 h75)
 (k6 x67 x67 x69 x70 x71 x72 x73 x74 h75)) (Value.bool true) dunno dunno dunno dunno dunno dunno dunno h5) (mapup1 true h3 (Value.int .i64 (.ofNat 2)) (Value.bool true) x0)) (mapup1 true h1 (Value.int .i64 (.ofNat 1)) (Value.bool true) x0)) (mkmap1 h0 (Value.int .i64 0))

theorem q32 (R : RnK) (N : Nat) (args : List Value) (h : Hs) : r32 R N args h = callT Tryz.prog N R 32 args h := by kernel_rfl

/-- (*lintel/check.looker).links -/
noncomputable def r33 (R : RnK) (N : Nat) (args : List Value) (h : Hs) : An := unC args fun a0 sq0 => enK h fun h0 =>
 after (fun x0 h1 =>
 kNil a0 (fun x2 =>
 kFieldA 7 x2 (fun x3 =>
 kLoad x3 h1 (fun x4 =>
 kLenV x4 (fun x5 =>
 jn (fun (x7 x8 x9 : Value) (h10 : Hs) =>
 kNil a0 (fun x11 =>
 kFieldA 6 x11 (fun x12 =>
 kLoad x12 h10 (fun x13 =>
 kLenV x13 (fun x14 =>
 jn (fun (x16 x17 x18 x19 x20 : Value) (h21 : Hs) =>
 clrK h (Value.tuple #[]) h21) fun k15 =>
 lpT (T := Value → Value → Value → Value → Value → Hs → An) (fun _ _ _ _ _ _ => none) N (fun k22 =>
 fun (x24 x25 x26 x27 x28 : Value) (h29 : Hs) =>
 kI64 .lss x24 x14 (fun x30 =>
 jn (fun (h32 : Hs) =>
 jn (fun (x34 x35 x36 : Value) (h37 : Hs) =>
 kI64 .add x24 (Value.int .i64 (.ofNat 1)) (fun x38 =>
 k22 x38 x30 x34 x35 x36 h37)) fun k33 =>
 kIdxA 1 x13 x24 (fun x39 =>
 kLoad x39 h32 (fun x40 =>
 gdT x40 h32 (fun k41 => k41 a0 h32) (fun x42 _ =>
 gdT x40 h32 (fun k44 => kNil x42 (fun x45 => k44 x45 h32)) (fun x46 _ =>
 gdT x40 h32 (fun k48 => kFieldA 5 x46 (fun x49 => k48 x49 h32)) (fun x50 _ =>
 gdT x40 h32 (fun k52 => kLoad x50 h32 (fun x53 => k52 x53 h32)) (fun x54 _ =>
 gdT x40 h32 (fun k56 => k56 x24 h32) (fun x57 _ =>
 gdT x40 h32 (fun k59 => kIdxA 4 x54 x57 (fun x60 => k59 x60 h32)) (fun x61 _ =>
 gdT x40 h32 (fun k63 => kFieldA 0 x61 (fun x64 => k63 x64 h32)) (fun x65 _ =>
 gdT x40 h32 (fun k67 => kLoad x65 h32 (fun x68 => k67 x68 h32)) (fun x69 _ =>
 gdT x40 h32 (fun k71 => kI64 .neq x69 (Value.int .i64 (.ofNat 2)) (fun x72 => k71 x72 h32)) (fun x73 _ =>
 after (fun v132 u133 => dPut (fun x75 h76 =>
 gdT x75 h76 (fun k77 => k77 x0 h76) (fun x78 _ =>
 gdT x75 h76 (fun k80 => k80 x24 h76) (fun x81 _ =>
 gdT x75 h76 (fun k83 => after (fun v84 u85 => dPut k83 v84 (dNext h76 u85 .light) (andB (dFit h76 u85 .light) (Nat.ble 0 u85.lo))) (ret1 (dHidS .light [true, true, true, true, true, true, true, true, true, true, true, true, true, true, true] [none, none, none, some (h32.nx, h76.nx), none, none, none, none, none, none, none, none, none, none, none] h76) (lk1 true (dHidS .light [true, true, true, true, true, true, true, true, true, true, true, true, true, true, true] [none, none, none, some (h32.nx, h76.nx), none, none, none, none, none, none, none, none, none, none, none] h76) (Value.int .i64 (.ofNat 0)) false x81 x78))) (fun x86 h87 =>
 gdT x75 h87 (fun k88 => k88 a0 h87) (fun x89 _ =>
 gdT x75 h87 (fun k91 => kNil x89 (fun x92 => k91 x92 h87)) (fun x93 _ =>
 gdT x75 h87 (fun k95 => kFieldA 5 x93 (fun x96 => k95 x96 h87)) (fun x97 _ =>
 gdT x75 h87 (fun k99 => kLoad x97 (dHidS .light [true, true, true, false, false, false, true, true, true, true, true, true, true, true, true, true, true, true, true] [none, none, none, some (h76.nx, h87.nx), none, none, none, some (h32.nx, h76.nx), none, none, none, none, none, none, none, none, none, none, none] h87) (fun x100 => k99 x100 h87)) (fun x101 _ =>
 gdT x75 h87 (fun k103 => k103 x24 h87) (fun x104 _ =>
 gdT x75 h87 (fun k106 => kIdxA 4 x101 x104 (fun x107 => k106 x107 h87)) (fun x108 _ =>
 gdT x75 h87 (fun k110 => kFieldA 1 x108 (fun x111 => k110 x111 h87)) (fun x112 _ =>
 gdT x75 h87 (fun k114 => kLoad x112 (dHidS .light [true, true, true, true, true, true, true, false, false, false, true, true, true, true, true, true, true, true, true, true, true, true, true] [none, none, none, none, none, none, none, some (h76.nx, h87.nx), none, none, none, some (h32.nx, h76.nx), none, none, none, none, none, none, none, none, none, none, none] h87) (fun x115 => k114 x115 h87)) (fun x116 _ =>
 gdT x75 h87 (fun k118 => kI64 .neq x86 x116 (fun x119 => k118 x119 h87)) (fun x120 _ =>
 after (fun v130 u131 => dPut (fun x122 h123 =>
 jn (fun (h125 : Hs) =>
 k33 x40 x24 x122 h125) fun k124 =>
 cnd x122
 (after (fun x126 h127 =>
 kCall R 51 [a0, (Value.int .i64 (.ofNat 6)), (Value.int .i64 (.ofNat 1)), x24, x126] h127 (fun x128 h129 =>
 k124 h129)) (ret1 h123 (lk1 true h123 (Value.int .i64 (.ofNat 0)) false x24 x0)))
 (k124 h123)) v130 (dNext h87 u131 .blind) (andB (dFit h87 u131 .blind) (Nat.ble 0 u131.lo))) (pickB (.c x120) (.c (Value.bool false)) enE (Hs.mk .e h87.nx h87.nx) x75)))))))))))))) v132 (dNext h32 u133 .blind) (andB (dFit h32 u133 .blind) (Nat.ble 0 u133.lo))) (pickB (.c x73) (.c (Value.bool false)) enE (Hs.mk .e h32.nx h32.nx) x40))))))))))))) fun k31 =>
 cnd x30
 (k31 h29)
 (k15 x24 x30 x26 x27 x28 h29))) (Value.int .i64 (.ofNat 0)) dunno dunno dunno dunno h10))))) fun k6 =>
 lpT (T := Value → Value → Value → Hs → An) (fun _ _ _ _ => none) N (fun k134 =>
 fun (x136 x137 x138 : Value) (h139 : Hs) =>
 kI64 .lss x136 x5 (fun x140 =>
 jn (fun (h142 : Hs) =>
 jn (fun (x144 : Value) (h145 : Hs) =>
 kI64 .add x136 (Value.int .i64 (.ofNat 1)) (fun x146 =>
 k134 x146 x140 x144 h145)) fun k143 =>
 kIdxA 4 x4 x136 (fun x147 =>
 kLoads 4 x147 h142 (fun x148 =>
 after (fun x149 h150 =>
 after (fun x151 h152 =>
 kFieldA 2 x149 (fun x153 =>
 kFieldA 0 x153 (fun x154 =>
 kLoad x154 h152 (fun x155 =>
 after (fun x156 h157 =>
 kI64 .add x156 (Value.int .i64 (.ofNat 1)) (fun x158 =>
 after (fun x159 h160 =>
 k143 x149 h160) (mapup1 true h157 x155 x158 x0))) (ret1 h152 (lk1 true h152 (Value.int .i64 (.ofNat 0)) false x155 x0)))))) (store1 4 h150 (cellsL x148) (addrOf x149))) (oAlloc 112 [(Value.int .i64 (.ofNat 0)), (Value.int .i64 (.ofNat 0)), (Value.int .i64 (.ofNat 0)), (Value.string ⟨#[]⟩)] enE h142)))) fun k141 =>
 cnd x140
 (k141 h139)
 (k6 x136 x140 x138 h139))) (Value.int .i64 (.ofNat 0)) dunno dunno h1))))) (mkmap1 h0 (Value.int .i64 0))

theorem q33 (R : RnK) (N : Nat) (args : List Value) (h : Hs) : r33 R N args h = callT Tryz.prog N R 33 args h := by kernel_rfl

/-- (*lintel/check.looker).taken -/
noncomputable def r34 (R : RnK) (N : Nat) (args : List Value) (h : Hs) : An := unC args fun a0 sq0 => enK h fun h0 =>
 kNil a0 (fun x0 =>
 kFieldA 0 x0 (fun x1 =>
 kFieldA 0 x1 (fun x2 =>
 kLoads 4 x2 h0 (fun x3 =>
 kCall R 22 [x3] h0 (fun x4 h5 =>
 kExtr x4 0 (fun x6 =>
 kExtr x4 1 (fun x7 =>
 after (fun x8 h9 =>
 kNil a0 (fun x10 =>
 kFieldA 6 x10 (fun x11 =>
 kLoad x11 h9 (fun x12 =>
 kLenV x12 (fun x13 =>
 jn (fun (x15 x16 x17 x18 x19 x20 x21 x22 : Value) (h23 : Hs) =>
 kNil a0 (fun x24 =>
 kFieldA 0 x24 (fun x25 =>
 kLoads 5 x25 h23 (fun x26 =>
 kCall R 59 [x26] h23 (fun x27 h28 =>
 after (fun x29 h30 =>
 kStore1 x29 x27 h30 (fun x31 h32 =>
 kFieldA 0 x29 (fun x33 =>
 kLoad x33 h32 (fun x34 =>
 kLenV x34 (fun x35 =>
 kI64 .mul (Value.int .i64 (.ofNat 64)) x35 (fun x36 =>
 jn (fun (x38 x39 x40 x41 x42 x43 x44 x45 : Value) (h46 : Hs) =>
 clrK h (Value.tuple #[]) h46) fun k37 =>
 lpT (T := Value → Value → Value → Value → Value → Value → Value → Value → Hs → An) (fun _ _ _ _ _ _ _ _ _ => none) N (fun k47 =>
 fun (x49 x50 x51 x52 x53 x54 x55 x56 : Value) (h57 : Hs) =>
 kI64 .lss x49 x36 (fun x58 =>
 jn (fun (h60 : Hs) =>
 jn (fun (x62 x63 x64 x65 x66 x67 : Value) (h68 : Hs) =>
 kI64 .add x49 (Value.int .i64 (.ofNat 1)) (fun x69 =>
 k47 x69 x58 x62 x63 x64 x65 x66 x67 h68)) fun k61 =>
 kI64 .lss x49 x6 (fun x70 =>
 gdF x70 h60 (fun k71 => k71 x49 h60) (fun x72 h73 =>
 gdF x70 h73 (fun k74 => k74 x6 h73) (fun x75 h76 =>
 gdF x70 h76 (fun k77 => k77 x7 h76) (fun x78 h79 =>
 gdF x70 h79 (fun k80 => kI64 .add x75 x78 (fun x81 => k80 x81 h79)) (fun x82 h83 =>
 gdF x70 h83 (fun k84 => kI64 .geq x72 x82 (fun x85 => k84 x85 h83)) (fun x86 h87 =>
 after (fun x88 h89 =>
 gdF x88 h89 (fun k90 => k90 x8 h89) (fun x91 h92 =>
 gdF x88 h92 (fun k93 => k93 x49 h92) (fun x94 h95 =>
 gdF x88 h95 (fun k96 => after (k96) (ret1 h95 (lk1 true h95 (Value.bool false) false x94 x91))) (fun x97 h98 =>
 after (fun x99 h100 =>
 jn (fun (x102 x103 x104 x105 : Value) (h106 : Hs) =>
 k61 x49 x102 x103 x99 x104 x105 h106) fun k101 =>
 kNil a0 (fun x107 =>
 kFieldA 0 x107 (fun x108 =>
 kFieldA 0 x108 (fun x109 =>
 kFieldA 0 x109 (fun x110 =>
 kLoad x110 h100 (fun x111 =>
 kI64 .geq x49 x111 (fun x112 =>
 jn (fun (x114 x115 x116 : Value) (h117 : Hs) =>
 k101 x112 x114 x115 x116 h117) fun k113 =>
 cnd x112
 (kLoads 1 x29 h100 (fun x118 =>
 kCall R 60 [x118, x49] h100 (fun x119 h120 =>
 jn (fun (h122 : Hs) =>
 k113 x119 x55 x56 h122) fun k121 =>
 cnd x119
 (kCall R 51 [a0, (Value.int .i64 (.ofNat 7)), (Value.int .i64 (.ofNat 2)), x49, (Value.int .i64 (.ofNat 0))] h120 (fun x123 h124 =>
 k121 h124))
 (k121 h120))))
 (kLoads 1 x29 h100 (fun x125 =>
 kCall R 60 [x125, x49] h100 (fun x126 h127 =>
 obK (fun x128 =>
 gdT x128 h127 (fun k129 => k129 x99 h127) (fun x130 h131 =>
 after (fun x132 h133 =>
 jn (fun (x135 : Value) (h136 : Hs) =>
 k113 x53 x132 x135 h136) fun k134 =>
 cnd x132
 (kCall R 51 [a0, (Value.int .i64 (.ofNat 7)), (Value.int .i64 (.ofNat 1)), x49, (Value.int .i64 (.ofNat 1))] h133 (fun x137 h138 =>
 k134 x56 h138))
 (kLoads 1 x29 h133 (fun x139 =>
 kCall R 60 [x139, x49] h133 (fun x140 h141 =>
 obK (fun x142 =>
 jn (fun (h144 : Hs) =>
 k134 x142 h144) fun k143 =>
 cnd x142
 (kCall R 51 [a0, (Value.int .i64 (.ofNat 7)), (Value.int .i64 (.ofNat 1)), x49, (Value.int .i64 (.ofNat 0))] h141 (fun x145 h146 =>
 k143 h146))
 (k143 h141)) (e2 true qB x140 x99))))) (pickB (.c x130) (.c (Value.bool false)) enE h131 x128))) (e2 true qB x126 x99))))))))))) (pickB (.c (Value.bool true)) (.c x97) enE h98 x88))))) (pickB (.c (Value.bool true)) (.c x86) enE h87 x70)))))))) fun k59 =>
 cnd x58
 (k59 h57)
 (k37 x49 x58 x51 x52 x53 x54 x55 x56 h57))) (Value.int .i64 (.ofNat 0)) dunno dunno dunno dunno dunno dunno dunno h32)))))) (oAlloc 65 [(Value.slice none 0 0)] enE h28)))))) fun k14 =>
 lpT (T := Value → Value → Value → Value → Value → Value → Value → Value → Hs → An) (fun _ _ _ _ _ _ _ _ _ => none) N (fun k147 =>
 fun (x149 x150 x151 x152 x153 x154 x155 x156 : Value) (h157 : Hs) =>
 kI64 .lss x149 x13 (fun x158 =>
 jn (fun (h160 : Hs) =>
 jn (fun (x162 x163 x164 x165 x166 x167 : Value) (h168 : Hs) =>
 kI64 .add x149 (Value.int .i64 (.ofNat 1)) (fun x169 =>
 k147 x169 x158 x162 x163 x164 x165 x166 x167 h168)) fun k161 =>
 kCall R 56 [a0, x149] h160 (fun x170 h171 =>
 kLenV x170 (fun x172 =>
 jn (fun (x174 x175 x176 : Value) (h177 : Hs) =>
 k161 x149 x174 x172 x175 x170 x176 h177) fun k173 =>
 lpT (T := Value → Value → Value → Hs → An) (fun _ _ _ _ => none) N (fun k178 =>
 fun (x180 x181 x182 : Value) (h183 : Hs) =>
 kI64 .lss x180 x172 (fun x184 =>
 jn (fun (h186 : Hs) =>
 jn (fun (x188 : Value) (h189 : Hs) =>
 kI64 .add x180 (Value.int .i64 (.ofNat 1)) (fun x190 =>
 k178 x190 x184 x188 h189)) fun k187 =>
 kIdxA 1 x170 x180 (fun x191 =>
 kLoad x191 h186 (fun x192 =>
 after (fun x193 h194 =>
 k187 x192 h194) (mapup1 true h186 x192 (Value.bool true) x8)))) fun k185 =>
 cnd x184
 (k185 h183)
 (k173 x180 x184 x182 h183))) (Value.int .i64 (.ofNat 0)) x154 x156 h171))) fun k159 =>
 cnd x158
 (k159 h157)
 (k14 x149 x158 x151 x152 x153 x154 x155 x156 h157))) (Value.int .i64 (.ofNat 0)) dunno dunno dunno dunno dunno dunno dunno h9))))) (mkmap1 h5 (Value.int .i64 0)))))))))

theorem q34 (R : RnK) (N : Nat) (args : List Value) (h : Hs) : r34 R N args h = callT Tryz.prog N R 34 args h := by kernel_rfl

/-- slices.SortFunc[[]lintel/check.Finding,lintel/check.Finding] -/
noncomputable def r35 (R : RnK) (N : Nat) (args : List Value) (h : Hs) : An := unC args fun a0 sq0 => unC sq0 fun a1 sq1 => enK h fun h0 =>
 kLenV a0 (fun x0 =>
 kToU x0 (fun x1 =>
 kCall R 62 [x1] h0 (fun x2 h3 =>
 kCall R 61 [a0, (Value.int .i64 (.ofNat 0)), x0, x2, a1] h3 (fun x4 h5 =>
 clrK h (Value.tuple #[]) h5))))

theorem q35 (R : RnK) (N : Nat) (args : List Value) (h : Hs) : r35 R N args h = callT Tryz.prog N R 35 args h := by kernel_rfl

/-- lintel/check.Run$1 -/
noncomputable def r36 (R : RnK) (N : Nat) (args : List Value) (h : Hs) : An := unC args fun a0 sq0 => unC sq0 fun a1 sq1 => enK h fun h0 =>
 after (fun x0 h1 =>
 after (fun x2 h3 =>
 kFieldA 0 x0 (fun x4 =>
 kLoad x4 h3 (fun x5 =>
 kFieldA 0 x2 (fun x6 =>
 kLoad x6 h3 (fun x7 =>
 kI64 .sub x5 x7 (fun x8 =>
 kFieldA 2 x0 (fun x9 =>
 kLoad x9 h3 (fun x10 =>
 kFieldA 2 x2 (fun x11 =>
 kLoad x11 h3 (fun x12 =>
 kI64 .sub x10 x12 (fun x13 =>
 kFieldA 3 x0 (fun x14 =>
 kLoad x14 h3 (fun x15 =>
 kFieldA 3 x2 (fun x16 =>
 kLoad x16 h3 (fun x17 =>
 kI64 .sub x15 x17 (fun x18 =>
 kFieldA 1 x0 (fun x19 =>
 kLoad x19 h3 (fun x20 =>
 kFieldA 1 x2 (fun x21 =>
 kLoad x21 h3 (fun x22 =>
 kI64 .sub x20 x22 (fun x23 =>
 after (fun x24 h25 =>
 kCall R 37 [x24] h25 (fun x26 h27 =>
 clrK h x26 h27)) (oMkrow 3 1 4 [(Value.int .i64 (.ofNat 0))] [(0, 1, .c x8), (1, 1, .c x13), (2, 1, .c x18), (3, 1, .c x23)] enE h3)))))))))))))))))))))) (oBox 51 (.c a1) enE h1)) (oBox 51 (.c a0) enE h0)

theorem q36 (R : RnK) (N : Nat) (args : List Value) (h : Hs) : r36 R N args h = callT Tryz.prog N R 36 args h := by kernel_rfl

/-- cmp.Or[int] -/
noncomputable def r37 (R : RnK) (N : Nat) (args : List Value) (h : Hs) : An := unC args fun a0 sq0 => enK h fun h0 =>
 kLenV a0 (fun x0 =>
 jn (fun (x2 x3 x4 x5 x6 : Value) (h7 : Hs) =>
 clrK h (Value.int .i64 (.ofNat 0)) h7) fun k1 =>
 lpT (T := Value → Value → Value → Value → Value → Hs → An) (fun _ _ _ _ _ _ => none) N (fun k8 =>
 fun (x10 x11 x12 x13 x14 : Value) (h15 : Hs) =>
 kI64 .lss x10 x0 (fun x16 =>
 jn (fun (h18 : Hs) =>
 jn (fun (x20 x21 x22 : Value) (h23 : Hs) =>
 kI64 .add x10 (Value.int .i64 (.ofNat 1)) (fun x24 =>
 k8 x24 x16 x20 x21 x22 h23)) fun k19 =>
 kIdxA 1 a0 x10 (fun x25 =>
 kLoad x25 h18 (fun x26 =>
 kI64 .neq x26 (Value.int .i64 (.ofNat 0)) (fun x27 =>
 jn (fun (x29 : Value) (h30 : Hs) =>
 k19 x26 x27 x29 h30) fun k28 =>
 cnd x27
 (clrK h x26 h18)
 (k28 x14 h18))))) fun k17 =>
 cnd x16
 (k17 h15)
 (k1 x10 x16 x12 x13 x14 h15))) (Value.int .i64 (.ofNat 0)) dunno dunno dunno (Value.int .i64 (.ofNat 0)) h0)

theorem q37 (R : RnK) (N : Nat) (args : List Value) (h : Hs) : r37 R N args h = callT Tryz.prog N R 37 args h := by kernel_rfl

/-- lintel/node.fits -/
noncomputable def r38 (R : RnK) (N : Nat) (args : List Value) (h : Hs) : An := unC args fun a0 sq0 => enK h fun h0 =>
 after (fun x0 h1 =>
 kFieldA 0 x0 (fun x2 =>
 kLoad x2 h1 (fun x3 =>
 kI64 .eql x3 (Value.int .i64 (.ofNat 0)) (fun x4 =>
 jn (fun (x6 : Value) (h7 : Hs) =>
 kFieldA 0 x0 (fun x8 =>
 kLoad x8 h7 (fun x9 =>
 kCall R 64 [x9, (Value.int .i64 (.ofNat 1)), (Value.int .i64 (.ofNat 3))] h7 (fun x10 h11 =>
 kNot x10 (fun x12 =>
 gdF x12 h11 (fun k13 => kFieldA 1 x0 (fun x14 => k13 x14 h11)) (fun x15 h16 =>
 gdF x12 h16 (fun k17 => kLoad x15 h16 (fun x18 => k17 x18 h16)) (fun x19 h20 =>
 gdF x12 h20 (fun k21 => kCall R 64 [x19, (Value.int .i64 (.ofNat 0)), (Value.int .i64 (.ofNat 16777215))] h20 (k21)) (fun x22 h23 =>
 gdF x12 h23 (fun k24 => kNot x22 (fun x25 => k24 x25 h23)) (fun x26 h27 =>
 after (fun x28 h29 =>
 gdF x28 h29 (fun k30 => kFieldA 2 x0 (fun x31 => k30 x31 h29)) (fun x32 h33 =>
 gdF x28 h33 (fun k34 => kLoad x32 h33 (fun x35 => k34 x35 h33)) (fun x36 h37 =>
 gdF x28 h37 (fun k38 => kCall R 64 [x36, (Value.int .i64 (.ofNat 0)), (Value.int .i64 (.ofNat 1099511627776))] h37 (k38)) (fun x39 h40 =>
 gdF x28 h40 (fun k41 => kNot x39 (fun x42 => k41 x42 h40)) (fun x43 h44 =>
 after (fun x45 h46 =>
 gdF x45 h46 (fun k47 => kFieldA 3 x0 (fun x48 => k47 x48 h46)) (fun x49 h50 =>
 gdF x45 h50 (fun k51 => kLoad x49 h50 (fun x52 => k51 x52 h50)) (fun x53 h54 =>
 gdF x45 h54 (fun k55 => kLenV x53 (fun x56 => k55 x56 h54)) (fun x57 h58 =>
 gdF x45 h58 (fun k59 => kI64 .gtr x57 (Value.int .i64 (.ofNat 4)) (fun x60 => k59 x60 h58)) (fun x61 h62 =>
 after (fun x63 h64 =>
 jn (fun (x66 : Value) (h67 : Hs) =>
 kFieldA 3 x0 (fun x68 =>
 kLoad x68 h67 (fun x69 =>
 kCall R 65 [x69, (Value.func (.func 66) #[] #[])] h67 (fun x70 h71 =>
 kNot x70 (fun x72 =>
 clrK h x72 h71))))) fun k65 =>
 cnd x63
 (clrK h (Value.bool false) h64)
 (k65 x6 h64)) (pickB (.c (Value.bool true)) (.c x61) enE h62 x45)))))) (pickB (.c (Value.bool true)) (.c x43) enE h44 x28)))))) (pickB (.c (Value.bool true)) (.c x26) enE h27 x12)))))))))) fun k5 =>
 cnd x4
 (kLoads 4 x0 h1 (fun x73 =>
 kCall R 63 [x73] h1 (fun x74 h75 =>
 clrK h x74 h75)))
 (k5 (Value.bool false) h1))))) (oBox 43 (.c a0) enE h0)

theorem q38 (R : RnK) (N : Nat) (args : List Value) (h : Hs) : r38 R N args h = callT Tryz.prog N R 38 args h := by kernel_rfl

/-- lintel/seal.Of -/
noncomputable def r39 (R : RnK) (N : Nat) (args : List Value) (h : Hs) : An := unC args fun a0 sq0 => enK h fun h0 =>
 kCall R 67 [(Value.int .u64 (.ofNat 7811896474847682849)), a0] h0 (fun x0 h1 =>
 clrK h x0 h1)

theorem q39 (R : RnK) (N : Nat) (args : List Value) (h : Hs) : r39 R N args h = callT Tryz.prog N R 39 args h := by kernel_rfl

/-- lintel/slot.Good -/
noncomputable def r40 (R : RnK) (N : Nat) (args : List Value) (h : Hs) : An := unC args fun a0 sq0 => enK h fun h0 =>
 after (fun x0 h1 =>
 kFieldA 0 x0 (fun x2 =>
 kLoad x2 h1 (fun x3 =>
 kI64 .eql x3 (Value.int .i64 (.ofNat 0)) (fun x4 =>
 jn (fun (x6 : Value) (h7 : Hs) =>
 kFieldA 0 x0 (fun x8 =>
 kLoad x8 h7 (fun x9 =>
 kI64 .geq x9 (Value.int .i64 (.ofNat 1)) (fun x10 =>
 gdT x10 h7 (fun k11 => kFieldA 0 x0 (fun x12 => k11 x12 h7)) (fun x13 h14 =>
 gdT x10 h14 (fun k15 => kLoad x13 h14 (fun x16 => k15 x16 h14)) (fun x17 h18 =>
 gdT x10 h18 (fun k19 => kI64 .leq x17 (Value.int .i64 (.ofNat 64)) (fun x20 => k19 x20 h18)) (fun x21 h22 =>
 after (fun x23 h24 =>
 gdT x23 h24 (fun k25 => kFieldA 1 x0 (fun x26 => k25 x26 h24)) (fun x27 h28 =>
 gdT x23 h28 (fun k29 => kLoad x27 h28 (fun x30 => k29 x30 h28)) (fun x31 h32 =>
 gdT x23 h32 (fun k33 => kCall R 68 [x31] h32 (k33)) (fun x34 h35 =>
 after (fun x36 h37 =>
 clrK h x36 h37) (pickB (.c x34) (.c (Value.bool false)) enE h35 x23))))) (pickB (.c x21) (.c (Value.bool false)) enE h22 x10)))))))) fun k5 =>
 cnd x4
 (kFieldA 1 x0 (fun x38 =>
 kLoad x38 h1 (fun x39 =>
 obK (fun x40 =>
 clrK h x40 h1) (s2 .eql x39 (Value.string ⟨#[]⟩)))))
 (k5 (Value.bool false) h1))))) (oBox 46 (.c a0) enE h0)

theorem q40 (R : RnK) (N : Nat) (args : List Value) (h : Hs) : r40 R N args h = callT Tryz.prog N R 40 args h := by kernel_rfl

/-- strconv.Itoa -/
noncomputable def r41 (R : RnK) (N : Nat) (args : List Value) (h : Hs) : An := unC args fun a0 sq0 => enK h fun h0 =>
 kCall R 69 [a0] h0 (fun x0 h1 =>
 clrK h x0 h1)

theorem q41 (R : RnK) (N : Nat) (args : List Value) (h : Hs) : r41 R N args h = callT Tryz.prog N R 41 args h := by kernel_rfl

/-- strings.Join -/
noncomputable def r42 (R : RnK) (N : Nat) (args : List Value) (h : Hs) : An := unC args fun a0 sq0 => unC sq0 fun a1 sq1 => enK h fun h0 =>
 kLenV a0 (fun x0 =>
 jn (fun (x2 x3 x4 : Value) (h5 : Hs) =>
 kLenS a1 (fun x6 =>
 kI64 .gtr x6 (Value.int .i64 (.ofNat 0)) (fun x7 =>
 jn (fun (x9 x10 : Value) (h11 : Hs) =>
 kLenV a0 (fun x12 =>
 jn (fun (x14 x15 x16 x17 x18 : Value) (h19 : Hs) =>
 after (fun x20 h21 =>
 kCall R 70 [x20, x14] h21 (fun x22 h23 =>
 kIdxA 1 a0 (Value.int .i64 (.ofNat 0)) (fun x24 =>
 kLoad x24 h23 (fun x25 =>
 kCall R 71 [x20, x25] h23 (fun x26 h27 =>
 after (fun x28 h29 =>
 kLenV x28 (fun x30 =>
 jn (fun (x32 x33 x34 : Value) (h35 : Hs) =>
 kCall R 72 [x20] h35 (fun x36 h37 =>
 clrK h x36 h37)) fun k31 =>
 lpT (T := Value → Value → Value → Hs → An) (fun _ _ _ _ => none) N (fun k38 =>
 fun (x40 x41 x42 : Value) (h43 : Hs) =>
 kI64 .lss x40 x30 (fun x44 =>
 jn (fun (h46 : Hs) =>
 jn (fun (x48 : Value) (h49 : Hs) =>
 kI64 .add x40 (Value.int .i64 (.ofNat 1)) (fun x50 =>
 k38 x50 x44 x48 h49)) fun k47 =>
 kIdxA 1 x28 x40 (fun x51 =>
 kLoad x51 h46 (fun x52 =>
 kCall R 71 [x20, a1] h46 (fun x53 h54 =>
 kCall R 71 [x20, x52] h54 (fun x55 h56 =>
 k47 x52 h56))))) fun k45 =>
 cnd x44
 (k45 h43)
 (k31 x40 x44 x42 h43))) (Value.int .i64 (.ofNat 0)) dunno dunno h29)) (oSlice 1 (.c a0) (some (.c (Value.int .i64 (.ofNat 1)))) none none enE h27)))))) (oAlloc 124 [(Value.pointer none), (Value.slice none 0 0)] enE h19)) fun k13 =>
 lpT (T := Value → Value → Value → Value → Value → Hs → An) (fun _ _ _ _ _ _ => none) N (fun k57 =>
 fun (x59 x60 x61 x62 x63 : Value) (h64 : Hs) =>
 kI64 .lss x60 x12 (fun x65 =>
 jn (fun (h67 : Hs) =>
 jn (fun (x69 x70 x71 : Value) (h72 : Hs) =>
 kI64 .add x60 (Value.int .i64 (.ofNat 1)) (fun x73 =>
 k57 x69 x73 x65 x70 x71 h72)) fun k68 =>
 kIdxA 1 a0 x60 (fun x74 =>
 kLoad x74 h67 (fun x75 =>
 kLenS x75 (fun x76 =>
 kI64 .sub (Value.int .i64 (.ofNat 9223372036854775807)) x59 (fun x77 =>
 kI64 .gtr x76 x77 (fun x78 =>
 jn (fun (h80 : Hs) =>
 kLenS x75 (fun x81 =>
 kI64 .add x59 x81 (fun x82 =>
 k68 x82 x75 x78 h80))) fun k79 =>
 cnd x78
 (after (fun x83 h84 =>
 none) (oMkface 9 (.c (Value.string ⟨#[115, 116, 114, 105, 110, 103, 115, 58, 32, 74, 111, 105, 110, 32, 111, 117, 116, 112, 117, 116, 32, 108, 101, 110, 103, 116, 104, 32, 111, 118, 101, 114, 102, 108, 111, 119]⟩)) enE h67))
 (k79 h67))))))) fun k66 =>
 cnd x65
 (k66 h64)
 (k13 x59 x60 x65 x62 x63 h64))) x10 (Value.int .i64 (.ofNat 0)) dunno dunno dunno h11)) fun k8 =>
 cnd x7
 (kLenS a1 (fun x87 =>
 kLenV a0 (fun x88 =>
 kI64 .sub x88 (Value.int .i64 (.ofNat 1)) (fun x89 =>
 kI64 .quo (Value.int .i64 (.ofNat 9223372036854775807)) x89 (fun x90 =>
 kI64 .geq x87 x90 (fun x91 =>
 jn (fun (h93 : Hs) =>
 kLenS a1 (fun x94 =>
 kLenV a0 (fun x95 =>
 kI64 .sub x95 (Value.int .i64 (.ofNat 1)) (fun x96 =>
 kI64 .mul x94 x96 (fun x97 =>
 kI64 .add (Value.int .i64 (.ofNat 0)) x97 (fun x98 =>
 k8 x91 x98 h93)))))) fun k92 =>
 cnd x91
 (after (fun x99 h100 =>
 none) (oMkface 9 (.c (Value.string ⟨#[115, 116, 114, 105, 110, 103, 115, 58, 32, 74, 111, 105, 110, 32, 111, 117, 116, 112, 117, 116, 32, 108, 101, 110, 103, 116, 104, 32, 111, 118, 101, 114, 102, 108, 111, 119]⟩)) enE h5))
 (k92 h5)))))))
 (k8 dunno (Value.int .i64 (.ofNat 0)) h5)))) fun k1 =>
 kI64 .eql x0 (Value.int .i64 (.ofNat 0)) (fun x103 =>
 jn (fun (x105 x106 : Value) (h107 : Hs) =>
 k1 x103 x105 x106 h107) fun k104 =>
 cnd x103
 (clrK h (Value.string ⟨#[]⟩) h0)
 (kI64 .eql x0 (Value.int .i64 (.ofNat 1)) (fun x108 =>
 jn (fun (x110 : Value) (h111 : Hs) =>
 k104 x108 x110 h111) fun k109 =>
 cnd x108
 (kIdxA 1 a0 (Value.int .i64 (.ofNat 0)) (fun x112 =>
 kLoad x112 h0 (fun x113 =>
 clrK h x113 h0)))
 (k109 (Value.string ⟨#[]⟩) h0)))))

theorem q42 (R : RnK) (N : Nat) (args : List Value) (h : Hs) : r42 R N args h = callT Tryz.prog N R 42 args h := by kernel_rfl

/-- lintel/geom.in -/
noncomputable def r43 (R : RnK) (N : Nat) (args : List Value) (h : Hs) : An := unC args fun a0 sq0 => unC sq0 fun a1 sq1 => unC sq1 fun a2 sq2 => enK h fun h0 =>
 kI64 .geq a0 a1 (fun x0 =>
 gdT x0 h0 (fun k1 => k1 a0 h0) (fun x2 h3 =>
 gdT x0 h3 (fun k4 => k4 a2 h3) (fun x5 h6 =>
 gdT x0 h6 (fun k7 => kI64 .leq x2 x5 (fun x8 => k7 x8 h6)) (fun x9 h10 =>
 after (fun x11 h12 =>
 clrK h x11 h12) (pickB (.c x9) (.c (Value.bool false)) enE h10 x0)))))

theorem q43 (R : RnK) (N : Nat) (args : List Value) (h : Hs) : r43 R N args h = callT Tryz.prog N R 43 args h := by kernel_rfl

/-- (lintel/geom.Geom).data -/
noncomputable def r44 (R : RnK) (N : Nat) (args : List Value) (h : Hs) : An := unC args fun a0 sq0 => enK h fun h0 =>
 after (fun x0 h1 =>
 kLoads 4 x0 h1 (fun x2 =>
 kCall R 45 [x2] h1 (fun x3 h4 =>
 kExtr x3 0 (fun x5 =>
 kExtr x3 1 (fun x6 =>
 kI64 .add x5 x6 (fun x7 =>
 kFieldA 1 x0 (fun x8 =>
 kLoad x8 h4 (fun x9 =>
 kI64 .mul (Value.int .i64 (.ofNat 2)) x9 (fun x10 =>
 kI64 .add x7 x10 (fun x11 =>
 kFieldA 0 x0 (fun x12 =>
 kLoad x12 h4 (fun x13 =>
 kI64 .sub x13 (Value.int .i64 (.ofNat 1)) (fun x14 =>
 kI64 .sub x14 x11 (fun x15 =>
 clrK h (Value.tuple #[x11, x15]) h4)))))))))))))) (oBox 24 (.c a0) enE h0)

theorem q44 (R : RnK) (N : Nat) (args : List Value) (h : Hs) : r44 R N args h = callT Tryz.prog N R 44 args h := by kernel_rfl

/-- (lintel/geom.Geom).bits -/
noncomputable def r45 (R : RnK) (N : Nat) (args : List Value) (h : Hs) : An := unC args fun a0 sq0 => enK h fun h0 =>
 after (fun x0 h1 =>
 kFieldA 2 x0 (fun x2 =>
 kLoad x2 (Hs.mk h1.hp h1.nx h1.nx) (fun x3 =>
 kFieldA 3 x0 (fun x4 =>
 kLoad x4 (Hs.mk h1.hp h1.nx h1.nx) (fun x5 =>
 kI64 .mul x3 x5 (fun x6 =>
 kI64 .add (Value.int .i64 (.ofNat 1)) x6 (fun x7 =>
 kFieldA 0 x0 (fun x8 =>
 kLoad x8 (Hs.mk h1.hp h1.nx h1.nx) (fun x9 =>
 kI64 .add x9 (Value.int .i64 (.ofNat 512)) (fun x10 =>
 kI64 .sub x10 (Value.int .i64 (.ofNat 1)) (fun x11 =>
 kI64 .quo x11 (Value.int .i64 (.ofNat 512)) (fun x12 =>
 clrK h (Value.tuple #[x7, x12]) h1)))))))))))) (oBox 24 (.c a0) enE h0)

theorem q45 (R : RnK) (N : Nat) (args : List Value) (h : Hs) : r45 R N args h = callT Tryz.prog N R 45 args h := by kernel_rfl

/-- slices.Clone[[]uint64,uint64] -/
noncomputable def r46 (R : RnK) (N : Nat) (args : List Value) (h : Hs) : An := unC args fun a0 sq0 => enK h fun h0 =>
 obK (fun x0 =>
 jn (fun (x2 : Value) (h3 : Hs) =>
 after (fun x4 h5 =>
 after (fun x6 h7 =>
 clrK h x6 h7) (app0 34 1 8 h5 x4 a0)) (oMkrow 34 1 0 [(Value.int .u64 (.ofNat 0))] [] enE h3)) fun k1 =>
 cnd x0
 (clrK h (Value.slice none 0 0) h0)
 (k1 (Value.slice none 0 0) h0)) (e2 false qS a0 (Value.slice none 0 0))

theorem q46 (R : RnK) (N : Nat) (args : List Value) (h : Hs) : r46 R N args h = callT Tryz.prog N R 46 args h := by kernel_rfl

/-- (lintel/bits.Bits).there -/
noncomputable def r47 (R : RnK) (N : Nat) (args : List Value) (h : Hs) : An := unC args fun a0 sq0 => unC sq0 fun a1 sq1 => enK h fun h0 =>
 after (fun x0 h1 =>
 kI64 .geq a1 (Value.int .i64 (.ofNat 0)) (fun x2 =>
 gdT x2 h1 (fun k3 => k3 a1 h1) (fun x4 h5 =>
 gdT x2 h5 (fun k6 => kI64 .quo x4 (Value.int .i64 (.ofNat 64)) (fun x7 => k6 x7 h5)) (fun x8 h9 =>
 gdT x2 h9 (fun k10 => kFieldA 0 x0 (fun x11 => k10 x11 h9)) (fun x12 h13 =>
 gdT x2 h13 (fun k14 => kLoad x12 h13 (fun x15 => k14 x15 h13)) (fun x16 h17 =>
 gdT x2 h17 (fun k18 => kLenV x16 (fun x19 => k18 x19 h17)) (fun x20 h21 =>
 gdT x2 h21 (fun k22 => kI64 .lss x8 x20 (fun x23 => k22 x23 h21)) (fun x24 h25 =>
 after (fun x26 h27 =>
 clrK h x26 h27) (pickB (.c x24) (.c (Value.bool false)) enE h25 x2))))))))) (oBox 65 (.c a0) enE h0)

theorem q47 (R : RnK) (N : Nat) (args : List Value) (h : Hs) : r47 R N args h = callT Tryz.prog N R 47 args h := by kernel_rfl

/-- lintel/head.Find -/
noncomputable def r48 (R : RnK) (N : Nat) (args : List Value) (h : Hs) : An := unC args fun a0 sq0 => enK h fun h0 =>
 after (fun x0 h1 =>
 kLenV a0 (fun x2 =>
 kI64 .quo x2 (Value.int .i64 (.ofNat 8)) (fun x3 =>
 kLenV a0 (fun x4 =>
 kI64 .rem x4 (Value.int .i64 (.ofNat 8)) (fun x5 =>
 kI64 .neq x5 (Value.int .i64 (.ofNat 0)) (fun x6 =>
 gdF x6 h1 (fun k7 => k7 x3 h1) (fun x8 h9 =>
 gdF x6 h9 (fun k10 => kI64 .lss x8 (Value.int .i64 (.ofNat 64)) (fun x11 => k10 x11 h9)) (fun x12 h13 =>
 after (fun x14 h15 =>
 gdF x14 h15 (fun k16 => k16 x3 h15) (fun x17 h18 =>
 gdF x14 h18 (fun k19 => kI64 .gtr x17 (Value.int .i64 (.ofNat 1024)) (fun x20 => k19 x20 h18)) (fun x21 h22 =>
 after (fun x23 h24 =>
 jn (fun (x26 x27 : Value) (h28 : Hs) =>
 after (fun x29 h30 =>
 kCall R 49 [x29] h30 (fun x31 h32 =>
 kExtr x31 0 (fun x33 =>
 kExtr x31 1 (fun x34 =>
 after (fun x35 h36 =>
 after (fun x37 h38 =>
 kLenV a0 (fun x39 =>
 kI64 .sub x39 (Value.int .i64 (.ofNat 8)) (fun x40 =>
 after (fun x41 h42 =>
 kCall R 49 [x41] h42 (fun x43 h44 =>
 kExtr x43 0 (fun x45 =>
 kExtr x43 1 (fun x46 =>
 after (fun x47 h48 =>
 after (fun x49 h50 =>
 gdT x34 h50 (fun k51 => kFieldA 0 x35 (fun x52 => k51 x52 h50)) (fun x53 _ =>
 gdT x34 h50 (fun k55 => kFieldA 0 x53 (fun x56 => k55 x56 h50)) (fun x57 _ =>
 gdT x34 h50 (fun k59 => kLoad x57 (Hs.mk h50.hp h50.nx h50.nx) (fun x60 => k59 x60 h50)) (fun x61 _ =>
 gdT x34 h50 (fun k63 => k63 x3 h50) (fun x64 _ =>
 gdT x34 h50 (fun k66 => kI64 .eql x61 x64 (fun x67 => k66 x67 h50)) (fun x68 _ =>
 after (fun v120 u121 => dPut (fun x70 h71 =>
 gdT x46 h71 (fun k72 => kFieldA 0 x47 (fun x73 => k72 x73 h71)) (fun x74 _ =>
 gdT x46 h71 (fun k76 => kFieldA 0 x74 (fun x77 => k76 x77 h71)) (fun x78 _ =>
 gdT x46 h71 (fun k80 => kLoad x78 (dHidS .light [true, true, true, true, false, false, false, false, false, false, true, true] [none, none, none, none, some (h50.nx, h71.nx), none, none, none, none, none, none, none] h71) (fun x81 => k80 x81 h71)) (fun x82 _ =>
 gdT x46 h71 (fun k84 => k84 x3 h71) (fun x85 _ =>
 gdT x46 h71 (fun k87 => kI64 .eql x82 x85 (fun x88 => k87 x88 h71)) (fun x89 _ =>
 after (fun v118 u119 => dPut (fun x91 h92 =>
 jn (fun (x94 x95 x96 x97 : Value) (h98 : Hs) =>
 after (fun x99 h100 =>
 after (fun x101 h102 =>
 clearUp h (packR h102 (resV enE h102 [.cell (.c x0) 5 true, .t (.c (Value.bool false)), .t (.c (Value.bool false))]))) (store1 5 h100 (cellsL x99) (addrOf x0))) (oBuild [(Value.int .i64 (.ofNat 0)), (Value.int .i64 (.ofNat 0)), (Value.int .i64 (.ofNat 0)), (Value.int .i64 (.ofNat 0)), (Value.int .u64 (.ofNat 0))] [] enE h98)) fun k93 =>
 jn (fun (x104 x105 x106 : Value) (h107 : Hs) =>
 k93 x104 x105 x70 x106 h107) fun k103 =>
 cnd x70
 (kLoads 5 x35 h92 (fun x108 =>
 after (fun x109 h110 =>
 clearUp h (packR h110 (resV enE h110 [.cell (.c x0) 5 true, .t (.c x70), .t (.c x91)]))) (store1 5 h92 (cellsL x108) (addrOf x0))))
 (jn (fun (x112 x113 : Value) (h114 : Hs) =>
 k103 x112 x113 x91 h114) fun k111 =>
 cnd x91
 (kLoads 5 x47 h92 (fun x115 =>
 after (fun x116 h117 =>
 clearUp h (packR h117 (resV enE h117 [.cell (.c x0) 5 true, .t (.c x70), .t (.c x91)]))) (store1 5 h92 (cellsL x115) (addrOf x0))))
 (k111 x70 x91 h92))) v118 (dNext h71 u119 .blind) (andB (dFit h71 u119 .blind) (Nat.ble 0 u119.lo))) (pickB (.c x89) (.c (Value.bool false)) enE (Hs.mk .e h71.nx h71.nx) x46))))))) v120 (dNext h50 u121 .blind) (andB (dFit h50 u121 .blind) (Nat.ble 0 u121.lo))) (pickB (.c x68) (.c (Value.bool false)) enE (Hs.mk .e h50.nx h50.nx) x34))))))) (store1 5 h48 (cellsL x45) (addrOf x47))) (oAlloc 61 [(Value.int .i64 (.ofNat 0)), (Value.int .i64 (.ofNat 0)), (Value.int .i64 (.ofNat 0)), (Value.int .i64 (.ofNat 0)), (Value.int .u64 (.ofNat 0))] enE h44))))) (oSlice 1 (.c a0) (some (.c x40)) none none enE h38)))) (store1 5 h36 (cellsL x33) (addrOf x35))) (oAlloc 61 [(Value.int .i64 (.ofNat 0)), (Value.int .i64 (.ofNat 0)), (Value.int .i64 (.ofNat 0)), (Value.int .i64 (.ofNat 0)), (Value.int .u64 (.ofNat 0))] enE h32))))) (oSlice 1 (.c a0) none (some (.c (Value.int .i64 (.ofNat 8)))) none enE h28)) fun k25 =>
 cnd x23
 (after (fun x122 h123 =>
 after (fun x124 h125 =>
 clearUp h (packR h125 (resV enE h125 [.cell (.c x0) 5 true, .t (.c (Value.bool false)), .t (.c (Value.bool false))]))) (store1 5 h123 (cellsL x122) (addrOf x0))) (oBuild [(Value.int .i64 (.ofNat 0)), (Value.int .i64 (.ofNat 0)), (Value.int .i64 (.ofNat 0)), (Value.int .i64 (.ofNat 0)), (Value.int .u64 (.ofNat 0))] [] enE h24))
 (k25 (Value.bool false) (Value.bool false) h24)) (pickB (.c (Value.bool true)) (.c x21) enE h22 x14)))) (pickB (.c (Value.bool true)) (.c x12) enE h13 x6))))))))) (oAlloc 61 [(Value.int .i64 (.ofNat 0)), (Value.int .i64 (.ofNat 0)), (Value.int .i64 (.ofNat 0)), (Value.int .i64 (.ofNat 0)), (Value.int .u64 (.ofNat 0))] enE h0)

theorem q48 (R : RnK) (N : Nat) (args : List Value) (h : Hs) : r48 R N args h = callT Tryz.prog N R 48 args h := by kernel_rfl

/-- lintel/head.Get -/
noncomputable def r49 (R : RnK) (N : Nat) (args : List Value) (h : Hs) : An := unC args fun a0 sq0 => enK h fun h0 =>
 after (fun x0 h1 =>
 kLenV a0 (fun x2 =>
 kI64 .neq x2 (Value.int .i64 (.ofNat 8)) (fun x3 =>
 jn (fun (x5 : Value) (h6 : Hs) =>
 after (fun x7 h8 =>
 kLenV x7 (fun x9 =>
 jn (fun (x11 x12 x13 x14 x15 : Value) (h16 : Hs) =>
 kIdxA 1 a0 (Value.int .i64 (.ofNat 1)) (fun x17 =>
 kLoad x17 (Hs.mk h16.hp h16.nx h16.nx) (fun x18 =>
 kTo64 x18 (fun x19 =>
 kIdxA 1 a0 (Value.int .i64 (.ofNat 2)) (fun x20 =>
 kLoad x20 (Hs.mk h16.hp h16.nx h16.nx) (fun x21 =>
 kTo64 x21 (fun x22 =>
 kIdxA 1 a0 (Value.int .i64 (.ofNat 3)) (fun x23 =>
 kLoad x23 (Hs.mk h16.hp h16.nx h16.nx) (fun x24 =>
 kTo64 x24 (fun x25 =>
 kIdxA 1 a0 (Value.int .i64 (.ofNat 4)) (fun x26 =>
 kLoad x26 (Hs.mk h16.hp h16.nx h16.nx) (fun x27 =>
 kTo64 x27 (fun x28 =>
 after (fun v70 u71 => dPut (fun x29 h30 =>
 after (fun v68 u69 => dPut (fun x31 h32 =>
 after (fun v66 u67 => dPut (fun x33 h34 =>
 kLoads 4 x31 (Hs.mk h34.hp h34.nx h34.nx) (fun x35 =>
 kIdxA 1 a0 (Value.int .i64 (.ofNat 6)) (fun x36 =>
 kLoad x36 (Hs.mk h34.hp h34.nx h34.nx) (fun x37 =>
 after (fun v64 u65 => dPut (fun x38 h39 =>
 after (fun v62 u63 => dPut (fun x40 h41 =>
 after (fun v60 u61 => dPut (fun x42 h43 =>
 kLoads 5 x40 h43 (fun x44 =>
 kCall R 19 [x44] h43 (fun x45 h46 =>
 kCall R 73 [x45, a0] h46 (fun x47 h48 =>
 kNot x47 (fun x49 =>
 jn (fun (x51 : Value) (h52 : Hs) =>
 kLoads 5 x40 h52 (fun x53 =>
 after (fun x54 h55 =>
 clearUp h (packR h55 (resV enE h55 [.cell (.c x0) 5 true, .t (.c (Value.bool true))]))) (store1 5 h52 (cellsL x53) (addrOf x0)))) fun k50 =>
 cnd x49
 (after (fun x56 h57 =>
 after (fun x58 h59 =>
 clearUp h (packR h59 (resV enE h59 [.cell (.c x0) 5 true, .t (.c (Value.bool false))]))) (store1 5 h57 (cellsL x56) (addrOf x0))) (oBuild [(Value.int .i64 (.ofNat 0)), (Value.int .i64 (.ofNat 0)), (Value.int .i64 (.ofNat 0)), (Value.int .i64 (.ofNat 0)), (Value.int .u64 (.ofNat 0))] [] enE h48))
 (k50 x15 h48)))))) v60 (dNext h41 u61 .bar) (andB (dFit h41 u61 .bar) (Nat.ble 0 u61.lo))) (store1 5 h41 (cellsL x38) (addrOf x40))) v62 (dNext h39 u63 .make) (andB (dFit h39 u63 .make) (Nat.ble 0 u63.lo))) (oAlloc 61 [(Value.int .i64 (.ofNat 0)), (Value.int .i64 (.ofNat 0)), (Value.int .i64 (.ofNat 0)), (Value.int .i64 (.ofNat 0)), (Value.int .u64 (.ofNat 0))] enE (Hs.mk .e h39.nx h39.nx))) v64 (dNext h34 u65 .blind) (andB (dFit h34 u65 .blind) (Nat.ble 0 u65.lo))) (oBuild [(Value.int .i64 (.ofNat 0)), (Value.int .i64 (.ofNat 0)), (Value.int .i64 (.ofNat 0)), (Value.int .i64 (.ofNat 0)), (Value.int .u64 (.ofNat 0))] [(0, 4, .c x35), (4, 1, .c x37)] enE (Hs.mk .e h34.nx h34.nx)))))) v66 (dNext h32 u67 .bar) (andB (dFit h32 u67 .bar) (Nat.ble 0 u67.lo))) (store1 4 h32 (cellsL x29) (addrOf x31))) v68 (dNext h30 u69 .make) (andB (dFit h30 u69 .make) (Nat.ble 0 u69.lo))) (oAlloc 24 [(Value.int .i64 (.ofNat 0)), (Value.int .i64 (.ofNat 0)), (Value.int .i64 (.ofNat 0)), (Value.int .i64 (.ofNat 0))] enE (Hs.mk .e h30.nx h30.nx))) v70 (dNext h16 u71 .blind) (andB (dFit h16 u71 .blind) (Nat.ble 0 u71.lo))) (oBuild [(Value.int .i64 (.ofNat 0)), (Value.int .i64 (.ofNat 0)), (Value.int .i64 (.ofNat 0)), (Value.int .i64 (.ofNat 0))] [(0, 1, .c x19), (1, 1, .c x22), (2, 1, .c x25), (3, 1, .c x28)] enE (Hs.mk .e h16.nx h16.nx))))))))))))))) fun k10 =>
 lpT (T := Value → Value → Value → Value → Value → Hs → An) (fun _ _ _ _ _ _ => none) N (fun k72 =>
 fun (x74 x75 x76 x77 x78 : Value) (h79 : Hs) =>
 kI64 .lss x74 x9 (fun x80 =>
 jn (fun (h82 : Hs) =>
 jn (fun (x84 x85 x86 : Value) (h87 : Hs) =>
 kI64 .add x74 (Value.int .i64 (.ofNat 1)) (fun x88 =>
 k72 x88 x80 x84 x85 x86 h87)) fun k83 =>
 kIdxA 1 x7 x74 (fun x89 =>
 kLoad x89 h82 (fun x90 =>
 kU64 .gtr x90 (Value.int .u64 (.ofNat 1024)) (fun x91 =>
 jn (fun (x93 : Value) (h94 : Hs) =>
 k83 x90 x91 x93 h94) fun k92 =>
 cnd x91
 (after (fun x95 h96 =>
 after (fun x97 h98 =>
 clearUp h (packR h98 (resV enE h98 [.cell (.c x0) 5 true, .t (.c (Value.bool false))]))) (store1 5 h96 (cellsL x95) (addrOf x0))) (oBuild [(Value.int .i64 (.ofNat 0)), (Value.int .i64 (.ofNat 0)), (Value.int .i64 (.ofNat 0)), (Value.int .i64 (.ofNat 0)), (Value.int .u64 (.ofNat 0))] [] enE h82))
 (k92 x78 h82))))) fun k81 =>
 cnd x80
 (k81 h79)
 (k10 x74 x80 x76 x77 x78 h79))) (Value.int .i64 (.ofNat 0)) dunno dunno dunno x5 h8)) (oSlice 1 (.c a0) (some (.c (Value.int .i64 (.ofNat 1)))) (some (.c (Value.int .i64 (.ofNat 6)))) none enE h6)) fun k4 =>
 cnd x3
 (after (fun x99 h100 =>
 after (fun x101 h102 =>
 clearUp h (packR h102 (resV enE h102 [.cell (.c x0) 5 true, .t (.c (Value.bool false))]))) (store1 5 h100 (cellsL x99) (addrOf x0))) (oBuild [(Value.int .i64 (.ofNat 0)), (Value.int .i64 (.ofNat 0)), (Value.int .i64 (.ofNat 0)), (Value.int .i64 (.ofNat 0)), (Value.int .u64 (.ofNat 0))] [] enE h1))
 (k4 (Value.bool false) h1)))) (oAlloc 61 [(Value.int .i64 (.ofNat 0)), (Value.int .i64 (.ofNat 0)), (Value.int .i64 (.ofNat 0)), (Value.int .i64 (.ofNat 0)), (Value.int .u64 (.ofNat 0))] enE h0)

theorem q49 (R : RnK) (N : Nat) (args : List Value) (h : Hs) : r49 R N args h = callT Tryz.prog N R 49 args h := by kernel_rfl

/-- (lintel/image.Image).Block -/
noncomputable def r50 (R : RnK) (N : Nat) (args : List Value) (h : Hs) : An := unC args fun a0 sq0 => unC sq0 fun a1 sq1 => enK h fun h0 =>
 after (fun x0 h1 =>
 kI64 .lss a1 (Value.int .i64 (.ofNat 0)) (fun x2 =>
 gdF x2 h1 (fun k3 => k3 a1 h1) (fun x4 h5 =>
 gdF x2 h5 (fun k6 => kFieldA 4 x0 (fun x7 => k6 x7 h5)) (fun x8 h9 =>
 gdF x2 h9 (fun k10 => kLoad x8 h9 (fun x11 => k10 x11 h9)) (fun x12 h13 =>
 gdF x2 h13 (fun k14 => kLenV x12 (fun x15 => k14 x15 h13)) (fun x16 h17 =>
 gdF x2 h17 (fun k18 => kI64 .quo x16 (Value.int .i64 (.ofNat 8)) (fun x19 => k18 x19 h17)) (fun x20 h21 =>
 gdF x2 h21 (fun k22 => kI64 .geq x4 x20 (fun x23 => k22 x23 h21)) (fun x24 h25 =>
 after (fun x26 h27 =>
 jn (fun (x29 : Value) (h30 : Hs) =>
 kFieldA 4 x0 (fun x31 =>
 kLoad x31 h30 (fun x32 =>
 kI64 .mul (Value.int .i64 (.ofNat 8)) a1 (fun x33 =>
 kI64 .add a1 (Value.int .i64 (.ofNat 1)) (fun x34 =>
 kI64 .mul (Value.int .i64 (.ofNat 8)) x34 (fun x35 =>
 after (fun x36 h37 =>
 kCall R 46 [x36] h37 (fun x38 h39 =>
 clrK h x38 h39)) (oSlice 1 (.c x32) (some (.c x33)) (some (.c x35)) none enE h30))))))) fun k28 =>
 cnd x26
 (clrK h (Value.slice none 0 0) h27)
 (k28 (Value.slice none 0 0) h27)) (pickB (.c (Value.bool true)) (.c x24) enE h25 x2))))))))) (oBox 69 (.c a0) enE h0)

theorem q50 (R : RnK) (N : Nat) (args : List Value) (h : Hs) : r50 R N args h = callT Tryz.prog N R 50 args h := by kernel_rfl

/-- (*lintel/check.looker).tell -/
noncomputable def r51 (R : RnK) (N : Nat) (args : List Value) (h : Hs) : An := unC args fun a0 sq0 => unC sq0 fun a1 sq1 => unC sq1 fun a2 sq2 => unC sq2 fun a3 sq3 => unC sq3 fun a4 sq4 => enK h fun h0 =>
 kNil a0 (fun x0 =>
 kFieldA 8 x0 (fun x1 =>
 kLoad x1 h0 (fun x2 =>
 after (fun x3 h4 =>
 after (fun x5 h6 =>
 after (fun x7 h8 =>
 kNil a0 (fun x9 =>
 kFieldA 8 x9 (fun x10 =>
 kStore1 x10 x7 h8 (fun x11 h12 =>
 clrK h (Value.tuple #[]) h12)))) (app0 51 4 32 h6 x2 x5)) (oMkrow 51 4 1 [(Value.int .i64 (.ofNat 0)), (Value.int .i64 (.ofNat 0)), (Value.int .i64 (.ofNat 0)), (Value.int .i64 (.ofNat 0))] [(0, 4, .c x3)] enE h4)) (oBuild [(Value.int .i64 (.ofNat 0)), (Value.int .i64 (.ofNat 0)), (Value.int .i64 (.ofNat 0)), (Value.int .i64 (.ofNat 0))] [(0, 1, .c a1), (1, 1, .c a2), (2, 1, .c a3), (3, 1, .c a4)] enE h0))))

theorem q51 (R : RnK) (N : Nat) (args : List Value) (h : Hs) : r51 R N args h = callT Tryz.prog N R 51 args h := by kernel_rfl

/-- lintel/geom.Books -/
noncomputable def r52 (R : RnK) (N : Nat) (args : List Value) (h : Hs) : An := unC args fun a0 sq0 => unC sq0 fun a1 sq1 => enK h fun h0 =>
 after (fun x0 h1 =>
 kLoads 4 x0 h1 (fun x2 =>
 kCall R 16 [x2] h1 (fun x3 h4 =>
 kNot x3 (fun x5 =>
 gdF x5 h4 (fun k6 => k6 a1 h4) (fun x7 h8 =>
 gdF x5 h8 (fun k9 => kFieldA 2 x0 (fun x10 => k9 x10 h8)) (fun x11 h12 =>
 gdF x5 h12 (fun k13 => kLoad x11 h12 (fun x14 => k13 x14 h12)) (fun x15 h16 =>
 gdF x5 h16 (fun k17 => kI64 .sub x15 (Value.int .i64 (.ofNat 1)) (fun x18 => k17 x18 h16)) (fun x19 h20 =>
 gdF x5 h20 (fun k21 => kCall R 43 [x7, (Value.int .i64 (.ofNat 0)), x19] h20 (k21)) (fun x22 h23 =>
 gdF x5 h23 (fun k24 => kNot x22 (fun x25 => k24 x25 h23)) (fun x26 h27 =>
 after (fun x28 h29 =>
 jn (fun (x31 x32 : Value) (h33 : Hs) =>
 kFieldA 3 x0 (fun x34 =>
 kLoad x34 (Hs.mk h33.hp h33.nx h33.nx) (fun x35 =>
 kI64 .mul a1 x35 (fun x36 =>
 kI64 .add (Value.int .i64 (.ofNat 1)) x36 (fun x37 =>
 kFieldA 3 x0 (fun x38 =>
 kLoad x38 (Hs.mk h33.hp h33.nx h33.nx) (fun x39 =>
 clrK h (Value.tuple #[x37, x39]) h33))))))) fun k30 =>
 cnd x28
 (clrK h (Value.tuple #[(Value.int .i64 (.ofNat 0)), (Value.int .i64 (.ofNat 0))]) h29)
 (k30 (Value.int .i64 (.ofNat 0)) (Value.int .i64 (.ofNat 0)) h29)) (pickB (.c (Value.bool true)) (.c x26) enE h27 x5))))))))))) (oBox 24 (.c a0) enE h0)

theorem q52 (R : RnK) (N : Nat) (args : List Value) (h : Hs) : r52 R N args h = callT Tryz.prog N R 52 args h := by kernel_rfl

/-- lintel/node.Get -/
noncomputable def r53 (R : RnK) (N : Nat) (args : List Value) (h : Hs) : An := unC args fun a0 sq0 => enK h fun h0 =>
 after (fun x0 h1 =>
 kLenV a0 (fun x2 =>
 kI64 .neq x2 (Value.int .i64 (.ofNat 8)) (fun x3 =>
 gdF x3 h1 (fun k4 => k4 a0 h1) (fun x5 h6 =>
 gdF x3 h6 (fun k7 => kIdxA 1 x5 (Value.int .i64 (.ofNat 0)) (fun x8 => k7 x8 h6)) (fun x9 h10 =>
 gdF x3 h10 (fun k11 => kLoad x9 h10 (fun x12 => k11 x12 h10)) (fun x13 h14 =>
 gdF x3 h14 (fun k15 => kShr x13 (Value.int .u64 (.ofNat 32)) (fun x16 => k15 x16 h14)) (fun x17 h18 =>
 gdF x3 h18 (fun k19 => kU64 .neq x17 (Value.int .u64 (.ofNat 0)) (fun x20 => k19 x20 h18)) (fun x21 h22 =>
 after (fun x23 h24 =>
 gdF x23 h24 (fun k25 => k25 a0 h24) (fun x26 h27 =>
 gdF x23 h27 (fun k28 => kIdxA 1 x26 (Value.int .i64 (.ofNat 1)) (fun x29 => k28 x29 h27)) (fun x30 h31 =>
 gdF x23 h31 (fun k32 => kLoad x30 h31 (fun x33 => k32 x33 h31)) (fun x34 h35 =>
 gdF x23 h35 (fun k36 => kU64 .gtr x34 (Value.int .u64 (.ofNat 1099511627776)) (fun x37 => k36 x37 h35)) (fun x38 h39 =>
 after (fun x40 h41 =>
 jn (fun (x43 : Value) (h44 : Hs) =>
 kIdxA 1 a0 (Value.int .i64 (.ofNat 0)) (fun x45 =>
 kLoad x45 (Hs.mk h44.hp h44.nx h44.nx) (fun x46 =>
 kU64 .and x46 (Value.int .u64 (.ofNat 255)) (fun x47 =>
 kTo64 x47 (fun x48 =>
 kIdxA 1 a0 (Value.int .i64 (.ofNat 0)) (fun x49 =>
 kLoad x49 (Hs.mk h44.hp h44.nx h44.nx) (fun x50 =>
 kShr x50 (Value.int .u64 (.ofNat 8)) (fun x51 =>
 kTo64 x51 (fun x52 =>
 kIdxA 1 a0 (Value.int .i64 (.ofNat 1)) (fun x53 =>
 kLoad x53 (Hs.mk h44.hp h44.nx h44.nx) (fun x54 =>
 kTo64 x54 (fun x55 =>
 after (fun v126 u127 => dPut (fun x56 h57 =>
 after (fun v124 u125 => dPut (fun x58 h59 =>
 after (fun v122 u123 => dPut (fun x60 h61 =>
 after (fun x62 h63 =>
 kLenV x62 (fun x64 =>
 jn (fun (x66 x67 x68 x69 : Value) (h70 : Hs) =>
 kLoads 4 x58 h70 (fun x71 =>
 kCall R 10 [x71] h70 (fun x72 h73 =>
 kCall R 73 [x72, a0] h73 (fun x74 h75 =>
 kNot x74 (fun x76 =>
 jn (fun (x78 : Value) (h79 : Hs) =>
 kLoads 4 x58 h79 (fun x80 =>
 after (fun x81 h82 =>
 clearUp h (packR h82 (resV enE h82 [.cell (.c x0) 4 true, .t (.c (Value.bool true))]))) (store1 4 h79 (cellsL x80) (addrOf x0)))) fun k77 =>
 cnd x76
 (after (fun x83 h84 =>
 after (fun x85 h86 =>
 clearUp h (packR h86 (resV enE h86 [.cell (.c x0) 4 true, .t (.c (Value.bool false))]))) (store1 4 h84 (cellsL x83) (addrOf x0))) (oBuild [(Value.int .i64 (.ofNat 0)), (Value.int .i64 (.ofNat 0)), (Value.int .i64 (.ofNat 0)), (Value.slice none 0 0)] [] enE h75))
 (k77 x43 h75)))))) fun k65 =>
 lpT (T := Value → Value → Value → Value → Hs → An) (fun _ _ _ _ _ => none) N (fun k87 =>
 fun (x89 x90 x91 x92 : Value) (h93 : Hs) =>
 kI64 .lss x89 x64 (fun x94 =>
 jn (fun (h96 : Hs) =>
 jn (fun (x98 x99 : Value) (h100 : Hs) =>
 kI64 .add x89 (Value.int .i64 (.ofNat 1)) (fun x101 =>
 k87 x101 x94 x98 x99 h100)) fun k97 =>
 kIdxA 1 x62 x89 (fun x102 =>
 kLoad x102 h96 (fun x103 =>
 kU64 .eql x103 (Value.int .u64 (.ofNat 0)) (fun x104 =>
 jn (fun (h106 : Hs) =>
 kFieldA 3 x58 (fun x107 =>
 kLoad x107 h106 (fun x108 =>
 kU64 .and x103 (Value.int .u64 (.ofNat 4294967295)) (fun x109 =>
 kTo64 x109 (fun x110 =>
 kShr x103 (Value.int .u64 (.ofNat 32)) (fun x111 =>
 kTo64 x111 (fun x112 =>
 after (fun x113 h114 =>
 after (fun x115 h116 =>
 after (fun x117 h118 =>
 kFieldA 3 x58 (fun x119 =>
 kStore1 x119 x117 h118 (fun x120 h121 =>
 k97 x103 x104 h121))) (app0 40 2 16 h116 x108 x115)) (oMkrow 40 2 1 [(Value.int .i64 (.ofNat 0)), (Value.int .i64 (.ofNat 0))] [(0, 2, .c x113)] enE h114)) (oBuild [(Value.int .i64 (.ofNat 0)), (Value.int .i64 (.ofNat 0))] [(0, 1, .c x110), (1, 1, .c x112)] enE h106)))))))) fun k105 =>
 cnd x104
 (k65 x89 x94 x103 x104 h96)
 (k105 h96))))) fun k95 =>
 cnd x94
 (k95 h93)
 (k65 x89 x94 x91 x92 h93))) (Value.int .i64 (.ofNat 0)) dunno dunno dunno h63)) (oSlice 1 (.c a0) (some (.c (Value.int .i64 (.ofNat 2)))) (some (.c (Value.int .i64 (.ofNat 6)))) none enE h61)) v122 (dNext h59 u123 .bar) (andB (dFit h59 u123 .bar) (Nat.ble 0 u123.lo))) (store1 4 h59 (cellsL x56) (addrOf x58))) v124 (dNext h57 u125 .make) (andB (dFit h57 u125 .make) (Nat.ble 0 u125.lo))) (oAlloc 43 [(Value.int .i64 (.ofNat 0)), (Value.int .i64 (.ofNat 0)), (Value.int .i64 (.ofNat 0)), (Value.slice none 0 0)] enE (Hs.mk .e h57.nx h57.nx))) v126 (dNext h44 u127 .blind) (andB (dFit h44 u127 .blind) (Nat.ble 0 u127.lo))) (oBuild [(Value.int .i64 (.ofNat 0)), (Value.int .i64 (.ofNat 0)), (Value.int .i64 (.ofNat 0)), (Value.slice none 0 0)] [(0, 1, .c x48), (1, 1, .c x52), (2, 1, .c x55)] enE (Hs.mk .e h44.nx h44.nx)))))))))))))) fun k42 =>
 cnd x40
 (after (fun x128 h129 =>
 after (fun x130 h131 =>
 clearUp h (packR h131 (resV enE h131 [.cell (.c x0) 4 true, .t (.c (Value.bool false))]))) (store1 4 h129 (cellsL x128) (addrOf x0))) (oBuild [(Value.int .i64 (.ofNat 0)), (Value.int .i64 (.ofNat 0)), (Value.int .i64 (.ofNat 0)), (Value.slice none 0 0)] [] enE h41))
 (k42 (Value.bool false) h41)) (pickB (.c (Value.bool true)) (.c x38) enE h39 x23)))))) (pickB (.c (Value.bool true)) (.c x21) enE h22 x3))))))))) (oAlloc 43 [(Value.int .i64 (.ofNat 0)), (Value.int .i64 (.ofNat 0)), (Value.int .i64 (.ofNat 0)), (Value.slice none 0 0)] enE h0)

theorem q53 (R : RnK) (N : Nat) (args : List Value) (h : Hs) : r53 R N args h = callT Tryz.prog N R 53 args h := by kernel_rfl

/-- lintel/node.Good -/
noncomputable def r54 (R : RnK) (N : Nat) (args : List Value) (h : Hs) : An := unC args fun a0 sq0 => unC sq0 fun a1 sq1 => enK h fun h0 =>
 after (fun x0 h1 =>
 after (fun x2 h3 =>
 kLoads 4 x0 h3 (fun x4 =>
 kCall R 16 [x4] h3 (fun x5 h6 =>
 kNot x5 (fun x7 =>
 jn (fun (x9 : Value) (h10 : Hs) =>
 kFieldA 0 x2 (fun x11 =>
 kLoad x11 h10 (fun x12 =>
 kI64 .eql x12 (Value.int .i64 (.ofNat 0)) (fun x13 =>
 jn (fun (x15 : Value) (h16 : Hs) =>
 kFieldA 0 x2 (fun x17 =>
 kLoad x17 h16 (fun x18 =>
 kCall R 64 [x18, (Value.int .i64 (.ofNat 1)), (Value.int .i64 (.ofNat 3))] h16 (fun x19 h20 =>
 kNot x19 (fun x21 =>
 gdF x21 h20 (fun k22 => kFieldA 1 x2 (fun x23 => k22 x23 h20)) (fun x24 h25 =>
 gdF x21 h25 (fun k26 => kLoad x24 h25 (fun x27 => k26 x27 h25)) (fun x28 h29 =>
 gdF x21 h29 (fun k30 => kCall R 64 [x28, (Value.int .i64 (.ofNat 1)), (Value.int .i64 (.ofNat 200))] h29 (k30)) (fun x31 h32 =>
 gdF x21 h32 (fun k33 => kNot x31 (fun x34 => k33 x34 h32)) (fun x35 h36 =>
 after (fun x37 h38 =>
 gdF x37 h38 (fun k39 => kLoads 4 x0 h38 (fun x40 => k39 x40 h38)) (fun x41 h42 =>
 gdF x37 h42 (fun k43 => kLoads 4 x2 h42 (fun x44 => k43 x44 h42)) (fun x45 h46 =>
 gdF x37 h46 (fun k47 => kCall R 74 [x41, x45] h46 (k47)) (fun x48 h49 =>
 gdF x37 h49 (fun k50 => kNot x48 (fun x51 => k50 x51 h49)) (fun x52 h53 =>
 after (fun x54 h55 =>
 jn (fun (x57 : Value) (h58 : Hs) =>
 kFieldA 3 x2 (fun x59 =>
 kLoad x59 h58 (fun x60 =>
 kLenV x60 (fun x61 =>
 kI64 .leq x61 (Value.int .i64 (.ofNat 4)) (fun x62 =>
 gdT x62 h58 (fun k63 => kLoads 4 x0 (Hs.mk h58.hp h58.nx h58.nx) (fun x64 => k63 x64 h58)) (fun x65 _ =>
 gdT x62 h58 (fun k67 => kLoads 4 x2 (Hs.mk h58.hp h58.nx h58.nx) (fun x68 => k67 x68 h58)) (fun x69 _ =>
 gdT x62 h58 (fun k71 => kCall R 75 [x65, x69] h58 (fun v72 u73 => dPut k71 v72 (dNext h58 u73 .bar) (andB (dFit h58 u73 .bar) (Nat.ble 0 u73.lo)))) (fun x74 h75 =>
 after (fun v104 u105 => dPut (fun x76 h77 =>
 gdT x76 h77 (fun k78 => kLoads 4 x2 (dHidS .light [true, true, true, true, true, true, true, true, true, true] [none, some (h75.nx, h77.nx), some (h58.nx, h75.nx), none, none, none, none, none, none, none] h77) (fun x79 => k78 x79 h77)) (fun x80 _ =>
 gdT x76 h77 (fun k82 => kCall R 76 [x80] (dHidS .light [true, true, true, true, true, true, true, true, true, true, true] [none, none, some (h75.nx, h77.nx), some (h58.nx, h75.nx), none, none, none, none, none, none, none] h77) (fun v83 u84 => dPut k82 v83 (dNext h77 u84 .light) (andB (dFit h77 u84 .light) (Nat.ble 0 u84.lo)))) (fun x85 h86 =>
 gdT x76 h86 (fun k87 => kLoads 4 x2 (dHidS .light [false, false, true, true, true, true, true, true, true, true, true, true] [some (h77.nx, h86.nx), none, none, some (h75.nx, h77.nx), some (h58.nx, h75.nx), none, none, none, none, none, none, none] h86) (fun x88 => k87 x88 h86)) (fun x89 _ =>
 gdT x76 h86 (fun k91 => kCall R 77 [x89] h86 (fun v92 u93 => dPut k91 v92 (dNext h86 u93 .bar) (andB (dFit h86 u93 .bar) (Nat.ble 0 u93.lo)))) (fun x94 h95 =>
 gdT x76 h95 (fun k96 => kI64 .eql x85 x94 (fun x97 => k96 x97 h95)) (fun x98 _ =>
 after (fun v102 u103 => dPut (fun x100 h101 =>
 clrK h x100 h101) v102 (dNext h95 u103 .blind) (andB (dFit h95 u103 .blind) (Nat.ble 0 u103.lo))) (pickB (.c x98) (.c (Value.bool false)) enE (Hs.mk .e h95.nx h95.nx) x76))))))) v104 (dNext h75 u105 .blind) (andB (dFit h75 u105 .blind) (Nat.ble 0 u105.lo))) (pickB (.c x74) (.c (Value.bool false)) enE (Hs.mk .e h75.nx h75.nx) x62))))))))) fun k56 =>
 cnd x54
 (clrK h (Value.bool false) h55)
 (k56 x15 h55)) (pickB (.c (Value.bool true)) (.c x52) enE h53 x37)))))) (pickB (.c (Value.bool true)) (.c x35) enE h36 x21)))))))))) fun k14 =>
 cnd x13
 (kLoads 4 x2 h10 (fun x106 =>
 kCall R 63 [x106] h10 (fun x107 h108 =>
 clrK h x107 h108)))
 (k14 x9 h10))))) fun k8 =>
 cnd x7
 (clrK h (Value.bool false) h6)
 (k8 (Value.bool false) h6))))) (oBox 43 (.c a1) enE h1)) (oBox 24 (.c a0) enE h0)

theorem q54 (R : RnK) (N : Nat) (args : List Value) (h : Hs) : r54 R N args h = callT Tryz.prog N R 54 args h := by kernel_rfl

/-- (*lintel/check.looker).lostArea -/
noncomputable def r55 (R : RnK) (N : Nat) (args : List Value) (h : Hs) : An := unC args fun a0 sq0 => unC sq0 fun a1 sq1 => enK h fun h0 =>
 after (fun x0 h1 =>
 kNil a0 (fun x2 =>
 kFieldA 0 x2 (fun x3 =>
 kFieldA 0 x3 (fun x4 =>
 kLoads 4 x4 h1 (fun x5 =>
 kCall R 18 [x5] h1 (fun x6 h7 =>
 kExtr x6 0 (fun x8 =>
 kExtr x6 1 (fun x9 =>
 kFieldA 3 x0 (fun x10 =>
 kLoad x10 h7 (fun x11 =>
 after (fun x12 h13 =>
 after (fun x14 h15 =>
 kCall R 78 [x11, x14] h15 (fun x16 h17 =>
 clrK h x16 h17)) (oMkrow 40 2 1 [(Value.int .i64 (.ofNat 0)), (Value.int .i64 (.ofNat 0))] [(0, 2, .c x12)] enE h13)) (oBuild [(Value.int .i64 (.ofNat 0)), (Value.int .i64 (.ofNat 0))] [(0, 1, .c x8), (1, 1, .c x9)] enE h7))))))))))) (oBox 43 (.c a1) enE h0)

theorem q55 (R : RnK) (N : Nat) (args : List Value) (h : Hs) : r55 R N args h = callT Tryz.prog N R 55 args h := by kernel_rfl

/-- (*lintel/check.looker).blocks -/
noncomputable def r56 (R : RnK) (N : Nat) (args : List Value) (h : Hs) : An := unC args fun a0 sq0 => unC sq0 fun a1 sq1 => enK h fun h0 =>
 kNil a0 (fun x0 =>
 kFieldA 6 x0 (fun x1 =>
 kLoad x1 h0 (fun x2 =>
 kIdxA 1 x2 a1 (fun x3 =>
 kLoad x3 h0 (fun x4 =>
 jn (fun (x6 x7 x8 x9 x10 x11 x12 x13 x14 x15 : Value) (h16 : Hs) =>
 clrK h x14 h16) fun k5 =>
 cnd x4
 (kNil a0 (fun x17 =>
 kFieldA 5 x17 (fun x18 =>
 kLoad x18 h0 (fun x19 =>
 kIdxA 4 x19 a1 (fun x20 =>
 kFieldA 3 x20 (fun x21 =>
 kLoad x21 h0 (fun x22 =>
 kLenV x22 (fun x23 =>
 jn (fun (x25 x26 x27 x28 x29 x30 x31 x32 : Value) (h33 : Hs) =>
 k5 x25 x23 x26 x22 x27 x28 x29 x30 x31 x32 h33) fun k24 =>
 lpT (T := Value → Value → Value → Value → Value → Value → Value → Value → Hs → An) (fun _ _ _ _ _ _ _ _ _ => none) N (fun k34 =>
 fun (x36 x37 x38 x39 x40 x41 x42 x43 : Value) (h44 : Hs) =>
 kI64 .lss x36 x23 (fun x45 =>
 jn (fun (h47 : Hs) =>
 jn (fun (x49 x50 x51 x52 x53 x54 : Value) (h55 : Hs) =>
 kI64 .add x36 (Value.int .i64 (.ofNat 1)) (fun x56 =>
 k34 x56 x45 x49 x50 x51 x52 x53 x54 h55)) fun k48 =>
 kIdxA 2 x22 x36 (fun x57 =>
 kLoads 2 x57 h47 (fun x58 =>
 after (fun x59 h60 =>
 after (fun x61 h62 =>
 kFieldA 1 x59 (fun x63 =>
 kLoad x63 h62 (fun x64 =>
 jn (fun (x66 x67 x68 x69 : Value) (h70 : Hs) =>
 k48 x59 x66 x64 x67 x68 x69 h70) fun k65 =>
 lpT (T := Value → Value → Value → Value → Hs → An) (fun _ _ _ _ _ => none) N (fun k71 =>
 fun (x73 x74 x75 x76 : Value) (h77 : Hs) =>
 kI64 .lss x73 x64 (fun x78 =>
 jn (fun (h80 : Hs) =>
 jn (fun (x82 x83 : Value) (h84 : Hs) =>
 kI64 .add x73 (Value.int .i64 (.ofNat 1)) (fun x85 =>
 k71 x85 x78 x82 x83 h84)) fun k81 =>
 kFieldA 0 x59 (fun x86 =>
 kLoad x86 h80 (fun x87 =>
 kI64 .add x87 x73 (fun x88 =>
 after (fun x89 h90 =>
 after (fun x91 h92 =>
 k81 x91 x73 h92) (app0 3 1 8 h90 x75 x89)) (oMkrow 3 1 1 [(Value.int .i64 (.ofNat 0))] [(0, 1, .c x88)] enE h80))))) fun k79 =>
 cnd x78
 (k79 h77)
 (k65 x73 x78 x75 x76 h77))) (Value.int .i64 (.ofNat 0)) x41 x42 x43 h62))) (store1 2 h60 (cellsL x58) (addrOf x59))) (oAlloc 40 [(Value.int .i64 (.ofNat 0)), (Value.int .i64 (.ofNat 0))] enE h47)))) fun k46 =>
 cnd x45
 (k46 h44)
 (k24 x36 x45 x38 x39 x40 x41 x42 x43 h44))) (Value.int .i64 (.ofNat 0)) dunno dunno dunno dunno dunno (Value.slice none 0 0) dunno h0))))))))
 (k5 dunno dunno dunno dunno dunno dunno dunno dunno (Value.slice none 0 0) dunno h0))))))

theorem q56 (R : RnK) (N : Nat) (args : List Value) (h : Hs) : r56 R N args h = callT Tryz.prog N R 56 args h := by kernel_rfl

/-- (*lintel/check.looker).slot -/
noncomputable def r58 (R : RnK) (N : Nat) (args : List Value) (h : Hs) : An := unC args fun a0 sq0 => unC sq0 fun a1 sq1 => unC sq1 fun a2 sq2 => enK h fun h0 =>
 after (fun x0 h1 =>
 kFieldA 2 x0 (fun x2 =>
 kFieldA 0 x2 (fun x3 =>
 kLoad x3 h1 (fun x4 =>
 jn (fun (x6 x7 x8 x9 x10 : Value) (h11 : Hs) =>
 clrK h (Value.int .i64 (.ofNat 0)) h11) fun k5 =>
 kNil a0 (fun x12 =>
 kFieldA 6 x12 (fun x13 =>
 kLoad x13 h1 (fun x14 =>
 kLenV x14 (fun x15 =>
 kI64 .geq x4 x15 (fun x16 =>
 gdF x16 h1 (fun k17 => k17 a0 h1) (fun x18 h19 =>
 gdF x16 h19 (fun k20 => kNil x18 (fun x21 => k20 x21 h19)) (fun x22 h23 =>
 gdF x16 h23 (fun k24 => kFieldA 6 x22 (fun x25 => k24 x25 h23)) (fun x26 h27 =>
 gdF x16 h27 (fun k28 => kLoad x26 h27 (fun x29 => k28 x29 h27)) (fun x30 h31 =>
 gdF x16 h31 (fun k32 => k32 x4 h31) (fun x33 h34 =>
 gdF x16 h34 (fun k35 => kIdxA 1 x30 x33 (fun x36 => k35 x36 h34)) (fun x37 h38 =>
 gdF x16 h38 (fun k39 => kLoad x37 h38 (fun x40 => k39 x40 h38)) (fun x41 h42 =>
 gdF x16 h42 (fun k43 => kNot x41 (fun x44 => k43 x44 h42)) (fun x45 h46 =>
 after (fun x47 h48 =>
 jn (fun (x50 x51 x52 x53 : Value) (h54 : Hs) =>
 k5 x47 x50 x51 x52 x53 h54) fun k49 =>
 cnd x47
 (clrK h (Value.int .i64 (.ofNat 2)) h48)
 (kI64 .leq x4 (Value.int .i64 (.ofNat 2)) (fun x55 =>
 jn (fun (x57 x58 x59 : Value) (h60 : Hs) =>
 k49 x55 x57 x58 x59 h60) fun k56 =>
 cnd x55
 (clrK h (Value.int .i64 (.ofNat 3)) h48)
 (jn (fun (x62 : Value) (h63 : Hs) =>
 jn (fun (x65 x66 : Value) (h67 : Hs) =>
 k56 x62 x65 x66 h67) fun k64 =>
 cnd x62
 (clrK h (Value.int .i64 (.ofNat 4)) h63)
 (kFieldA 0 x0 (fun x68 =>
 kLoad x68 h63 (fun x69 =>
 kI64 .eql x69 (Value.int .i64 (.ofNat 2)) (fun x70 =>
 gdT x70 h63 (fun k71 => k71 x4 h63) (fun x72 _ =>
 gdT x70 h63 (fun k74 => kFieldA 1 x0 (fun x75 => k74 x75 h63)) (fun x76 _ =>
 gdT x70 h63 (fun k78 => kLoad x76 h63 (fun x79 => k78 x79 h63)) (fun x80 _ =>
 gdT x70 h63 (fun k82 => kI64 .add x80 (Value.int .i64 (.ofNat 1)) (fun x83 => k82 x83 h63)) (fun x84 _ =>
 gdT x70 h63 (fun k86 => kI64 .neq x72 x84 (fun x87 => k86 x87 h63)) (fun x88 _ =>
 gdT x70 h63 (fun k90 => k90 x88 h63) (fun x91 _ =>
 gdF x91 h63 (fun k93 => kFieldA 2 x0 (fun x94 => k93 x94 h63)) (fun x95 _ =>
 gdF x91 h63 (fun k97 => kFieldA 1 x95 (fun x98 => k97 x98 h63)) (fun x99 _ =>
 gdF x91 h63 (fun k101 => kLoad x99 (Hs.mk h63.hp h63.nx h63.nx) (fun x102 => k101 x102 h63)) (fun x103 _ =>
 gdF x91 h63 (fun k105 => k105 x4 h63) (fun x106 _ =>
 gdF x91 h63 (fun k108 => kCall R 41 [x106] (Hs.mk h63.hp h63.nx h63.nx) (fun v109 u110 => dPut k108 v109 (dNext h63 u110 .light) (andB (dFit h63 u110 .light) (Nat.ble 0 u110.lo)))) (fun x111 h112 =>
 gdF x91 h112 (fun k113 => obK (fun x114 => k113 x114 h112) (s2 .add (Value.string ⟨#[35]⟩) x111)) (fun x115 _ =>
 gdF x91 h112 (fun k117 => obK (fun x118 => k117 x118 h112) (s2 .neq x103 x115)) (fun x119 _ =>
 gdT x70 h112 (fun k121 => after (fun v122 u123 => dPut k121 v122 (dNext h112 u123 .blind) (andB (dFit h112 u123 .blind) (Nat.ble 0 u123.lo))) (pickB (.c (Value.bool true)) (.c x119) enE (Hs.mk .e h112.nx h112.nx) x91)) (fun x124 h125 =>
 after (fun v131 u132 => dPut (fun x126 h127 =>
 jn (fun (x129 : Value) (h130 : Hs) =>
 k64 x126 x129 h130) fun k128 =>
 cnd x126
 (clrK h (Value.int .i64 (.ofNat 5)) h127)
 (k128 (Value.int .i64 (.ofNat 0)) h127)) v131 (dNext h125 u132 .blind) (andB (dFit h125 u132 .blind) (Nat.ble 0 u132.lo))) (pickB (.c x124) (.c (Value.bool false)) enE (Hs.mk .e h125.nx h125.nx) x70)))))))))))))))))))) fun k61 =>
 cnd a2
 (k61 a2 h48)
 (kFieldA 0 x0 (fun x133 =>
 kLoad x133 h48 (fun x134 =>
 kI64 .eql x134 (Value.int .i64 (.ofNat 1)) (fun x135 =>
 gdT x135 h48 (fun k136 => kFieldA 2 x0 (fun x137 => k136 x137 h48)) (fun x138 h139 =>
 gdT x135 h139 (fun k140 => kFieldA 1 x138 (fun x141 => k140 x141 h139)) (fun x142 h143 =>
 gdT x135 h143 (fun k144 => kLoad x142 h143 (fun x145 => k144 x145 h143)) (fun x146 h147 =>
 gdT x135 h147 (fun k148 => obK (fun x149 => k148 x149 h147) (s2 .eql x146 (Value.string ⟨#[108, 111, 115, 116, 43, 102, 111, 117, 110, 100]⟩))) (fun x150 h151 =>
 after (fun x152 h153 =>
 k61 x152 h153) (pickB (.c x150) (.c (Value.bool false)) enE h151 x135))))))))))))) (pickB (.c (Value.bool true)) (.c x45) enE h46 x16)))))))))))))))))) (oBox 112 (.c a1) enE h0)

theorem q58 (R : RnK) (N : Nat) (args : List Value) (h : Hs) : r58 R N args h = callT Tryz.prog N R 58 args h := by kernel_rfl

/-- (lintel/image.Image).Bits -/
noncomputable def r59 (R : RnK) (N : Nat) (args : List Value) (h : Hs) : An := unC args fun a0 sq0 => enK h fun h0 =>
 after (fun x0 h1 =>
 after (fun x2 h3 =>
 kFieldA 0 x0 (fun x4 =>
 kLoads 4 x4 h3 (fun x5 =>
 kCall R 25 [x5] h3 (fun x6 h7 =>
 kExtr x6 0 (fun x8 =>
 kExtr x6 1 (fun x9 =>
 after (fun x10 h11 =>
 jn (fun (x13 x14 x15 : Value) (h16 : Hs) =>
 kLoads 1 x10 h16 (fun x17 =>
 kStore1 x2 x17 h16 (fun x18 h19 =>
 clearUp h (packR h19 (resV enE h19 [.cell (.c x2) 1 true]))))) fun k12 =>
 lpT (T := Value → Value → Value → Hs → An) (fun _ _ _ _ => none) N (fun k20 =>
 fun (x22 x23 x24 : Value) (h25 : Hs) =>
 kI64 .lss x22 x9 (fun x26 =>
 jn (fun (h28 : Hs) =>
 jn (fun (x30 : Value) (h31 : Hs) =>
 kI64 .add x22 (Value.int .i64 (.ofNat 1)) (fun x32 =>
 k20 x32 x26 x30 h31)) fun k29 =>
 kFieldA 0 x10 (fun x33 =>
 kLoad x33 (Hs.mk h28.hp h28.nx h28.nx) (fun x34 =>
 kLoads 5 x0 (Hs.mk h28.hp h28.nx h28.nx) (fun x35 =>
 kI64 .add x8 x22 (fun x36 =>
 kCall R 50 [x35, x36] (Hs.mk h28.hp h28.nx h28.nx) (fun v48 u49 => dPut (fun x37 h38 =>
 after (fun v46 u47 => dPut (fun x39 h40 =>
 kFieldA 0 x10 (fun x41 =>
 kStore1 x41 x39 h40 (fun v44 u45 => dPut (fun x42 h43 =>
 k29 x22 h43) v44 (dNext h40 u45 .bar) (andB (dFit h40 u45 .bar) (Nat.ble 0 u45.lo))))) v46 (dNext h38 u47 .bar) (andB (dFit h38 u47 .bar) (Nat.ble 0 u47.lo))) (app0 34 1 8 h38 x34 x37)) v48 (dNext h28 u49 .light) (andB (dFit h28 u49 .light) (Nat.ble 0 u49.lo)))))))) fun k27 =>
 cnd x26
 (k27 h25)
 (k12 x22 x26 x24 h25))) (Value.int .i64 (.ofNat 0)) dunno dunno h11) (oAlloc 65 [(Value.slice none 0 0)] enE h7))))))) (oAlloc 65 [(Value.slice none 0 0)] enE h1)) (oBox 69 (.c a0) enE h0)

theorem q59 (R : RnK) (N : Nat) (args : List Value) (h : Hs) : r59 R N args h = callT Tryz.prog N R 59 args h := by kernel_rfl

/-- lintel/bits.Has -/
noncomputable def r60 (R : RnK) (N : Nat) (args : List Value) (h : Hs) : An := unC args fun a0 sq0 => unC sq0 fun a1 sq1 => enK h fun h0 =>
 after (fun x0 h1 =>
 kLoads 1 x0 h1 (fun x2 =>
 kCall R 47 [x2, a1] h1 (fun x3 h4 =>
 gdT x3 h4 (fun k5 => kFieldA 0 x0 (fun x6 => k5 x6 h4)) (fun x7 h8 =>
 gdT x3 h8 (fun k9 => kLoad x7 h8 (fun x10 => k9 x10 h8)) (fun x11 h12 =>
 gdT x3 h12 (fun k13 => k13 a1 h12) (fun x14 h15 =>
 gdT x3 h15 (fun k16 => kI64 .quo x14 (Value.int .i64 (.ofNat 64)) (fun x17 => k16 x17 h15)) (fun x18 h19 =>
 gdT x3 h19 (fun k20 => kIdxA 1 x11 x18 (fun x21 => k20 x21 h19)) (fun x22 h23 =>
 gdT x3 h23 (fun k24 => kLoad x22 h23 (fun x25 => k24 x25 h23)) (fun x26 h27 =>
 gdT x3 h27 (fun k28 => k28 a1 h27) (fun x29 h30 =>
 gdT x3 h30 (fun k31 => kI64 .rem x29 (Value.int .i64 (.ofNat 64)) (fun x32 => k31 x32 h30)) (fun x33 h34 =>
 gdT x3 h34 (fun k35 => kShr x26 x33 (fun x36 => k35 x36 h34)) (fun x37 h38 =>
 gdT x3 h38 (fun k39 => kU64 .and x37 (Value.int .u64 (.ofNat 1)) (fun x40 => k39 x40 h38)) (fun x41 h42 =>
 gdT x3 h42 (fun k43 => kU64 .eql x41 (Value.int .u64 (.ofNat 1)) (fun x44 => k43 x44 h42)) (fun x45 h46 =>
 after (fun x47 h48 =>
 clrK h x47 h48) (pickB (.c x45) (.c (Value.bool false)) enE h46 x3))))))))))))))) (oBox 65 (.c a0) enE h0)

theorem q60 (R : RnK) (N : Nat) (args : List Value) (h : Hs) : r60 R N args h = callT Tryz.prog N R 60 args h := by kernel_rfl

/-- slices.pdqsortCmpFunc[lintel/check.Finding] -/
noncomputable def r61 (R : RnK) (N : Nat) (args : List Value) (h : Hs) : An := unC args fun a0 sq0 => unC sq0 fun a1 sq1 => unC sq1 fun a2 sq2 => unC sq2 fun a3 sq3 => unC sq3 fun a4 sq4 => enK h fun h0 =>
 jn (fun (x1 x2 x3 x4 x5 x6 x7 x8 x9 x10 x11 x12 x13 x14 x15 x16 x17 x18 x19 x20 x21 x22 : Value) (h23 : Hs) =>
 clrK h (Value.tuple #[]) h23) fun k0 =>
 lpT (T := Value → Value → Value → Value → Value → Value → Value → Value → Value → Value → Value → Value → Value → Value → Value → Value → Value → Value → Value → Value → Value → Value → Hs → An) (fun _ _ _ _ _ _ _ _ _ _ _ _ _ _ _ _ _ _ _ _ _ _ _ => none) N (fun k24 =>
 fun (x26 x27 x28 x29 x30 x31 x32 x33 x34 x35 x36 x37 x38 x39 x40 x41 x42 x43 x44 x45 x46 x47 : Value) (h48 : Hs) =>
 jn (fun (x50 x51 x52 x53 x54 x55 x56 x57 x58 x59 x60 x61 x62 x63 x64 x65 x66 x67 x68 x69 x70 x71 : Value) (h72 : Hs) =>
 k24 x50 x51 x52 x53 x54 x55 x56 x57 x58 x59 x60 x61 x62 x63 x64 x65 x66 x67 x68 x69 x70 x71 h72) fun k49 =>
 kI64 .sub x26 x27 (fun x73 =>
 kI64 .leq x73 (Value.int .i64 (.ofNat 12)) (fun x74 =>
 jn (fun (h76 : Hs) =>
 kI64 .eql x30 (Value.int .i64 (.ofNat 0)) (fun x77 =>
 jn (fun (h79 : Hs) =>
 kNot x32 (fun x80 =>
 jn (fun (x82 : Value) (h83 : Hs) =>
 kCall R 83 [a0, x27, x26, a4] h83 (fun x84 h85 =>
 kExtr x84 0 (fun x86 =>
 kExtr x84 1 (fun x87 =>
 kI64 .eql x87 (Value.int .i64 (.ofNat 2)) (fun x88 =>
 jn (fun (x90 x91 : Value) (h92 : Hs) =>
 gdT x32 h92 (fun k93 => k93 x37 h92) (fun x94 h95 =>
 after (fun x96 h97 =>
 gdT x96 h97 (fun k98 => k98 x90 h97) (fun x99 h100 =>
 gdT x96 h100 (fun k101 => kI64 .eql x99 (Value.int .i64 (.ofNat 1)) (fun x102 => k101 x102 h100)) (fun x103 h104 =>
 after (fun x105 h106 =>
 jn (fun (x108 : Value) (h109 : Hs) =>
 kI64 .gtr x27 (Value.int .i64 (.ofNat 0)) (fun x110 =>
 gdT x110 h109 (fun k111 => k111 a4 h109) (fun x112 _ =>
 gdT x110 h109 (fun k114 => k114 a0 h109) (fun x115 _ =>
 gdT x110 h109 (fun k117 => k117 x27 h109) (fun x118 _ =>
 gdT x110 h109 (fun k120 => kI64 .sub x118 (Value.int .i64 (.ofNat 1)) (fun x121 => k120 x121 h109)) (fun x122 _ =>
 gdT x110 h109 (fun k124 => kIdxA 4 x115 x122 (fun x125 => k124 x125 h109)) (fun x126 _ =>
 gdT x110 h109 (fun k128 => kLoads 4 x126 (Hs.mk h109.hp h109.nx h109.nx) (fun x129 => k128 x129 h109)) (fun x130 _ =>
 gdT x110 h109 (fun k132 => k132 a0 h109) (fun x133 _ =>
 gdT x110 h109 (fun k135 => k135 x91 h109) (fun x136 _ =>
 gdT x110 h109 (fun k138 => kIdxA 4 x133 x136 (fun x139 => k138 x139 h109)) (fun x140 _ =>
 gdT x110 h109 (fun k142 => kLoads 4 x140 (Hs.mk h109.hp h109.nx h109.nx) (fun x143 => k142 x143 h109)) (fun x144 _ =>
 gdT x110 h109 (fun k146 => isVal (fun v147 u148 => dPut k146 v147 (dNext h109 u148 .bar) (andB (dFit h109 u148 .bar) (Nat.ble 0 u148.lo))) (callV (toRn R) [x130, x144] h109 x112)) (fun x149 h150 =>
 gdT x110 h150 (fun k151 => kI64 .lss x149 (Value.int .i64 (.ofNat 0)) (fun x152 => k151 x152 h150)) (fun x153 _ =>
 gdT x110 h150 (fun k155 => kNot x153 (fun x156 => k155 x156 h150)) (fun x157 _ =>
 after (fun v188 u189 => dPut (fun x159 h160 =>
 jn (fun (x162 x163 : Value) (h164 : Hs) =>
 kCall R 87 [a0, x162, x26, x91, a4] h164 (fun x165 h166 =>
 kExtr x165 0 (fun x167 =>
 kExtr x165 1 (fun x168 =>
 kI64 .sub x167 x162 (fun x169 =>
 kI64 .sub x26 x167 (fun x170 =>
 kI64 .quo x73 (Value.int .i64 (.ofNat 8)) (fun x171 =>
 kI64 .lss x169 x170 (fun x172 =>
 jn (fun (x174 x175 x176 : Value) (h177 : Hs) =>
 k49 x174 x175 x73 x74 x82 x77 x176 x80 x90 x88 x91 x168 x105 x108 x159 x163 x168 x167 x169 x170 x172 x171 h177) fun k173 =>
 cnd x172
 (kI64 .geq x169 x171 (fun x178 =>
 kCall R 61 [a0, x162, x167, x82, a4] h166 (fun x179 h180 =>
 kI64 .add x167 (Value.int .i64 (.ofNat 1)) (fun x181 =>
 k173 x26 x181 x178 h180))))
 (kI64 .geq x170 x171 (fun x182 =>
 kI64 .add x167 (Value.int .i64 (.ofNat 1)) (fun x183 =>
 kCall R 61 [a0, x183, x26, x82, a4] h166 (fun x184 h185 =>
 k173 x167 x162 x182 h185)))))))))))) fun k161 =>
 cnd x159
 (kCall R 86 [a0, x27, x26, x91, a4] h160 (fun x186 h187 =>
 k49 x26 x186 x73 x74 x82 x77 x32 x80 x90 x88 x91 x37 x105 x108 x159 x186 x42 x43 x44 x45 x46 x47 h187))
 (k161 x27 x41 h160)) v188 (dNext h150 u189 .blind) (andB (dFit h150 u189 .blind) (Nat.ble 0 u189.lo))) (pickB (.c x157) (.c (Value.bool false)) enE (Hs.mk .e h150.nx h150.nx) x110)))))))))))))))) fun k107 =>
 cnd x105
 (kCall R 85 [a0, x27, x26, a4] h106 (fun x190 h191 =>
 jn (fun (h193 : Hs) =>
 k107 x190 h193) fun k192 =>
 cnd x190
 (clrK h (Value.tuple #[]) h191)
 (k192 h191)))
 (k107 x39 h106)) (pickB (.c x103) (.c (Value.bool false)) enE h104 x96)))) (pickB (.c x94) (.c (Value.bool false)) enE h95 x32))) fun k89 =>
 cnd x88
 (kCall R 84 [a0, x27, x26, a4] h85 (fun x194 h195 =>
 kI64 .sub x26 (Value.int .i64 (.ofNat 1)) (fun x196 =>
 kI64 .sub x86 x27 (fun x197 =>
 kI64 .sub x196 x197 (fun x198 =>
 k89 (Value.int .i64 (.ofNat 1)) x198 h195)))))
 (k89 x87 x86 h85)))))) fun k81 =>
 cnd x80
 (kCall R 82 [a0, x27, x26, a4] h79 (fun x199 h200 =>
 kI64 .sub x30 (Value.int .i64 (.ofNat 1)) (fun x201 =>
 k81 x201 h200)))
 (k81 x30 h79))) fun k78 =>
 cnd x77
 (kCall R 81 [a0, x27, x26, a4] h76 (fun x202 h203 =>
 clrK h (Value.tuple #[]) h203))
 (k78 h76))) fun k75 =>
 cnd x74
 (kCall R 80 [a0, x27, x26, a4] h48 (fun x204 h205 =>
 clrK h (Value.tuple #[]) h205))
 (k75 h48)))) a2 a1 dunno dunno a3 dunno (Value.bool true) dunno dunno dunno dunno (Value.bool true) dunno dunno dunno dunno dunno dunno dunno dunno dunno dunno h0

theorem q61 (R : RnK) (N : Nat) (args : List Value) (h : Hs) : r61 R N args h = callT Tryz.prog N R 61 args h := by kernel_rfl

/-- math/bits.Len -/
noncomputable def r62 (R : RnK) (N : Nat) (args : List Value) (h : Hs) : An := unC args fun a0 sq0 => enK h fun h0 =>
 jn (fun (x1 : Value) (h2 : Hs) =>
 kCall R 89 [a0] h2 (fun x3 h4 =>
 clrK h x3 h4)) fun k0 =>
 cnd (Value.bool false)
 (obK (fun x5 =>
 kCall R 88 [x5] h0 (fun x6 h7 =>
 clrK h x6 h7)) (convI1 .u32 a0))
 (k0 (Value.int .i64 (.ofNat 0)) h0)

theorem q62 (R : RnK) (N : Nat) (args : List Value) (h : Hs) : r62 R N args h = callT Tryz.prog N R 62 args h := by kernel_rfl

/-- lintel/node.free -/
noncomputable def r63 (R : RnK) (N : Nat) (args : List Value) (h : Hs) : An := unC args fun a0 sq0 => enK h fun h0 =>
 after (fun x0 h1 =>
 kFieldA 0 x0 (fun x2 =>
 kLoad x2 h1 (fun x3 =>
 kI64 .eql x3 (Value.int .i64 (.ofNat 0)) (fun x4 =>
 gdT x4 h1 (fun k5 => kFieldA 1 x0 (fun x6 => k5 x6 h1)) (fun x7 h8 =>
 gdT x4 h8 (fun k9 => kLoad x7 h8 (fun x10 => k9 x10 h8)) (fun x11 h12 =>
 gdT x4 h12 (fun k13 => kI64 .eql x11 (Value.int .i64 (.ofNat 0)) (fun x14 => k13 x14 h12)) (fun x15 h16 =>
 after (fun x17 h18 =>
 gdT x17 h18 (fun k19 => kFieldA 2 x0 (fun x20 => k19 x20 h18)) (fun x21 h22 =>
 gdT x17 h22 (fun k23 => kLoad x21 h22 (fun x24 => k23 x24 h22)) (fun x25 h26 =>
 gdT x17 h26 (fun k27 => kI64 .eql x25 (Value.int .i64 (.ofNat 0)) (fun x28 => k27 x28 h26)) (fun x29 h30 =>
 after (fun x31 h32 =>
 gdT x31 h32 (fun k33 => kFieldA 3 x0 (fun x34 => k33 x34 h32)) (fun x35 h36 =>
 gdT x31 h36 (fun k37 => kLoad x35 h36 (fun x38 => k37 x38 h36)) (fun x39 h40 =>
 gdT x31 h40 (fun k41 => kLenV x39 (fun x42 => k41 x42 h40)) (fun x43 h44 =>
 gdT x31 h44 (fun k45 => kI64 .eql x43 (Value.int .i64 (.ofNat 0)) (fun x46 => k45 x46 h44)) (fun x47 h48 =>
 after (fun x49 h50 =>
 clrK h x49 h50) (pickB (.c x47) (.c (Value.bool false)) enE h48 x31)))))) (pickB (.c x29) (.c (Value.bool false)) enE h30 x17))))) (pickB (.c x15) (.c (Value.bool false)) enE h16 x4)))))))) (oBox 43 (.c a0) enE h0)

theorem q63 (R : RnK) (N : Nat) (args : List Value) (h : Hs) : r63 R N args h = callT Tryz.prog N R 63 args h := by kernel_rfl

/-- lintel/node.in -/
noncomputable def r64 (R : RnK) (N : Nat) (args : List Value) (h : Hs) : An := unC args fun a0 sq0 => unC sq0 fun a1 sq1 => unC sq1 fun a2 sq2 => enK h fun h0 =>
 kI64 .geq a0 a1 (fun x0 =>
 gdT x0 h0 (fun k1 => k1 a0 h0) (fun x2 h3 =>
 gdT x0 h3 (fun k4 => k4 a2 h3) (fun x5 h6 =>
 gdT x0 h6 (fun k7 => kI64 .leq x2 x5 (fun x8 => k7 x8 h6)) (fun x9 h10 =>
 after (fun x11 h12 =>
 clrK h x11 h12) (pickB (.c x9) (.c (Value.bool false)) enE h10 x0)))))

theorem q64 (R : RnK) (N : Nat) (args : List Value) (h : Hs) : r64 R N args h = callT Tryz.prog N R 64 args h := by kernel_rfl

/-- slices.ContainsFunc[[]lintel/node.Run,lintel/node.Run] -/
noncomputable def r65 (R : RnK) (N : Nat) (args : List Value) (h : Hs) : An := unC args fun a0 sq0 => unC sq0 fun a1 sq1 => enK h fun h0 =>
 kCall R 90 [a0, a1] h0 (fun x0 h1 =>
 kI64 .geq x0 (Value.int .i64 (.ofNat 0)) (fun x2 =>
 clrK h x2 h1))

theorem q65 (R : RnK) (N : Nat) (args : List Value) (h : Hs) : r65 R N args h = callT Tryz.prog N R 65 args h := by kernel_rfl

/-- lintel/node.fits$1 -/
noncomputable def r66 (R : RnK) (N : Nat) (args : List Value) (h : Hs) : An := unC args fun a0 sq0 => enK h fun h0 =>
 after (fun x0 h1 =>
 kFieldA 0 x0 (fun x2 =>
 kLoad x2 h1 (fun x3 =>
 kCall R 64 [x3, (Value.int .i64 (.ofNat 0)), (Value.int .i64 (.ofNat 2147483648))] h1 (fun x4 h5 =>
 kNot x4 (fun x6 =>
 gdF x6 h5 (fun k7 => kFieldA 1 x0 (fun x8 => k7 x8 h5)) (fun x9 h10 =>
 gdF x6 h10 (fun k11 => kLoad x9 h10 (fun x12 => k11 x12 h10)) (fun x13 h14 =>
 gdF x6 h14 (fun k15 => kCall R 64 [x13, (Value.int .i64 (.ofNat 1)), (Value.int .i64 (.ofNat 2147483648))] h14 (k15)) (fun x16 h17 =>
 gdF x6 h17 (fun k18 => kNot x16 (fun x19 => k18 x19 h17)) (fun x20 h21 =>
 after (fun x22 h23 =>
 clrK h x22 h23) (pickB (.c (Value.bool true)) (.c x20) enE h21 x6)))))))))) (oBox 40 (.c a0) enE h0)

theorem q66 (R : RnK) (N : Nat) (args : List Value) (h : Hs) : r66 R N args h = callT Tryz.prog N R 66 args h := by kernel_rfl

/-- lintel/seal.On -/
noncomputable def r67 (R : RnK) (N : Nat) (args : List Value) (h : Hs) : An := unC args fun a0 sq0 => unC sq0 fun a1 sq1 => enK h fun h0 =>
 kLenV a1 (fun x0 =>
 jn (fun (x2 x3 x4 x5 : Value) (h6 : Hs) =>
 clrK h x4 h6) fun k1 =>
 lpT (T := Value → Value → Value → Value → Hs → An) (fun _ _ _ _ _ => none) N (fun k7 =>
 fun (x9 x10 x11 x12 : Value) (h13 : Hs) =>
 kI64 .lss x9 x0 (fun x14 =>
 jn (fun (h16 : Hs) =>
 jn (fun (x18 x19 : Value) (h20 : Hs) =>
 kI64 .add x9 (Value.int .i64 (.ofNat 1)) (fun x21 =>
 k7 x21 x14 x18 x19 h20)) fun k17 =>
 kIdxA 1 a1 x9 (fun x22 =>
 kLoad x22 h16 (fun x23 =>
 kCall R 91 [x11, (Value.int .i64 (.ofNat 9))] h16 (fun x24 h25 =>
 kU64 .xor x24 x23 (fun x26 =>
 k17 x26 x23 h25))))) fun k15 =>
 cnd x14
 (k15 h13)
 (k1 x9 x14 x11 x12 h13))) (Value.int .i64 (.ofNat 0)) dunno a0 dunno h0)

theorem q67 (R : RnK) (N : Nat) (args : List Value) (h : Hs) : r67 R N args h = callT Tryz.prog N R 67 args h := by kernel_rfl

/-- lintel/slot.named -/
noncomputable def r68 (R : RnK) (N : Nat) (args : List Value) (h : Hs) : An := unC args fun a0 sq0 => enK h fun h0 =>
 kLenS a0 (fun x0 =>
 kI64 .geq x0 (Value.int .i64 (.ofNat 1)) (fun x1 =>
 gdT x1 h0 (fun k2 => k2 a0 h0) (fun x3 h4 =>
 gdT x1 h4 (fun k5 => kLenS x3 (fun x6 => k5 x6 h4)) (fun x7 h8 =>
 gdT x1 h8 (fun k9 => kI64 .leq x7 (Value.int .i64 (.ofNat 40)) (fun x10 => k9 x10 h8)) (fun x11 h12 =>
 after (fun x13 h14 =>
 gdT x13 h14 (fun k15 => k15 a0 h14) (fun x16 h17 =>
 gdT x13 h17 (fun k18 => obK (fun x19 => k18 x19 h17) (s2 .neq x16 (Value.string ⟨#[46]⟩))) (fun x20 h21 =>
 after (fun x22 h23 =>
 gdT x22 h23 (fun k24 => k24 a0 h23) (fun x25 h26 =>
 gdT x22 h26 (fun k27 => obK (fun x28 => k27 x28 h26) (s2 .neq x25 (Value.string ⟨#[46, 46]⟩))) (fun x29 h30 =>
 after (fun x31 h32 =>
 gdT x31 h32 (fun k33 => k33 a0 h32) (fun x34 h35 =>
 gdT x31 h35 (fun k36 => kCall R 92 [x34, (Value.string ⟨#[47]⟩)] h35 (k36)) (fun x37 h38 =>
 gdT x31 h38 (fun k39 => kNot x37 (fun x40 => k39 x40 h38)) (fun x41 h42 =>
 after (fun x43 h44 =>
 gdT x43 h44 (fun k45 => k45 a0 h44) (fun x46 h47 =>
 gdT x43 h47 (fun k48 => kCall R 92 [x46, (Value.string ⟨#[0]⟩)] h47 (k48)) (fun x49 h50 =>
 gdT x43 h50 (fun k51 => kNot x49 (fun x52 => k51 x52 h50)) (fun x53 h54 =>
 after (fun x55 h56 =>
 clrK h x55 h56) (pickB (.c x53) (.c (Value.bool false)) enE h54 x43))))) (pickB (.c x41) (.c (Value.bool false)) enE h42 x31))))) (pickB (.c x29) (.c (Value.bool false)) enE h30 x22)))) (pickB (.c x20) (.c (Value.bool false)) enE h21 x13)))) (pickB (.c x11) (.c (Value.bool false)) enE h12 x1))))))

theorem q68 (R : RnK) (N : Nat) (args : List Value) (h : Hs) : r68 R N args h = callT Tryz.prog N R 68 args h := by kernel_rfl

/-- internal/strconv.Itoa -/
noncomputable def r69 (R : RnK) (N : Nat) (args : List Value) (h : Hs) : An := unC args fun a0 sq0 => enK h fun h0 =>
 kCall R 93 [a0, (Value.int .i64 (.ofNat 10))] h0 (fun x0 h1 =>
 clrK h x0 h1)

theorem q69 (R : RnK) (N : Nat) (args : List Value) (h : Hs) : r69 R N args h = callT Tryz.prog N R 69 args h := by kernel_rfl

/-- (*strings.Builder).Grow -/
noncomputable def r70 (R : RnK) (N : Nat) (args : List Value) (h : Hs) : An := unC args fun a0 sq0 => unC sq0 fun a1 sq1 => enK h fun h0 =>
 kCall R 94 [a0] h0 (fun x0 h1 =>
 kI64 .lss a1 (Value.int .i64 (.ofNat 0)) (fun x2 =>
 jn (fun (h4 : Hs) =>
 kNil a0 (fun x5 =>
 kFieldA 1 x5 (fun x6 =>
 kLoad x6 (Hs.mk h4.hp h4.nx h4.nx) (fun x7 =>
 after (fun v20 u21 => dPut (fun x8 h9 =>
 kNil a0 (fun x10 =>
 kFieldA 1 x10 (fun x11 =>
 kLoad x11 (dHidS .light [true, true, true, false, false, false, false, false] [none, none, none, some (h4.nx, h9.nx), none, none, none, none] h9) (fun x12 =>
 kLenV x12 (fun x13 =>
 kI64 .sub x8 x13 (fun x14 =>
 kI64 .lss x14 a1 (fun x15 =>
 jn (fun (h17 : Hs) =>
 clrK h (Value.tuple #[]) h17) fun k16 =>
 cnd x15
 (kCall R 95 [a0, a1] h9 (fun x18 h19 =>
 k16 h19))
 (k16 h9)))))))) v20 (dNext h4 u21 .blind) (andB (dFit h4 u21 .blind) (Nat.ble 0 u21.lo))) (oCapV (.c x7) enE (Hs.mk .e h4.nx h4.nx)))))) fun k3 =>
 cnd x2
 (after (fun x22 h23 =>
 none) (oMkface 9 (.c (Value.string ⟨#[115, 116, 114, 105, 110, 103, 115, 46, 66, 117, 105, 108, 100, 101, 114, 46, 71, 114, 111, 119, 58, 32, 110, 101, 103, 97, 116, 105, 118, 101, 32, 99, 111, 117, 110, 116]⟩)) enE h1))
 (k3 h1)))

theorem q70 (R : RnK) (N : Nat) (args : List Value) (h : Hs) : r70 R N args h = callT Tryz.prog N R 70 args h := by kernel_rfl

/-- (*strings.Builder).WriteString -/
noncomputable def r71 (R : RnK) (N : Nat) (args : List Value) (h : Hs) : An := unC args fun a0 sq0 => unC sq0 fun a1 sq1 => enK h fun h0 =>
 kCall R 94 [a0] h0 (fun x0 h1 =>
 kNil a0 (fun x2 =>
 kFieldA 1 x2 (fun x3 =>
 kLoad x3 h1 (fun x4 =>
 after (fun x5 h6 =>
 kNil a0 (fun x7 =>
 kFieldA 1 x7 (fun x8 =>
 kStore1 x8 x5 h6 (fun x9 h10 =>
 kLenS a1 (fun x11 =>
 clrK h (Value.tuple #[x11, Value.nilIface]) h10))))) (oAppendS 5 1 (.c x4) (.c a1) enE h1)))))

theorem q71 (R : RnK) (N : Nat) (args : List Value) (h : Hs) : r71 R N args h = callT Tryz.prog N R 71 args h := by kernel_rfl

/-- (*strings.Builder).String -/
noncomputable def r72 (R : RnK) (N : Nat) (args : List Value) (h : Hs) : An := unC args fun a0 sq0 => enK h fun h0 =>
 kNil a0 (fun x0 =>
 kFieldA 1 x0 (fun x1 =>
 kLoad x1 (Hs.mk h0.hp h0.nx h0.nx) (fun x2 =>
 after (fun v13 u14 => dPut (fun x3 h4 =>
 kNil a0 (fun x5 =>
 kFieldA 1 x5 (fun x6 =>
 kLoad x6 (dHidS .light [true, true, true, false, false, false, false, false] [none, none, none, some (h0.nx, h4.nx), none, none, none, none] h4) (fun x7 =>
 kLenV x7 (fun x8 =>
 after (fun v11 u12 => dPut (fun x9 h10 =>
 clrK h x9 h10) v11 (dNext h4 u12 .bar) (andB (dFit h4 u12 .bar) (Nat.ble 0 u12.lo))) (ustr1 5 h4 x3 (nat64 x8))))))) v13 (dNext h0 u14 .light) (andB (dFit h0 u14 .light) (Nat.ble 0 u14.lo))) (ret1 (Hs.mk h0.hp h0.nx h0.nx) (sdata1 x2)))))

theorem q72 (R : RnK) (N : Nat) (args : List Value) (h : Hs) : r72 R N args h = callT Tryz.prog N R 72 args h := by kernel_rfl

/-- slices.Equal[[]uint64,uint64] -/
noncomputable def r73 (R : RnK) (N : Nat) (args : List Value) (h : Hs) : An := unC args fun a0 sq0 => unC sq0 fun a1 sq1 => enK h fun h0 =>
 kLenV a0 (fun x0 =>
 kLenV a1 (fun x1 =>
 kI64 .neq x0 x1 (fun x2 =>
 jn (fun (x4 : Value) (h5 : Hs) =>
 kLenV a0 (fun x6 =>
 jn (fun (x8 x9 x10 x11 x12 : Value) (h13 : Hs) =>
 clrK h (Value.bool true) h13) fun k7 =>
 lpT (T := Value → Value → Value → Value → Value → Hs → An) (fun _ _ _ _ _ _ => none) N (fun k14 =>
 fun (x16 x17 x18 x19 x20 : Value) (h21 : Hs) =>
 kI64 .lss x16 x6 (fun x22 =>
 jn (fun (h24 : Hs) =>
 jn (fun (x26 x27 x28 : Value) (h29 : Hs) =>
 kI64 .add x16 (Value.int .i64 (.ofNat 1)) (fun x30 =>
 k14 x30 x22 x26 x27 x28 h29)) fun k25 =>
 kIdxA 1 a0 x16 (fun x31 =>
 kLoad x31 (Hs.mk h24.hp h24.nx h24.nx) (fun x32 =>
 kIdxA 1 a1 x16 (fun x33 =>
 kLoad x33 (Hs.mk h24.hp h24.nx h24.nx) (fun x34 =>
 kU64 .neq x32 x34 (fun x35 =>
 jn (fun (x37 : Value) (h38 : Hs) =>
 k25 x16 x35 x37 h38) fun k36 =>
 cnd x35
 (clrK h (Value.bool false) h24)
 (k36 x20 h24))))))) fun k23 =>
 cnd x22
 (k23 h21)
 (k7 x16 x22 x18 x19 x20 h21))) (Value.int .i64 (.ofNat 0)) dunno dunno dunno x4 h5)) fun k3 =>
 cnd x2
 (clrK h (Value.bool false) h0)
 (k3 (Value.bool false) h0))))

theorem q73 (R : RnK) (N : Nat) (args : List Value) (h : Hs) : r73 R N args h = callT Tryz.prog N R 73 args h := by kernel_rfl

/-- lintel/node.sized -/
noncomputable def r74 (R : RnK) (N : Nat) (args : List Value) (h : Hs) : An := unC args fun a0 sq0 => unC sq0 fun a1 sq1 => enK h fun h0 =>
 after (fun x0 h1 =>
 after (fun x2 h3 =>
 kFieldA 0 x2 (fun x4 =>
 kLoad x4 h3 (fun x5 =>
 jn (fun (x7 x8 x9 : Value) (h10 : Hs) =>
 kFieldA 2 x2 (fun x11 =>
 kLoad x11 h10 (fun x12 =>
 kCall R 64 [x12, (Value.int .i64 (.ofNat 1)), (Value.int .i64 (.ofNat 400))] h10 (fun x13 h14 =>
 clrK h x13 h14)))) fun k6 =>
 kI64 .eql x5 (Value.int .i64 (.ofNat 1)) (fun x15 =>
 jn (fun (x17 x18 : Value) (h19 : Hs) =>
 k6 x15 x17 x18 h19) fun k16 =>
 cnd x15
 (kFieldA 2 x2 (fun x20 =>
 kLoad x20 h3 (fun x21 =>
 kCall R 64 [x21, (Value.int .i64 (.ofNat 0)), (Value.int .i64 (.ofNat 4096))] h3 (fun x22 h23 =>
 clrK h x22 h23))))
 (kI64 .eql x5 (Value.int .i64 (.ofNat 2)) (fun x24 =>
 jn (fun (x26 : Value) (h27 : Hs) =>
 k16 x24 x26 h27) fun k25 =>
 cnd x24
 (kFieldA 2 x2 (fun x28 =>
 kLoad x28 h3 (fun x29 =>
 kFieldA 0 x0 (fun x30 =>
 kLoad x30 h3 (fun x31 =>
 after (fun x32 h33 =>
 kCall R 64 [x29, (Value.int .i64 (.ofNat 0)), x32] h33 (fun x34 h35 =>
 clrK h x34 h35)) (oMinmax false [.c x31, .c (Value.int .i64 (.ofNat 4096))] enE h3))))))
 (k25 (Value.bool false) h3))))))) (oBox 43 (.c a1) enE h1)) (oBox 24 (.c a0) enE h0)

theorem q74 (R : RnK) (N : Nat) (args : List Value) (h : Hs) : r74 R N args h = callT Tryz.prog N R 74 args h := by kernel_rfl

/-- lintel/node.placed -/
noncomputable def r75 (R : RnK) (N : Nat) (args : List Value) (h : Hs) : An := unC args fun a0 sq0 => unC sq0 fun a1 sq1 => enK h fun h0 =>
 after (fun x0 h1 =>
 after (fun x2 h3 =>
 kLoads 4 x0 h3 (fun x4 =>
 kCall R 18 [x4] h3 (fun x5 h6 =>
 kExtr x5 0 (fun x7 =>
 kExtr x5 1 (fun x8 =>
 kFieldA 0 x2 (fun x9 =>
 kLoad x9 h6 (fun x10 =>
 kI64 .eql x10 (Value.int .i64 (.ofNat 2)) (fun x11 =>
 gdT x11 h6 (fun k12 => kFieldA 3 x2 (fun x13 => k12 x13 h6)) (fun x14 h15 =>
 gdT x11 h15 (fun k16 => kLoad x14 h15 (fun x17 => k16 x17 h15)) (fun x18 h19 =>
 gdT x11 h19 (fun k20 => k20 x7 h19) (fun x21 h22 =>
 gdT x11 h22 (fun k23 => k23 x8 h22) (fun x24 h25 =>
 gdT x11 h25 (fun k26 => after (k26) (oBuild [(Value.int .i64 (.ofNat 0)), (Value.int .i64 (.ofNat 0))] [(0, 1, .c x21), (1, 1, .c x24)] enE h25)) (fun x27 h28 =>
 gdT x11 h28 (fun k29 => after (k29) (oMkrow 40 2 1 [(Value.int .i64 (.ofNat 0)), (Value.int .i64 (.ofNat 0))] [(0, 2, .c x27)] enE h28)) (fun x30 h31 =>
 gdT x11 h31 (fun k32 => kCall R 78 [x18, x30] h31 (k32)) (fun x33 h34 =>
 after (fun x35 h36 =>
 jn (fun (x38 : Value) (h39 : Hs) =>
 kLoads 4 x0 h39 (fun x40 =>
 kCall R 22 [x40] h39 (fun x41 h42 =>
 kExtr x41 0 (fun x43 =>
 kExtr x41 1 (fun x44 =>
 kFieldA 3 x2 (fun x45 =>
 kLoad x45 h42 (fun x46 =>
 kLenV x46 (fun x47 =>
 jn (fun (x49 x50 x51 x52 x53 x54 x55 x56 x57 x58 x59 x60 : Value) (h61 : Hs) =>
 clrK h (Value.bool true) h61) fun k48 =>
 lpT (T := Value → Value → Value → Value → Value → Value → Value → Value → Value → Value → Value → Value → Hs → An) (fun _ _ _ _ _ _ _ _ _ _ _ _ _ => none) N (fun k62 =>
 fun (x64 x65 x66 x67 x68 x69 x70 x71 x72 x73 x74 x75 : Value) (h76 : Hs) =>
 kI64 .lss x64 x47 (fun x77 =>
 jn (fun (h79 : Hs) =>
 jn (fun (x81 x82 x83 x84 x85 x86 x87 x88 x89 x90 : Value) (h91 : Hs) =>
 kI64 .add x64 (Value.int .i64 (.ofNat 1)) (fun x92 =>
 k62 x92 x77 x81 x82 x83 x84 x85 x86 x87 x88 x89 x90 h91)) fun k80 =>
 kIdxA 2 x46 x64 (fun x93 =>
 kLoads 2 x93 h79 (fun x94 =>
 after (fun x95 h96 =>
 after (fun x97 h98 =>
 kFieldA 1 x95 (fun x99 =>
 kLoad x99 h98 (fun x100 =>
 kI64 .lss x100 (Value.int .i64 (.ofNat 1)) (fun x101 =>
 gdF x101 h98 (fun k102 => kFieldA 0 x95 (fun x103 => k102 x103 h98)) (fun x104 h105 =>
 gdF x101 h105 (fun k106 => kLoad x104 h105 (fun x107 => k106 x107 h105)) (fun x108 h109 =>
 gdF x101 h109 (fun k110 => k110 x43 h109) (fun x111 h112 =>
 gdF x101 h112 (fun k113 => kI64 .lss x108 x111 (fun x114 => k113 x114 h112)) (fun x115 h116 =>
 after (fun x117 h118 =>
 gdF x117 h118 (fun k119 => kFieldA 0 x95 (fun x120 => k119 x120 h118)) (fun x121 h122 =>
 gdF x117 h122 (fun k123 => kLoad x121 h122 (fun x124 => k123 x124 h122)) (fun x125 h126 =>
 gdF x117 h126 (fun k127 => k127 x43 h126) (fun x128 h129 =>
 gdF x117 h129 (fun k130 => kI64 .sub x125 x128 (fun x131 => k130 x131 h129)) (fun x132 h133 =>
 gdF x117 h133 (fun k134 => k134 x44 h133) (fun x135 h136 =>
 gdF x117 h136 (fun k137 => kI64 .geq x132 x135 (fun x138 => k137 x138 h136)) (fun x139 h140 =>
 after (fun x141 h142 =>
 gdF x141 h142 (fun k143 => kFieldA 1 x95 (fun x144 => k143 x144 h142)) (fun x145 h146 =>
 gdF x141 h146 (fun k147 => kLoad x145 h146 (fun x148 => k147 x148 h146)) (fun x149 h150 =>
 gdF x141 h150 (fun k151 => k151 x44 h150) (fun x152 h153 =>
 gdF x141 h153 (fun k154 => kFieldA 0 x95 (fun x155 => k154 x155 h153)) (fun x156 h157 =>
 gdF x141 h157 (fun k158 => kLoad x156 h157 (fun x159 => k158 x159 h157)) (fun x160 h161 =>
 gdF x141 h161 (fun k162 => k162 x43 h161) (fun x163 h164 =>
 gdF x141 h164 (fun k165 => kI64 .sub x160 x163 (fun x166 => k165 x166 h164)) (fun x167 h168 =>
 gdF x141 h168 (fun k169 => kI64 .sub x152 x167 (fun x170 => k169 x170 h168)) (fun x171 h172 =>
 gdF x141 h172 (fun k173 => kI64 .gtr x149 x171 (fun x174 => k173 x174 h172)) (fun x175 h176 =>
 after (fun x177 h178 =>
 jn (fun (x180 : Value) (h181 : Hs) =>
 kFieldA 3 x2 (fun x182 =>
 kLoad x182 h181 (fun x183 =>
 after (fun x184 h185 =>
 kLenV x184 (fun x186 =>
 jn (fun (x188 x189 x190 x191 x192 : Value) (h193 : Hs) =>
 k80 x95 x177 x64 x188 x186 x189 x184 x190 x191 x192 h193) fun k187 =>
 lpT (T := Value → Value → Value → Value → Value → Hs → An) (fun _ _ _ _ _ _ => none) N (fun k194 =>
 fun (x196 x197 x198 x199 x200 : Value) (h201 : Hs) =>
 kI64 .lss x196 x186 (fun x202 =>
 jn (fun (h204 : Hs) =>
 jn (fun (x206 x207 x208 : Value) (h209 : Hs) =>
 kI64 .add x196 (Value.int .i64 (.ofNat 1)) (fun x210 =>
 k194 x210 x202 x206 x207 x208 h209)) fun k205 =>
 kIdxA 2 x184 x196 (fun x211 =>
 kLoads 2 x211 h204 (fun x212 =>
 after (fun x213 h214 =>
 after (fun x215 h216 =>
 kFieldA 0 x95 (fun x217 =>
 kLoad x217 h216 (fun x218 =>
 kFieldA 0 x213 (fun x219 =>
 kLoad x219 h216 (fun x220 =>
 kFieldA 1 x213 (fun x221 =>
 kLoad x221 h216 (fun x222 =>
 kI64 .add x220 x222 (fun x223 =>
 kI64 .lss x218 x223 (fun x224 =>
 gdT x224 h216 (fun k225 => kFieldA 0 x213 (fun x226 => k225 x226 h216)) (fun x227 h228 =>
 gdT x224 h228 (fun k229 => kLoad x227 h228 (fun x230 => k229 x230 h228)) (fun x231 h232 =>
 gdT x224 h232 (fun k233 => kFieldA 0 x95 (fun x234 => k233 x234 h232)) (fun x235 h236 =>
 gdT x224 h236 (fun k237 => kLoad x235 h236 (fun x238 => k237 x238 h236)) (fun x239 h240 =>
 gdT x224 h240 (fun k241 => kFieldA 1 x95 (fun x242 => k241 x242 h240)) (fun x243 h244 =>
 gdT x224 h244 (fun k245 => kLoad x243 h244 (fun x246 => k245 x246 h244)) (fun x247 h248 =>
 gdT x224 h248 (fun k249 => kI64 .add x239 x247 (fun x250 => k249 x250 h248)) (fun x251 h252 =>
 gdT x224 h252 (fun k253 => kI64 .lss x231 x251 (fun x254 => k253 x254 h252)) (fun x255 h256 =>
 after (fun x257 h258 =>
 jn (fun (x260 : Value) (h261 : Hs) =>
 k205 x213 x257 x260 h261) fun k259 =>
 cnd x257
 (clrK h (Value.bool false) h258)
 (k259 x200 h258)) (pickB (.c x255) (.c (Value.bool false)) enE h256 x224)))))))))))))))))) (store1 2 h214 (cellsL x212) (addrOf x213))) (oAlloc 40 [(Value.int .i64 (.ofNat 0)), (Value.int .i64 (.ofNat 0))] enE h204)))) fun k203 =>
 cnd x202
 (k203 h201)
 (k187 x196 x202 x198 x199 x200 h201))) (Value.int .i64 (.ofNat 0)) x71 x73 x74 x180 h185)) (oSlice 2 (.c x183) none (some (.c x64)) none enE h181)))) fun k179 =>
 cnd x177
 (clrK h (Value.bool false) h178)
 (k179 x75 h178)) (pickB (.c (Value.bool true)) (.c x175) enE h176 x141))))))))))) (pickB (.c (Value.bool true)) (.c x139) enE h140 x117)))))))) (pickB (.c (Value.bool true)) (.c x115) enE h116 x101))))))))) (store1 2 h96 (cellsL x94) (addrOf x95))) (oAlloc 40 [(Value.int .i64 (.ofNat 0)), (Value.int .i64 (.ofNat 0))] enE h79)))) fun k78 =>
 cnd x77
 (k78 h76)
 (k48 x64 x77 x66 x67 x68 x69 x70 x71 x72 x73 x74 x75 h76))) (Value.int .i64 (.ofNat 0)) dunno dunno dunno dunno dunno dunno dunno dunno dunno dunno x38 h42)))))))) fun k37 =>
 cnd x35
 (clrK h (Value.bool true) h36)
 (k37 (Value.bool false) h36)) (pickB (.c x33) (.c (Value.bool false)) enE h34 x11)))))))))))))))) (oBox 43 (.c a1) enE h1)) (oBox 24 (.c a0) enE h0)

theorem q75 (R : RnK) (N : Nat) (args : List Value) (h : Hs) : r75 R N args h = callT Tryz.prog N R 75 args h := by kernel_rfl

/-- lintel/node.Blocks -/
noncomputable def r76 (R : RnK) (N : Nat) (args : List Value) (h : Hs) : An := unC args fun a0 sq0 => enK h fun h0 =>
 after (fun x0 h1 =>
 kFieldA 3 x0 (fun x2 =>
 kLoad x2 h1 (fun x3 =>
 kLenV x3 (fun x4 =>
 jn (fun (x6 x7 x8 x9 : Value) (h10 : Hs) =>
 clrK h x8 h10) fun k5 =>
 lpT (T := Value → Value → Value → Value → Hs → An) (fun _ _ _ _ _ => none) N (fun k11 =>
 fun (x13 x14 x15 x16 : Value) (h17 : Hs) =>
 kI64 .lss x13 x4 (fun x18 =>
 jn (fun (h20 : Hs) =>
 jn (fun (x22 x23 : Value) (h24 : Hs) =>
 kI64 .add x13 (Value.int .i64 (.ofNat 1)) (fun x25 =>
 k11 x25 x18 x22 x23 h24)) fun k21 =>
 kIdxA 2 x3 x13 (fun x26 =>
 kLoads 2 x26 h20 (fun x27 =>
 after (fun x28 h29 =>
 after (fun x30 h31 =>
 kFieldA 1 x28 (fun x32 =>
 kLoad x32 h31 (fun x33 =>
 kI64 .add x15 x33 (fun x34 =>
 k21 x34 x28 h31)))) (store1 2 h29 (cellsL x27) (addrOf x28))) (oAlloc 40 [(Value.int .i64 (.ofNat 0)), (Value.int .i64 (.ofNat 0))] enE h20)))) fun k19 =>
 cnd x18
 (k19 h17)
 (k5 x13 x18 x15 x16 h17))) (Value.int .i64 (.ofNat 0)) dunno (Value.int .i64 (.ofNat 0)) dunno h1)))) (oBox 43 (.c a0) enE h0)

theorem q76 (R : RnK) (N : Nat) (args : List Value) (h : Hs) : r76 R N args h = callT Tryz.prog N R 76 args h := by kernel_rfl

/-- lintel/node.Needs -/
noncomputable def r77 (R : RnK) (N : Nat) (args : List Value) (h : Hs) : An := unC args fun a0 sq0 => enK h fun h0 =>
 after (fun x0 h1 =>
 jn (fun (x3 x4 x5 x6 : Value) (h7 : Hs) =>
 clrK h (Value.int .i64 (.ofNat 0)) h7) fun k2 =>
 kFieldA 2 x0 (fun x8 =>
 kLoad x8 h1 (fun x9 =>
 kI64 .lss x9 (Value.int .i64 (.ofNat 0)) (fun x10 =>
 jn (fun (x12 x13 x14 : Value) (h15 : Hs) =>
 k2 x10 x12 x13 x14 h15) fun k11 =>
 cnd x10
 (clrK h (Value.int .i64 (.ofNat 0)) h1)
 (kFieldA 0 x0 (fun x16 =>
 kLoad x16 h1 (fun x17 =>
 kI64 .eql x17 (Value.int .i64 (.ofNat 2)) (fun x18 =>
 jn (fun (x20 x21 : Value) (h22 : Hs) =>
 k11 x18 x20 x21 h22) fun k19 =>
 cnd x18
 (kFieldA 2 x0 (fun x23 =>
 kLoad x23 h1 (fun x24 =>
 clrK h x24 h1)))
 (kFieldA 0 x0 (fun x25 =>
 kLoad x25 h1 (fun x26 =>
 kI64 .eql x26 (Value.int .i64 (.ofNat 1)) (fun x27 =>
 jn (fun (x29 : Value) (h30 : Hs) =>
 jn (fun (x32 : Value) (h33 : Hs) =>
 k19 x29 x32 h33) fun k31 =>
 cnd x29
 (kFieldA 2 x0 (fun x34 =>
 kLoad x34 h30 (fun x35 =>
 kI64 .quo x35 (Value.int .i64 (.ofNat 64)) (fun x36 =>
 kFieldA 2 x0 (fun x37 =>
 kLoad x37 h30 (fun x38 =>
 kI64 .rem x38 (Value.int .i64 (.ofNat 64)) (fun x39 =>
 after (fun x40 h41 =>
 kI64 .add x36 x40 (fun x42 =>
 clrK h x42 h41)) (oMinmax false [.c x39, .c (Value.int .i64 (.ofNat 1))] enE h30))))))))
 (k31 (Value.int .i64 (.ofNat 0)) h30)) fun k28 =>
 cnd x27
 (k28 x27 h1)
 (kFieldA 0 x0 (fun x43 =>
 kLoad x43 h1 (fun x44 =>
 kI64 .eql x44 (Value.int .i64 (.ofNat 3)) (fun x45 =>
 k28 x45 h1)))))))))))))))) (oBox 43 (.c a0) enE h0)

theorem q77 (R : RnK) (N : Nat) (args : List Value) (h : Hs) : r77 R N args h = callT Tryz.prog N R 77 args h := by kernel_rfl

/-- slices.Equal[[]lintel/node.Run,lintel/node.Run] -/
noncomputable def r78 (R : RnK) (N : Nat) (args : List Value) (h : Hs) : An := unC args fun a0 sq0 => unC sq0 fun a1 sq1 => enK h fun h0 =>
 kLenV a0 (fun x0 =>
 kLenV a1 (fun x1 =>
 kI64 .neq x0 x1 (fun x2 =>
 jn (fun (x4 : Value) (h5 : Hs) =>
 kLenV a0 (fun x6 =>
 jn (fun (x8 x9 x10 x11 x12 : Value) (h13 : Hs) =>
 clrK h (Value.bool true) h13) fun k7 =>
 lpT (T := Value → Value → Value → Value → Value → Hs → An) (fun _ _ _ _ _ _ => none) N (fun k14 =>
 fun (x16 x17 x18 x19 x20 : Value) (h21 : Hs) =>
 kI64 .lss x16 x6 (fun x22 =>
 jn (fun (h24 : Hs) =>
 jn (fun (x26 x27 x28 : Value) (h29 : Hs) =>
 kI64 .add x16 (Value.int .i64 (.ofNat 1)) (fun x30 =>
 k14 x30 x22 x26 x27 x28 h29)) fun k25 =>
 kIdxA 2 a0 x16 (fun x31 =>
 kLoads 2 x31 (Hs.mk h24.hp h24.nx h24.nx) (fun x32 =>
 kIdxA 2 a1 x16 (fun x33 =>
 kLoads 2 x33 (Hs.mk h24.hp h24.nx h24.nx) (fun x34 =>
 obK (fun x35 =>
 jn (fun (x37 : Value) (h38 : Hs) =>
 k25 x16 x35 x37 h38) fun k36 =>
 cnd x35
 (clrK h (Value.bool false) h24)
 (k36 x20 h24)) (e2 true (qA [.i, .i]) x32 x34)))))) fun k23 =>
 cnd x22
 (k23 h21)
 (k7 x16 x22 x18 x19 x20 h21))) (Value.int .i64 (.ofNat 0)) dunno dunno dunno x4 h5)) fun k3 =>
 cnd x2
 (clrK h (Value.bool false) h0)
 (k3 (Value.bool false) h0))))

theorem q78 (R : RnK) (N : Nat) (args : List Value) (h : Hs) : r78 R N args h = callT Tryz.prog N R 78 args h := by kernel_rfl

/-- (*strings.Builder).WriteByte -/
noncomputable def r79 (R : RnK) (N : Nat) (args : List Value) (h : Hs) : An := unC args fun a0 sq0 => unC sq0 fun a1 sq1 => enK h fun h0 =>
 kCall R 94 [a0] h0 (fun x0 h1 =>
 kNil a0 (fun x2 =>
 kFieldA 1 x2 (fun x3 =>
 kLoad x3 h1 (fun x4 =>
 after (fun x5 h6 =>
 after (fun x7 h8 =>
 kNil a0 (fun x9 =>
 kFieldA 1 x9 (fun x10 =>
 kStore1 x10 x7 h8 (fun x11 h12 =>
 clrK h Value.nilIface h12)))) (app0 5 1 1 h6 x4 x5)) (oMkrow 5 1 1 [(Value.int .u8 (.ofNat 0))] [(0, 1, .c a1)] enE h1)))))

theorem q79 (R : RnK) (N : Nat) (args : List Value) (h : Hs) : r79 R N args h = callT Tryz.prog N R 79 args h := by kernel_rfl

/-- slices.insertionSortCmpFunc[lintel/check.Finding] -/
noncomputable def r80 (R : RnK) (N : Nat) (args : List Value) (h : Hs) : An := unC args fun a0 sq0 => unC sq0 fun a1 sq1 => unC sq1 fun a2 sq2 => unC sq2 fun a3 sq3 => enK h fun h0 =>
 kI64 .add a1 (Value.int .i64 (.ofNat 1)) (fun x0 =>
 jn (fun (x2 x3 x4 x5 : Value) (h6 : Hs) =>
 clrK h (Value.tuple #[]) h6) fun k1 =>
 lpT (T := Value → Value → Value → Value → Hs → An) (fun _ _ _ _ _ => none) N (fun k7 =>
 fun (x9 x10 x11 x12 : Value) (h13 : Hs) =>
 kI64 .lss x9 a2 (fun x14 =>
 jn (fun (h16 : Hs) =>
 jn (fun (x18 x19 : Value) (h20 : Hs) =>
 kI64 .add x9 (Value.int .i64 (.ofNat 1)) (fun x21 =>
 k7 x21 x14 x18 x19 h20)) fun k17 =>
 jn (fun (x23 x24 : Value) (h25 : Hs) =>
 k17 x23 x24 h25) fun k22 =>
 lpT (T := Value → Value → Hs → An) (fun _ _ _ => none) N (fun k26 =>
 fun (x28 x29 : Value) (h30 : Hs) =>
 kI64 .gtr x28 a1 (fun x31 =>
 gdT x31 h30 (fun k32 => k32 a3 h30) (fun x33 _ =>
 gdT x31 h30 (fun k35 => k35 a0 h30) (fun x36 _ =>
 gdT x31 h30 (fun k38 => k38 x28 h30) (fun x39 _ =>
 gdT x31 h30 (fun k41 => kIdxA 4 x36 x39 (fun x42 => k41 x42 h30)) (fun x43 _ =>
 gdT x31 h30 (fun k45 => kLoads 4 x43 (Hs.mk h30.hp h30.nx h30.nx) (fun x46 => k45 x46 h30)) (fun x47 _ =>
 gdT x31 h30 (fun k49 => k49 a0 h30) (fun x50 _ =>
 gdT x31 h30 (fun k52 => k52 x28 h30) (fun x53 _ =>
 gdT x31 h30 (fun k55 => kI64 .sub x53 (Value.int .i64 (.ofNat 1)) (fun x56 => k55 x56 h30)) (fun x57 _ =>
 gdT x31 h30 (fun k59 => kIdxA 4 x50 x57 (fun x60 => k59 x60 h30)) (fun x61 _ =>
 gdT x31 h30 (fun k63 => kLoads 4 x61 (Hs.mk h30.hp h30.nx h30.nx) (fun x64 => k63 x64 h30)) (fun x65 _ =>
 gdT x31 h30 (fun k67 => isVal (fun v68 u69 => dPut k67 v68 (dNext h30 u69 .bar) (andB (dFit h30 u69 .bar) (Nat.ble 0 u69.lo))) (callV (toRn R) [x47, x65] h30 x33)) (fun x70 h71 =>
 gdT x31 h71 (fun k72 => kI64 .lss x70 (Value.int .i64 (.ofNat 0)) (fun x73 => k72 x73 h71)) (fun x74 _ =>
 after (fun v99 u100 => dPut (fun x76 h77 =>
 jn (fun (h79 : Hs) =>
 jn (fun (h81 : Hs) =>
 kI64 .sub x28 (Value.int .i64 (.ofNat 1)) (fun x82 =>
 k26 x82 x76 h81)) fun k80 =>
 kI64 .sub x28 (Value.int .i64 (.ofNat 1)) (fun x83 =>
 kI64 .sub x28 (Value.int .i64 (.ofNat 1)) (fun x84 =>
 kIdxA 4 a0 x84 (fun x85 =>
 kLoads 4 x85 (Hs.mk h79.hp h79.nx h79.nx) (fun x86 =>
 kIdxA 4 a0 x28 (fun x87 =>
 kLoads 4 x87 (Hs.mk h79.hp h79.nx h79.nx) (fun x88 =>
 kIdxA 4 a0 x28 (fun x89 =>
 after (fun v97 u98 => dPut (fun x90 h91 =>
 kIdxA 4 a0 x83 (fun x92 =>
 after (fun v95 u96 => dPut (fun x93 h94 =>
 k80 h94) v95 (dNext h91 u96 .bar) (andB (dFit h91 u96 .bar) (Nat.ble 0 u96.lo))) (store1 4 h91 (cellsL x88) (addrOf x92)))) v97 (dNext h79 u98 .bar) (andB (dFit h79 u98 .bar) (Nat.ble 0 u98.lo))) (store1 4 h79 (cellsL x86) (addrOf x89)))))))))) fun k78 =>
 cnd x76
 (k78 h77)
 (k22 x28 x76 h77)) v99 (dNext h71 u100 .blind) (andB (dFit h71 u100 .blind) (Nat.ble 0 u100.lo))) (pickB (.c x74) (.c (Value.bool false)) enE (Hs.mk .e h71.nx h71.nx) x31))))))))))))))) x9 x12 h16) fun k15 =>
 cnd x14
 (k15 h13)
 (k1 x9 x14 x11 x12 h13))) x0 dunno dunno dunno h0)

theorem q80 (R : RnK) (N : Nat) (args : List Value) (h : Hs) : r80 R N args h = callT Tryz.prog N R 80 args h := by kernel_rfl

/-- slices.heapSortCmpFunc[lintel/check.Finding] -/
noncomputable def r81 (R : RnK) (N : Nat) (args : List Value) (h : Hs) : An := unC args fun a0 sq0 => unC sq0 fun a1 sq1 => unC sq1 fun a2 sq2 => unC sq2 fun a3 sq3 => enK h fun h0 =>
 kI64 .sub a2 a1 (fun x0 =>
 kI64 .sub x0 (Value.int .i64 (.ofNat 1)) (fun x1 =>
 kI64 .quo x1 (Value.int .i64 (.ofNat 2)) (fun x2 =>
 jn (fun (x4 x5 : Value) (h6 : Hs) =>
 kI64 .sub x0 (Value.int .i64 (.ofNat 1)) (fun x7 =>
 jn (fun (x9 x10 : Value) (h11 : Hs) =>
 clrK h (Value.tuple #[]) h11) fun k8 =>
 lpT (T := Value → Value → Hs → An) (fun _ _ _ => none) N (fun k12 =>
 fun (x14 x15 : Value) (h16 : Hs) =>
 kI64 .geq x14 (Value.int .i64 (.ofNat 0)) (fun x17 =>
 jn (fun (h19 : Hs) =>
 jn (fun (h21 : Hs) =>
 kI64 .sub x14 (Value.int .i64 (.ofNat 1)) (fun x22 =>
 k12 x22 x17 h21)) fun k20 =>
 kI64 .add a1 x14 (fun x23 =>
 kI64 .add a1 x14 (fun x24 =>
 kIdxA 4 a0 x24 (fun x25 =>
 kLoads 4 x25 (Hs.mk h19.hp h19.nx h19.nx) (fun x26 =>
 kIdxA 4 a0 a1 (fun x27 =>
 kLoads 4 x27 (Hs.mk h19.hp h19.nx h19.nx) (fun x28 =>
 kIdxA 4 a0 a1 (fun x29 =>
 after (fun v39 u40 => dPut (fun x30 h31 =>
 kIdxA 4 a0 x23 (fun x32 =>
 after (fun v37 u38 => dPut (fun x33 h34 =>
 kCall R 96 [a0, (Value.int .i64 (.ofNat 0)), x14, a1, a3] h34 (fun x35 h36 =>
 k20 h36)) v37 (dNext h31 u38 .bar) (andB (dFit h31 u38 .bar) (Nat.ble 0 u38.lo))) (store1 4 h31 (cellsL x28) (addrOf x32)))) v39 (dNext h19 u40 .bar) (andB (dFit h19 u40 .bar) (Nat.ble 0 u40.lo))) (store1 4 h19 (cellsL x26) (addrOf x29)))))))))) fun k18 =>
 cnd x17
 (k18 h16)
 (k8 x14 x17 h16))) x7 dunno h6)) fun k3 =>
 lpT (T := Value → Value → Hs → An) (fun _ _ _ => none) N (fun k41 =>
 fun (x43 x44 : Value) (h45 : Hs) =>
 kI64 .geq x43 (Value.int .i64 (.ofNat 0)) (fun x46 =>
 jn (fun (h48 : Hs) =>
 jn (fun (h50 : Hs) =>
 kI64 .sub x43 (Value.int .i64 (.ofNat 1)) (fun x51 =>
 k41 x51 x46 h50)) fun k49 =>
 kCall R 96 [a0, x43, x0, a1, a3] h48 (fun x52 h53 =>
 k49 h53)) fun k47 =>
 cnd x46
 (k47 h45)
 (k3 x43 x46 h45))) x2 dunno h0)))

theorem q81 (R : RnK) (N : Nat) (args : List Value) (h : Hs) : r81 R N args h = callT Tryz.prog N R 81 args h := by kernel_rfl

/-- slices.breakPatternsCmpFunc[lintel/check.Finding] -/
noncomputable def r82 (R : RnK) (N : Nat) (args : List Value) (h : Hs) : An := unC args fun a0 sq0 => unC sq0 fun a1 sq1 => unC sq1 fun a2 sq2 => unC sq2 fun a3 sq3 => enK h fun h0 =>
 kI64 .sub a2 a1 (fun x0 =>
 kI64 .geq x0 (Value.int .i64 (.ofNat 8)) (fun x1 =>
 jn (fun (x3 x4 x5 x6 x7 x8 : Value) (h9 : Hs) =>
 clrK h (Value.tuple #[]) h9) fun k2 =>
 cnd x1
 (kToU x0 (fun x10 =>
 after (fun x11 h12 =>
 kStore1 x11 x10 h12 (fun x13 h14 =>
 kCall R 97 [x0] h14 (fun x15 h16 =>
 kI64 .quo x0 (Value.int .i64 (.ofNat 4)) (fun x17 =>
 kI64 .mul x17 (Value.int .i64 (.ofNat 2)) (fun x18 =>
 kI64 .add a1 x18 (fun x19 =>
 kI64 .sub x19 (Value.int .i64 (.ofNat 1)) (fun x20 =>
 jn (fun (x22 x23 x24 x25 : Value) (h26 : Hs) =>
 k2 x22 x23 x11 x15 x24 x25 h26) fun k21 =>
 lpT (T := Value → Value → Value → Value → Hs → An) (fun _ _ _ _ _ => none) N (fun k27 =>
 fun (x29 x30 x31 x32 : Value) (h33 : Hs) =>
 kI64 .quo x0 (Value.int .i64 (.ofNat 4)) (fun x34 =>
 kI64 .mul x34 (Value.int .i64 (.ofNat 2)) (fun x35 =>
 kI64 .add a1 x35 (fun x36 =>
 kI64 .add x36 (Value.int .i64 (.ofNat 1)) (fun x37 =>
 kI64 .leq x29 x37 (fun x38 =>
 jn (fun (h40 : Hs) =>
 jn (fun (x42 x43 : Value) (h44 : Hs) =>
 kI64 .add x29 (Value.int .i64 (.ofNat 1)) (fun x45 =>
 k27 x45 x38 x42 x43 h44)) fun k41 =>
 kCall R 98 [x11] h40 (fun x46 h47 =>
 kU64 .sub x15 (Value.int .u64 (.ofNat 1)) (fun x48 =>
 kU64 .and x46 x48 (fun x49 =>
 kTo64 x49 (fun x50 =>
 kI64 .geq x50 x0 (fun x51 =>
 jn (fun (x53 : Value) (h54 : Hs) =>
 kI64 .add a1 x53 (fun x55 =>
 kI64 .add a1 x53 (fun x56 =>
 kIdxA 4 a0 x56 (fun x57 =>
 kLoads 4 x57 (Hs.mk h54.hp h54.nx h54.nx) (fun x58 =>
 kIdxA 4 a0 x29 (fun x59 =>
 kLoads 4 x59 (Hs.mk h54.hp h54.nx h54.nx) (fun x60 =>
 kIdxA 4 a0 x29 (fun x61 =>
 after (fun v69 u70 => dPut (fun x62 h63 =>
 kIdxA 4 a0 x55 (fun x64 =>
 after (fun v67 u68 => dPut (fun x65 h66 =>
 k41 x53 x51 h66) v67 (dNext h63 u68 .bar) (andB (dFit h63 u68 .bar) (Nat.ble 0 u68.lo))) (store1 4 h63 (cellsL x60) (addrOf x64)))) v69 (dNext h54 u70 .bar) (andB (dFit h54 u70 .bar) (Nat.ble 0 u70.lo))) (store1 4 h54 (cellsL x58) (addrOf x61)))))))))) fun k52 =>
 cnd x51
 (kI64 .sub x50 x0 (fun x71 =>
 k52 x71 h47))
 (k52 x50 h47))))))) fun k39 =>
 cnd x38
 (k39 h33)
 (k21 x29 x38 x31 x32 h33))))))) x20 dunno dunno dunno h16))))))) (oAlloc 150 [(Value.int .u64 (.ofNat 0))] enE h0)))
 (k2 dunno dunno dunno dunno dunno dunno h0)))

theorem q82 (R : RnK) (N : Nat) (args : List Value) (h : Hs) : r82 R N args h = callT Tryz.prog N R 82 args h := by kernel_rfl

/-- slices.choosePivotCmpFunc[lintel/check.Finding] -/
noncomputable def r83 (R : RnK) (N : Nat) (args : List Value) (h : Hs) : An := unC args fun a0 sq0 => unC sq0 fun a1 sq1 => unC sq1 fun a2 sq2 => unC sq2 fun a3 sq3 => enK h fun h0 =>
 kI64 .sub a2 a1 (fun x0 =>
 after (fun x1 h2 =>
 kI64 .quo x0 (Value.int .i64 (.ofNat 4)) (fun x3 =>
 kI64 .mul x3 (Value.int .i64 (.ofNat 1)) (fun x4 =>
 kI64 .add a1 x4 (fun x5 =>
 kI64 .quo x0 (Value.int .i64 (.ofNat 4)) (fun x6 =>
 kI64 .mul x6 (Value.int .i64 (.ofNat 2)) (fun x7 =>
 kI64 .add a1 x7 (fun x8 =>
 kI64 .quo x0 (Value.int .i64 (.ofNat 4)) (fun x9 =>
 kI64 .mul x9 (Value.int .i64 (.ofNat 3)) (fun x10 =>
 kI64 .add a1 x10 (fun x11 =>
 kI64 .geq x0 (Value.int .i64 (.ofNat 8)) (fun x12 =>
 jn (fun (x14 x15 x16 x17 : Value) (h18 : Hs) =>
 kLoad x1 h18 (fun x19 =>
 jn (fun (x21 x22 x23 x24 : Value) (h25 : Hs) =>
 clrK h (Value.tuple #[x23, x24]) h25) fun k20 =>
 kI64 .eql x19 (Value.int .i64 (.ofNat 0)) (fun x26 =>
 jn (fun (x28 x29 x30 : Value) (h31 : Hs) =>
 k20 x26 x28 x29 x30 h31) fun k27 =>
 cnd x26
 (clrK h (Value.tuple #[x16, (Value.int .i64 (.ofNat 1))]) h18)
 (kI64 .eql x19 (Value.int .i64 (.ofNat 12)) (fun x32 =>
 jn (fun (x34 x35 : Value) (h36 : Hs) =>
 k27 x32 x34 x35 h36) fun k33 =>
 cnd x32
 (clrK h (Value.tuple #[x16, (Value.int .i64 (.ofNat 2))]) h18)
 (clrK h (Value.tuple #[x16, (Value.int .i64 (.ofNat 0))]) h18)))))) fun k13 =>
 cnd x12
 (kI64 .geq x0 (Value.int .i64 (.ofNat 50)) (fun x37 =>
 jn (fun (x39 x40 x41 : Value) (h42 : Hs) =>
 kCall R 100 [a0, x39, x40, x41, x1, a3] h42 (fun x43 h44 =>
 k13 x37 x39 x43 x41 h44)) fun k38 =>
 cnd x37
 (kCall R 99 [a0, x5, x1, a3] h2 (fun x45 h46 =>
 kCall R 99 [a0, x8, x1, a3] h46 (fun x47 h48 =>
 kCall R 99 [a0, x11, x1, a3] h48 (fun x49 h50 =>
 k38 x45 x47 x49 h50))))
 (k38 x5 x8 x11 h2)))
 (k13 dunno x5 x8 x11 h2)))))))))))) (oAlloc 3 [(Value.int .i64 (.ofNat 0))] enE h0))

theorem q83 (R : RnK) (N : Nat) (args : List Value) (h : Hs) : r83 R N args h = callT Tryz.prog N R 83 args h := by kernel_rfl

/-- slices.reverseRangeCmpFunc[lintel/check.Finding] -/
noncomputable def r84 (R : RnK) (N : Nat) (args : List Value) (h : Hs) : An := unC args fun a0 sq0 => unC sq0 fun a1 sq1 => unC sq1 fun a2 sq2 => unC sq2 fun a3 sq3 => enK h fun h0 =>
 kI64 .sub a2 (Value.int .i64 (.ofNat 1)) (fun x0 =>
 jn (fun (x2 x3 x4 : Value) (h5 : Hs) =>
 clrK h (Value.tuple #[]) h5) fun k1 =>
 lpT (T := Value → Value → Value → Hs → An) (fun _ _ _ _ => none) N (fun k6 =>
 fun (x8 x9 x10 : Value) (h11 : Hs) =>
 kI64 .lss x8 x9 (fun x12 =>
 jn (fun (h14 : Hs) =>
 jn (fun (x16 x17 : Value) (h18 : Hs) =>
 k6 x16 x17 x12 h18) fun k15 =>
 kIdxA 4 a0 x9 (fun x19 =>
 kLoads 4 x19 (Hs.mk h14.hp h14.nx h14.nx) (fun x20 =>
 kIdxA 4 a0 x8 (fun x21 =>
 kLoads 4 x21 (Hs.mk h14.hp h14.nx h14.nx) (fun x22 =>
 kIdxA 4 a0 x8 (fun x23 =>
 after (fun v33 u34 => dPut (fun x24 h25 =>
 kIdxA 4 a0 x9 (fun x26 =>
 after (fun v31 u32 => dPut (fun x27 h28 =>
 kI64 .add x8 (Value.int .i64 (.ofNat 1)) (fun x29 =>
 kI64 .sub x9 (Value.int .i64 (.ofNat 1)) (fun x30 =>
 k15 x29 x30 h28))) v31 (dNext h25 u32 .bar) (andB (dFit h25 u32 .bar) (Nat.ble 0 u32.lo))) (store1 4 h25 (cellsL x22) (addrOf x26)))) v33 (dNext h14 u34 .bar) (andB (dFit h14 u34 .bar) (Nat.ble 0 u34.lo))) (store1 4 h14 (cellsL x20) (addrOf x23)))))))) fun k13 =>
 cnd x12
 (k13 h11)
 (k1 x8 x9 x12 h11))) a1 x0 dunno h0)

theorem q84 (R : RnK) (N : Nat) (args : List Value) (h : Hs) : r84 R N args h = callT Tryz.prog N R 84 args h := by kernel_rfl

/-- slices.partialInsertionSortCmpFunc[lintel/check.Finding] -/
noncomputable def r85 (R : RnK) (N : Nat) (args : List Value) (h : Hs) : An := unC args fun a0 sq0 => unC sq0 fun a1 sq1 => unC sq1 fun a2 sq2 => unC sq2 fun a3 sq3 => enK h fun h0 =>
 kI64 .add a1 (Value.int .i64 (.ofNat 1)) (fun x0 =>
 jn (fun (x2 x3 x4 x5 x6 x7 x8 x9 x10 x11 x12 x13 x14 x15 x16 : Value) (h17 : Hs) =>
 clrK h (Value.bool false) h17) fun k1 =>
 lpT (T := Value → Value → Value → Value → Value → Value → Value → Value → Value → Value → Value → Value → Value → Value → Value → Hs → An) (fun _ _ _ _ _ _ _ _ _ _ _ _ _ _ _ _ => none) N (fun k18 =>
 fun (x20 x21 x22 x23 x24 x25 x26 x27 x28 x29 x30 x31 x32 x33 x34 : Value) (h35 : Hs) =>
 kI64 .lss x20 (Value.int .i64 (.ofNat 5)) (fun x36 =>
 jn (fun (h38 : Hs) =>
 jn (fun (x40 x41 x42 x43 x44 x45 x46 x47 x48 x49 x50 x51 x52 : Value) (h53 : Hs) =>
 kI64 .add x20 (Value.int .i64 (.ofNat 1)) (fun x54 =>
 k18 x54 x36 x40 x41 x42 x43 x44 x45 x46 x47 x48 x49 x50 x51 x52 h53)) fun k39 =>
 jn (fun (x56 x57 : Value) (h58 : Hs) =>
 kI64 .eql x56 a2 (fun x59 =>
 jn (fun (x61 : Value) (h62 : Hs) =>
 kI64 .sub a2 a1 (fun x63 =>
 kI64 .lss x63 (Value.int .i64 (.ofNat 50)) (fun x64 =>
 jn (fun (x66 : Value) (h67 : Hs) =>
 kI64 .sub x56 (Value.int .i64 (.ofNat 1)) (fun x68 =>
 kI64 .sub x56 (Value.int .i64 (.ofNat 1)) (fun x69 =>
 kIdxA 4 a0 x69 (fun x70 =>
 kLoads 4 x70 (Hs.mk h67.hp h67.nx h67.nx) (fun x71 =>
 kIdxA 4 a0 x56 (fun x72 =>
 kLoads 4 x72 (Hs.mk h67.hp h67.nx h67.nx) (fun x73 =>
 kIdxA 4 a0 x56 (fun x74 =>
 after (fun v192 u193 => dPut (fun x75 h76 =>
 kIdxA 4 a0 x68 (fun x77 =>
 after (fun v190 u191 => dPut (fun x78 h79 =>
 kI64 .sub x56 a1 (fun x80 =>
 kI64 .geq x80 (Value.int .i64 (.ofNat 2)) (fun x81 =>
 jn (fun (x83 x84 x85 : Value) (h86 : Hs) =>
 kI64 .sub a2 x56 (fun x87 =>
 kI64 .geq x87 (Value.int .i64 (.ofNat 2)) (fun x88 =>
 jn (fun (x90 x91 x92 : Value) (h93 : Hs) =>
 k39 x56 x57 x59 x64 x81 x83 x84 x85 x88 x90 x91 x92 x66 h93) fun k89 =>
 cnd x88
 (kI64 .add x56 (Value.int .i64 (.ofNat 1)) (fun x94 =>
 jn (fun (x96 x97 x98 : Value) (h99 : Hs) =>
 k89 x96 x97 x98 h99) fun k95 =>
 lpT (T := Value → Value → Value → Hs → An) (fun _ _ _ _ => none) N (fun k100 =>
 fun (x102 x103 x104 : Value) (h105 : Hs) =>
 kI64 .lss x102 a2 (fun x106 =>
 jn (fun (h108 : Hs) =>
 jn (fun (x110 : Value) (h111 : Hs) =>
 kI64 .add x102 (Value.int .i64 (.ofNat 1)) (fun x112 =>
 k100 x112 x106 x110 h111)) fun k109 =>
 kIdxA 4 a0 x102 (fun x113 =>
 kLoads 4 x113 (Hs.mk h108.hp h108.nx h108.nx) (fun x114 =>
 kI64 .sub x102 (Value.int .i64 (.ofNat 1)) (fun x115 =>
 kIdxA 4 a0 x115 (fun x116 =>
 kLoads 4 x116 (Hs.mk h108.hp h108.nx h108.nx) (fun x117 =>
 isVal (fun v140 u141 => dPut (fun x118 h119 =>
 kI64 .lss x118 (Value.int .i64 (.ofNat 0)) (fun x120 =>
 kNot x120 (fun x121 =>
 jn (fun (h123 : Hs) =>
 kI64 .sub x102 (Value.int .i64 (.ofNat 1)) (fun x124 =>
 kI64 .sub x102 (Value.int .i64 (.ofNat 1)) (fun x125 =>
 kIdxA 4 a0 x125 (fun x126 =>
 kLoads 4 x126 (Hs.mk h123.hp h123.nx h123.nx) (fun x127 =>
 kIdxA 4 a0 x102 (fun x128 =>
 kLoads 4 x128 (Hs.mk h123.hp h123.nx h123.nx) (fun x129 =>
 kIdxA 4 a0 x102 (fun x130 =>
 after (fun v138 u139 => dPut (fun x131 h132 =>
 kIdxA 4 a0 x124 (fun x133 =>
 after (fun v136 u137 => dPut (fun x134 h135 =>
 k109 x121 h135) v136 (dNext h132 u137 .bar) (andB (dFit h132 u137 .bar) (Nat.ble 0 u137.lo))) (store1 4 h132 (cellsL x129) (addrOf x133)))) v138 (dNext h123 u139 .bar) (andB (dFit h123 u139 .bar) (Nat.ble 0 u139.lo))) (store1 4 h123 (cellsL x127) (addrOf x130)))))))))) fun k122 =>
 cnd x121
 (k95 x102 x106 x121 h119)
 (k122 h119)))) v140 (dNext h108 u141 .bar) (andB (dFit h108 u141 .bar) (Nat.ble 0 u141.lo))) (callV (toRn R) [x114, x117] h108 a3))))))) fun k107 =>
 cnd x106
 (k107 h105)
 (k95 x102 x106 x104 h105))) x94 x32 x33 h86))
 (k89 x31 x32 x33 h86)))) fun k82 =>
 cnd x81
 (kI64 .sub x56 (Value.int .i64 (.ofNat 1)) (fun x142 =>
 jn (fun (x144 x145 x146 : Value) (h147 : Hs) =>
 k82 x144 x145 x146 h147) fun k143 =>
 lpT (T := Value → Value → Value → Hs → An) (fun _ _ _ _ => none) N (fun k148 =>
 fun (x150 x151 x152 : Value) (h153 : Hs) =>
 kI64 .geq x150 (Value.int .i64 (.ofNat 1)) (fun x154 =>
 jn (fun (h156 : Hs) =>
 jn (fun (x158 : Value) (h159 : Hs) =>
 kI64 .sub x150 (Value.int .i64 (.ofNat 1)) (fun x160 =>
 k148 x160 x154 x158 h159)) fun k157 =>
 kIdxA 4 a0 x150 (fun x161 =>
 kLoads 4 x161 (Hs.mk h156.hp h156.nx h156.nx) (fun x162 =>
 kI64 .sub x150 (Value.int .i64 (.ofNat 1)) (fun x163 =>
 kIdxA 4 a0 x163 (fun x164 =>
 kLoads 4 x164 (Hs.mk h156.hp h156.nx h156.nx) (fun x165 =>
 isVal (fun v188 u189 => dPut (fun x166 h167 =>
 kI64 .lss x166 (Value.int .i64 (.ofNat 0)) (fun x168 =>
 kNot x168 (fun x169 =>
 jn (fun (h171 : Hs) =>
 kI64 .sub x150 (Value.int .i64 (.ofNat 1)) (fun x172 =>
 kI64 .sub x150 (Value.int .i64 (.ofNat 1)) (fun x173 =>
 kIdxA 4 a0 x173 (fun x174 =>
 kLoads 4 x174 (Hs.mk h171.hp h171.nx h171.nx) (fun x175 =>
 kIdxA 4 a0 x150 (fun x176 =>
 kLoads 4 x176 (Hs.mk h171.hp h171.nx h171.nx) (fun x177 =>
 kIdxA 4 a0 x150 (fun x178 =>
 after (fun v186 u187 => dPut (fun x179 h180 =>
 kIdxA 4 a0 x172 (fun x181 =>
 after (fun v184 u185 => dPut (fun x182 h183 =>
 k157 x169 h183) v184 (dNext h180 u185 .bar) (andB (dFit h180 u185 .bar) (Nat.ble 0 u185.lo))) (store1 4 h180 (cellsL x177) (addrOf x181)))) v186 (dNext h171 u187 .bar) (andB (dFit h171 u187 .bar) (Nat.ble 0 u187.lo))) (store1 4 h171 (cellsL x175) (addrOf x178)))))))))) fun k170 =>
 cnd x169
 (k143 x150 x154 x169 h167)
 (k170 h167)))) v188 (dNext h156 u189 .bar) (andB (dFit h156 u189 .bar) (Nat.ble 0 u189.lo))) (callV (toRn R) [x162, x165] h156 a3))))))) fun k155 =>
 cnd x154
 (k155 h153)
 (k143 x150 x154 x152 h153))) x142 x28 x29 h79))
 (k82 x27 x28 x29 h79)))) v190 (dNext h76 u191 .bar) (andB (dFit h76 u191 .bar) (Nat.ble 0 u191.lo))) (store1 4 h76 (cellsL x73) (addrOf x77)))) v192 (dNext h67 u193 .bar) (andB (dFit h67 u193 .bar) (Nat.ble 0 u193.lo))) (store1 4 h67 (cellsL x71) (addrOf x74)))))))))) fun k65 =>
 cnd x64
 (clrK h (Value.bool false) h62)
 (k65 x61 h62)))) fun k60 =>
 cnd x59
 (clrK h (Value.bool true) h58)
 (k60 x34 h58))) fun k55 =>
 lpT (T := Value → Value → Hs → An) (fun _ _ _ => none) N (fun k194 =>
 fun (x196 x197 : Value) (h198 : Hs) =>
 kI64 .lss x196 a2 (fun x199 =>
 gdT x199 h198 (fun k200 => k200 a3 h198) (fun x201 _ =>
 gdT x199 h198 (fun k203 => k203 a0 h198) (fun x204 _ =>
 gdT x199 h198 (fun k206 => k206 x196 h198) (fun x207 _ =>
 gdT x199 h198 (fun k209 => kIdxA 4 x204 x207 (fun x210 => k209 x210 h198)) (fun x211 _ =>
 gdT x199 h198 (fun k213 => kLoads 4 x211 (Hs.mk h198.hp h198.nx h198.nx) (fun x214 => k213 x214 h198)) (fun x215 _ =>
 gdT x199 h198 (fun k217 => k217 a0 h198) (fun x218 _ =>
 gdT x199 h198 (fun k220 => k220 x196 h198) (fun x221 _ =>
 gdT x199 h198 (fun k223 => kI64 .sub x221 (Value.int .i64 (.ofNat 1)) (fun x224 => k223 x224 h198)) (fun x225 _ =>
 gdT x199 h198 (fun k227 => kIdxA 4 x218 x225 (fun x228 => k227 x228 h198)) (fun x229 _ =>
 gdT x199 h198 (fun k231 => kLoads 4 x229 (Hs.mk h198.hp h198.nx h198.nx) (fun x232 => k231 x232 h198)) (fun x233 _ =>
 gdT x199 h198 (fun k235 => isVal (fun v236 u237 => dPut k235 v236 (dNext h198 u237 .bar) (andB (dFit h198 u237 .bar) (Nat.ble 0 u237.lo))) (callV (toRn R) [x215, x233] h198 x201)) (fun x238 h239 =>
 gdT x199 h239 (fun k240 => kI64 .lss x238 (Value.int .i64 (.ofNat 0)) (fun x241 => k240 x241 h239)) (fun x242 _ =>
 gdT x199 h239 (fun k244 => kNot x242 (fun x245 => k244 x245 h239)) (fun x246 _ =>
 after (fun v256 u257 => dPut (fun x248 h249 =>
 jn (fun (h251 : Hs) =>
 jn (fun (x253 : Value) (h254 : Hs) =>
 k194 x253 x248 h254) fun k252 =>
 kI64 .add x196 (Value.int .i64 (.ofNat 1)) (fun x255 =>
 k252 x255 h251)) fun k250 =>
 cnd x248
 (k250 h249)
 (k55 x196 x248 h249)) v256 (dNext h239 u257 .blind) (andB (dFit h239 u257 .blind) (Nat.ble 0 u257.lo))) (pickB (.c x246) (.c (Value.bool false)) enE (Hs.mk .e h239.nx h239.nx) x199)))))))))))))))) x22 x23 h38) fun k37 =>
 cnd x36
 (k37 h35)
 (k1 x20 x36 x22 x23 x24 x25 x26 x27 x28 x29 x30 x31 x32 x33 x34 h35))) (Value.int .i64 (.ofNat 0)) dunno x0 dunno dunno dunno dunno dunno dunno dunno dunno dunno dunno dunno (Value.bool false) h0)

theorem q85 (R : RnK) (N : Nat) (args : List Value) (h : Hs) : r85 R N args h = callT Tryz.prog N R 85 args h := by kernel_rfl

/-- slices.partitionEqualCmpFunc[lintel/check.Finding] -/
noncomputable def r86 (R : RnK) (N : Nat) (args : List Value) (h : Hs) : An := unC args fun a0 sq0 => unC sq0 fun a1 sq1 => unC sq1 fun a2 sq2 => unC sq2 fun a3 sq3 => unC sq3 fun a4 sq4 => enK h fun h0 =>
 kIdxA 4 a0 a3 (fun x0 =>
 kLoads 4 x0 (Hs.mk h0.hp h0.nx h0.nx) (fun x1 =>
 kIdxA 4 a0 a1 (fun x2 =>
 kLoads 4 x2 (Hs.mk h0.hp h0.nx h0.nx) (fun x3 =>
 kIdxA 4 a0 a1 (fun x4 =>
 after (fun v179 u180 => dPut (fun x5 h6 =>
 kIdxA 4 a0 a3 (fun x7 =>
 after (fun v177 u178 => dPut (fun x8 h9 =>
 kI64 .add a1 (Value.int .i64 (.ofNat 1)) (fun x10 =>
 kI64 .sub a2 (Value.int .i64 (.ofNat 1)) (fun x11 =>
 jn (fun (x13 x14 x15 x16 x17 : Value) (h18 : Hs) =>
 clrK h x13 h18) fun k12 =>
 lpT (T := Value → Value → Value → Value → Value → Hs → An) (fun _ _ _ _ _ _ => none) N (fun k19 =>
 fun (x21 x22 x23 x24 x25 : Value) (h26 : Hs) =>
 jn (fun (x28 x29 x30 x31 x32 : Value) (h33 : Hs) =>
 k19 x28 x29 x30 x31 x32 h33) fun k27 =>
 jn (fun (x35 x36 : Value) (h37 : Hs) =>
 jn (fun (x39 x40 : Value) (h41 : Hs) =>
 kI64 .gtr x35 x39 (fun x42 =>
 jn (fun (h44 : Hs) =>
 kIdxA 4 a0 x39 (fun x45 =>
 kLoads 4 x45 (Hs.mk h44.hp h44.nx h44.nx) (fun x46 =>
 kIdxA 4 a0 x35 (fun x47 =>
 kLoads 4 x47 (Hs.mk h44.hp h44.nx h44.nx) (fun x48 =>
 kIdxA 4 a0 x35 (fun x49 =>
 after (fun v59 u60 => dPut (fun x50 h51 =>
 kIdxA 4 a0 x39 (fun x52 =>
 after (fun v57 u58 => dPut (fun x53 h54 =>
 kI64 .add x35 (Value.int .i64 (.ofNat 1)) (fun x55 =>
 kI64 .sub x39 (Value.int .i64 (.ofNat 1)) (fun x56 =>
 k27 x55 x56 x36 x40 x42 h54))) v57 (dNext h51 u58 .bar) (andB (dFit h51 u58 .bar) (Nat.ble 0 u58.lo))) (store1 4 h51 (cellsL x48) (addrOf x52)))) v59 (dNext h44 u60 .bar) (andB (dFit h44 u60 .bar) (Nat.ble 0 u60.lo))) (store1 4 h44 (cellsL x46) (addrOf x49)))))))) fun k43 =>
 cnd x42
 (k12 x35 x39 x36 x40 x42 h41)
 (k43 h41))) fun k38 =>
 lpT (T := Value → Value → Hs → An) (fun _ _ _ => none) N (fun k61 =>
 fun (x63 x64 : Value) (h65 : Hs) =>
 kI64 .leq x35 x63 (fun x66 =>
 gdT x66 h65 (fun k67 => k67 a4 h65) (fun x68 _ =>
 gdT x66 h65 (fun k70 => k70 a0 h65) (fun x71 _ =>
 gdT x66 h65 (fun k73 => k73 a1 h65) (fun x74 _ =>
 gdT x66 h65 (fun k76 => kIdxA 4 x71 x74 (fun x77 => k76 x77 h65)) (fun x78 _ =>
 gdT x66 h65 (fun k80 => kLoads 4 x78 (Hs.mk h65.hp h65.nx h65.nx) (fun x81 => k80 x81 h65)) (fun x82 _ =>
 gdT x66 h65 (fun k84 => k84 a0 h65) (fun x85 _ =>
 gdT x66 h65 (fun k87 => k87 x63 h65) (fun x88 _ =>
 gdT x66 h65 (fun k90 => kIdxA 4 x85 x88 (fun x91 => k90 x91 h65)) (fun x92 _ =>
 gdT x66 h65 (fun k94 => kLoads 4 x92 (Hs.mk h65.hp h65.nx h65.nx) (fun x95 => k94 x95 h65)) (fun x96 _ =>
 gdT x66 h65 (fun k98 => isVal (fun v99 u100 => dPut k98 v99 (dNext h65 u100 .bar) (andB (dFit h65 u100 .bar) (Nat.ble 0 u100.lo))) (callV (toRn R) [x82, x96] h65 x68)) (fun x101 h102 =>
 gdT x66 h102 (fun k103 => kI64 .lss x101 (Value.int .i64 (.ofNat 0)) (fun x104 => k103 x104 h102)) (fun x105 _ =>
 after (fun v115 u116 => dPut (fun x107 h108 =>
 jn (fun (h110 : Hs) =>
 jn (fun (x112 : Value) (h113 : Hs) =>
 k61 x112 x107 h113) fun k111 =>
 kI64 .sub x63 (Value.int .i64 (.ofNat 1)) (fun x114 =>
 k111 x114 h110)) fun k109 =>
 cnd x107
 (k109 h108)
 (k38 x63 x107 h108)) v115 (dNext h102 u116 .blind) (andB (dFit h102 u116 .blind) (Nat.ble 0 u116.lo))) (pickB (.c x105) (.c (Value.bool false)) enE (Hs.mk .e h102.nx h102.nx) x66)))))))))))))) x22 x24 h37) fun k34 =>
 lpT (T := Value → Value → Hs → An) (fun _ _ _ => none) N (fun k117 =>
 fun (x119 x120 : Value) (h121 : Hs) =>
 kI64 .leq x119 x22 (fun x122 =>
 gdT x122 h121 (fun k123 => k123 a4 h121) (fun x124 _ =>
 gdT x122 h121 (fun k126 => k126 a0 h121) (fun x127 _ =>
 gdT x122 h121 (fun k129 => k129 a1 h121) (fun x130 _ =>
 gdT x122 h121 (fun k132 => kIdxA 4 x127 x130 (fun x133 => k132 x133 h121)) (fun x134 _ =>
 gdT x122 h121 (fun k136 => kLoads 4 x134 (Hs.mk h121.hp h121.nx h121.nx) (fun x137 => k136 x137 h121)) (fun x138 _ =>
 gdT x122 h121 (fun k140 => k140 a0 h121) (fun x141 _ =>
 gdT x122 h121 (fun k143 => k143 x119 h121) (fun x144 _ =>
 gdT x122 h121 (fun k146 => kIdxA 4 x141 x144 (fun x147 => k146 x147 h121)) (fun x148 _ =>
 gdT x122 h121 (fun k150 => kLoads 4 x148 (Hs.mk h121.hp h121.nx h121.nx) (fun x151 => k150 x151 h121)) (fun x152 _ =>
 gdT x122 h121 (fun k154 => isVal (fun v155 u156 => dPut k154 v155 (dNext h121 u156 .bar) (andB (dFit h121 u156 .bar) (Nat.ble 0 u156.lo))) (callV (toRn R) [x138, x152] h121 x124)) (fun x157 h158 =>
 gdT x122 h158 (fun k159 => kI64 .lss x157 (Value.int .i64 (.ofNat 0)) (fun x160 => k159 x160 h158)) (fun x161 _ =>
 gdT x122 h158 (fun k163 => kNot x161 (fun x164 => k163 x164 h158)) (fun x165 _ =>
 after (fun v175 u176 => dPut (fun x167 h168 =>
 jn (fun (h170 : Hs) =>
 jn (fun (x172 : Value) (h173 : Hs) =>
 k117 x172 x167 h173) fun k171 =>
 kI64 .add x119 (Value.int .i64 (.ofNat 1)) (fun x174 =>
 k171 x174 h170)) fun k169 =>
 cnd x167
 (k169 h168)
 (k34 x119 x167 h168)) v175 (dNext h158 u176 .blind) (andB (dFit h158 u176 .blind) (Nat.ble 0 u176.lo))) (pickB (.c x165) (.c (Value.bool false)) enE (Hs.mk .e h158.nx h158.nx) x122))))))))))))))) x21 x23 h26) x10 x11 dunno dunno dunno h9))) v177 (dNext h6 u178 .bar) (andB (dFit h6 u178 .bar) (Nat.ble 0 u178.lo))) (store1 4 h6 (cellsL x3) (addrOf x7)))) v179 (dNext h0 u180 .bar) (andB (dFit h0 u180 .bar) (Nat.ble 0 u180.lo))) (store1 4 h0 (cellsL x1) (addrOf x4)))))))

theorem q86 (R : RnK) (N : Nat) (args : List Value) (h : Hs) : r86 R N args h = callT Tryz.prog N R 86 args h := by kernel_rfl

/-- slices.partitionCmpFunc[lintel/check.Finding] -/
noncomputable def r87 (R : RnK) (N : Nat) (args : List Value) (h : Hs) : An := unC args fun a0 sq0 => unC sq0 fun a1 sq1 => unC sq1 fun a2 sq2 => unC sq2 fun a3 sq3 => unC sq3 fun a4 sq4 => enK h fun h0 =>
 kIdxA 4 a0 a3 (fun x0 =>
 kLoads 4 x0 (Hs.mk h0.hp h0.nx h0.nx) (fun x1 =>
 kIdxA 4 a0 a1 (fun x2 =>
 kLoads 4 x2 (Hs.mk h0.hp h0.nx h0.nx) (fun x3 =>
 kIdxA 4 a0 a1 (fun x4 =>
 after (fun v352 u353 => dPut (fun x5 h6 =>
 kIdxA 4 a0 a3 (fun x7 =>
 after (fun v350 u351 => dPut (fun x8 h9 =>
 kI64 .add a1 (Value.int .i64 (.ofNat 1)) (fun x10 =>
 kI64 .sub a2 (Value.int .i64 (.ofNat 1)) (fun x11 =>
 jn (fun (x13 x14 : Value) (h15 : Hs) =>
 jn (fun (x17 x18 : Value) (h19 : Hs) =>
 kI64 .gtr x13 x17 (fun x20 =>
 jn (fun (x22 x23 : Value) (h24 : Hs) =>
 kIdxA 4 a0 x17 (fun x25 =>
 kLoads 4 x25 (Hs.mk h24.hp h24.nx h24.nx) (fun x26 =>
 kIdxA 4 a0 x13 (fun x27 =>
 kLoads 4 x27 (Hs.mk h24.hp h24.nx h24.nx) (fun x28 =>
 kIdxA 4 a0 x13 (fun x29 =>
 after (fun v218 u219 => dPut (fun x30 h31 =>
 kIdxA 4 a0 x17 (fun x32 =>
 after (fun v216 u217 => dPut (fun x33 h34 =>
 kI64 .add x13 (Value.int .i64 (.ofNat 1)) (fun x35 =>
 kI64 .sub x17 (Value.int .i64 (.ofNat 1)) (fun x36 =>
 jn (fun (x38 x39 x40 x41 x42 : Value) (h43 : Hs) =>
 kIdxA 4 a0 a1 (fun x44 =>
 kLoads 4 x44 (Hs.mk h43.hp h43.nx h43.nx) (fun x45 =>
 kIdxA 4 a0 x39 (fun x46 =>
 kLoads 4 x46 (Hs.mk h43.hp h43.nx h43.nx) (fun x47 =>
 kIdxA 4 a0 x39 (fun x48 =>
 after (fun v56 u57 => dPut (fun x49 h50 =>
 kIdxA 4 a0 a1 (fun x51 =>
 after (fun v54 u55 => dPut (fun x52 h53 =>
 clrK h (Value.tuple #[x39, (Value.bool false)]) h53) v54 (dNext h50 u55 .bar) (andB (dFit h50 u55 .bar) (Nat.ble 0 u55.lo))) (store1 4 h50 (cellsL x47) (addrOf x51)))) v56 (dNext h43 u57 .bar) (andB (dFit h43 u57 .bar) (Nat.ble 0 u57.lo))) (store1 4 h43 (cellsL x45) (addrOf x48)))))))) fun k37 =>
 lpT (T := Value → Value → Value → Value → Value → Hs → An) (fun _ _ _ _ _ _ => none) N (fun k58 =>
 fun (x60 x61 x62 x63 x64 : Value) (h65 : Hs) =>
 jn (fun (x67 x68 x69 x70 x71 : Value) (h72 : Hs) =>
 k58 x67 x68 x69 x70 x71 h72) fun k66 =>
 jn (fun (x74 x75 : Value) (h76 : Hs) =>
 jn (fun (x78 x79 : Value) (h80 : Hs) =>
 kI64 .gtr x74 x78 (fun x81 =>
 jn (fun (h83 : Hs) =>
 kIdxA 4 a0 x78 (fun x84 =>
 kLoads 4 x84 (Hs.mk h83.hp h83.nx h83.nx) (fun x85 =>
 kIdxA 4 a0 x74 (fun x86 =>
 kLoads 4 x86 (Hs.mk h83.hp h83.nx h83.nx) (fun x87 =>
 kIdxA 4 a0 x74 (fun x88 =>
 after (fun v98 u99 => dPut (fun x89 h90 =>
 kIdxA 4 a0 x78 (fun x91 =>
 after (fun v96 u97 => dPut (fun x92 h93 =>
 kI64 .add x74 (Value.int .i64 (.ofNat 1)) (fun x94 =>
 kI64 .sub x78 (Value.int .i64 (.ofNat 1)) (fun x95 =>
 k66 x94 x95 x75 x79 x81 h93))) v96 (dNext h90 u97 .bar) (andB (dFit h90 u97 .bar) (Nat.ble 0 u97.lo))) (store1 4 h90 (cellsL x87) (addrOf x91)))) v98 (dNext h83 u99 .bar) (andB (dFit h83 u99 .bar) (Nat.ble 0 u99.lo))) (store1 4 h83 (cellsL x85) (addrOf x88)))))))) fun k82 =>
 cnd x81
 (k37 x74 x78 x75 x79 x81 h80)
 (k82 h80))) fun k77 =>
 lpT (T := Value → Value → Hs → An) (fun _ _ _ => none) N (fun k100 =>
 fun (x102 x103 : Value) (h104 : Hs) =>
 kI64 .leq x74 x102 (fun x105 =>
 gdT x105 h104 (fun k106 => k106 a4 h104) (fun x107 _ =>
 gdT x105 h104 (fun k109 => k109 a0 h104) (fun x110 _ =>
 gdT x105 h104 (fun k112 => k112 x102 h104) (fun x113 _ =>
 gdT x105 h104 (fun k115 => kIdxA 4 x110 x113 (fun x116 => k115 x116 h104)) (fun x117 _ =>
 gdT x105 h104 (fun k119 => kLoads 4 x117 (Hs.mk h104.hp h104.nx h104.nx) (fun x120 => k119 x120 h104)) (fun x121 _ =>
 gdT x105 h104 (fun k123 => k123 a0 h104) (fun x124 _ =>
 gdT x105 h104 (fun k126 => k126 a1 h104) (fun x127 _ =>
 gdT x105 h104 (fun k129 => kIdxA 4 x124 x127 (fun x130 => k129 x130 h104)) (fun x131 _ =>
 gdT x105 h104 (fun k133 => kLoads 4 x131 (Hs.mk h104.hp h104.nx h104.nx) (fun x134 => k133 x134 h104)) (fun x135 _ =>
 gdT x105 h104 (fun k137 => isVal (fun v138 u139 => dPut k137 v138 (dNext h104 u139 .bar) (andB (dFit h104 u139 .bar) (Nat.ble 0 u139.lo))) (callV (toRn R) [x121, x135] h104 x107)) (fun x140 h141 =>
 gdT x105 h141 (fun k142 => kI64 .lss x140 (Value.int .i64 (.ofNat 0)) (fun x143 => k142 x143 h141)) (fun x144 _ =>
 gdT x105 h141 (fun k146 => kNot x144 (fun x147 => k146 x147 h141)) (fun x148 _ =>
 after (fun v158 u159 => dPut (fun x150 h151 =>
 jn (fun (h153 : Hs) =>
 jn (fun (x155 : Value) (h156 : Hs) =>
 k100 x155 x150 h156) fun k154 =>
 kI64 .sub x102 (Value.int .i64 (.ofNat 1)) (fun x157 =>
 k154 x157 h153)) fun k152 =>
 cnd x150
 (k152 h151)
 (k77 x102 x150 h151)) v158 (dNext h141 u159 .blind) (andB (dFit h141 u159 .blind) (Nat.ble 0 u159.lo))) (pickB (.c x148) (.c (Value.bool false)) enE (Hs.mk .e h141.nx h141.nx) x105))))))))))))))) x61 x63 h76) fun k73 =>
 lpT (T := Value → Value → Hs → An) (fun _ _ _ => none) N (fun k160 =>
 fun (x162 x163 : Value) (h164 : Hs) =>
 kI64 .leq x162 x61 (fun x165 =>
 gdT x165 h164 (fun k166 => k166 a4 h164) (fun x167 _ =>
 gdT x165 h164 (fun k169 => k169 a0 h164) (fun x170 _ =>
 gdT x165 h164 (fun k172 => k172 x162 h164) (fun x173 _ =>
 gdT x165 h164 (fun k175 => kIdxA 4 x170 x173 (fun x176 => k175 x176 h164)) (fun x177 _ =>
 gdT x165 h164 (fun k179 => kLoads 4 x177 (Hs.mk h164.hp h164.nx h164.nx) (fun x180 => k179 x180 h164)) (fun x181 _ =>
 gdT x165 h164 (fun k183 => k183 a0 h164) (fun x184 _ =>
 gdT x165 h164 (fun k186 => k186 a1 h164) (fun x187 _ =>
 gdT x165 h164 (fun k189 => kIdxA 4 x184 x187 (fun x190 => k189 x190 h164)) (fun x191 _ =>
 gdT x165 h164 (fun k193 => kLoads 4 x191 (Hs.mk h164.hp h164.nx h164.nx) (fun x194 => k193 x194 h164)) (fun x195 _ =>
 gdT x165 h164 (fun k197 => isVal (fun v198 u199 => dPut k197 v198 (dNext h164 u199 .bar) (andB (dFit h164 u199 .bar) (Nat.ble 0 u199.lo))) (callV (toRn R) [x181, x195] h164 x167)) (fun x200 h201 =>
 gdT x165 h201 (fun k202 => kI64 .lss x200 (Value.int .i64 (.ofNat 0)) (fun x203 => k202 x203 h201)) (fun x204 _ =>
 after (fun v214 u215 => dPut (fun x206 h207 =>
 jn (fun (h209 : Hs) =>
 jn (fun (x211 : Value) (h212 : Hs) =>
 k160 x211 x206 h212) fun k210 =>
 kI64 .add x162 (Value.int .i64 (.ofNat 1)) (fun x213 =>
 k210 x213 h209)) fun k208 =>
 cnd x206
 (k208 h207)
 (k73 x162 x206 h207)) v214 (dNext h201 u215 .blind) (andB (dFit h201 u215 .blind) (Nat.ble 0 u215.lo))) (pickB (.c x204) (.c (Value.bool false)) enE (Hs.mk .e h201.nx h201.nx) x165)))))))))))))) x60 x62 h65) x35 x36 dunno dunno dunno h34))) v216 (dNext h31 u217 .bar) (andB (dFit h31 u217 .bar) (Nat.ble 0 u217.lo))) (store1 4 h31 (cellsL x28) (addrOf x32)))) v218 (dNext h24 u219 .bar) (andB (dFit h24 u219 .bar) (Nat.ble 0 u219.lo))) (store1 4 h24 (cellsL x26) (addrOf x29)))))))) fun k21 =>
 cnd x20
 (kIdxA 4 a0 a1 (fun x220 =>
 kLoads 4 x220 (Hs.mk h19.hp h19.nx h19.nx) (fun x221 =>
 kIdxA 4 a0 x17 (fun x222 =>
 kLoads 4 x222 (Hs.mk h19.hp h19.nx h19.nx) (fun x223 =>
 kIdxA 4 a0 x17 (fun x224 =>
 after (fun v232 u233 => dPut (fun x225 h226 =>
 kIdxA 4 a0 a1 (fun x227 =>
 after (fun v230 u231 => dPut (fun x228 h229 =>
 clrK h (Value.tuple #[x17, (Value.bool true)]) h229) v230 (dNext h226 u231 .bar) (andB (dFit h226 u231 .bar) (Nat.ble 0 u231.lo))) (store1 4 h226 (cellsL x223) (addrOf x227)))) v232 (dNext h19 u233 .bar) (andB (dFit h19 u233 .bar) (Nat.ble 0 u233.lo))) (store1 4 h19 (cellsL x221) (addrOf x224))))))))
 (k21 (Value.int .i64 (.ofNat 0)) (Value.bool false) h19))) fun k16 =>
 lpT (T := Value → Value → Hs → An) (fun _ _ _ => none) N (fun k234 =>
 fun (x236 x237 : Value) (h238 : Hs) =>
 kI64 .leq x13 x236 (fun x239 =>
 gdT x239 h238 (fun k240 => k240 a4 h238) (fun x241 _ =>
 gdT x239 h238 (fun k243 => k243 a0 h238) (fun x244 _ =>
 gdT x239 h238 (fun k246 => k246 x236 h238) (fun x247 _ =>
 gdT x239 h238 (fun k249 => kIdxA 4 x244 x247 (fun x250 => k249 x250 h238)) (fun x251 _ =>
 gdT x239 h238 (fun k253 => kLoads 4 x251 (Hs.mk h238.hp h238.nx h238.nx) (fun x254 => k253 x254 h238)) (fun x255 _ =>
 gdT x239 h238 (fun k257 => k257 a0 h238) (fun x258 _ =>
 gdT x239 h238 (fun k260 => k260 a1 h238) (fun x261 _ =>
 gdT x239 h238 (fun k263 => kIdxA 4 x258 x261 (fun x264 => k263 x264 h238)) (fun x265 _ =>
 gdT x239 h238 (fun k267 => kLoads 4 x265 (Hs.mk h238.hp h238.nx h238.nx) (fun x268 => k267 x268 h238)) (fun x269 _ =>
 gdT x239 h238 (fun k271 => isVal (fun v272 u273 => dPut k271 v272 (dNext h238 u273 .bar) (andB (dFit h238 u273 .bar) (Nat.ble 0 u273.lo))) (callV (toRn R) [x255, x269] h238 x241)) (fun x274 h275 =>
 gdT x239 h275 (fun k276 => kI64 .lss x274 (Value.int .i64 (.ofNat 0)) (fun x277 => k276 x277 h275)) (fun x278 _ =>
 gdT x239 h275 (fun k280 => kNot x278 (fun x281 => k280 x281 h275)) (fun x282 _ =>
 after (fun v292 u293 => dPut (fun x284 h285 =>
 jn (fun (h287 : Hs) =>
 jn (fun (x289 : Value) (h290 : Hs) =>
 k234 x289 x284 h290) fun k288 =>
 kI64 .sub x236 (Value.int .i64 (.ofNat 1)) (fun x291 =>
 k288 x291 h287)) fun k286 =>
 cnd x284
 (k286 h285)
 (k16 x236 x284 h285)) v292 (dNext h275 u293 .blind) (andB (dFit h275 u293 .blind) (Nat.ble 0 u293.lo))) (pickB (.c x282) (.c (Value.bool false)) enE (Hs.mk .e h275.nx h275.nx) x239))))))))))))))) x11 dunno h15) fun k12 =>
 lpT (T := Value → Value → Hs → An) (fun _ _ _ => none) N (fun k294 =>
 fun (x296 x297 : Value) (h298 : Hs) =>
 kI64 .leq x296 x11 (fun x299 =>
 gdT x299 h298 (fun k300 => k300 a4 h298) (fun x301 _ =>
 gdT x299 h298 (fun k303 => k303 a0 h298) (fun x304 _ =>
 gdT x299 h298 (fun k306 => k306 x296 h298) (fun x307 _ =>
 gdT x299 h298 (fun k309 => kIdxA 4 x304 x307 (fun x310 => k309 x310 h298)) (fun x311 _ =>
 gdT x299 h298 (fun k313 => kLoads 4 x311 (Hs.mk h298.hp h298.nx h298.nx) (fun x314 => k313 x314 h298)) (fun x315 _ =>
 gdT x299 h298 (fun k317 => k317 a0 h298) (fun x318 _ =>
 gdT x299 h298 (fun k320 => k320 a1 h298) (fun x321 _ =>
 gdT x299 h298 (fun k323 => kIdxA 4 x318 x321 (fun x324 => k323 x324 h298)) (fun x325 _ =>
 gdT x299 h298 (fun k327 => kLoads 4 x325 (Hs.mk h298.hp h298.nx h298.nx) (fun x328 => k327 x328 h298)) (fun x329 _ =>
 gdT x299 h298 (fun k331 => isVal (fun v332 u333 => dPut k331 v332 (dNext h298 u333 .bar) (andB (dFit h298 u333 .bar) (Nat.ble 0 u333.lo))) (callV (toRn R) [x315, x329] h298 x301)) (fun x334 h335 =>
 gdT x299 h335 (fun k336 => kI64 .lss x334 (Value.int .i64 (.ofNat 0)) (fun x337 => k336 x337 h335)) (fun x338 _ =>
 after (fun v348 u349 => dPut (fun x340 h341 =>
 jn (fun (h343 : Hs) =>
 jn (fun (x345 : Value) (h346 : Hs) =>
 k294 x345 x340 h346) fun k344 =>
 kI64 .add x296 (Value.int .i64 (.ofNat 1)) (fun x347 =>
 k344 x347 h343)) fun k342 =>
 cnd x340
 (k342 h341)
 (k12 x296 x340 h341)) v348 (dNext h335 u349 .blind) (andB (dFit h335 u349 .blind) (Nat.ble 0 u349.lo))) (pickB (.c x338) (.c (Value.bool false)) enE (Hs.mk .e h335.nx h335.nx) x299)))))))))))))) x10 dunno h9))) v350 (dNext h6 u351 .bar) (andB (dFit h6 u351 .bar) (Nat.ble 0 u351.lo))) (store1 4 h6 (cellsL x3) (addrOf x7)))) v352 (dNext h0 u353 .bar) (andB (dFit h0 u353 .bar) (Nat.ble 0 u353.lo))) (store1 4 h0 (cellsL x1) (addrOf x4)))))))

theorem q87 (R : RnK) (N : Nat) (args : List Value) (h : Hs) : r87 R N args h = callT Tryz.prog N R 87 args h := by kernel_rfl

/-- math/bits.Len32 -/
noncomputable def r88 (R : RnK) (N : Nat) (args : List Value) (h : Hs) : An := unC args fun a0 sq0 => enK h fun h0 =>
 obK (fun x0 =>
 jn (fun (x2 x3 : Value) (h4 : Hs) =>
 obK (fun x5 =>
 jn (fun (x7 x8 : Value) (h9 : Hs) =>
 kTo8 x7 (fun x10 =>
 after (fun x11 h12 =>
 kTo64 x11 (fun x13 =>
 kI64 .add x8 x13 (fun x14 =>
 clrK h x14 h12))) (oIdxS (.c (Value.string ⟨#[0, 1, 2, 2, 3, 3, 3, 3, 4, 4, 4, 4, 4, 4, 4, 4, 5, 5, 5, 5, 5, 5, 5, 5, 5, 5, 5, 5, 5, 5, 5, 5, 6, 6, 6, 6, 6, 6, 6, 6, 6, 6, 6, 6, 6, 6, 6, 6, 6, 6, 6, 6, 6, 6, 6, 6, 6, 6, 6, 6, 6, 6, 6, 6, 7, 7, 7, 7, 7, 7, 7, 7, 7, 7, 7, 7, 7, 7, 7, 7, 7, 7, 7, 7, 7, 7, 7, 7, 7, 7, 7, 7, 7, 7, 7, 7, 7, 7, 7, 7, 7, 7, 7, 7, 7, 7, 7, 7, 7, 7, 7, 7, 7, 7, 7, 7, 7, 7, 7, 7, 7, 7, 7, 7, 7, 7, 7, 7, 8, 8, 8, 8, 8, 8, 8, 8, 8, 8, 8, 8, 8, 8, 8, 8, 8, 8, 8, 8, 8, 8, 8, 8, 8, 8, 8, 8, 8, 8, 8, 8, 8, 8, 8, 8, 8, 8, 8, 8, 8, 8, 8, 8, 8, 8, 8, 8, 8, 8, 8, 8, 8, 8, 8, 8, 8, 8, 8, 8, 8, 8, 8, 8, 8, 8, 8, 8, 8, 8, 8, 8, 8, 8, 8, 8, 8, 8, 8, 8, 8, 8, 8, 8, 8, 8, 8, 8, 8, 8, 8, 8, 8, 8, 8, 8, 8, 8, 8, 8, 8, 8, 8, 8, 8, 8, 8, 8, 8, 8, 8, 8, 8, 8, 8, 8, 8, 8, 8, 8, 8, 8, 8, 8, 8, 8, 8, 8]⟩)) (.c x10) enE h9))) fun k6 =>
 cnd x5
 (kShr x2 (Value.int .u64 (.ofNat 8)) (fun x15 =>
 kI64 .add x3 (Value.int .i64 (.ofNat 8)) (fun x16 =>
 k6 x15 x16 h4)))
 (k6 x2 x3 h4)) (i2 (fOf .geq) x2 (Value.int .u32 (.ofNat 256)))) fun k1 =>
 cnd x0
 (kShr a0 (Value.int .u64 (.ofNat 16)) (fun x17 =>
 k1 x17 (Value.int .i64 (.ofNat 16)) h0))
 (k1 a0 (Value.int .i64 (.ofNat 0)) h0)) (i2 (fOf .geq) a0 (Value.int .u32 (.ofNat 65536)))

theorem q88 (R : RnK) (N : Nat) (args : List Value) (h : Hs) : r88 R N args h = callT Tryz.prog N R 88 args h := by kernel_rfl

/-- math/bits.Len64 -/
noncomputable def r89 (R : RnK) (N : Nat) (args : List Value) (h : Hs) : An := unC args fun a0 sq0 => enK h fun h0 =>
 kU64 .geq a0 (Value.int .u64 (.ofNat 4294967296)) (fun x0 =>
 jn (fun (x2 x3 : Value) (h4 : Hs) =>
 kU64 .geq x2 (Value.int .u64 (.ofNat 65536)) (fun x5 =>
 jn (fun (x7 x8 : Value) (h9 : Hs) =>
 kU64 .geq x7 (Value.int .u64 (.ofNat 256)) (fun x10 =>
 jn (fun (x12 x13 : Value) (h14 : Hs) =>
 kTo8 x12 (fun x15 =>
 after (fun x16 h17 =>
 kTo64 x16 (fun x18 =>
 kI64 .add x13 x18 (fun x19 =>
 clrK h x19 h17))) (oIdxS (.c (Value.string ⟨#[0, 1, 2, 2, 3, 3, 3, 3, 4, 4, 4, 4, 4, 4, 4, 4, 5, 5, 5, 5, 5, 5, 5, 5, 5, 5, 5, 5, 5, 5, 5, 5, 6, 6, 6, 6, 6, 6, 6, 6, 6, 6, 6, 6, 6, 6, 6, 6, 6, 6, 6, 6, 6, 6, 6, 6, 6, 6, 6, 6, 6, 6, 6, 6, 7, 7, 7, 7, 7, 7, 7, 7, 7, 7, 7, 7, 7, 7, 7, 7, 7, 7, 7, 7, 7, 7, 7, 7, 7, 7, 7, 7, 7, 7, 7, 7, 7, 7, 7, 7, 7, 7, 7, 7, 7, 7, 7, 7, 7, 7, 7, 7, 7, 7, 7, 7, 7, 7, 7, 7, 7, 7, 7, 7, 7, 7, 7, 7, 8, 8, 8, 8, 8, 8, 8, 8, 8, 8, 8, 8, 8, 8, 8, 8, 8, 8, 8, 8, 8, 8, 8, 8, 8, 8, 8, 8, 8, 8, 8, 8, 8, 8, 8, 8, 8, 8, 8, 8, 8, 8, 8, 8, 8, 8, 8, 8, 8, 8, 8, 8, 8, 8, 8, 8, 8, 8, 8, 8, 8, 8, 8, 8, 8, 8, 8, 8, 8, 8, 8, 8, 8, 8, 8, 8, 8, 8, 8, 8, 8, 8, 8, 8, 8, 8, 8, 8, 8, 8, 8, 8, 8, 8, 8, 8, 8, 8, 8, 8, 8, 8, 8, 8, 8, 8, 8, 8, 8, 8, 8, 8, 8, 8, 8, 8, 8, 8, 8, 8, 8, 8, 8, 8, 8, 8, 8, 8]⟩)) (.c x15) enE h14))) fun k11 =>
 cnd x10
 (kShr x7 (Value.int .u64 (.ofNat 8)) (fun x20 =>
 kI64 .add x8 (Value.int .i64 (.ofNat 8)) (fun x21 =>
 k11 x20 x21 h9)))
 (k11 x7 x8 h9))) fun k6 =>
 cnd x5
 (kShr x2 (Value.int .u64 (.ofNat 16)) (fun x22 =>
 kI64 .add x3 (Value.int .i64 (.ofNat 16)) (fun x23 =>
 k6 x22 x23 h4)))
 (k6 x2 x3 h4))) fun k1 =>
 cnd x0
 (kShr a0 (Value.int .u64 (.ofNat 32)) (fun x24 =>
 k1 x24 (Value.int .i64 (.ofNat 32)) h0))
 (k1 a0 (Value.int .i64 (.ofNat 0)) h0))

theorem q89 (R : RnK) (N : Nat) (args : List Value) (h : Hs) : r89 R N args h = callT Tryz.prog N R 89 args h := by kernel_rfl

/-- slices.IndexFunc[[]lintel/node.Run,lintel/node.Run] -/
noncomputable def r90 (R : RnK) (N : Nat) (args : List Value) (h : Hs) : An := unC args fun a0 sq0 => unC sq0 fun a1 sq1 => enK h fun h0 =>
 kLenV a0 (fun x0 =>
 jn (fun (x2 x3 x4 x5 x6 : Value) (h7 : Hs) =>
 clrK h (Value.int .i64 (.negSucc 0)) h7) fun k1 =>
 lpT (T := Value → Value → Value → Value → Value → Hs → An) (fun _ _ _ _ _ _ => none) N (fun k8 =>
 fun (x10 x11 x12 x13 x14 : Value) (h15 : Hs) =>
 kI64 .lss x10 x0 (fun x16 =>
 jn (fun (h18 : Hs) =>
 jn (fun (x20 x21 x22 : Value) (h23 : Hs) =>
 kI64 .add x10 (Value.int .i64 (.ofNat 1)) (fun x24 =>
 k8 x24 x16 x20 x21 x22 h23)) fun k19 =>
 kIdxA 2 a0 x10 (fun x25 =>
 kLoads 2 x25 h18 (fun x26 =>
 isVal (fun x27 h28 =>
 jn (fun (x30 : Value) (h31 : Hs) =>
 k19 x10 x27 x30 h31) fun k29 =>
 cnd x27
 (clrK h x10 h28)
 (k29 x14 h28)) (callV (toRn R) [x26] h18 a1)))) fun k17 =>
 cnd x16
 (k17 h15)
 (k1 x10 x16 x12 x13 x14 h15))) (Value.int .i64 (.ofNat 0)) dunno dunno dunno (Value.int .i64 (.ofNat 0)) h0)

theorem q90 (R : RnK) (N : Nat) (args : List Value) (h : Hs) : r90 R N args h = callT Tryz.prog N R 90 args h := by kernel_rfl

/-- math/bits.RotateLeft64 -/
noncomputable def r91 (R : RnK) (N : Nat) (args : List Value) (h : Hs) : An := unC args fun a0 sq0 => unC sq0 fun a1 sq1 => enK h fun h0 =>
 kToU a1 (fun x0 =>
 kU64 .and x0 (Value.int .u64 (.ofNat 63)) (fun x1 =>
 kShl a0 x1 (fun x2 =>
 kU64 .sub (Value.int .u64 (.ofNat 64)) x1 (fun x3 =>
 kShr a0 x3 (fun x4 =>
 kU64 .or x2 x4 (fun x5 =>
 clrK h x5 h0))))))

theorem q91 (R : RnK) (N : Nat) (args : List Value) (h : Hs) : r91 R N args h = callT Tryz.prog N R 91 args h := by kernel_rfl

/-- strings.Contains -/
noncomputable def r92 (R : RnK) (N : Nat) (args : List Value) (h : Hs) : An := unC args fun a0 sq0 => unC sq0 fun a1 sq1 => enK h fun h0 =>
 kCall R 101 [a0, a1] h0 (fun x0 h1 =>
 kI64 .geq x0 (Value.int .i64 (.ofNat 0)) (fun x2 =>
 clrK h x2 h1))

theorem q92 (R : RnK) (N : Nat) (args : List Value) (h : Hs) : r92 R N args h = callT Tryz.prog N R 92 args h := by kernel_rfl

/-- internal/strconv.FormatInt -/
noncomputable def r93 (R : RnK) (N : Nat) (args : List Value) (h : Hs) : An := unC args fun a0 sq0 => unC sq0 fun a1 sq1 => enK h fun h0 =>
 kI64 .eql a1 (Value.int .i64 (.ofNat 10)) (fun x0 =>
 jn (fun (x2 x3 x4 x5 x6 x7 x8 : Value) (h9 : Hs) =>
 kToU a0 (fun x10 =>
 kI64 .lss a0 (Value.int .i64 (.ofNat 0)) (fun x11 =>
 kCall R 105 [(Value.slice none 0 0), x10, a1, x11, (Value.bool false)] h9 (fun x12 h13 =>
 kExtr x12 0 (fun x14 =>
 kExtr x12 1 (fun x15 =>
 clrK h x15 h13)))))) fun k1 =>
 cnd x0
 (kI64 .leq (Value.int .i64 (.ofNat 0)) a0 (fun x16 =>
 gdT x16 h0 (fun k17 => k17 a0 h0) (fun x18 h19 =>
 gdT x16 h19 (fun k20 => kI64 .lss x18 (Value.int .i64 (.ofNat 100)) (fun x21 => k20 x21 h19)) (fun x22 h23 =>
 after (fun x24 h25 =>
 jn (fun (x27 : Value) (h28 : Hs) =>
 after (fun x29 h30 =>
 kToU a0 (fun x31 =>
 kI64 .lss a0 (Value.int .i64 (.ofNat 0)) (fun x32 =>
 jn (fun (x34 : Value) (h35 : Hs) =>
 kCall R 103 [x34] h35 (fun x36 h37 =>
 kI64 .add (Value.int .i64 (.ofNat 1)) x36 (fun x38 =>
 none))) fun k33 =>
 cnd x32
 (obK (fun x60 =>
 k33 x60 h30) (un .neg x31))
 (k33 x31 h30)))) (oAlloc 157 [(Value.int .u8 (.ofNat 0)), (Value.int .u8 (.ofNat 0)), (Value.int .u8 (.ofNat 0)), (Value.int .u8 (.ofNat 0)), (Value.int .u8 (.ofNat 0)), (Value.int .u8 (.ofNat 0)), (Value.int .u8 (.ofNat 0)), (Value.int .u8 (.ofNat 0)), (Value.int .u8 (.ofNat 0)), (Value.int .u8 (.ofNat 0)), (Value.int .u8 (.ofNat 0)), (Value.int .u8 (.ofNat 0)), (Value.int .u8 (.ofNat 0)), (Value.int .u8 (.ofNat 0)), (Value.int .u8 (.ofNat 0)), (Value.int .u8 (.ofNat 0)), (Value.int .u8 (.ofNat 0)), (Value.int .u8 (.ofNat 0)), (Value.int .u8 (.ofNat 0)), (Value.int .u8 (.ofNat 0)), (Value.int .u8 (.ofNat 0)), (Value.int .u8 (.ofNat 0)), (Value.int .u8 (.ofNat 0)), (Value.int .u8 (.ofNat 0))] enE h28)) fun k26 =>
 cnd x24
 (kCall R 102 [a0] h25 (fun x61 h62 =>
 clrK h x61 h62))
 (k26 (Value.string ⟨#[]⟩) h25)) (pickB (.c x22) (.c (Value.bool false)) enE h23 x16)))))
 (k1 dunno dunno dunno dunno dunno dunno (Value.string ⟨#[]⟩) h0))

theorem q93 (R : RnK) (N : Nat) (args : List Value) (h : Hs) : r93 R N args h = callT Tryz.prog N R 93 args h := by kernel_rfl

/-- (*strings.Builder).grow -/
noncomputable def r95 (R : RnK) (N : Nat) (args : List Value) (h : Hs) : An := unC args fun a0 sq0 => unC sq0 fun a1 sq1 => enK h fun h0 =>
 kNil a0 (fun x0 =>
 kFieldA 1 x0 (fun x1 =>
 kLoad x1 (Hs.mk h0.hp h0.nx h0.nx) (fun x2 =>
 after (fun v28 u29 => dPut (fun x3 h4 =>
 kI64 .mul (Value.int .i64 (.ofNat 2)) x3 (fun x5 =>
 kI64 .add x5 a1 (fun x6 =>
 after (fun v26 u27 => dPut (fun x7 h8 =>
 kNil a0 (fun x9 =>
 kFieldA 1 x9 (fun x10 =>
 kLoad x10 (dHidS .light [true, true, true, false, false, false, false, false, false, false, false, false] [none, none, none, some (h4.nx, h8.nx), none, none, none, some (h0.nx, h4.nx), none, none, none, none] h8) (fun x11 =>
 kLenV x11 (fun x12 =>
 after (fun v24 u25 => dPut (fun x13 h14 =>
 kNil a0 (fun x15 =>
 kFieldA 1 x15 (fun x16 =>
 kLoad x16 h14 (fun x17 =>
 after (fun x18 h19 =>
 kNil a0 (fun x20 =>
 kFieldA 1 x20 (fun x21 =>
 kStore1 x21 x13 h19 (fun x22 h23 =>
 clrK h (Value.tuple #[]) h23)))) (copy0 1 h14 x13 x17))))) v24 (dNext h8 u25 .bar) (andB (dFit h8 u25 .bar) (Nat.ble 0 u25.lo))) (oSlice 1 (.c x7) none (some (.c x12)) none enE h8)))))) v26 (dNext h4 u27 .light) (andB (dFit h4 u27 .light) (Nat.ble 0 u27.lo))) (mkNZ 5 (dHidS .light [true, true, true, true, true, true, true, true] [none, none, none, some (h0.nx, h4.nx), none, none, none, none] h4) (nat64 x6))))) v28 (dNext h0 u29 .blind) (andB (dFit h0 u29 .blind) (Nat.ble 0 u29.lo))) (oCapV (.c x2) enE (Hs.mk .e h0.nx h0.nx)))))

theorem q95 (R : RnK) (N : Nat) (args : List Value) (h : Hs) : r95 R N args h = callT Tryz.prog N R 95 args h := by kernel_rfl

/-- slices.siftDownCmpFunc[lintel/check.Finding] -/
noncomputable def r96 (R : RnK) (N : Nat) (args : List Value) (h : Hs) : An := unC args fun a0 sq0 => unC sq0 fun a1 sq1 => unC sq1 fun a2 sq2 => unC sq2 fun a3 sq3 => unC sq3 fun a4 sq4 => enK h fun h0 =>
 jn (fun (x1 x2 x3 x4 x5 : Value) (h6 : Hs) =>
 clrK h (Value.tuple #[]) h6) fun k0 =>
 lpT (T := Value → Value → Value → Value → Value → Hs → An) (fun _ _ _ _ _ _ => none) N (fun k7 =>
 fun (x9 x10 x11 x12 x13 : Value) (h14 : Hs) =>
 jn (fun (x16 x17 x18 x19 x20 : Value) (h21 : Hs) =>
 k7 x16 x17 x18 x19 x20 h21) fun k15 =>
 kI64 .mul (Value.int .i64 (.ofNat 2)) x9 (fun x22 =>
 kI64 .add x22 (Value.int .i64 (.ofNat 1)) (fun x23 =>
 kI64 .geq x23 a2 (fun x24 =>
 jn (fun (h26 : Hs) =>
 kI64 .add x23 (Value.int .i64 (.ofNat 1)) (fun x27 =>
 kI64 .lss x27 a2 (fun x28 =>
 gdT x28 h26 (fun k29 => k29 a4 h26) (fun x30 _ =>
 gdT x28 h26 (fun k32 => k32 a0 h26) (fun x33 _ =>
 gdT x28 h26 (fun k35 => k35 a3 h26) (fun x36 _ =>
 gdT x28 h26 (fun k38 => k38 x23 h26) (fun x39 _ =>
 gdT x28 h26 (fun k41 => kI64 .add x36 x39 (fun x42 => k41 x42 h26)) (fun x43 _ =>
 gdT x28 h26 (fun k45 => kIdxA 4 x33 x43 (fun x46 => k45 x46 h26)) (fun x47 _ =>
 gdT x28 h26 (fun k49 => kLoads 4 x47 (Hs.mk h26.hp h26.nx h26.nx) (fun x50 => k49 x50 h26)) (fun x51 _ =>
 gdT x28 h26 (fun k53 => k53 a0 h26) (fun x54 _ =>
 gdT x28 h26 (fun k56 => k56 a3 h26) (fun x57 _ =>
 gdT x28 h26 (fun k59 => k59 x23 h26) (fun x60 _ =>
 gdT x28 h26 (fun k62 => kI64 .add x57 x60 (fun x63 => k62 x63 h26)) (fun x64 _ =>
 gdT x28 h26 (fun k66 => kI64 .add x64 (Value.int .i64 (.ofNat 1)) (fun x67 => k66 x67 h26)) (fun x68 _ =>
 gdT x28 h26 (fun k70 => kIdxA 4 x54 x68 (fun x71 => k70 x71 h26)) (fun x72 _ =>
 gdT x28 h26 (fun k74 => kLoads 4 x72 (Hs.mk h26.hp h26.nx h26.nx) (fun x75 => k74 x75 h26)) (fun x76 _ =>
 gdT x28 h26 (fun k78 => isVal (fun v79 u80 => dPut k78 v79 (dNext h26 u80 .bar) (andB (dFit h26 u80 .bar) (Nat.ble 0 u80.lo))) (callV (toRn R) [x51, x76] h26 x30)) (fun x81 h82 =>
 gdT x28 h82 (fun k83 => kI64 .lss x81 (Value.int .i64 (.ofNat 0)) (fun x84 => k83 x84 h82)) (fun x85 _ =>
 after (fun v125 u126 => dPut (fun x87 h88 =>
 jn (fun (x90 : Value) (h91 : Hs) =>
 kI64 .add a3 x9 (fun x92 =>
 kIdxA 4 a0 x92 (fun x93 =>
 kLoads 4 x93 (Hs.mk h91.hp h91.nx h91.nx) (fun x94 =>
 kI64 .add a3 x90 (fun x95 =>
 kIdxA 4 a0 x95 (fun x96 =>
 kLoads 4 x96 (Hs.mk h91.hp h91.nx h91.nx) (fun x97 =>
 isVal (fun v122 u123 => dPut (fun x98 h99 =>
 kI64 .lss x98 (Value.int .i64 (.ofNat 0)) (fun x100 =>
 kNot x100 (fun x101 =>
 jn (fun (h103 : Hs) =>
 kI64 .add a3 x9 (fun x104 =>
 kI64 .add a3 x90 (fun x105 =>
 kI64 .add a3 x90 (fun x106 =>
 kIdxA 4 a0 x106 (fun x107 =>
 kLoads 4 x107 (Hs.mk h103.hp h103.nx h103.nx) (fun x108 =>
 kI64 .add a3 x9 (fun x109 =>
 kIdxA 4 a0 x109 (fun x110 =>
 kLoads 4 x110 (Hs.mk h103.hp h103.nx h103.nx) (fun x111 =>
 kIdxA 4 a0 x104 (fun x112 =>
 after (fun v120 u121 => dPut (fun x113 h114 =>
 kIdxA 4 a0 x105 (fun x115 =>
 after (fun v118 u119 => dPut (fun x116 h117 =>
 k15 x90 x90 x24 x87 x101 h117) v118 (dNext h114 u119 .bar) (andB (dFit h114 u119 .bar) (Nat.ble 0 u119.lo))) (store1 4 h114 (cellsL x111) (addrOf x115)))) v120 (dNext h103 u121 .bar) (andB (dFit h103 u121 .bar) (Nat.ble 0 u121.lo))) (store1 4 h103 (cellsL x108) (addrOf x112)))))))))))) fun k102 =>
 cnd x101
 (clrK h (Value.tuple #[]) h99)
 (k102 h99)))) v122 (dNext h91 u123 .bar) (andB (dFit h91 u123 .bar) (Nat.ble 0 u123.lo))) (callV (toRn R) [x94, x97] h91 a4)))))))) fun k89 =>
 cnd x87
 (kI64 .add x23 (Value.int .i64 (.ofNat 1)) (fun x124 =>
 k89 x124 h88))
 (k89 x23 h88)) v125 (dNext h82 u126 .blind) (andB (dFit h82 u126 .blind) (Nat.ble 0 u126.lo))) (pickB (.c x85) (.c (Value.bool false)) enE (Hs.mk .e h82.nx h82.nx) x28)))))))))))))))))))) fun k25 =>
 cnd x24
 (k0 x9 x23 x24 x12 x13 h14)
 (k25 h14))))) a1 dunno dunno dunno dunno h0

theorem q96 (R : RnK) (N : Nat) (args : List Value) (h : Hs) : r96 R N args h = callT Tryz.prog N R 96 args h := by kernel_rfl

/-- slices.nextPowerOfTwo -/
noncomputable def r97 (R : RnK) (N : Nat) (args : List Value) (h : Hs) : An := unC args fun a0 sq0 => enK h fun h0 =>
 kToU a0 (fun x0 =>
 kCall R 62 [x0] h0 (fun x1 h2 =>
 kShl (Value.int .u64 (.ofNat 1)) x1 (fun x3 =>
 clrK h x3 h2)))

theorem q97 (R : RnK) (N : Nat) (args : List Value) (h : Hs) : r97 R N args h = callT Tryz.prog N R 97 args h := by kernel_rfl

/-- (*slices.xorshift).Next -/
noncomputable def r98 (R : RnK) (N : Nat) (args : List Value) (h : Hs) : An := unC args fun a0 sq0 => enK h fun h0 =>
 kNil a0 (fun x0 =>
 kLoad x0 (Hs.mk h0.hp h0.nx h0.nx) (fun x1 =>
 kNil a0 (fun x2 =>
 kLoad x2 (Hs.mk h0.hp h0.nx h0.nx) (fun x3 =>
 kShl x3 (Value.int .u64 (.ofNat 13)) (fun x4 =>
 kU64 .xor x1 x4 (fun x5 =>
 kNil a0 (fun x6 =>
 kStore1 x6 x5 h0 (fun v33 u34 => dPut (fun x7 h8 =>
 kNil a0 (fun x9 =>
 kLoad x9 (Hs.mk h8.hp h8.nx h8.nx) (fun x10 =>
 kNil a0 (fun x11 =>
 kLoad x11 (Hs.mk h8.hp h8.nx h8.nx) (fun x12 =>
 kShr x12 (Value.int .u64 (.ofNat 7)) (fun x13 =>
 kU64 .xor x10 x13 (fun x14 =>
 kNil a0 (fun x15 =>
 kStore1 x15 x14 h8 (fun v31 u32 => dPut (fun x16 h17 =>
 kNil a0 (fun x18 =>
 kLoad x18 (Hs.mk h17.hp h17.nx h17.nx) (fun x19 =>
 kNil a0 (fun x20 =>
 kLoad x20 (Hs.mk h17.hp h17.nx h17.nx) (fun x21 =>
 kShl x21 (Value.int .u64 (.ofNat 17)) (fun x22 =>
 kU64 .xor x19 x22 (fun x23 =>
 kNil a0 (fun x24 =>
 kStore1 x24 x23 h17 (fun v29 u30 => dPut (fun x25 h26 =>
 kNil a0 (fun x27 =>
 kLoad x27 h26 (fun x28 =>
 clrK h x28 h26))) v29 (dNext h17 u30 .bar) (andB (dFit h17 u30 .bar) (Nat.ble 0 u30.lo))))))))))) v31 (dNext h8 u32 .bar) (andB (dFit h8 u32 .bar) (Nat.ble 0 u32.lo))))))))))) v33 (dNext h0 u34 .bar) (andB (dFit h0 u34 .bar) (Nat.ble 0 u34.lo))))))))))

theorem q98 (R : RnK) (N : Nat) (args : List Value) (h : Hs) : r98 R N args h = callT Tryz.prog N R 98 args h := by kernel_rfl

/-- slices.medianAdjacentCmpFunc[lintel/check.Finding] -/
noncomputable def r99 (R : RnK) (N : Nat) (args : List Value) (h : Hs) : An := unC args fun a0 sq0 => unC sq0 fun a1 sq1 => unC sq1 fun a2 sq2 => unC sq2 fun a3 sq3 => enK h fun h0 =>
 kI64 .sub a1 (Value.int .i64 (.ofNat 1)) (fun x0 =>
 kI64 .add a1 (Value.int .i64 (.ofNat 1)) (fun x1 =>
 kCall R 100 [a0, x0, a1, x1, a2, a3] h0 (fun x2 h3 =>
 clrK h x2 h3)))

theorem q99 (R : RnK) (N : Nat) (args : List Value) (h : Hs) : r99 R N args h = callT Tryz.prog N R 99 args h := by kernel_rfl

/-- slices.medianCmpFunc[lintel/check.Finding] -/
noncomputable def r100 (R : RnK) (N : Nat) (args : List Value) (h : Hs) : An := unC args fun a0 sq0 => unC sq0 fun a1 sq1 => unC sq1 fun a2 sq2 => unC sq2 fun a3 sq3 => unC sq3 fun a4 sq4 => unC sq4 fun a5 sq5 => enK h fun h0 =>
 kCall R 108 [a0, a1, a2, a4, a5] h0 (fun x0 h1 =>
 kExtr x0 0 (fun x2 =>
 kExtr x0 1 (fun x3 =>
 kCall R 108 [a0, x3, a3, a4, a5] h1 (fun x4 h5 =>
 kExtr x4 0 (fun x6 =>
 kExtr x4 1 (fun x7 =>
 kCall R 108 [a0, x2, x6, a4, a5] h5 (fun x8 h9 =>
 kExtr x8 0 (fun x10 =>
 kExtr x8 1 (fun x11 =>
 clrK h x11 h9)))))))))

theorem q100 (R : RnK) (N : Nat) (args : List Value) (h : Hs) : r100 R N args h = callT Tryz.prog N R 100 args h := by kernel_rfl

/-- strings.Index -/
noncomputable def r101 (R : RnK) (N : Nat) (args : List Value) (h : Hs) : An := unC args fun a0 sq0 => unC sq0 fun a1 sq1 => enK h fun h0 =>
 kCall R 109 [a0, a1] h0 (fun x0 h1 =>
 clrK h x0 h1)

theorem q101 (R : RnK) (N : Nat) (args : List Value) (h : Hs) : r101 R N args h = callT Tryz.prog N R 101 args h := by kernel_rfl

/-- internal/strconv.small -/
noncomputable def r102 (R : RnK) (N : Nat) (args : List Value) (h : Hs) : An := unC args fun a0 sq0 => enK h fun h0 =>
 kI64 .lss a0 (Value.int .i64 (.ofNat 10)) (fun x0 =>
 jn (fun (x2 : Value) (h3 : Hs) =>
 kI64 .mul a0 (Value.int .i64 (.ofNat 2)) (fun x4 =>
 kI64 .mul a0 (Value.int .i64 (.ofNat 2)) (fun x5 =>
 kI64 .add x5 (Value.int .i64 (.ofNat 2)) (fun x6 =>
 after (fun x7 h8 =>
 clrK h x7 h8) (oCutstr (.c (Value.string ⟨#[48, 48, 48, 49, 48, 50, 48, 51, 48, 52, 48, 53, 48, 54, 48, 55, 48, 56, 48, 57, 49, 48, 49, 49, 49, 50, 49, 51, 49, 52, 49, 53, 49, 54, 49, 55, 49, 56, 49, 57, 50, 48, 50, 49, 50, 50, 50, 51, 50, 52, 50, 53, 50, 54, 50, 55, 50, 56, 50, 57, 51, 48, 51, 49, 51, 50, 51, 51, 51, 52, 51, 53, 51, 54, 51, 55, 51, 56, 51, 57, 52, 48, 52, 49, 52, 50, 52, 51, 52, 52, 52, 53, 52, 54, 52, 55, 52, 56, 52, 57, 53, 48, 53, 49, 53, 50, 53, 51, 53, 52, 53, 53, 53, 54, 53, 55, 53, 56, 53, 57, 54, 48, 54, 49, 54, 50, 54, 51, 54, 52, 54, 53, 54, 54, 54, 55, 54, 56, 54, 57, 55, 48, 55, 49, 55, 50, 55, 51, 55, 52, 55, 53, 55, 54, 55, 55, 55, 56, 55, 57, 56, 48, 56, 49, 56, 50, 56, 51, 56, 52, 56, 53, 56, 54, 56, 55, 56, 56, 56, 57, 57, 48, 57, 49, 57, 50, 57, 51, 57, 52, 57, 53, 57, 54, 57, 55, 57, 56, 57, 57]⟩)) (some (.c x4)) (some (.c x6)) enE h3))))) fun k1 =>
 cnd x0
 (kI64 .add a0 (Value.int .i64 (.ofNat 1)) (fun x9 =>
 after (fun x10 h11 =>
 clrK h x10 h11) (oCutstr (.c (Value.string ⟨#[48, 49, 50, 51, 52, 53, 54, 55, 56, 57, 97, 98, 99, 100, 101, 102, 103, 104, 105, 106, 107, 108, 109, 110, 111, 112, 113, 114, 115, 116, 117, 118, 119, 120, 121, 122]⟩)) (some (.c a0)) (some (.c x9)) enE h0)))
 (k1 (Value.string ⟨#[]⟩) h0))

theorem q102 (R : RnK) (N : Nat) (args : List Value) (h : Hs) : r102 R N args h = callT Tryz.prog N R 102 args h := by kernel_rfl

/-- internal/strconv.numDigits -/
noncomputable def r103 (R : RnK) (N : Nat) (args : List Value) (h : Hs) : An := unC args fun a0 sq0 => enK h fun h0 =>
 kCall R 89 [a0] h0 (fun x0 h1 =>
 kCall R 110 [x0] h1 (fun x2 h3 =>
 none))

theorem q103 (R : RnK) (N : Nat) (args : List Value) (h : Hs) : r103 R N args h = callT Tryz.prog N R 103 args h := by kernel_rfl

/-- internal/strconv.formatBase10 -/
noncomputable def r104 (R : RnK) (N : Nat) (args : List Value) (h : Hs) : An := unC args fun a0 sq0 => unC sq0 fun a1 sq1 => enK h fun h0 =>
 kLenV a0 (fun x0 =>
 jn (fun (x2 x3 x4 x5 x6 x7 x8 x9 x10 x11 : Value) (h12 : Hs) =>
 obK (fun x13 =>
 kI64 .geq x2 (Value.int .i64 (.ofNat 4)) (fun x14 =>
 jn (fun (x16 x17 x18 x19 x20 : Value) (h21 : Hs) =>
 kI64 .geq x16 (Value.int .i64 (.ofNat 2)) (fun x22 =>
 jn (fun (x24 x25 x26 : Value) (h27 : Hs) =>
 kI64 .gtr x24 (Value.int .i64 (.ofNat 0)) (fun x28 =>
 jn (fun (h30 : Hs) =>
 clrK h (Value.tuple #[]) h30) fun k29 =>
 cnd x28
 (obK (fun x31 =>
 kTo8 x31 (fun x32 =>
 kIdxA 1 a0 (Value.int .i64 (.ofNat 0)) (fun x33 =>
 kStore1 x33 x32 h27 (fun x34 h35 =>
 k29 h35)))) (i2 (fOf .add) (Value.int .u32 (.ofNat 48)) x25))
 (k29 h27))) fun k23 =>
 cnd x22
 (obK (fun x36 =>
 obK (fun x37 =>
 obK (fun x38 =>
 kI64 .sub x16 (Value.int .i64 (.ofNat 1)) (fun x39 =>
 kI64 .sub x16 (Value.int .i64 (.ofNat 2)) (fun x40 =>
 obK (fun x41 =>
 after (fun v59 u60 => dPut (fun x42 h43 =>
 after (fun v57 u58 => dPut (fun x44 h45 =>
 kIdxA 1 a0 x39 (fun x46 =>
 kStore1 x46 x42 h45 (fun v55 u56 => dPut (fun x47 h48 =>
 kIdxA 1 a0 x40 (fun x49 =>
 kStore1 x49 x44 h48 (fun v53 u54 => dPut (fun x50 h51 =>
 kI64 .sub x16 (Value.int .i64 (.ofNat 2)) (fun x52 =>
 k23 x52 x38 x37 h51)) v53 (dNext h48 u54 .bar) (andB (dFit h48 u54 .bar) (Nat.ble 0 u54.lo))))) v55 (dNext h45 u56 .bar) (andB (dFit h45 u56 .bar) (Nat.ble 0 u56.lo))))) v57 (dNext h43 u58 .blind) (andB (dFit h43 u58 .blind) (Nat.ble 0 u58.lo))) (oIdxS (.c (Value.string ⟨#[48, 48, 48, 49, 48, 50, 48, 51, 48, 52, 48, 53, 48, 54, 48, 55, 48, 56, 48, 57, 49, 48, 49, 49, 49, 50, 49, 51, 49, 52, 49, 53, 49, 54, 49, 55, 49, 56, 49, 57, 50, 48, 50, 49, 50, 50, 50, 51, 50, 52, 50, 53, 50, 54, 50, 55, 50, 56, 50, 57, 51, 48, 51, 49, 51, 50, 51, 51, 51, 52, 51, 53, 51, 54, 51, 55, 51, 56, 51, 57, 52, 48, 52, 49, 52, 50, 52, 51, 52, 52, 52, 53, 52, 54, 52, 55, 52, 56, 52, 57, 53, 48, 53, 49, 53, 50, 53, 51, 53, 52, 53, 53, 53, 54, 53, 55, 53, 56, 53, 57, 54, 48, 54, 49, 54, 50, 54, 51, 54, 52, 54, 53, 54, 54, 54, 55, 54, 56, 54, 57, 55, 48, 55, 49, 55, 50, 55, 51, 55, 52, 55, 53, 55, 54, 55, 55, 55, 56, 55, 57, 56, 48, 56, 49, 56, 50, 56, 51, 56, 52, 56, 53, 56, 54, 56, 55, 56, 56, 56, 57, 57, 48, 57, 49, 57, 50, 57, 51, 57, 52, 57, 53, 57, 54, 57, 55, 57, 56, 57, 57]⟩)) (.c x37) enE (Hs.mk .e h43.nx h43.nx))) v59 (dNext h21 u60 .blind) (andB (dFit h21 u60 .blind) (Nat.ble 0 u60.lo))) (oIdxS (.c (Value.string ⟨#[48, 48, 48, 49, 48, 50, 48, 51, 48, 52, 48, 53, 48, 54, 48, 55, 48, 56, 48, 57, 49, 48, 49, 49, 49, 50, 49, 51, 49, 52, 49, 53, 49, 54, 49, 55, 49, 56, 49, 57, 50, 48, 50, 49, 50, 50, 50, 51, 50, 52, 50, 53, 50, 54, 50, 55, 50, 56, 50, 57, 51, 48, 51, 49, 51, 50, 51, 51, 51, 52, 51, 53, 51, 54, 51, 55, 51, 56, 51, 57, 52, 48, 52, 49, 52, 50, 52, 51, 52, 52, 52, 53, 52, 54, 52, 55, 52, 56, 52, 57, 53, 48, 53, 49, 53, 50, 53, 51, 53, 52, 53, 53, 53, 54, 53, 55, 53, 56, 53, 57, 54, 48, 54, 49, 54, 50, 54, 51, 54, 52, 54, 53, 54, 54, 54, 55, 54, 56, 54, 57, 55, 48, 55, 49, 55, 50, 55, 51, 55, 52, 55, 53, 55, 54, 55, 55, 55, 56, 55, 57, 56, 48, 56, 49, 56, 50, 56, 51, 56, 52, 56, 53, 56, 54, 56, 55, 56, 56, 56, 57, 57, 48, 57, 49, 57, 50, 57, 51, 57, 52, 57, 53, 57, 54, 57, 55, 57, 56, 57, 57]⟩)) (.c x41) enE (Hs.mk .e h21.nx h21.nx))) (i2 (fOf .add) x37 (Value.int .u32 (.ofNat 1)))))) (i2 (fOf .quo) x17 (Value.int .u32 (.ofNat 100)))) (i2 (fOf .mul) x36 (Value.int .u32 (.ofNat 2)))) (i2 (fOf .rem) x17 (Value.int .u32 (.ofNat 100))))
 (k23 x16 x17 dunno h21))) fun k15 =>
 cnd x14
 (obK (fun x61 =>
 obK (fun x62 =>
 obK (fun x63 =>
 obK (fun x64 =>
 obK (fun x65 =>
 obK (fun x66 =>
 kI64 .sub x2 (Value.int .i64 (.ofNat 1)) (fun x67 =>
 kI64 .sub x2 (Value.int .i64 (.ofNat 2)) (fun x68 =>
 obK (fun x69 =>
 after (fun v108 u109 => dPut (fun x70 h71 =>
 after (fun v106 u107 => dPut (fun x72 h73 =>
 kIdxA 1 a0 x67 (fun x74 =>
 kStore1 x74 x70 h73 (fun v104 u105 => dPut (fun x75 h76 =>
 kIdxA 1 a0 x68 (fun x77 =>
 kStore1 x77 x72 h76 (fun v102 u103 => dPut (fun x78 h79 =>
 kI64 .sub x2 (Value.int .i64 (.ofNat 3)) (fun x80 =>
 kI64 .sub x2 (Value.int .i64 (.ofNat 4)) (fun x81 =>
 obK (fun x82 =>
 after (fun v100 u101 => dPut (fun x83 h84 =>
 after (fun v98 u99 => dPut (fun x85 h86 =>
 kIdxA 1 a0 x80 (fun x87 =>
 kStore1 x87 x83 h86 (fun v96 u97 => dPut (fun x88 h89 =>
 kIdxA 1 a0 x81 (fun x90 =>
 kStore1 x90 x85 h89 (fun v94 u95 => dPut (fun x91 h92 =>
 kI64 .sub x2 (Value.int .i64 (.ofNat 4)) (fun x93 =>
 k15 x93 x62 x61 x66 x64 h92)) v94 (dNext h89 u95 .bar) (andB (dFit h89 u95 .bar) (Nat.ble 0 u95.lo))))) v96 (dNext h86 u97 .bar) (andB (dFit h86 u97 .bar) (Nat.ble 0 u97.lo))))) v98 (dNext h84 u99 .blind) (andB (dFit h84 u99 .blind) (Nat.ble 0 u99.lo))) (oIdxS (.c (Value.string ⟨#[48, 48, 48, 49, 48, 50, 48, 51, 48, 52, 48, 53, 48, 54, 48, 55, 48, 56, 48, 57, 49, 48, 49, 49, 49, 50, 49, 51, 49, 52, 49, 53, 49, 54, 49, 55, 49, 56, 49, 57, 50, 48, 50, 49, 50, 50, 50, 51, 50, 52, 50, 53, 50, 54, 50, 55, 50, 56, 50, 57, 51, 48, 51, 49, 51, 50, 51, 51, 51, 52, 51, 53, 51, 54, 51, 55, 51, 56, 51, 57, 52, 48, 52, 49, 52, 50, 52, 51, 52, 52, 52, 53, 52, 54, 52, 55, 52, 56, 52, 57, 53, 48, 53, 49, 53, 50, 53, 51, 53, 52, 53, 53, 53, 54, 53, 55, 53, 56, 53, 57, 54, 48, 54, 49, 54, 50, 54, 51, 54, 52, 54, 53, 54, 54, 54, 55, 54, 56, 54, 57, 55, 48, 55, 49, 55, 50, 55, 51, 55, 52, 55, 53, 55, 54, 55, 55, 55, 56, 55, 57, 56, 48, 56, 49, 56, 50, 56, 51, 56, 52, 56, 53, 56, 54, 56, 55, 56, 56, 56, 57, 57, 48, 57, 49, 57, 50, 57, 51, 57, 52, 57, 53, 57, 54, 57, 55, 57, 56, 57, 57]⟩)) (.c x64) enE (Hs.mk .e h84.nx h84.nx))) v100 (dNext h79 u101 .blind) (andB (dFit h79 u101 .blind) (Nat.ble 0 u101.lo))) (oIdxS (.c (Value.string ⟨#[48, 48, 48, 49, 48, 50, 48, 51, 48, 52, 48, 53, 48, 54, 48, 55, 48, 56, 48, 57, 49, 48, 49, 49, 49, 50, 49, 51, 49, 52, 49, 53, 49, 54, 49, 55, 49, 56, 49, 57, 50, 48, 50, 49, 50, 50, 50, 51, 50, 52, 50, 53, 50, 54, 50, 55, 50, 56, 50, 57, 51, 48, 51, 49, 51, 50, 51, 51, 51, 52, 51, 53, 51, 54, 51, 55, 51, 56, 51, 57, 52, 48, 52, 49, 52, 50, 52, 51, 52, 52, 52, 53, 52, 54, 52, 55, 52, 56, 52, 57, 53, 48, 53, 49, 53, 50, 53, 51, 53, 52, 53, 53, 53, 54, 53, 55, 53, 56, 53, 57, 54, 48, 54, 49, 54, 50, 54, 51, 54, 52, 54, 53, 54, 54, 54, 55, 54, 56, 54, 57, 55, 48, 55, 49, 55, 50, 55, 51, 55, 52, 55, 53, 55, 54, 55, 55, 55, 56, 55, 57, 56, 48, 56, 49, 56, 50, 56, 51, 56, 52, 56, 53, 56, 54, 56, 55, 56, 56, 56, 57, 57, 48, 57, 49, 57, 50, 57, 51, 57, 52, 57, 53, 57, 54, 57, 55, 57, 56, 57, 57]⟩)) (.c x82) enE (Hs.mk .e h79.nx h79.nx))) (i2 (fOf .add) x64 (Value.int .u32 (.ofNat 1)))))) v102 (dNext h76 u103 .bar) (andB (dFit h76 u103 .bar) (Nat.ble 0 u103.lo))))) v104 (dNext h73 u105 .bar) (andB (dFit h73 u105 .bar) (Nat.ble 0 u105.lo))))) v106 (dNext h71 u107 .blind) (andB (dFit h71 u107 .blind) (Nat.ble 0 u107.lo))) (oIdxS (.c (Value.string ⟨#[48, 48, 48, 49, 48, 50, 48, 51, 48, 52, 48, 53, 48, 54, 48, 55, 48, 56, 48, 57, 49, 48, 49, 49, 49, 50, 49, 51, 49, 52, 49, 53, 49, 54, 49, 55, 49, 56, 49, 57, 50, 48, 50, 49, 50, 50, 50, 51, 50, 52, 50, 53, 50, 54, 50, 55, 50, 56, 50, 57, 51, 48, 51, 49, 51, 50, 51, 51, 51, 52, 51, 53, 51, 54, 51, 55, 51, 56, 51, 57, 52, 48, 52, 49, 52, 50, 52, 51, 52, 52, 52, 53, 52, 54, 52, 55, 52, 56, 52, 57, 53, 48, 53, 49, 53, 50, 53, 51, 53, 52, 53, 53, 53, 54, 53, 55, 53, 56, 53, 57, 54, 48, 54, 49, 54, 50, 54, 51, 54, 52, 54, 53, 54, 54, 54, 55, 54, 56, 54, 57, 55, 48, 55, 49, 55, 50, 55, 51, 55, 52, 55, 53, 55, 54, 55, 55, 55, 56, 55, 57, 56, 48, 56, 49, 56, 50, 56, 51, 56, 52, 56, 53, 56, 54, 56, 55, 56, 56, 56, 57, 57, 48, 57, 49, 57, 50, 57, 51, 57, 52, 57, 53, 57, 54, 57, 55, 57, 56, 57, 57]⟩)) (.c x66) enE (Hs.mk .e h71.nx h71.nx))) v108 (dNext h12 u109 .blind) (andB (dFit h12 u109 .blind) (Nat.ble 0 u109.lo))) (oIdxS (.c (Value.string ⟨#[48, 48, 48, 49, 48, 50, 48, 51, 48, 52, 48, 53, 48, 54, 48, 55, 48, 56, 48, 57, 49, 48, 49, 49, 49, 50, 49, 51, 49, 52, 49, 53, 49, 54, 49, 55, 49, 56, 49, 57, 50, 48, 50, 49, 50, 50, 50, 51, 50, 52, 50, 53, 50, 54, 50, 55, 50, 56, 50, 57, 51, 48, 51, 49, 51, 50, 51, 51, 51, 52, 51, 53, 51, 54, 51, 55, 51, 56, 51, 57, 52, 48, 52, 49, 52, 50, 52, 51, 52, 52, 52, 53, 52, 54, 52, 55, 52, 56, 52, 57, 53, 48, 53, 49, 53, 50, 53, 51, 53, 52, 53, 53, 53, 54, 53, 55, 53, 56, 53, 57, 54, 48, 54, 49, 54, 50, 54, 51, 54, 52, 54, 53, 54, 54, 54, 55, 54, 56, 54, 57, 55, 48, 55, 49, 55, 50, 55, 51, 55, 52, 55, 53, 55, 54, 55, 55, 55, 56, 55, 57, 56, 48, 56, 49, 56, 50, 56, 51, 56, 52, 56, 53, 56, 54, 56, 55, 56, 56, 56, 57, 57, 48, 57, 49, 57, 50, 57, 51, 57, 52, 57, 53, 57, 54, 57, 55, 57, 56, 57, 57]⟩)) (.c x69) enE (Hs.mk .e h12.nx h12.nx))) (i2 (fOf .add) x66 (Value.int .u32 (.ofNat 1)))))) (i2 (fOf .mul) x65 (Value.int .u32 (.ofNat 2)))) (i2 (fOf .rem) x61 (Value.int .u32 (.ofNat 100)))) (i2 (fOf .mul) x63 (Value.int .u32 (.ofNat 2)))) (i2 (fOf .quo) x61 (Value.int .u32 (.ofNat 100)))) (i2 (fOf .quo) x13 (Value.int .u32 (.ofNat 10000)))) (i2 (fOf .rem) x13 (Value.int .u32 (.ofNat 10000))))
 (k15 x2 x13 dunno dunno dunno h12))) (convI1 .u32 x4)) fun k1 =>
 lpT (T := Value → Value → Value → Value → Value → Value → Value → Value → Value → Value → Hs → An) (fun _ _ _ _ _ _ _ _ _ _ _ => none) N (fun k110 =>
 fun (x112 x113 x114 x115 x116 x117 x118 x119 x120 x121 : Value) (h122 : Hs) =>
 kI64 .geq x112 (Value.int .i64 (.ofNat 8)) (fun x123 =>
 jn (fun (h125 : Hs) =>
 jn (fun (x127 x128 x129 x130 x131 x132 x133 x134 x135 : Value) (h136 : Hs) =>
 k110 x127 x123 x128 x129 x130 x131 x132 x133 x134 x135 h136) fun k126 =>
 kU64 .rem x114 (Value.int .u64 (.ofNat 100000000)) (fun x137 =>
 obK (fun x138 =>
 kU64 .quo x114 (Value.int .u64 (.ofNat 100000000)) (fun x139 =>
 obK (fun x140 =>
 obK (fun x141 =>
 obK (fun x142 =>
 obK (fun x143 =>
 obK (fun x144 =>
 obK (fun x145 =>
 obK (fun x146 =>
 obK (fun x147 =>
 obK (fun x148 =>
 obK (fun x149 =>
 kI64 .sub x112 (Value.int .i64 (.ofNat 1)) (fun x150 =>
 kI64 .sub x112 (Value.int .i64 (.ofNat 2)) (fun x151 =>
 obK (fun x152 =>
 after (fun v233 u234 => dPut (fun x153 h154 =>
 after (fun v231 u232 => dPut (fun x155 h156 =>
 kIdxA 1 a0 x150 (fun x157 =>
 kStore1 x157 x153 h156 (fun v229 u230 => dPut (fun x158 h159 =>
 kIdxA 1 a0 x151 (fun x160 =>
 kStore1 x160 x155 h159 (fun v227 u228 => dPut (fun x161 h162 =>
 kI64 .sub x112 (Value.int .i64 (.ofNat 3)) (fun x163 =>
 kI64 .sub x112 (Value.int .i64 (.ofNat 4)) (fun x164 =>
 obK (fun x165 =>
 after (fun v225 u226 => dPut (fun x166 h167 =>
 after (fun v223 u224 => dPut (fun x168 h169 =>
 kIdxA 1 a0 x163 (fun x170 =>
 kStore1 x170 x166 h169 (fun v221 u222 => dPut (fun x171 h172 =>
 kIdxA 1 a0 x164 (fun x173 =>
 kStore1 x173 x168 h172 (fun v219 u220 => dPut (fun x174 h175 =>
 kI64 .sub x112 (Value.int .i64 (.ofNat 5)) (fun x176 =>
 kI64 .sub x112 (Value.int .i64 (.ofNat 6)) (fun x177 =>
 obK (fun x178 =>
 after (fun v217 u218 => dPut (fun x179 h180 =>
 after (fun v215 u216 => dPut (fun x181 h182 =>
 kIdxA 1 a0 x176 (fun x183 =>
 kStore1 x183 x179 h182 (fun v213 u214 => dPut (fun x184 h185 =>
 kIdxA 1 a0 x177 (fun x186 =>
 kStore1 x186 x181 h185 (fun v211 u212 => dPut (fun x187 h188 =>
 kI64 .sub x112 (Value.int .i64 (.ofNat 7)) (fun x189 =>
 kI64 .sub x112 (Value.int .i64 (.ofNat 8)) (fun x190 =>
 obK (fun x191 =>
 after (fun v209 u210 => dPut (fun x192 h193 =>
 after (fun v207 u208 => dPut (fun x194 h195 =>
 kIdxA 1 a0 x189 (fun x196 =>
 kStore1 x196 x192 h195 (fun v205 u206 => dPut (fun x197 h198 =>
 kIdxA 1 a0 x190 (fun x199 =>
 kStore1 x199 x194 h198 (fun v203 u204 => dPut (fun x200 h201 =>
 kI64 .sub x112 (Value.int .i64 (.ofNat 8)) (fun x202 =>
 k126 x202 x139 x138 x141 x140 x145 x143 x149 x147 h201)) v203 (dNext h198 u204 .bar) (andB (dFit h198 u204 .bar) (Nat.ble 0 u204.lo))))) v205 (dNext h195 u206 .bar) (andB (dFit h195 u206 .bar) (Nat.ble 0 u206.lo))))) v207 (dNext h193 u208 .blind) (andB (dFit h193 u208 .blind) (Nat.ble 0 u208.lo))) (oIdxS (.c (Value.string ⟨#[48, 48, 48, 49, 48, 50, 48, 51, 48, 52, 48, 53, 48, 54, 48, 55, 48, 56, 48, 57, 49, 48, 49, 49, 49, 50, 49, 51, 49, 52, 49, 53, 49, 54, 49, 55, 49, 56, 49, 57, 50, 48, 50, 49, 50, 50, 50, 51, 50, 52, 50, 53, 50, 54, 50, 55, 50, 56, 50, 57, 51, 48, 51, 49, 51, 50, 51, 51, 51, 52, 51, 53, 51, 54, 51, 55, 51, 56, 51, 57, 52, 48, 52, 49, 52, 50, 52, 51, 52, 52, 52, 53, 52, 54, 52, 55, 52, 56, 52, 57, 53, 48, 53, 49, 53, 50, 53, 51, 53, 52, 53, 53, 53, 54, 53, 55, 53, 56, 53, 57, 54, 48, 54, 49, 54, 50, 54, 51, 54, 52, 54, 53, 54, 54, 54, 55, 54, 56, 54, 57, 55, 48, 55, 49, 55, 50, 55, 51, 55, 52, 55, 53, 55, 54, 55, 55, 55, 56, 55, 57, 56, 48, 56, 49, 56, 50, 56, 51, 56, 52, 56, 53, 56, 54, 56, 55, 56, 56, 56, 57, 57, 48, 57, 49, 57, 50, 57, 51, 57, 52, 57, 53, 57, 54, 57, 55, 57, 56, 57, 57]⟩)) (.c x147) enE (Hs.mk .e h193.nx h193.nx))) v209 (dNext h188 u210 .blind) (andB (dFit h188 u210 .blind) (Nat.ble 0 u210.lo))) (oIdxS (.c (Value.string ⟨#[48, 48, 48, 49, 48, 50, 48, 51, 48, 52, 48, 53, 48, 54, 48, 55, 48, 56, 48, 57, 49, 48, 49, 49, 49, 50, 49, 51, 49, 52, 49, 53, 49, 54, 49, 55, 49, 56, 49, 57, 50, 48, 50, 49, 50, 50, 50, 51, 50, 52, 50, 53, 50, 54, 50, 55, 50, 56, 50, 57, 51, 48, 51, 49, 51, 50, 51, 51, 51, 52, 51, 53, 51, 54, 51, 55, 51, 56, 51, 57, 52, 48, 52, 49, 52, 50, 52, 51, 52, 52, 52, 53, 52, 54, 52, 55, 52, 56, 52, 57, 53, 48, 53, 49, 53, 50, 53, 51, 53, 52, 53, 53, 53, 54, 53, 55, 53, 56, 53, 57, 54, 48, 54, 49, 54, 50, 54, 51, 54, 52, 54, 53, 54, 54, 54, 55, 54, 56, 54, 57, 55, 48, 55, 49, 55, 50, 55, 51, 55, 52, 55, 53, 55, 54, 55, 55, 55, 56, 55, 57, 56, 48, 56, 49, 56, 50, 56, 51, 56, 52, 56, 53, 56, 54, 56, 55, 56, 56, 56, 57, 57, 48, 57, 49, 57, 50, 57, 51, 57, 52, 57, 53, 57, 54, 57, 55, 57, 56, 57, 57]⟩)) (.c x191) enE (Hs.mk .e h188.nx h188.nx))) (i2 (fOf .add) x147 (Value.int .u32 (.ofNat 1)))))) v211 (dNext h185 u212 .bar) (andB (dFit h185 u212 .bar) (Nat.ble 0 u212.lo))))) v213 (dNext h182 u214 .bar) (andB (dFit h182 u214 .bar) (Nat.ble 0 u214.lo))))) v215 (dNext h180 u216 .blind) (andB (dFit h180 u216 .blind) (Nat.ble 0 u216.lo))) (oIdxS (.c (Value.string ⟨#[48, 48, 48, 49, 48, 50, 48, 51, 48, 52, 48, 53, 48, 54, 48, 55, 48, 56, 48, 57, 49, 48, 49, 49, 49, 50, 49, 51, 49, 52, 49, 53, 49, 54, 49, 55, 49, 56, 49, 57, 50, 48, 50, 49, 50, 50, 50, 51, 50, 52, 50, 53, 50, 54, 50, 55, 50, 56, 50, 57, 51, 48, 51, 49, 51, 50, 51, 51, 51, 52, 51, 53, 51, 54, 51, 55, 51, 56, 51, 57, 52, 48, 52, 49, 52, 50, 52, 51, 52, 52, 52, 53, 52, 54, 52, 55, 52, 56, 52, 57, 53, 48, 53, 49, 53, 50, 53, 51, 53, 52, 53, 53, 53, 54, 53, 55, 53, 56, 53, 57, 54, 48, 54, 49, 54, 50, 54, 51, 54, 52, 54, 53, 54, 54, 54, 55, 54, 56, 54, 57, 55, 48, 55, 49, 55, 50, 55, 51, 55, 52, 55, 53, 55, 54, 55, 55, 55, 56, 55, 57, 56, 48, 56, 49, 56, 50, 56, 51, 56, 52, 56, 53, 56, 54, 56, 55, 56, 56, 56, 57, 57, 48, 57, 49, 57, 50, 57, 51, 57, 52, 57, 53, 57, 54, 57, 55, 57, 56, 57, 57]⟩)) (.c x149) enE (Hs.mk .e h180.nx h180.nx))) v217 (dNext h175 u218 .blind) (andB (dFit h175 u218 .blind) (Nat.ble 0 u218.lo))) (oIdxS (.c (Value.string ⟨#[48, 48, 48, 49, 48, 50, 48, 51, 48, 52, 48, 53, 48, 54, 48, 55, 48, 56, 48, 57, 49, 48, 49, 49, 49, 50, 49, 51, 49, 52, 49, 53, 49, 54, 49, 55, 49, 56, 49, 57, 50, 48, 50, 49, 50, 50, 50, 51, 50, 52, 50, 53, 50, 54, 50, 55, 50, 56, 50, 57, 51, 48, 51, 49, 51, 50, 51, 51, 51, 52, 51, 53, 51, 54, 51, 55, 51, 56, 51, 57, 52, 48, 52, 49, 52, 50, 52, 51, 52, 52, 52, 53, 52, 54, 52, 55, 52, 56, 52, 57, 53, 48, 53, 49, 53, 50, 53, 51, 53, 52, 53, 53, 53, 54, 53, 55, 53, 56, 53, 57, 54, 48, 54, 49, 54, 50, 54, 51, 54, 52, 54, 53, 54, 54, 54, 55, 54, 56, 54, 57, 55, 48, 55, 49, 55, 50, 55, 51, 55, 52, 55, 53, 55, 54, 55, 55, 55, 56, 55, 57, 56, 48, 56, 49, 56, 50, 56, 51, 56, 52, 56, 53, 56, 54, 56, 55, 56, 56, 56, 57, 57, 48, 57, 49, 57, 50, 57, 51, 57, 52, 57, 53, 57, 54, 57, 55, 57, 56, 57, 57]⟩)) (.c x178) enE (Hs.mk .e h175.nx h175.nx))) (i2 (fOf .add) x149 (Value.int .u32 (.ofNat 1)))))) v219 (dNext h172 u220 .bar) (andB (dFit h172 u220 .bar) (Nat.ble 0 u220.lo))))) v221 (dNext h169 u222 .bar) (andB (dFit h169 u222 .bar) (Nat.ble 0 u222.lo))))) v223 (dNext h167 u224 .blind) (andB (dFit h167 u224 .blind) (Nat.ble 0 u224.lo))) (oIdxS (.c (Value.string ⟨#[48, 48, 48, 49, 48, 50, 48, 51, 48, 52, 48, 53, 48, 54, 48, 55, 48, 56, 48, 57, 49, 48, 49, 49, 49, 50, 49, 51, 49, 52, 49, 53, 49, 54, 49, 55, 49, 56, 49, 57, 50, 48, 50, 49, 50, 50, 50, 51, 50, 52, 50, 53, 50, 54, 50, 55, 50, 56, 50, 57, 51, 48, 51, 49, 51, 50, 51, 51, 51, 52, 51, 53, 51, 54, 51, 55, 51, 56, 51, 57, 52, 48, 52, 49, 52, 50, 52, 51, 52, 52, 52, 53, 52, 54, 52, 55, 52, 56, 52, 57, 53, 48, 53, 49, 53, 50, 53, 51, 53, 52, 53, 53, 53, 54, 53, 55, 53, 56, 53, 57, 54, 48, 54, 49, 54, 50, 54, 51, 54, 52, 54, 53, 54, 54, 54, 55, 54, 56, 54, 57, 55, 48, 55, 49, 55, 50, 55, 51, 55, 52, 55, 53, 55, 54, 55, 55, 55, 56, 55, 57, 56, 48, 56, 49, 56, 50, 56, 51, 56, 52, 56, 53, 56, 54, 56, 55, 56, 56, 56, 57, 57, 48, 57, 49, 57, 50, 57, 51, 57, 52, 57, 53, 57, 54, 57, 55, 57, 56, 57, 57]⟩)) (.c x143) enE (Hs.mk .e h167.nx h167.nx))) v225 (dNext h162 u226 .blind) (andB (dFit h162 u226 .blind) (Nat.ble 0 u226.lo))) (oIdxS (.c (Value.string ⟨#[48, 48, 48, 49, 48, 50, 48, 51, 48, 52, 48, 53, 48, 54, 48, 55, 48, 56, 48, 57, 49, 48, 49, 49, 49, 50, 49, 51, 49, 52, 49, 53, 49, 54, 49, 55, 49, 56, 49, 57, 50, 48, 50, 49, 50, 50, 50, 51, 50, 52, 50, 53, 50, 54, 50, 55, 50, 56, 50, 57, 51, 48, 51, 49, 51, 50, 51, 51, 51, 52, 51, 53, 51, 54, 51, 55, 51, 56, 51, 57, 52, 48, 52, 49, 52, 50, 52, 51, 52, 52, 52, 53, 52, 54, 52, 55, 52, 56, 52, 57, 53, 48, 53, 49, 53, 50, 53, 51, 53, 52, 53, 53, 53, 54, 53, 55, 53, 56, 53, 57, 54, 48, 54, 49, 54, 50, 54, 51, 54, 52, 54, 53, 54, 54, 54, 55, 54, 56, 54, 57, 55, 48, 55, 49, 55, 50, 55, 51, 55, 52, 55, 53, 55, 54, 55, 55, 55, 56, 55, 57, 56, 48, 56, 49, 56, 50, 56, 51, 56, 52, 56, 53, 56, 54, 56, 55, 56, 56, 56, 57, 57, 48, 57, 49, 57, 50, 57, 51, 57, 52, 57, 53, 57, 54, 57, 55, 57, 56, 57, 57]⟩)) (.c x165) enE (Hs.mk .e h162.nx h162.nx))) (i2 (fOf .add) x143 (Value.int .u32 (.ofNat 1)))))) v227 (dNext h159 u228 .bar) (andB (dFit h159 u228 .bar) (Nat.ble 0 u228.lo))))) v229 (dNext h156 u230 .bar) (andB (dFit h156 u230 .bar) (Nat.ble 0 u230.lo))))) v231 (dNext h154 u232 .blind) (andB (dFit h154 u232 .blind) (Nat.ble 0 u232.lo))) (oIdxS (.c (Value.string ⟨#[48, 48, 48, 49, 48, 50, 48, 51, 48, 52, 48, 53, 48, 54, 48, 55, 48, 56, 48, 57, 49, 48, 49, 49, 49, 50, 49, 51, 49, 52, 49, 53, 49, 54, 49, 55, 49, 56, 49, 57, 50, 48, 50, 49, 50, 50, 50, 51, 50, 52, 50, 53, 50, 54, 50, 55, 50, 56, 50, 57, 51, 48, 51, 49, 51, 50, 51, 51, 51, 52, 51, 53, 51, 54, 51, 55, 51, 56, 51, 57, 52, 48, 52, 49, 52, 50, 52, 51, 52, 52, 52, 53, 52, 54, 52, 55, 52, 56, 52, 57, 53, 48, 53, 49, 53, 50, 53, 51, 53, 52, 53, 53, 53, 54, 53, 55, 53, 56, 53, 57, 54, 48, 54, 49, 54, 50, 54, 51, 54, 52, 54, 53, 54, 54, 54, 55, 54, 56, 54, 57, 55, 48, 55, 49, 55, 50, 55, 51, 55, 52, 55, 53, 55, 54, 55, 55, 55, 56, 55, 57, 56, 48, 56, 49, 56, 50, 56, 51, 56, 52, 56, 53, 56, 54, 56, 55, 56, 56, 56, 57, 57, 48, 57, 49, 57, 50, 57, 51, 57, 52, 57, 53, 57, 54, 57, 55, 57, 56, 57, 57]⟩)) (.c x145) enE (Hs.mk .e h154.nx h154.nx))) v233 (dNext h125 u234 .blind) (andB (dFit h125 u234 .blind) (Nat.ble 0 u234.lo))) (oIdxS (.c (Value.string ⟨#[48, 48, 48, 49, 48, 50, 48, 51, 48, 52, 48, 53, 48, 54, 48, 55, 48, 56, 48, 57, 49, 48, 49, 49, 49, 50, 49, 51, 49, 52, 49, 53, 49, 54, 49, 55, 49, 56, 49, 57, 50, 48, 50, 49, 50, 50, 50, 51, 50, 52, 50, 53, 50, 54, 50, 55, 50, 56, 50, 57, 51, 48, 51, 49, 51, 50, 51, 51, 51, 52, 51, 53, 51, 54, 51, 55, 51, 56, 51, 57, 52, 48, 52, 49, 52, 50, 52, 51, 52, 52, 52, 53, 52, 54, 52, 55, 52, 56, 52, 57, 53, 48, 53, 49, 53, 50, 53, 51, 53, 52, 53, 53, 53, 54, 53, 55, 53, 56, 53, 57, 54, 48, 54, 49, 54, 50, 54, 51, 54, 52, 54, 53, 54, 54, 54, 55, 54, 56, 54, 57, 55, 48, 55, 49, 55, 50, 55, 51, 55, 52, 55, 53, 55, 54, 55, 55, 55, 56, 55, 57, 56, 48, 56, 49, 56, 50, 56, 51, 56, 52, 56, 53, 56, 54, 56, 55, 56, 56, 56, 57, 57, 48, 57, 49, 57, 50, 57, 51, 57, 52, 57, 53, 57, 54, 57, 55, 57, 56, 57, 57]⟩)) (.c x152) enE (Hs.mk .e h125.nx h125.nx))) (i2 (fOf .add) x145 (Value.int .u32 (.ofNat 1)))))) (i2 (fOf .mul) x148 (Value.int .u32 (.ofNat 2)))) (i2 (fOf .rem) x140 (Value.int .u32 (.ofNat 100)))) (i2 (fOf .mul) x146 (Value.int .u32 (.ofNat 2)))) (i2 (fOf .quo) x140 (Value.int .u32 (.ofNat 100)))) (i2 (fOf .mul) x144 (Value.int .u32 (.ofNat 2)))) (i2 (fOf .rem) x141 (Value.int .u32 (.ofNat 100)))) (i2 (fOf .mul) x142 (Value.int .u32 (.ofNat 2)))) (i2 (fOf .quo) x141 (Value.int .u32 (.ofNat 100)))) (i2 (fOf .rem) x138 (Value.int .u32 (.ofNat 10000)))) (i2 (fOf .quo) x138 (Value.int .u32 (.ofNat 10000))))) (convI1 .u32 x137))) fun k124 =>
 cnd x123
 (k124 h122)
 (k1 x112 x123 x114 x115 x116 x117 x118 x119 x120 x121 h122))) x0 dunno a1 dunno dunno dunno dunno dunno dunno dunno h0)

theorem q104 (R : RnK) (N : Nat) (args : List Value) (h : Hs) : r104 R N args h = callT Tryz.prog N R 104 args h := by kernel_rfl

/-- internal/strconv.formatBits -/
noncomputable def r105 (R : RnK) (N : Nat) (args : List Value) (h : Hs) : An := unC args fun a0 sq0 => unC sq0 fun a1 sq1 => unC sq1 fun a2 sq2 => unC sq2 fun a3 sq3 => unC sq3 fun a4 sq4 => enK h fun h0 =>
 kI64 .lss a2 (Value.int .i64 (.ofNat 2)) (fun x0 =>
 gdF x0 h0 (fun k1 => k1 a2 h0) (fun x2 h3 =>
 gdF x0 h3 (fun k4 => kI64 .eql x2 (Value.int .i64 (.ofNat 10)) (fun x5 => k4 x5 h3)) (fun x6 h7 =>
 after (fun x8 h9 =>
 gdF x8 h9 (fun k10 => k10 a2 h9) (fun x11 h12 =>
 gdF x8 h12 (fun k13 => kI64 .gtr x11 (Value.int .i64 (.ofNat 36)) (fun x14 => k13 x14 h12)) (fun x15 h16 =>
 after (fun x17 h18 =>
 jn (fun (h20 : Hs) =>
 after (fun x21 h22 =>
 jn (fun (x24 : Value) (h25 : Hs) =>
 kCall R 112 [a2] h25 (fun x26 h27 =>
 jn (fun (x29 x30 x31 x32 x33 x34 x35 x36 x37 : Value) (h38 : Hs) =>
 jn (fun (x40 : Value) (h41 : Hs) =>
 jn (fun (x43 : Value) (h44 : Hs) =>
 none) fun k42 =>
 cnd a4
 (none)
 (k42 (Value.slice none 0 0) h41)) fun k39 =>
 cnd a3
 (kI64 .sub x32 (Value.int .i64 (.ofNat 1)) (fun x53 =>
 obK (fun x54 =>
 kStore1 x54 (Value.int .u8 (.ofNat 45)) h38 (fun x55 h56 =>
 k39 x53 h56)) (idxArr1 1 65 (natOf x53) x21)))
 (k39 x32 h38)) fun k28 =>
 cnd x26
 (kToU a2 (fun x57 =>
 kCall R 113 [x57] h27 (fun x58 h59 =>
 kToU x58 (fun x60 =>
 kToU a2 (fun x61 =>
 kToU a2 (fun x62 =>
 kU64 .sub x62 (Value.int .u64 (.ofNat 1)) (fun x63 =>
 jn (fun (x65 x66 x67 : Value) (h68 : Hs) =>
 kI64 .sub x67 (Value.int .i64 (.ofNat 1)) (fun x69 =>
 after (fun x70 h71 =>
 obK (fun x72 =>
 kStore1 x72 x70 h71 (fun x73 h74 =>
 k28 x65 x61 x66 x69 x63 x60 dunno dunno dunno h74)) (idxArr1 1 65 (natOf x69) x21)) (oIdxS (.c (Value.string ⟨#[48, 49, 50, 51, 52, 53, 54, 55, 56, 57, 97, 98, 99, 100, 101, 102, 103, 104, 105, 106, 107, 108, 109, 110, 111, 112, 113, 114, 115, 116, 117, 118, 119, 120, 121, 122]⟩)) (.c x65) enE h68))) fun k64 =>
 lpT (T := Value → Value → Value → Hs → An) (fun _ _ _ _ => none) N (fun k75 =>
 fun (x77 x78 x79 : Value) (h80 : Hs) =>
 kU64 .geq x77 x61 (fun x81 =>
 jn (fun (h83 : Hs) =>
 jn (fun (x85 x86 : Value) (h87 : Hs) =>
 k75 x85 x81 x86 h87) fun k84 =>
 kI64 .sub x79 (Value.int .i64 (.ofNat 1)) (fun x88 =>
 kU64 .and x77 x63 (fun x89 =>
 after (fun x90 h91 =>
 obK (fun x92 =>
 kStore1 x92 x90 h91 (fun x93 h94 =>
 kShr x77 x60 (fun x95 =>
 k84 x95 x88 h94))) (idxArr1 1 65 (natOf x88) x21)) (oIdxS (.c (Value.string ⟨#[48, 49, 50, 51, 52, 53, 54, 55, 56, 57, 97, 98, 99, 100, 101, 102, 103, 104, 105, 106, 107, 108, 109, 110, 111, 112, 113, 114, 115, 116, 117, 118, 119, 120, 121, 122]⟩)) (.c x89) enE h83)))) fun k82 =>
 cnd x81
 (k82 h80)
 (k64 x77 x81 x79 h80))) x24 dunno (Value.int .i64 (.ofNat 65)) h59)))))))
 (kToU a2 (fun x96 =>
 jn (fun (x98 x99 x100 x101 : Value) (h102 : Hs) =>
 kI64 .sub x99 (Value.int .i64 (.ofNat 1)) (fun x103 =>
 after (fun x104 h105 =>
 obK (fun x106 =>
 kStore1 x106 x104 h105 (fun x107 h108 =>
 k28 x98 dunno dunno x103 dunno dunno x96 x100 x101 h108)) (idxArr1 1 65 (natOf x103) x21)) (oIdxS (.c (Value.string ⟨#[48, 49, 50, 51, 52, 53, 54, 55, 56, 57, 97, 98, 99, 100, 101, 102, 103, 104, 105, 106, 107, 108, 109, 110, 111, 112, 113, 114, 115, 116, 117, 118, 119, 120, 121, 122]⟩)) (.c x98) enE h102))) fun k97 =>
 lpT (T := Value → Value → Value → Value → Hs → An) (fun _ _ _ _ _ => none) N (fun k109 =>
 fun (x111 x112 x113 x114 : Value) (h115 : Hs) =>
 kU64 .geq x111 x96 (fun x116 =>
 jn (fun (h118 : Hs) =>
 jn (fun (x120 x121 x122 : Value) (h123 : Hs) =>
 k109 x120 x121 x116 x122 h123) fun k119 =>
 kI64 .sub x112 (Value.int .i64 (.ofNat 1)) (fun x124 =>
 kU64 .quo x111 x96 (fun x125 =>
 kU64 .mul x125 x96 (fun x126 =>
 kU64 .sub x111 x126 (fun x127 =>
 after (fun x128 h129 =>
 obK (fun x130 =>
 kStore1 x130 x128 h129 (fun x131 h132 =>
 k119 x125 x124 x125 h132)) (idxArr1 1 65 (natOf x124) x21)) (oIdxS (.c (Value.string ⟨#[48, 49, 50, 51, 52, 53, 54, 55, 56, 57, 97, 98, 99, 100, 101, 102, 103, 104, 105, 106, 107, 108, 109, 110, 111, 112, 113, 114, 115, 116, 117, 118, 119, 120, 121, 122]⟩)) (.c x127) enE h118)))))) fun k117 =>
 cnd x116
 (k117 h115)
 (k97 x111 x112 x116 x114 h115))) x24 (Value.int .i64 (.ofNat 65)) dunno dunno h27)))) fun k23 =>
 cnd a3
 (obK (fun x133 =>
 k23 x133 h22) (un .neg a1))
 (k23 a1 h22)) (oAlloc 169 [(Value.int .u8 (.ofNat 0)), (Value.int .u8 (.ofNat 0)), (Value.int .u8 (.ofNat 0)), (Value.int .u8 (.ofNat 0)), (Value.int .u8 (.ofNat 0)), (Value.int .u8 (.ofNat 0)), (Value.int .u8 (.ofNat 0)), (Value.int .u8 (.ofNat 0)), (Value.int .u8 (.ofNat 0)), (Value.int .u8 (.ofNat 0)), (Value.int .u8 (.ofNat 0)), (Value.int .u8 (.ofNat 0)), (Value.int .u8 (.ofNat 0)), (Value.int .u8 (.ofNat 0)), (Value.int .u8 (.ofNat 0)), (Value.int .u8 (.ofNat 0)), (Value.int .u8 (.ofNat 0)), (Value.int .u8 (.ofNat 0)), (Value.int .u8 (.ofNat 0)), (Value.int .u8 (.ofNat 0)), (Value.int .u8 (.ofNat 0)), (Value.int .u8 (.ofNat 0)), (Value.int .u8 (.ofNat 0)), (Value.int .u8 (.ofNat 0)), (Value.int .u8 (.ofNat 0)), (Value.int .u8 (.ofNat 0)), (Value.int .u8 (.ofNat 0)), (Value.int .u8 (.ofNat 0)), (Value.int .u8 (.ofNat 0)), (Value.int .u8 (.ofNat 0)), (Value.int .u8 (.ofNat 0)), (Value.int .u8 (.ofNat 0)), (Value.int .u8 (.ofNat 0)), (Value.int .u8 (.ofNat 0)), (Value.int .u8 (.ofNat 0)), (Value.int .u8 (.ofNat 0)), (Value.int .u8 (.ofNat 0)), (Value.int .u8 (.ofNat 0)), (Value.int .u8 (.ofNat 0)), (Value.int .u8 (.ofNat 0)), (Value.int .u8 (.ofNat 0)), (Value.int .u8 (.ofNat 0)), (Value.int .u8 (.ofNat 0)), (Value.int .u8 (.ofNat 0)), (Value.int .u8 (.ofNat 0)), (Value.int .u8 (.ofNat 0)), (Value.int .u8 (.ofNat 0)), (Value.int .u8 (.ofNat 0)), (Value.int .u8 (.ofNat 0)), (Value.int .u8 (.ofNat 0)), (Value.int .u8 (.ofNat 0)), (Value.int .u8 (.ofNat 0)), (Value.int .u8 (.ofNat 0)), (Value.int .u8 (.ofNat 0)), (Value.int .u8 (.ofNat 0)), (Value.int .u8 (.ofNat 0)), (Value.int .u8 (.ofNat 0)), (Value.int .u8 (.ofNat 0)), (Value.int .u8 (.ofNat 0)), (Value.int .u8 (.ofNat 0)), (Value.int .u8 (.ofNat 0)), (Value.int .u8 (.ofNat 0)), (Value.int .u8 (.ofNat 0)), (Value.int .u8 (.ofNat 0)), (Value.int .u8 (.ofNat 0))] enE h20)) fun k19 =>
 cnd x17
 (after (fun x134 h135 =>
 none) (oMkface 9 (.c (Value.string ⟨#[115, 116, 114, 99, 111, 110, 118, 58, 32, 105, 108, 108, 101, 103, 97, 108, 32, 65, 112, 112, 101, 110, 100, 73, 110, 116, 47, 70, 111, 114, 109, 97, 116, 73, 110, 116, 32, 98, 97, 115, 101]⟩)) enE h18))
 (k19 h18)) (pickB (.c (Value.bool true)) (.c x15) enE h16 x8)))) (pickB (.c (Value.bool true)) (.c x6) enE h7 x0))))

theorem q105 (R : RnK) (N : Nat) (args : List Value) (h : Hs) : r105 R N args h = callT Tryz.prog N R 105 args h := by kernel_rfl

/-- slices.order2CmpFunc[lintel/check.Finding] -/
noncomputable def r108 (R : RnK) (N : Nat) (args : List Value) (h : Hs) : An := unC args fun a0 sq0 => unC sq0 fun a1 sq1 => unC sq1 fun a2 sq2 => unC sq2 fun a3 sq3 => unC sq3 fun a4 sq4 => enK h fun h0 =>
 kIdxA 4 a0 a2 (fun x0 =>
 kLoads 4 x0 (Hs.mk h0.hp h0.nx h0.nx) (fun x1 =>
 kIdxA 4 a0 a1 (fun x2 =>
 kLoads 4 x2 (Hs.mk h0.hp h0.nx h0.nx) (fun x3 =>
 isVal (fun v17 u18 => dPut (fun x4 h5 =>
 kI64 .lss x4 (Value.int .i64 (.ofNat 0)) (fun x6 =>
 jn (fun (x8 x9 : Value) (h10 : Hs) =>
 clrK h (Value.tuple #[a1, a2]) h10) fun k7 =>
 cnd x6
 (kNil a3 (fun x11 =>
 kLoad x11 h5 (fun x12 =>
 kI64 .add x12 (Value.int .i64 (.ofNat 1)) (fun x13 =>
 kNil a3 (fun x14 =>
 kStore1 x14 x13 h5 (fun x15 h16 =>
 clrK h (Value.tuple #[a2, a1]) h16))))))
 (k7 (Value.int .i64 (.ofNat 0)) (Value.int .i64 (.ofNat 0)) h5))) v17 (dNext h0 u18 .bar) (andB (dFit h0 u18 .bar) (Nat.ble 0 u18.lo))) (callV (toRn R) [x1, x3] h0 a4)))))

theorem q108 (R : RnK) (N : Nat) (args : List Value) (h : Hs) : r108 R N args h = callT Tryz.prog N R 108 args h := by kernel_rfl

/-- internal/stringslite.Index -/
noncomputable def r109 (R : RnK) (N : Nat) (args : List Value) (h : Hs) : An := unC args fun a0 sq0 => unC sq0 fun a1 sq1 => enK h fun h0 =>
 kLenS a1 (fun x0 =>
 jn (fun (x2 x3 x4 x5 x6 : Value) (h7 : Hs) =>
 after (fun x8 h9 =>
 after (fun x10 h11 =>
 kLenS a0 (fun x12 =>
 kI64 .sub x12 x0 (fun x13 =>
 kI64 .add x13 (Value.int .i64 (.ofNat 1)) (fun x14 =>
 jn (fun (x16 x17 x18 x19 x20 x21 x22 x23 x24 x25 x26 x27 x28 x29 : Value) (h30 : Hs) =>
 clrK h (Value.int .i64 (.negSucc 0)) h30) fun k15 =>
 lpT (T := Value → Value → Value → Value → Value → Value → Value → Value → Value → Value → Value → Value → Value → Value → Hs → An) (fun _ _ _ _ _ _ _ _ _ _ _ _ _ _ _ => none) N (fun k31 =>
 fun (x33 x34 x35 x36 x37 x38 x39 x40 x41 x42 x43 x44 x45 x46 : Value) (h47 : Hs) =>
 kI64 .lss x33 x14 (fun x48 =>
 jn (fun (h50 : Hs) =>
 jn (fun (x52 x53 x54 x55 x56 x57 x58 x59 x60 x61 x62 x63 x64 : Value) (h65 : Hs) =>
 k31 x52 x48 x53 x54 x55 x56 x57 x58 x59 x60 x61 x62 x63 x64 h65) fun k51 =>
 after (fun x66 h67 =>
 kU8 .neq x66 x8 (fun x68 =>
 jn (fun (x70 x71 x72 x73 : Value) (h74 : Hs) =>
 kI64 .add x70 (Value.int .i64 (.ofNat 1)) (fun x75 =>
 after (fun x76 h77 =>
 kU8 .eql x76 x10 (fun x78 =>
 gdT x78 h77 (fun k79 => k79 a0 h77) (fun x80 h81 =>
 gdT x78 h81 (fun k82 => k82 x70 h81) (fun x83 h84 =>
 gdT x78 h84 (fun k85 => k85 x70 h84) (fun x86 h87 =>
 gdT x78 h87 (fun k88 => k88 x0 h87) (fun x89 h90 =>
 gdT x78 h90 (fun k91 => kI64 .add x86 x89 (fun x92 => k91 x92 h90)) (fun x93 h94 =>
 gdT x78 h94 (fun k95 => after (k95) (oCutstr (.c x80) (some (.c x83)) (some (.c x93)) enE h94)) (fun x96 h97 =>
 gdT x78 h97 (fun k98 => k98 a1 h97) (fun x99 h100 =>
 gdT x78 h100 (fun k101 => obK (fun x102 => k101 x102 h100) (s2 .eql x96 x99)) (fun x103 h104 =>
 after (fun x105 h106 =>
 jn (fun (x108 : Value) (h109 : Hs) =>
 kI64 .add x70 (Value.int .i64 (.ofNat 1)) (fun x110 =>
 kI64 .add x39 (Value.int .i64 (.ofNat 1)) (fun x111 =>
 none))) fun k107 =>
 cnd x105
 (clrK h x70 h106)
 (k107 x73 h106)) (pickB (.c x103) (.c (Value.bool false)) enE h104 x78))))))))))) (oIdxS (.c a0) (.c x75) enE h74))) fun k69 =>
 cnd x68
 (kI64 .add x33 (Value.int .i64 (.ofNat 1)) (fun x196 =>
 after (fun x197 h198 =>
 kCall R 114 [x197, x8] h198 (fun x199 h200 =>
 kI64 .lss x199 (Value.int .i64 (.ofNat 0)) (fun x201 =>
 jn (fun (x203 : Value) (h204 : Hs) =>
 kI64 .add x199 (Value.int .i64 (.ofNat 1)) (fun x205 =>
 kI64 .add x33 x205 (fun x206 =>
 k69 x206 x199 x201 x203 h204))) fun k202 =>
 cnd x201
 (clrK h (Value.int .i64 (.negSucc 0)) h200)
 (k202 x46 h200)))) (oCutstr (.c a0) (some (.c x196)) (some (.c x14)) enE h67)))
 (k69 x33 x36 x37 x46 h67))) (oIdxS (.c a0) (.c x33) enE h50)) fun k49 =>
 cnd x48
 (k49 h47)
 (k15 x33 x48 x35 x36 x37 x38 x39 x40 x41 x42 x43 x44 x45 x46 h47))) (Value.int .i64 (.ofNat 0)) dunno dunno dunno dunno dunno (Value.int .i64 (.ofNat 0)) dunno dunno dunno dunno dunno dunno x6 h11)))) (oIdxS (.c a1) (.c (Value.int .i64 (.ofNat 1))) enE h9)) (oIdxS (.c a1) (.c (Value.int .i64 (.ofNat 0))) enE h7)) fun k1 =>
 kI64 .eql x0 (Value.int .i64 (.ofNat 0)) (fun x207 =>
 gdF x207 h0 (fun k208 => k208 a1 h0) (fun x209 h210 =>
 gdF x207 h210 (fun k211 => k211 a0 h210) (fun x212 h213 =>
 gdF x207 h213 (fun k214 => obK (fun x215 => k214 x215 h213) (s2 .eql x209 x212)) (fun x216 h217 =>
 after (fun x218 h219 =>
 jn (fun (x221 x222 x223 x224 : Value) (h225 : Hs) =>
 k1 x218 x221 x222 x223 x224 h225) fun k220 =>
 cnd x218
 (clrK h (Value.int .i64 (.ofNat 0)) h219)
 (kI64 .eql x0 (Value.int .i64 (.ofNat 1)) (fun x226 =>
 jn (fun (x228 x229 x230 : Value) (h231 : Hs) =>
 k220 x226 x228 x229 x230 h231) fun k227 =>
 cnd x226
 (after (fun x232 h233 =>
 kCall R 114 [a0, x232] h233 (fun x234 h235 =>
 clrK h x234 h235)) (oIdxS (.c a1) (.c (Value.int .i64 (.ofNat 0))) enE h219))
 (kLenS a0 (fun x236 =>
 kI64 .geq x0 x236 (fun x237 =>
 jn (fun (x239 x240 : Value) (h241 : Hs) =>
 k227 x237 x239 x240 h241) fun k238 =>
 cnd x237
 (clrK h (Value.int .i64 (.negSucc 0)) h219)
 (none))))))) (pickB (.c (Value.bool true)) (.c x216) enE h217 x207))))))

theorem q109 (R : RnK) (N : Nat) (args : List Value) (h : Hs) : r109 R N args h = callT Tryz.prog N R 109 args h := by kernel_rfl

/-- internal/strconv.log10Pow2 -/
noncomputable def r110 (R : RnK) (N : Nat) (args : List Value) (h : Hs) : An := unC args fun a0 sq0 => enK h fun h0 =>
 kI64 .mul a0 (Value.int .i64 (.ofNat 78913)) (fun x0 =>
 kShr x0 (Value.int .u64 (.ofNat 18)) (fun x1 =>
 clrK h x1 h0))

theorem q110 (R : RnK) (N : Nat) (args : List Value) (h : Hs) : r110 R N args h = callT Tryz.prog N R 110 args h := by kernel_rfl

/-- internal/strconv.bool2[int] -/
noncomputable def r111 (R : RnK) (N : Nat) (args : List Value) (h : Hs) : An := unC args fun a0 sq0 => enK h fun h0 =>
 jn (fun (x1 : Value) (h2 : Hs) =>
 clrK h (Value.int .i64 (.ofNat 0)) h2) fun k0 =>
 cnd a0
 (clrK h (Value.int .i64 (.ofNat 1)) h0)
 (k0 (Value.int .i64 (.ofNat 0)) h0)

theorem q111 (R : RnK) (N : Nat) (args : List Value) (h : Hs) : r111 R N args h = callT Tryz.prog N R 111 args h := by kernel_rfl

/-- internal/strconv.isPowerOfTwo -/
noncomputable def r112 (R : RnK) (N : Nat) (args : List Value) (h : Hs) : An := unC args fun a0 sq0 => enK h fun h0 =>
 kI64 .sub a0 (Value.int .i64 (.ofNat 1)) (fun x0 =>
 kI64 .and a0 x0 (fun x1 =>
 kI64 .eql x1 (Value.int .i64 (.ofNat 0)) (fun x2 =>
 clrK h x2 h0)))

theorem q112 (R : RnK) (N : Nat) (args : List Value) (h : Hs) : r112 R N args h = callT Tryz.prog N R 112 args h := by kernel_rfl

/-- math/bits.TrailingZeros -/
noncomputable def r113 (R : RnK) (N : Nat) (args : List Value) (h : Hs) : An := unC args fun a0 sq0 => enK h fun h0 =>
 jn (fun (x1 : Value) (h2 : Hs) =>
 kCall R 119 [a0] h2 (fun x3 h4 =>
 clrK h x3 h4)) fun k0 =>
 cnd (Value.bool false)
 (obK (fun x5 =>
 kCall R 118 [x5] h0 (fun x6 h7 =>
 clrK h x6 h7)) (convI1 .u32 a0))
 (k0 (Value.int .i64 (.ofNat 0)) h0)

theorem q113 (R : RnK) (N : Nat) (args : List Value) (h : Hs) : r113 R N args h = callT Tryz.prog N R 113 args h := by kernel_rfl

/-- internal/stringslite.IndexByte -/
noncomputable def r114 (R : RnK) (N : Nat) (args : List Value) (h : Hs) : An := unC args fun a0 sq0 => unC sq0 fun a1 sq1 => enK h fun h0 =>
 after (fun x0 h1 =>
 clrK h x0 h1) (ret1 h0 (idxB1 a0 a1))

theorem q114 (R : RnK) (N : Nat) (args : List Value) (h : Hs) : r114 R N args h = callT Tryz.prog N R 114 args h := by kernel_rfl

/-- internal/bytealg.Cutover -/
noncomputable def r116 (R : RnK) (N : Nat) (args : List Value) (h : Hs) : An := unC args fun a0 sq0 => enK h fun h0 =>
 kI64 .add a0 (Value.int .i64 (.ofNat 16)) (fun x0 =>
 kI64 .quo x0 (Value.int .i64 (.ofNat 8)) (fun x1 =>
 clrK h x1 h0))

theorem q116 (R : RnK) (N : Nat) (args : List Value) (h : Hs) : r116 R N args h = callT Tryz.prog N R 116 args h := by kernel_rfl

/-- internal/bytealg.IndexRabinKarp[string] -/
noncomputable def r117 (R : RnK) (N : Nat) (args : List Value) (h : Hs) : An := unC args fun a0 sq0 => unC sq0 fun a1 sq1 => enK h fun h0 =>
 kCall R 121 [a1] h0 (fun x0 h1 =>
 kExtr x0 0 (fun x2 =>
 kExtr x0 1 (fun x3 =>
 kLenS a1 (fun x4 =>
 jn (fun (x6 x7 x8 : Value) (h9 : Hs) =>
 obK (fun x10 =>
 gdT x10 h9 (fun k11 => k11 a0 h9) (fun x12 h13 =>
 gdT x10 h13 (fun k14 => k14 x4 h13) (fun x15 h16 =>
 gdT x10 h16 (fun k17 => after (k17) (oCutstr (.c x12) none (some (.c x15)) enE h16)) (fun x18 h19 =>
 gdT x10 h19 (fun k20 => k20 a1 h19) (fun x21 h22 =>
 gdT x10 h22 (fun k23 => obK (fun x24 => k23 x24 h22) (s2 .eql x18 x21)) (fun x25 h26 =>
 after (fun x27 h28 =>
 jn (fun (x30 : Value) (h31 : Hs) =>
 jn (fun (x33 x34 x35 x36 x37 : Value) (h38 : Hs) =>
 clrK h (Value.int .i64 (.negSucc 0)) h38) fun k32 =>
 lpT (T := Value → Value → Value → Value → Value → Hs → An) (fun _ _ _ _ _ _ => none) N (fun k39 =>
 fun (x41 x42 x43 x44 x45 : Value) (h46 : Hs) =>
 kLenS a0 (fun x47 =>
 kI64 .lss x42 x47 (fun x48 =>
 jn (fun (h50 : Hs) =>
 jn (fun (x52 x53 x54 x55 : Value) (h56 : Hs) =>
 k39 x52 x53 x48 x54 x55 h56) fun k51 =>
 obK (fun x57 =>
 after (fun x58 h59 =>
 obK (fun x60 =>
 obK (fun x61 =>
 kI64 .sub x42 x4 (fun x62 =>
 after (fun x63 h64 =>
 obK (fun x65 =>
 obK (fun x66 =>
 obK (fun x67 =>
 kI64 .add x42 (Value.int .i64 (.ofNat 1)) (fun x68 =>
 obK (fun x69 =>
 gdT x69 h64 (fun k70 => k70 a0 h64) (fun x71 h72 =>
 gdT x69 h72 (fun k73 => k73 x68 h72) (fun x74 h75 =>
 gdT x69 h75 (fun k76 => k76 x4 h75) (fun x77 h78 =>
 gdT x69 h78 (fun k79 => kI64 .sub x74 x77 (fun x80 => k79 x80 h78)) (fun x81 h82 =>
 gdT x69 h82 (fun k83 => k83 x68 h82) (fun x84 h85 =>
 gdT x69 h85 (fun k86 => after (k86) (oCutstr (.c x71) (some (.c x81)) (some (.c x84)) enE h85)) (fun x87 h88 =>
 gdT x69 h88 (fun k89 => k89 a1 h88) (fun x90 h91 =>
 gdT x69 h91 (fun k92 => obK (fun x93 => k92 x93 h91) (s2 .eql x87 x90)) (fun x94 h95 =>
 after (fun x96 h97 =>
 jn (fun (x99 : Value) (h100 : Hs) =>
 k51 x67 x68 x96 x99 h100) fun k98 =>
 cnd x96
 (kI64 .sub x68 x4 (fun x101 =>
 clrK h x101 h97))
 (k98 x45 h97)) (pickB (.c x94) (.c (Value.bool false)) enE h95 x69)))))))))) (i2 (fOf .eql) x67 x2))) (i2 (fOf .sub) x61 x66)) (i2 (fOf .mul) x3 x65)) (convI1 .u32 x63)) (oIdxS (.c a0) (.c x62) enE h59))) (i2 (fOf .add) x57 x60)) (convI1 .u32 x58)) (oIdxS (.c a0) (.c x42) enE h50)) (i2 (fOf .mul) x41 (Value.int .u32 (.ofNat 16777619)))) fun k49 =>
 cnd x48
 (k49 h46)
 (k32 x41 x42 x48 x44 x45 h46)))) x8 x4 dunno dunno x30 h31) fun k29 =>
 cnd x27
 (clrK h (Value.int .i64 (.ofNat 0)) h28)
 (k29 (Value.int .i64 (.ofNat 0)) h28)) (pickB (.c x25) (.c (Value.bool false)) enE h26 x10))))))) (i2 (fOf .eql) x8 x2)) fun k5 =>
 lpT (T := Value → Value → Value → Hs → An) (fun _ _ _ _ => none) N (fun k102 =>
 fun (x104 x105 x106 : Value) (h107 : Hs) =>
 kI64 .lss x104 x4 (fun x108 =>
 jn (fun (h110 : Hs) =>
 jn (fun (x112 : Value) (h113 : Hs) =>
 kI64 .add x104 (Value.int .i64 (.ofNat 1)) (fun x114 =>
 k102 x114 x108 x112 h113)) fun k111 =>
 obK (fun x115 =>
 after (fun x116 h117 =>
 obK (fun x118 =>
 obK (fun x119 =>
 k111 x119 h117) (i2 (fOf .add) x115 x118)) (convI1 .u32 x116)) (oIdxS (.c a0) (.c x104) enE h110)) (i2 (fOf .mul) x106 (Value.int .u32 (.ofNat 16777619)))) fun k109 =>
 cnd x108
 (k109 h107)
 (k5 x104 x108 x106 h107))) (Value.int .i64 (.ofNat 0)) dunno (Value.int .u32 (.ofNat 0)) h1))))

theorem q117 (R : RnK) (N : Nat) (args : List Value) (h : Hs) : r117 R N args h = callT Tryz.prog N R 117 args h := by kernel_rfl

/-- math/bits.TrailingZeros32 -/
noncomputable def r118 (R : RnK) (N : Nat) (args : List Value) (h : Hs) : An := unC args fun a0 sq0 => enK h fun h0 =>
 obK (fun x0 =>
 jn (fun (x2 : Value) (h3 : Hs) =>
 obK (fun x4 =>
 obK (fun x5 =>
 obK (fun x6 =>
 kShr x6 (Value.int .u64 (.ofNat 27)) (fun x7 =>
 none)) (i2 (fOf .mul) x5 (Value.int .u32 (.ofNat 125613361)))) (i2 (fOf .and) a0 x4)) (un .neg a0)) fun k1 =>
 cnd x0
 (clrK h (Value.int .i64 (.ofNat 32)) h0)
 (k1 (Value.int .i64 (.ofNat 0)) h0)) (i2 (fOf .eql) a0 (Value.int .u32 (.ofNat 0)))

theorem q118 (R : RnK) (N : Nat) (args : List Value) (h : Hs) : r118 R N args h = callT Tryz.prog N R 118 args h := by kernel_rfl

/-- math/bits.TrailingZeros64 -/
noncomputable def r119 (R : RnK) (N : Nat) (args : List Value) (h : Hs) : An := unC args fun a0 sq0 => enK h fun h0 =>
 kU64 .eql a0 (Value.int .u64 (.ofNat 0)) (fun x0 =>
 jn (fun (x2 : Value) (h3 : Hs) =>
 obK (fun x4 =>
 kU64 .and a0 x4 (fun x5 =>
 kU64 .mul x5 (Value.int .u64 (.ofNat 285870213051353865)) (fun x6 =>
 kShr x6 (Value.int .u64 (.ofNat 58)) (fun x7 =>
 none)))) (un .neg a0)) fun k1 =>
 cnd x0
 (clrK h (Value.int .i64 (.ofNat 64)) h0)
 (k1 (Value.int .i64 (.ofNat 0)) h0))

theorem q119 (R : RnK) (N : Nat) (args : List Value) (h : Hs) : r119 R N args h = callT Tryz.prog N R 119 args h := by kernel_rfl

/-- internal/bytealg.hashStr[string] -/
noncomputable def r121 (R : RnK) (N : Nat) (args : List Value) (h : Hs) : An := unC args fun a0 sq0 => enK h fun h0 =>
 jn (fun (x1 x2 x3 : Value) (h4 : Hs) =>
 kLenS a0 (fun x5 =>
 jn (fun (x7 x8 x9 x10 x11 : Value) (h12 : Hs) =>
 clrK h (Value.tuple #[x3, x10]) h12) fun k6 =>
 lpT (T := Value → Value → Value → Value → Value → Hs → An) (fun _ _ _ _ _ _ => none) N (fun k13 =>
 fun (x15 x16 x17 x18 x19 : Value) (h20 : Hs) =>
 kI64 .gtr x15 (Value.int .i64 (.ofNat 0)) (fun x21 =>
 jn (fun (h23 : Hs) =>
 jn (fun (x25 x26 x27 : Value) (h28 : Hs) =>
 kShr x15 (Value.int .u64 (.ofNat 1)) (fun x29 =>
 k13 x29 x21 x25 x26 x27 h28)) fun k24 =>
 kI64 .and x15 (Value.int .i64 (.ofNat 1)) (fun x30 =>
 kI64 .neq x30 (Value.int .i64 (.ofNat 0)) (fun x31 =>
 jn (fun (x33 : Value) (h34 : Hs) =>
 obK (fun x35 =>
 k24 x31 x33 x35 h34) (i2 (fOf .mul) x19 x19)) fun k32 =>
 cnd x31
 (obK (fun x36 =>
 k32 x36 h23) (i2 (fOf .mul) x18 x19))
 (k32 x18 h23)))) fun k22 =>
 cnd x21
 (k22 h20)
 (k6 x15 x21 x17 x18 x19 h20))) x5 dunno dunno (Value.int .u32 (.ofNat 1)) (Value.int .u32 (.ofNat 16777619)) h4)) fun k0 =>
 lpT (T := Value → Value → Value → Hs → An) (fun _ _ _ _ => none) N (fun k37 =>
 fun (x39 x40 x41 : Value) (h42 : Hs) =>
 kLenS a0 (fun x43 =>
 kI64 .lss x39 x43 (fun x44 =>
 jn (fun (h46 : Hs) =>
 jn (fun (x48 : Value) (h49 : Hs) =>
 kI64 .add x39 (Value.int .i64 (.ofNat 1)) (fun x50 =>
 k37 x50 x44 x48 h49)) fun k47 =>
 obK (fun x51 =>
 after (fun x52 h53 =>
 obK (fun x54 =>
 obK (fun x55 =>
 k47 x55 h53) (i2 (fOf .add) x51 x54)) (convI1 .u32 x52)) (oIdxS (.c a0) (.c x39) enE h46)) (i2 (fOf .mul) x41 (Value.int .u32 (.ofNat 16777619)))) fun k45 =>
 cnd x44
 (k45 h42)
 (k0 x39 x44 x41 h42)))) (Value.int .i64 (.ofNat 0)) dunno (Value.int .u32 (.ofNat 0)) h0

theorem q121 (R : RnK) (N : Nat) (args : List Value) (h : Hs) : r121 R N args h = callT Tryz.prog N R 121 args h := by kernel_rfl

noncomputable def entries : List (Nat × FnK) := [(4, r4), (5, r5), (6, r6), (7, r7), (8, r8), (9, r9), (12, r12), (13, r13), (14, r14), (15, r15), (16, r16), (17, r17), (18, r18), (19, r19), (20, r20), (21, r21), (22, r22), (23, r23), (24, r24), (25, r25), (26, r26), (27, r27), (28, r28), (30, r30), (31, r31), (32, r32), (33, r33), (34, r34), (35, r35), (36, r36), (37, r37), (38, r38), (39, r39), (40, r40), (41, r41), (42, r42), (43, r43), (44, r44), (45, r45), (46, r46), (47, r47), (48, r48), (49, r49), (50, r50), (51, r51), (52, r52), (53, r53), (54, r54), (55, r55), (56, r56), (58, r58), (59, r59), (60, r60), (61, r61), (62, r62), (63, r63), (64, r64), (65, r65), (66, r66), (67, r67), (68, r68), (69, r69), (70, r70), (71, r71), (72, r72), (73, r73), (74, r74), (75, r75), (76, r76), (77, r77), (78, r78), (79, r79), (80, r80), (81, r81), (82, r82), (83, r83), (84, r84), (85, r85), (86, r86), (87, r87), (88, r88), (89, r89), (90, r90), (91, r91), (92, r92), (93, r93), (95, r95), (96, r96), (97, r97), (98, r98), (99, r99), (100, r100), (101, r101), (102, r102), (103, r103), (104, r104), (105, r105), (108, r108), (109, r109), (110, r110), (111, r111), (112, r112), (113, r113), (114, r114), (116, r116), (117, r117), (118, r118), (119, r119), (121, r121)]
theorem entries_ok : AllOk Tryz.prog entries := ⟨q4, q5, q6, q7, q8, q9, q12, q13, q14, q15, q16, q17, q18, q19, q20, q21, q22, q23, q24, q25, q26, q27, q28, q30, q31, q32, q33, q34, q35, q36, q37, q38, q39, q40, q41, q42, q43, q44, q45, q46, q47, q48, q49, q50, q51, q52, q53, q54, q55, q56, q58, q59, q60, q61, q62, q63, q64, q65, q66, q67, q68, q69, q70, q71, q72, q73, q74, q75, q76, q77, q78, q79, q80, q81, q82, q83, q84, q85, q86, q87, q88, q89, q90, q91, q92, q93, q95, q96, q97, q98, q99, q100, q101, q102, q103, q104, q105, q108, q109, q110, q111, q112, q113, q114, q116, q117, q118, q119, q121, trivial⟩
end Go.Proofs.YtbgmdnemjllpiaaGreatDoor.checkKnown
