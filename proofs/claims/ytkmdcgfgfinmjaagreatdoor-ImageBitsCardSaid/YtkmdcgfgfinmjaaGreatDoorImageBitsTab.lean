/- The functions that 'ImageBits' reaches, in the fast evaluator's form, each held against the program's own text by the kernel. Written by a program. -/
import Derived.Test.YtkmdcgfgfinmjaaGreatDoorGevKM
import Derived.Test.YtkmdcgfgfinmjaaGreatDoorProg
import Derived.KernelRfl
namespace Go.Proofs.YtkmdcgfgfinmjaaGreatDoor.imageBits
open Go.Gev
set_option linter.unusedVariables false
/-- lintel/lintellaw18.ImageBits -/
noncomputable def r4 (R : RnK) (N : Nat) (args : List Value) (h : Hs) : An := unC args fun a0 sq0 => unC sq0 fun a1 sq1 => enK h fun h0 =>
 after (fun x0 h1 =>
 kCall R 6 [] h1 (fun x2 h3 =>
 kNot x2 (fun x4 =>
 jn (fun (x6 : Value) (h7 : Hs) =>
 kLoads 4 x0 h7 (fun x8 =>
 kCall R 7 [x8] h7 (fun x9 h10 =>
 kExtr x9 0 (fun x11 =>
 kExtr x9 1 (fun x12 =>
 kI64 .neq x12 (Value.int .i64 (.ofNat 0)) (fun x13 =>
 jn (fun (x15 : Value) (h16 : Hs) =>
 kCall R 8 [x11] h16 (fun x17 h18 =>
 kExtr x17 0 (fun x19 =>
 kExtr x17 1 (fun x20 =>
 after (fun x21 h22 =>
 after (fun x23 h24 =>
 kLoads 4 x0 h24 (fun x25 =>
 kCall R 11 [x25] h24 (fun x26 h27 =>
 kExtr x26 0 (fun x28 =>
 kExtr x26 1 (fun x29 =>
 kI64 .neq x20 (Value.int .i64 (.ofNat 0)) (fun x30 =>
 gdF x30 h27 (fun k31 => k31 a1 h27) (fun x32 h33 =>
 gdF x30 h33 (fun k34 => kI64 .lss x32 (Value.int .i64 (.ofNat 0)) (fun x35 => k34 x35 h33)) (fun x36 h37 =>
 after (fun x38 h39 =>
 gdF x38 h39 (fun k40 => k40 a1 h39) (fun x41 h42 =>
 gdF x38 h42 (fun k43 => kFieldA 0 x0 (fun x44 => k43 x44 h42)) (fun x45 h46 =>
 gdF x38 h46 (fun k47 => kLoad x45 h46 (fun x48 => k47 x48 h46)) (fun x49 h50 =>
 gdF x38 h50 (fun k51 => kI64 .geq x41 x49 (fun x52 => k51 x52 h50)) (fun x53 h54 =>
 after (fun x55 h56 =>
 jn (fun (x58 : Value) (h59 : Hs) =>
 kLoads 5 x21 h59 (fun x60 =>
 kCall R 12 [x60] h59 (fun x61 h62 =>
 after (fun x63 h64 =>
 kStore1 x63 x61 h64 (fun x65 h66 =>
 kI64 .quo a1 (Value.int .i64 (.ofNat 64)) (fun x67 =>
 kFieldA 0 x63 (fun x68 =>
 kLoad x68 h66 (fun x69 =>
 kLenV x69 (fun x70 =>
 kI64 .geq x67 x70 (fun x71 =>
 jn (fun (x73 : Value) (h74 : Hs) =>
 kFieldA 0 x63 (fun x75 =>
 kLoad x75 h74 (fun x76 =>
 kI64 .quo a1 (Value.int .i64 (.ofNat 64)) (fun x77 =>
 kIdxA 1 x76 x77 (fun x78 =>
 kLoad x78 h74 (fun x79 =>
 kI64 .rem a1 (Value.int .i64 (.ofNat 64)) (fun x80 =>
 kToU x80 (fun x81 =>
 kShr x79 x81 (fun x82 =>
 kU64 .and x82 (Value.int .u64 (.ofNat 1)) (fun x83 =>
 kU64 .eql x83 (Value.int .u64 (.ofNat 1)) (fun x84 =>
 kCall R 13 [x11] h74 (fun x85 h86 =>
 kExtr x85 0 (fun x87 =>
 kExtr x85 1 (fun x88 =>
 after (fun x89 h90 =>
 after (fun x91 h92 =>
 gdT x88 h92 (fun k93 => kFieldA 0 x63 (fun x94 => k93 x94 h92)) (fun x95 h96 =>
 gdT x88 h96 (fun k97 => kLoad x95 h96 (fun x98 => k97 x98 h96)) (fun x99 h100 =>
 gdT x88 h100 (fun k101 => kLenV x99 (fun x102 => k101 x102 h100)) (fun x103 h104 =>
 gdT x88 h104 (fun k105 => kI64 .mul x103 (Value.int .i64 (.ofNat 64)) (fun x106 => k105 x106 h104)) (fun x107 h108 =>
 gdT x88 h108 (fun k109 => kFieldA 0 x0 (fun x110 => k109 x110 h108)) (fun x111 h112 =>
 gdT x88 h112 (fun k113 => kLoad x111 h112 (fun x114 => k113 x114 h112)) (fun x115 h116 =>
 gdT x88 h116 (fun k117 => kI64 .geq x107 x115 (fun x118 => k117 x118 h116)) (fun x119 h120 =>
 after (fun x121 h122 =>
 gdT x121 h122 (fun k123 => k123 x84 h122) (fun x124 h125 =>
 gdT x121 h125 (fun k126 => k126 a1 h125) (fun x127 h128 =>
 gdT x121 h128 (fun k129 => k129 x28 h128) (fun x130 h131 =>
 gdT x121 h131 (fun k132 => kI64 .lss x127 x130 (fun x133 => k132 x133 h131)) (fun x134 h135 =>
 gdT x121 h135 (fun k136 => k136 x134 h135) (fun x137 h138 =>
 gdF x137 h138 (fun k139 => k139 a1 h138) (fun x140 h141 =>
 gdF x137 h141 (fun k142 => k142 x28 h141) (fun x143 h144 =>
 gdF x137 h144 (fun k145 => k145 x29 h144) (fun x146 h147 =>
 gdF x137 h147 (fun k148 => kI64 .add x143 x146 (fun x149 => k148 x149 h147)) (fun x150 h151 =>
 gdF x137 h151 (fun k152 => kI64 .geq x140 x150 (fun x153 => k152 x153 h151)) (fun x154 h155 =>
 gdT x121 h155 (fun k156 => after (k156) (pickB (.c (Value.bool true)) (.c x154) enE h155 x137)) (fun x157 h158 =>
 gdT x121 h158 (fun k159 => obK (fun x160 => k159 x160 h158) (e2 false qB x124 x157)) (fun x161 h162 =>
 after (fun x163 h164 =>
 clrK h x163 h164) (pickB (.c x161) (.c (Value.bool false)) enE h162 x121)))))))))))))) (pickB (.c x119) (.c (Value.bool false)) enE h120 x88))))))))) (store1 5 h90 (cellsL x87) (addrOf x89))) (oAlloc 45 [(Value.int .i64 (.ofNat 0)), (Value.int .i64 (.ofNat 0)), (Value.int .i64 (.ofNat 0)), (Value.int .i64 (.ofNat 0)), (Value.slice none 0 0)] enE h86))))))))))))))) fun k72 =>
 cnd x71
 (clrK h (Value.bool false) h66)
 (k72 x58 h66)))))))) (oAlloc 40 [(Value.slice none 0 0)] enE h62)))) fun k57 =>
 cnd x55
 (kI64 .eql x20 (Value.int .i64 (.ofNat 0)) (fun x165 =>
 clrK h x165 h56))
 (k57 x15 h56)) (pickB (.c (Value.bool true)) (.c x53) enE h54 x38)))))) (pickB (.c (Value.bool true)) (.c x36) enE h37 x30))))))))) (store1 5 h22 (cellsL x19) (addrOf x21))) (oAlloc 31 [(Value.int .i64 (.ofNat 0)), (Value.int .i64 (.ofNat 0)), (Value.int .i64 (.ofNat 0)), (Value.int .i64 (.ofNat 0)), (Value.slice none 0 0)] enE h18))))) fun k14 =>
 cnd x13
 (kLoads 4 x0 h10 (fun x166 =>
 kCall R 10 [x166] h10 (fun x167 h168 =>
 kNot x167 (fun x169 =>
 clrK h x169 h168))))
 (k14 x6 h10))))))) fun k5 =>
 cnd x4
 (clrK h (Value.bool false) h3)
 (k5 (Value.bool false) h3)))) (oBox 23 (.c a0) enE h0)

theorem q4 (R : RnK) (N : Nat) (args : List Value) (h : Hs) : r4 R N args h = callT Tryz.prog N R 4 args h := by kernel_rfl

/-- lintel/image.Make -/
noncomputable def r7 (R : RnK) (N : Nat) (args : List Value) (h : Hs) : An := unC args fun a0 sq0 => enK h fun h0 =>
 after (fun x0 h1 =>
 kLoads 4 x0 h1 (fun x2 =>
 kCall R 10 [x2] h1 (fun x3 h4 =>
 kNot x3 (fun x5 =>
 jn (fun (x7 x8 : Value) (h9 : Hs) =>
 kFieldA 0 x0 (fun x10 =>
 kLoad x10 h9 (fun x11 =>
 kI64 .mul (Value.int .i64 (.ofNat 8)) x11 (fun x12 =>
 after (fun x13 h14 =>
 after (fun x15 h16 =>
 kStore1 x15 x13 h16 (fun x17 h18 =>
 after (fun x19 h20 =>
 kLoads 4 x0 h20 (fun x21 =>
 kCall R 22 [x21] h20 (fun x22 h23 =>
 kExtr x22 0 (fun x24 =>
 kExtr x22 1 (fun x25 =>
 kLoads 4 x0 h23 (fun x26 =>
 after (fun x27 h28 =>
 kCall R 23 [x27] h28 (fun x29 h30 =>
 kCallV R x19 [(Value.int .i64 (.ofNat 0)), x29] h30 (fun x31 h32 =>
 kLoads 4 x0 (Hs.mk h32.hp h32.nx h32.nx) (fun x33 =>
 kCall R 24 [x33] (Hs.mk h32.hp h32.nx h32.nx) (fun v146 u147 => dPut (fun x34 h35 =>
 kLoads 4 x0 (dHidS .light [false, false, false] [some (h32.nx, h35.nx), none, none] h35) (fun x36 =>
 after (fun v144 u145 => dPut (fun x37 h38 =>
 kCall R 23 [x37] h38 (fun v142 u143 => dPut (fun x39 h40 =>
 isVal (fun v140 u141 => dPut (fun x41 h42 =>
 kLoads 4 x0 h42 (fun x43 =>
 kCall R 25 [x43, (Value.int .i64 (.ofNat 1))] h42 (fun x44 h45 =>
 after (fun x46 h47 =>
 kCall R 26 [x46] h47 (fun x48 h49 =>
 kCallV R x19 [x44, x48] h49 (fun x50 h51 =>
 kLoads 4 x0 h51 (fun x52 =>
 kCall R 25 [x52, (Value.int .i64 (.ofNat 2))] h51 (fun x53 h54 =>
 after (fun x55 h56 =>
 after (fun x57 h58 =>
 after (fun x59 h60 =>
 kCall R 26 [x59] h60 (fun x61 h62 =>
 kCallV R x19 [x53, x61] h62 (fun x63 h64 =>
 kLoads 4 x0 h64 (fun x65 =>
 kCall R 11 [x65] h64 (fun x66 h67 =>
 kExtr x66 0 (fun x68 =>
 kExtr x66 1 (fun x69 =>
 kFieldA 0 x0 (fun x70 =>
 kLoad x70 h67 (fun x71 =>
 kCall R 27 [x71] h67 (fun x72 h73 =>
 after (fun x74 h75 =>
 kStore1 x74 x72 h75 (fun x76 h77 =>
 kFieldA 0 x0 (fun x78 =>
 kLoad x78 h77 (fun x79 =>
 jn (fun (x81 x82 x83 x84 : Value) (h85 : Hs) =>
 kLoads 4 x0 h85 (fun x86 =>
 kCall R 29 [x86] h85 (fun x87 h88 =>
 kExtr x87 0 (fun x89 =>
 kExtr x87 1 (fun x90 =>
 kFieldA 0 x74 (fun x91 =>
 kLoad x91 h88 (fun x92 =>
 kCallV R x19 [x89, x92] h88 (fun x93 h94 =>
 kLoad x15 h94 (fun x95 =>
 clrK h (Value.tuple #[x95, (Value.int .i64 (.ofNat 0))]) h94))))))))) fun k80 =>
 lpT (T := Value → Value → Value → Value → Hs → An) (fun _ _ _ _ _ => none) N (fun k96 =>
 fun (x98 x99 x100 x101 : Value) (h102 : Hs) =>
 kI64 .lss x98 x79 (fun x103 =>
 jn (fun (h105 : Hs) =>
 jn (fun (x107 x108 : Value) (h109 : Hs) =>
 kI64 .add x98 (Value.int .i64 (.ofNat 1)) (fun x110 =>
 k96 x110 x103 x107 x108 h109)) fun k106 =>
 kI64 .lss x98 x68 (fun x111 =>
 gdF x111 h105 (fun k112 => k112 x98 h105) (fun x113 h114 =>
 gdF x111 h114 (fun k115 => k115 x68 h114) (fun x116 h117 =>
 gdF x111 h117 (fun k118 => k118 x69 h117) (fun x119 h120 =>
 gdF x111 h120 (fun k121 => kI64 .add x116 x119 (fun x122 => k121 x122 h120)) (fun x123 h124 =>
 gdF x111 h124 (fun k125 => kI64 .geq x113 x123 (fun x126 => k125 x126 h124)) (fun x127 h128 =>
 after (fun x129 h130 =>
 jn (fun (h132 : Hs) =>
 k106 x98 x129 h132) fun k131 =>
 cnd x129
 (kLoads 1 x74 h130 (fun x133 =>
 after (fun x134 h135 =>
 kCall R 28 [x133, (Value.bool true), x134] h135 (fun x136 h137 =>
 kStore1 x74 x136 h137 (fun x138 h139 =>
 k131 h139))) (oMkrow 3 1 1 [(Value.int .i64 (.ofNat 0))] [(0, 1, .c x98)] enE h130)))
 (k131 h130)) (pickB (.c (Value.bool true)) (.c x127) enE h128 x111)))))))) fun k104 =>
 cnd x103
 (k104 h102)
 (k80 x98 x103 x100 x101 h102))) (Value.int .i64 (.ofNat 0)) dunno dunno dunno h77)))) (oAlloc 40 [(Value.slice none 0 0)] enE h73))))))))))) (oBuild [(Value.int .i64 (.ofNat 0)), (Value.int .i64 (.ofNat 0)), (Value.int .i64 (.ofNat 0)), (Value.slice none 0 0)] [(0, 1, .c (Value.int .i64 (.ofNat 2))), (1, 1, .c (Value.int .i64 (.ofNat 1))), (2, 1, .c x25), (3, 1, .c x57)] enE h58)) (oMkrow 70 2 1 [(Value.int .i64 (.ofNat 0)), (Value.int .i64 (.ofNat 0))] [(0, 2, .c x55)] enE h56)) (oBuild [(Value.int .i64 (.ofNat 0)), (Value.int .i64 (.ofNat 0))] [(0, 1, .c x24), (1, 1, .c x25)] enE h54)))))) (oBuild [(Value.int .i64 (.ofNat 0)), (Value.int .i64 (.ofNat 0)), (Value.int .i64 (.ofNat 0)), (Value.slice none 0 0)] [(0, 1, .c (Value.int .i64 (.ofNat 2))), (1, 1, .c (Value.int .i64 (.ofNat 1)))] enE h45)))) v140 (dNext h40 u141 .bar) (andB (dFit h40 u141 .bar) (Nat.ble 0 u141.lo))) (callV (toRn R) [x34, x39] h40 x19)) v142 (dNext h38 u143 .bar) (andB (dFit h38 u143 .bar) (Nat.ble 0 u143.lo)))) v144 (dNext h35 u145 .blind) (andB (dFit h35 u145 .blind) (Nat.ble 0 u145.lo))) (oBuild [(Value.int .i64 (.ofNat 0)), (Value.int .i64 (.ofNat 0)), (Value.int .i64 (.ofNat 0)), (Value.int .i64 (.ofNat 0)), (Value.int .u64 (.ofNat 0))] [(0, 4, .c x36)] enE (Hs.mk .e h35.nx h35.nx)))) v146 (dNext h32 u147 .light) (andB (dFit h32 u147 .light) (Nat.ble 0 u147.lo))))))) (oBuild [(Value.int .i64 (.ofNat 0)), (Value.int .i64 (.ofNat 0)), (Value.int .i64 (.ofNat 0)), (Value.int .i64 (.ofNat 0)), (Value.int .u64 (.ofNat 0))] [(0, 4, .c x26)] enE h23))))))) (oMkfunc (.func 21) [] [.c x15] enE h18))) (oAlloc 26 [(Value.slice none 0 0)] enE h14)) (mkslice1 24 1 8 [(Value.int .u64 (.ofNat 0))] h9 (natOf x12) (natOf x12)))))) fun k6 =>
 cnd x5
 (clrK h (Value.tuple #[(Value.slice none 0 0), (Value.int .i64 (.ofNat 1))]) h4)
 (k6 (Value.slice none 0 0) (Value.int .i64 (.ofNat 0)) h4))))) (oBox 23 (.c a0) enE h0)

theorem q7 (R : RnK) (N : Nat) (args : List Value) (h : Hs) : r7 R N args h = callT Tryz.prog N R 7 args h := by kernel_rfl

/-- lintel/image.Open -/
noncomputable def r8 (R : RnK) (N : Nat) (args : List Value) (h : Hs) : An := unC args fun a0 sq0 => enK h fun h0 =>
 after (fun x0 h1 =>
 kCall R 30 [a0] h1 (fun x2 h3 =>
 kExtr x2 0 (fun x4 =>
 kExtr x2 1 (fun x5 =>
 kExtr x2 2 (fun x6 =>
 after (fun x7 h8 =>
 after (fun x9 h10 =>
 kNot x5 (fun x11 =>
 gdT x11 h10 (fun k12 => k12 x6 h10) (fun x13 h14 =>
 gdT x11 h14 (fun k15 => kNot x13 (fun x16 => k15 x16 h14)) (fun x17 h18 =>
 after (fun x19 h20 =>
 jn (fun (x22 : Value) (h23 : Hs) =>
 kFieldA 0 x7 (fun x24 =>
 kLoads 4 x24 (Hs.mk h23.hp h23.nx h23.nx) (fun x25 =>
 kCall R 31 [a0] (Hs.mk h23.hp h23.nx h23.nx) (fun v36 u37 => dPut (fun x26 h27 =>
 after (fun v34 u35 => dPut (fun x28 h29 =>
 after (fun v32 u33 => dPut (fun x30 h31 =>
 clearUp h (packR h31 (resV enE h31 [.cell (.c x0) 5 true, .t (.c (Value.int .i64 (.ofNat 0)))]))) v32 (dNext h29 u33 .bar) (andB (dFit h29 u33 .bar) (Nat.ble 0 u33.lo))) (store1 5 h29 (cellsL x28) (addrOf x0))) v34 (dNext h27 u35 .blind) (andB (dFit h27 u35 .blind) (Nat.ble 0 u35.lo))) (oBuild [(Value.int .i64 (.ofNat 0)), (Value.int .i64 (.ofNat 0)), (Value.int .i64 (.ofNat 0)), (Value.int .i64 (.ofNat 0)), (Value.slice none 0 0)] [(0, 4, .c x25), (4, 1, .c x26)] enE (Hs.mk .e h27.nx h27.nx))) v36 (dNext h23 u37 .light) (andB (dFit h23 u37 .light) (Nat.ble 0 u37.lo)))))) fun k21 =>
 cnd x19
 (after (fun x38 h39 =>
 after (fun x40 h41 =>
 clearUp h (packR h41 (resV enE h41 [.cell (.c x0) 5 true, .t (.c (Value.int .i64 (.ofNat 13)))]))) (store1 5 h39 (cellsL x38) (addrOf x0))) (oBuild [(Value.int .i64 (.ofNat 0)), (Value.int .i64 (.ofNat 0)), (Value.int .i64 (.ofNat 0)), (Value.int .i64 (.ofNat 0)), (Value.slice none 0 0)] [] enE h20))
 (k21 (Value.int .i64 (.ofNat 0)) h20)) (pickB (.c x17) (.c (Value.bool false)) enE h18 x11))))) (store1 5 h8 (cellsL x4) (addrOf x7))) (oAlloc 62 [(Value.int .i64 (.ofNat 0)), (Value.int .i64 (.ofNat 0)), (Value.int .i64 (.ofNat 0)), (Value.int .i64 (.ofNat 0)), (Value.int .u64 (.ofNat 0))] enE h3)))))) (oAlloc 31 [(Value.int .i64 (.ofNat 0)), (Value.int .i64 (.ofNat 0)), (Value.int .i64 (.ofNat 0)), (Value.int .i64 (.ofNat 0)), (Value.slice none 0 0)] enE h0)

theorem q8 (R : RnK) (N : Nat) (args : List Value) (h : Hs) : r8 R N args h = callT Tryz.prog N R 8 args h := by kernel_rfl

/-- lintel/geom.Good -/
noncomputable def r10 (R : RnK) (N : Nat) (args : List Value) (h : Hs) : An := unC args fun a0 sq0 => enK h fun h0 =>
 after (fun x0 h1 =>
 kFieldA 0 x0 (fun x2 =>
 kLoad x2 h1 (fun x3 =>
 kCall R 32 [x3, (Value.int .i64 (.ofNat 64)), (Value.int .i64 (.ofNat 1024))] h1 (fun x4 h5 =>
 kNot x4 (fun x6 =>
 gdF x6 h5 (fun k7 => kFieldA 1 x0 (fun x8 => k7 x8 h5)) (fun x9 h10 =>
 gdF x6 h10 (fun k11 => kLoad x9 h10 (fun x12 => k11 x12 h10)) (fun x13 h14 =>
 gdF x6 h14 (fun k15 => kCall R 32 [x13, (Value.int .i64 (.ofNat 4)), (Value.int .i64 (.ofNat 64))] h14 (k15)) (fun x16 h17 =>
 gdF x6 h17 (fun k18 => kNot x16 (fun x19 => k18 x19 h17)) (fun x20 h21 =>
 after (fun x22 h23 =>
 gdF x22 h23 (fun k24 => kFieldA 2 x0 (fun x25 => k24 x25 h23)) (fun x26 h27 =>
 gdF x22 h27 (fun k28 => kLoad x26 h27 (fun x29 => k28 x29 h27)) (fun x30 h31 =>
 gdF x22 h31 (fun k32 => kCall R 32 [x30, (Value.int .i64 (.ofNat 1)), (Value.int .i64 (.ofNat 8))] h31 (k32)) (fun x33 h34 =>
 gdF x22 h34 (fun k35 => kNot x33 (fun x36 => k35 x36 h34)) (fun x37 h38 =>
 after (fun x39 h40 =>
 gdF x39 h40 (fun k41 => kFieldA 3 x0 (fun x42 => k41 x42 h40)) (fun x43 h44 =>
 gdF x39 h44 (fun k45 => kLoad x43 h44 (fun x46 => k45 x46 h44)) (fun x47 h48 =>
 gdF x39 h48 (fun k49 => kCall R 32 [x47, (Value.int .i64 (.ofNat 16)), (Value.int .i64 (.ofNat 110))] h48 (k49)) (fun x50 h51 =>
 gdF x39 h51 (fun k52 => kNot x50 (fun x53 => k52 x53 h51)) (fun x54 h55 =>
 after (fun x56 h57 =>
 jn (fun (x59 : Value) (h60 : Hs) =>
 kLoads 4 x0 h60 (fun x61 =>
 kCall R 33 [x61] h60 (fun x62 h63 =>
 kExtr x62 0 (fun x64 =>
 kExtr x62 1 (fun x65 =>
 kI64 .geq x65 (Value.int .i64 (.ofNat 1)) (fun x66 =>
 clrK h x66 h63)))))) fun k58 =>
 cnd x56
 (clrK h (Value.bool false) h57)
 (k58 (Value.bool false) h57)) (pickB (.c (Value.bool true)) (.c x54) enE h55 x39)))))) (pickB (.c (Value.bool true)) (.c x37) enE h38 x22)))))) (pickB (.c (Value.bool true)) (.c x20) enE h21 x6)))))))))) (oBox 23 (.c a0) enE h0)

theorem q10 (R : RnK) (N : Nat) (args : List Value) (h : Hs) : r10 R N args h = callT Tryz.prog N R 10 args h := by kernel_rfl

/-- lintel/geom.Data -/
noncomputable def r11 (R : RnK) (N : Nat) (args : List Value) (h : Hs) : An := unC args fun a0 sq0 => enK h fun h0 =>
 after (fun x0 h1 =>
 kLoads 4 x0 h1 (fun x2 =>
 kCall R 10 [x2] h1 (fun x3 h4 =>
 kNot x3 (fun x5 =>
 jn (fun (x7 x8 : Value) (h9 : Hs) =>
 kLoads 4 x0 h9 (fun x10 =>
 kCall R 33 [x10] h9 (fun x11 h12 =>
 kExtr x11 0 (fun x13 =>
 kExtr x11 1 (fun x14 =>
 clrK h (Value.tuple #[x13, x14]) h12))))) fun k6 =>
 cnd x5
 (clrK h (Value.tuple #[(Value.int .i64 (.ofNat 0)), (Value.int .i64 (.ofNat 0))]) h4)
 (k6 (Value.int .i64 (.ofNat 0)) (Value.int .i64 (.ofNat 0)) h4))))) (oBox 23 (.c a0) enE h0)

theorem q11 (R : RnK) (N : Nat) (args : List Value) (h : Hs) : r11 R N args h = callT Tryz.prog N R 11 args h := by kernel_rfl

/-- (lintel/image.Image).Bits -/
noncomputable def r12 (R : RnK) (N : Nat) (args : List Value) (h : Hs) : An := unC args fun a0 sq0 => enK h fun h0 =>
 after (fun x0 h1 =>
 after (fun x2 h3 =>
 kFieldA 0 x0 (fun x4 =>
 kLoads 4 x4 h3 (fun x5 =>
 kCall R 29 [x5] h3 (fun x6 h7 =>
 kExtr x6 0 (fun x8 =>
 kExtr x6 1 (fun x9 =>
 after (fun x10 h11 =>
 jn (fun (x13 x14 x15 : Value) (h16 : Hs) =>
 kLoads 1 x10 h16 (fun x17 =>
 kStore1 x2 x17 h16 (fun x18 h19 =>
 clearUp h (packR h19 (resV enE h19 [.cell (.c x2) 1 true]))))) fun k12 =>
 lpT (T := Value → Value → Value → Hs → An) (fun _ _ _ _ => none) N (fun k20 =>
 fun (x22 x23 x24 : Value) (h25 : Hs) =>
 kI64 .lss x22 x9 (fun x26 =>
 jn (fun (h28 : Hs) =>
 jn (fun (x30 : Value) (h31 : Hs) =>
 kI64 .add x22 (Value.int .i64 (.ofNat 1)) (fun x32 =>
 k20 x32 x26 x30 h31)) fun k29 =>
 kFieldA 0 x10 (fun x33 =>
 kLoad x33 (Hs.mk h28.hp h28.nx h28.nx) (fun x34 =>
 kLoads 5 x0 (Hs.mk h28.hp h28.nx h28.nx) (fun x35 =>
 kI64 .add x8 x22 (fun x36 =>
 kCall R 34 [x35, x36] (Hs.mk h28.hp h28.nx h28.nx) (fun v48 u49 => dPut (fun x37 h38 =>
 after (fun v46 u47 => dPut (fun x39 h40 =>
 kFieldA 0 x10 (fun x41 =>
 kStore1 x41 x39 h40 (fun v44 u45 => dPut (fun x42 h43 =>
 k29 x22 h43) v44 (dNext h40 u45 .bar) (andB (dFit h40 u45 .bar) (Nat.ble 0 u45.lo))))) v46 (dNext h38 u47 .bar) (andB (dFit h38 u47 .bar) (Nat.ble 0 u47.lo))) (app0 24 1 8 h38 x34 x37)) v48 (dNext h28 u49 .light) (andB (dFit h28 u49 .light) (Nat.ble 0 u49.lo)))))))) fun k27 =>
 cnd x26
 (k27 h25)
 (k12 x22 x26 x24 h25))) (Value.int .i64 (.ofNat 0)) dunno dunno h11) (oAlloc 40 [(Value.slice none 0 0)] enE h7))))))) (oAlloc 40 [(Value.slice none 0 0)] enE h1)) (oBox 31 (.c a0) enE h0)

theorem q12 (R : RnK) (N : Nat) (args : List Value) (h : Hs) : r12 R N args h = callT Tryz.prog N R 12 args h := by kernel_rfl

/-- lintel/lintelref18.Open -/
noncomputable def r13 (R : RnK) (N : Nat) (args : List Value) (h : Hs) : An := unC args fun a0 sq0 => enK h fun h0 =>
 after (fun x0 h1 =>
 kCall R 35 [a0] h1 (fun x2 h3 =>
 kExtr x2 0 (fun x4 =>
 kExtr x2 1 (fun x5 =>
 kExtr x2 2 (fun x6 =>
 kExtr x2 3 (fun x7 =>
 after (fun x8 h9 =>
 after (fun x10 h11 =>
 kNot x6 (fun x12 =>
 gdT x12 h11 (fun k13 => k13 x7 h11) (fun x14 h15 =>
 gdT x12 h15 (fun k16 => kNot x14 (fun x17 => k16 x17 h15)) (fun x18 h19 =>
 after (fun x20 h21 =>
 jn (fun (x23 : Value) (h24 : Hs) =>
 lwF x8 h24 (fun h25 =>
 kLoads 4 x8 (lowF (cutV x8) h25 h25) (fun x26 =>
 after (fun v42 u43 => dPut (fun x27 h28 =>
 after (fun v40 u41 => dPut (fun x29 h30 =>
 after (fun v38 u39 => dPut (fun x31 h32 =>
 after (fun v36 u37 => dPut (fun x33 h34 =>
 lwFE x8 h24 h34 (fun h35 =>
 clearUp h (packR h35 (resV enE h35 [.cell (.c x0) 5 true, .t (.c (Value.bool true))])))) v36 (dNext h32 u37 .bar) (andB (dFit h32 u37 .bar) (Nat.ble 0 u37.lo))) (store1 5 h32 (cellsL x31) (addrOf x0))) v38 (dNext h30 u39 .blind) (andB (dFit h30 u39 .blind) (Nat.ble 0 u39.lo))) (oBuild [(Value.int .i64 (.ofNat 0)), (Value.int .i64 (.ofNat 0)), (Value.int .i64 (.ofNat 0)), (Value.int .i64 (.ofNat 0)), (Value.slice none 0 0)] [(0, 4, .c x26), (4, 1, .c x29)] enE (Hs.mk .e h30.nx h30.nx))) v40 (dNext h28 u41 .bar) (andB (dFit h28 u41 .bar) (Nat.ble 0 u41.lo))) (app0 24 1 8 h28 x27 a0)) v42 (dNext h25 u43 .bar) (andB (dFit h25 u43 .bar) (Nat.ble 0 u43.lo))) (oMkrow 24 1 0 [(Value.int .u64 (.ofNat 0))] [] enE h25)))) fun k22 =>
 cnd x20
 (after (fun x44 h45 =>
 after (fun x46 h47 =>
 clearUp h (packR h47 (resV enE h47 [.cell (.c x0) 5 true, .t (.c (Value.bool false))]))) (store1 5 h45 (cellsL x44) (addrOf x0))) (oBuild [(Value.int .i64 (.ofNat 0)), (Value.int .i64 (.ofNat 0)), (Value.int .i64 (.ofNat 0)), (Value.int .i64 (.ofNat 0)), (Value.slice none 0 0)] [] enE h21))
 (k22 (Value.bool false) h21)) (pickB (.c x18) (.c (Value.bool false)) enE h19 x12))))) (store1 4 h9 (cellsL x4) (addrOf x8))) (oAlloc 43 [(Value.int .i64 (.ofNat 0)), (Value.int .i64 (.ofNat 0)), (Value.int .i64 (.ofNat 0)), (Value.int .i64 (.ofNat 0))] enE h3))))))) (oAlloc 45 [(Value.int .i64 (.ofNat 0)), (Value.int .i64 (.ofNat 0)), (Value.int .i64 (.ofNat 0)), (Value.int .i64 (.ofNat 0)), (Value.slice none 0 0)] enE h0)

theorem q13 (R : RnK) (N : Nat) (args : List Value) (h : Hs) : r13 R N args h = callT Tryz.prog N R 13 args h := by kernel_rfl

/-- lintel/image.Make$1 -/
noncomputable def r21 (R : RnK) (N : Nat) (args : List Value) (h : Hs) : An := unC args fun a0 sq0 => unC sq0 fun a1 sq1 => unC sq1 fun a2 sq2 => enK h fun h0 =>
 kLoad a2 h0 (fun x0 =>
 kI64 .mul (Value.int .i64 (.ofNat 8)) a0 (fun x1 =>
 after (fun x2 h3 =>
 after (fun x4 h5 =>
 clrK h (Value.tuple #[]) h5) (copy0 1 h3 x2 a1)) (oSlice 1 (.c x0) (some (.c x1)) none none enE h0)))

theorem q21 (R : RnK) (N : Nat) (args : List Value) (h : Hs) : r21 R N args h = callT Tryz.prog N R 21 args h := by kernel_rfl

/-- lintel/geom.Lost -/
noncomputable def r22 (R : RnK) (N : Nat) (args : List Value) (h : Hs) : An := unC args fun a0 sq0 => enK h fun h0 =>
 after (fun x0 h1 =>
 kLoads 4 x0 h1 (fun x2 =>
 kCall R 10 [x2] h1 (fun x3 h4 =>
 kNot x3 (fun x5 =>
 jn (fun (x7 x8 : Value) (h9 : Hs) =>
 kLoads 4 x0 (Hs.mk h9.hp h9.nx h9.nx) (fun x10 =>
 kFieldA 1 x0 (fun x11 =>
 kLoad x11 (Hs.mk h9.hp h9.nx h9.nx) (fun x12 =>
 kCall R 25 [x10, x12] (Hs.mk h9.hp h9.nx h9.nx) (fun v18 u19 => dPut (fun x13 h14 =>
 kI64 .add x13 (Value.int .i64 (.ofNat 1)) (fun x15 =>
 kFieldA 1 x0 (fun x16 =>
 kLoad x16 (dHidS .light [true, false, false, false, false, false] [none, none, some (h9.nx, h14.nx), none, none, none] h14) (fun x17 =>
 clrK h (Value.tuple #[x15, x17]) h14)))) v18 (dNext h9 u19 .light) (andB (dFit h9 u19 .light) (Nat.ble 0 u19.lo))))))) fun k6 =>
 cnd x5
 (clrK h (Value.tuple #[(Value.int .i64 (.ofNat 0)), (Value.int .i64 (.ofNat 0))]) h4)
 (k6 (Value.int .i64 (.ofNat 0)) (Value.int .i64 (.ofNat 0)) h4))))) (oBox 23 (.c a0) enE h0)

theorem q22 (R : RnK) (N : Nat) (args : List Value) (h : Hs) : r22 R N args h = callT Tryz.prog N R 22 args h := by kernel_rfl

/-- lintel/head.Put -/
noncomputable def r23 (R : RnK) (N : Nat) (args : List Value) (h : Hs) : An := unC args fun a0 sq0 => enK h fun h0 =>
 after (fun x0 h1 =>
 kFieldA 0 x0 (fun x2 =>
 kLoads 4 x2 h1 (fun x3 =>
 kCall R 10 [x3] h1 (fun x4 h5 =>
 kNot x4 (fun x6 =>
 jn (fun (x8 : Value) (h9 : Hs) =>
 kFieldA 0 x0 (fun x10 =>
 kFieldA 0 x10 (fun x11 =>
 kLoad x11 h9 (fun x12 =>
 kToU x12 (fun x13 =>
 kFieldA 0 x0 (fun x14 =>
 kFieldA 1 x14 (fun x15 =>
 kLoad x15 h9 (fun x16 =>
 kToU x16 (fun x17 =>
 kFieldA 0 x0 (fun x18 =>
 kFieldA 2 x18 (fun x19 =>
 kLoad x19 h9 (fun x20 =>
 kToU x20 (fun x21 =>
 kFieldA 0 x0 (fun x22 =>
 kFieldA 3 x22 (fun x23 =>
 kLoad x23 h9 (fun x24 =>
 kToU x24 (fun x25 =>
 after (fun x26 h27 =>
 kFieldA 4 x0 (fun x28 =>
 kLoad x28 (Hs.mk h27.hp h27.nx h27.nx) (fun x29 =>
 kCall R 57 [x26] (Hs.mk h27.hp h27.nx h27.nx) (fun v40 u41 => dPut (fun x30 h31 =>
 after (fun v38 u39 => dPut (fun x32 h33 =>
 after (fun v36 u37 => dPut (fun x34 h35 =>
 clrK h x34 h35) v36 (dNext h33 u37 .bar) (andB (dFit h33 u37 .bar) (Nat.ble 0 u37.lo))) (app0 24 1 8 h33 x26 x32)) v38 (dNext h31 u39 .bar) (andB (dFit h31 u39 .bar) (Nat.ble 0 u39.lo))) (oMkrow 24 1 2 [(Value.int .u64 (.ofNat 0))] [(0, 1, .c x29), (1, 1, .c x30)] enE h31)) v40 (dNext h27 u41 .light) (andB (dFit h27 u41 .light) (Nat.ble 0 u41.lo)))))) (oMkrow 24 1 6 [(Value.int .u64 (.ofNat 0))] [(0, 1, .c (Value.int .u64 (.ofNat 5497010944029229057))), (1, 1, .c x13), (2, 1, .c x17), (3, 1, .c x21), (4, 1, .c x25), (5, 1, .c (Value.int .u64 (.ofNat 0)))] enE h9)))))))))))))))))) fun k7 =>
 cnd x6
 (clrK h (Value.slice none 0 0) h5)
 (k7 (Value.slice none 0 0) h5)))))) (oBox 62 (.c a0) enE h0)

theorem q23 (R : RnK) (N : Nat) (args : List Value) (h : Hs) : r23 R N args h = callT Tryz.prog N R 23 args h := by kernel_rfl

/-- lintel/geom.Back -/
noncomputable def r24 (R : RnK) (N : Nat) (args : List Value) (h : Hs) : An := unC args fun a0 sq0 => enK h fun h0 =>
 after (fun x0 h1 =>
 kLoads 4 x0 h1 (fun x2 =>
 kCall R 10 [x2] h1 (fun x3 h4 =>
 kNot x3 (fun x5 =>
 jn (fun (x7 : Value) (h8 : Hs) =>
 kFieldA 0 x0 (fun x9 =>
 kLoad x9 h8 (fun x10 =>
 kI64 .sub x10 (Value.int .i64 (.ofNat 1)) (fun x11 =>
 clrK h x11 h8)))) fun k6 =>
 cnd x5
 (clrK h (Value.int .i64 (.ofNat 0)) h4)
 (k6 (Value.int .i64 (.ofNat 0)) h4))))) (oBox 23 (.c a0) enE h0)

theorem q24 (R : RnK) (N : Nat) (args : List Value) (h : Hs) : r24 R N args h = callT Tryz.prog N R 24 args h := by kernel_rfl

/-- lintel/geom.Node -/
noncomputable def r25 (R : RnK) (N : Nat) (args : List Value) (h : Hs) : An := unC args fun a0 sq0 => unC sq0 fun a1 sq1 => enK h fun h0 =>
 after (fun x0 h1 =>
 kLoads 4 x0 h1 (fun x2 =>
 kCall R 10 [x2] h1 (fun x3 h4 =>
 kNot x3 (fun x5 =>
 gdF x5 h4 (fun k6 => k6 a1 h4) (fun x7 h8 =>
 gdF x5 h8 (fun k9 => kFieldA 1 x0 (fun x10 => k9 x10 h8)) (fun x11 h12 =>
 gdF x5 h12 (fun k13 => kLoad x11 h12 (fun x14 => k13 x14 h12)) (fun x15 h16 =>
 gdF x5 h16 (fun k17 => kCall R 32 [x7, (Value.int .i64 (.ofNat 1)), x15] h16 (k17)) (fun x18 h19 =>
 gdF x5 h19 (fun k20 => kNot x18 (fun x21 => k20 x21 h19)) (fun x22 h23 =>
 after (fun x24 h25 =>
 jn (fun (x27 : Value) (h28 : Hs) =>
 kLoads 4 x0 h28 (fun x29 =>
 kCall R 58 [x29] h28 (fun x30 h31 =>
 kExtr x30 0 (fun x32 =>
 kExtr x30 1 (fun x33 =>
 kI64 .add x32 x33 (fun x34 =>
 kI64 .add x34 a1 (fun x35 =>
 kI64 .sub x35 (Value.int .i64 (.ofNat 1)) (fun x36 =>
 clrK h x36 h31)))))))) fun k26 =>
 cnd x24
 (clrK h (Value.int .i64 (.ofNat 0)) h25)
 (k26 (Value.int .i64 (.ofNat 0)) h25)) (pickB (.c (Value.bool true)) (.c x22) enE h23 x5)))))))))) (oBox 23 (.c a0) enE h0)

theorem q25 (R : RnK) (N : Nat) (args : List Value) (h : Hs) : r25 R N args h = callT Tryz.prog N R 25 args h := by kernel_rfl

/-- lintel/node.Put -/
noncomputable def r26 (R : RnK) (N : Nat) (args : List Value) (h : Hs) : An := unC args fun a0 sq0 => enK h fun h0 =>
 after (fun x0 h1 =>
 kLoads 4 x0 h1 (fun x2 =>
 kCall R 59 [x2] h1 (fun x3 h4 =>
 kNot x3 (fun x5 =>
 jn (fun (x7 : Value) (h8 : Hs) =>
 after (fun x9 h10 =>
 kFieldA 0 x0 (fun x11 =>
 kLoad x11 h10 (fun x12 =>
 kI64 .eql x12 (Value.int .i64 (.ofNat 0)) (fun x13 =>
 jn (fun (x15 : Value) (h16 : Hs) =>
 kFieldA 0 x0 (fun x17 =>
 kLoad x17 h16 (fun x18 =>
 kToU x18 (fun x19 =>
 kFieldA 1 x0 (fun x20 =>
 kLoad x20 h16 (fun x21 =>
 kToU x21 (fun x22 =>
 kShl x22 (Value.int .u64 (.ofNat 8)) (fun x23 =>
 kU64 .or x19 x23 (fun x24 =>
 kIdxA 1 x9 (Value.int .i64 (.ofNat 0)) (fun x25 =>
 kStore1 x25 x24 h16 (fun x26 h27 =>
 kFieldA 2 x0 (fun x28 =>
 kLoad x28 h27 (fun x29 =>
 kToU x29 (fun x30 =>
 kIdxA 1 x9 (Value.int .i64 (.ofNat 1)) (fun x31 =>
 kStore1 x31 x30 h27 (fun x32 h33 =>
 kFieldA 3 x0 (fun x34 =>
 kLoad x34 h33 (fun x35 =>
 kLenV x35 (fun x36 =>
 jn (fun (x38 x39 x40 x41 : Value) (h42 : Hs) =>
 after (fun x43 h44 =>
 kCall R 57 [x43] h44 (fun x45 h46 =>
 kIdxA 1 x9 (Value.int .i64 (.ofNat 7)) (fun x47 =>
 kStore1 x47 x45 h46 (fun x48 h49 =>
 clrK h x9 h49)))) (oSlice 1 (.c x9) none (some (.c (Value.int .i64 (.ofNat 7)))) none enE h42)) fun k37 =>
 lpT (T := Value → Value → Value → Value → Hs → An) (fun _ _ _ _ _ => none) N (fun k50 =>
 fun (x52 x53 x54 x55 : Value) (h56 : Hs) =>
 kI64 .lss x52 x36 (fun x57 =>
 jn (fun (h59 : Hs) =>
 jn (fun (x61 x62 : Value) (h63 : Hs) =>
 kI64 .add x52 (Value.int .i64 (.ofNat 1)) (fun x64 =>
 k50 x64 x57 x61 x62 h63)) fun k60 =>
 kIdxA 2 x35 x52 (fun x65 =>
 kLoads 2 x65 h59 (fun x66 =>
 after (fun x67 h68 =>
 after (fun x69 h70 =>
 kI64 .add (Value.int .i64 (.ofNat 2)) x52 (fun x71 =>
 kFieldA 0 x67 (fun x72 =>
 kLoad x72 h70 (fun x73 =>
 kToU x73 (fun x74 =>
 kFieldA 1 x67 (fun x75 =>
 kLoad x75 h70 (fun x76 =>
 kToU x76 (fun x77 =>
 kShl x77 (Value.int .u64 (.ofNat 32)) (fun x78 =>
 kU64 .or x74 x78 (fun x79 =>
 kIdxA 1 x9 x71 (fun x80 =>
 kStore1 x80 x79 h70 (fun x81 h82 =>
 k60 x52 x67 h82)))))))))))) (store1 2 h68 (cellsL x66) (addrOf x67))) (oAlloc 70 [(Value.int .i64 (.ofNat 0)), (Value.int .i64 (.ofNat 0))] enE h59)))) fun k58 =>
 cnd x57
 (k58 h56)
 (k37 x52 x57 x54 x55 h56))) (Value.int .i64 (.ofNat 0)) dunno dunno dunno h33))))))))))))))))))) fun k14 =>
 cnd x13
 (clrK h x9 h10)
 (k14 x7 h10))))) (mkslice1 24 1 8 [(Value.int .u64 (.ofNat 0))] h8 (natOf (Value.int .i64 (.ofNat 8))) (natOf (Value.int .i64 (.ofNat 8))))) fun k6 =>
 cnd x5
 (clrK h (Value.slice none 0 0) h4)
 (k6 (Value.slice none 0 0) h4))))) (oBox 68 (.c a0) enE h0)

theorem q26 (R : RnK) (N : Nat) (args : List Value) (h : Hs) : r26 R N args h = callT Tryz.prog N R 26 args h := by kernel_rfl

/-- lintel/bits.New -/
noncomputable def r27 (R : RnK) (N : Nat) (args : List Value) (h : Hs) : An := unC args fun a0 sq0 => enK h fun h0 =>
 after (fun x0 h1 =>
 after (fun x2 h3 =>
 after (fun x4 h5 =>
 kI64 .add x4 (Value.int .i64 (.ofNat 64)) (fun x6 =>
 kI64 .sub x6 (Value.int .i64 (.ofNat 1)) (fun x7 =>
 kI64 .quo x7 (Value.int .i64 (.ofNat 64)) (fun x8 =>
 after (fun x9 h10 =>
 after (fun x11 h12 =>
 kStore1 x0 x11 h12 (fun x13 h14 =>
 clearUp h (packR h14 (resV enE h14 [.cell (.c x0) 1 true])))) (oBuild [(Value.slice none 0 0)] [(0, 1, .c x9)] enE h10)) (mkslice1 24 1 8 [(Value.int .u64 (.ofNat 0))] h5 (natOf x8) (natOf x8)))))) (oMinmax false [.c x2, .c (Value.int .i64 (.ofNat 65536))] enE h3)) (oMinmax true [.c a0, .c (Value.int .i64 (.ofNat 0))] enE h1)) (oAlloc 40 [(Value.slice none 0 0)] enE h0)

theorem q27 (R : RnK) (N : Nat) (args : List Value) (h : Hs) : r27 R N args h = callT Tryz.prog N R 27 args h := by kernel_rfl

/-- lintel/bits.Set -/
noncomputable def r28 (R : RnK) (N : Nat) (args : List Value) (h : Hs) : An := unC args fun a0 sq0 => unC sq0 fun a1 sq1 => unC sq1 fun a2 sq2 => enK h fun h0 =>
 after (fun x0 h1 =>
 after (fun x2 h3 =>
 kFieldA 0 x0 (fun x4 =>
 kLoad x4 h3 (fun x5 =>
 kCall R 31 [x5] h3 (fun x6 h7 =>
 after (fun x8 h9 =>
 after (fun x10 h11 =>
 kStore1 x10 x8 h11 (fun x12 h13 =>
 kLenV a2 (fun x14 =>
 jn (fun (x16 x17 x18 x19 x20 : Value) (h21 : Hs) =>
 kLoads 1 x10 h21 (fun x22 =>
 kStore1 x2 x22 h21 (fun x23 h24 =>
 clearUp h (packR h24 (resV enE h24 [.cell (.c x2) 1 true]))))) fun k15 =>
 lpT (T := Value → Value → Value → Value → Value → Hs → An) (fun _ _ _ _ _ _ => none) N (fun k25 =>
 fun (x27 x28 x29 x30 x31 : Value) (h32 : Hs) =>
 kI64 .lss x27 x14 (fun x33 =>
 jn (fun (h35 : Hs) =>
 jn (fun (x37 x38 x39 : Value) (h40 : Hs) =>
 kI64 .add x27 (Value.int .i64 (.ofNat 1)) (fun x41 =>
 k25 x41 x33 x37 x38 x39 h40)) fun k36 =>
 kIdxA 1 a2 x27 (fun x42 =>
 kLoad x42 h35 (fun x43 =>
 kLoads 1 x0 h35 (fun x44 =>
 kCall R 60 [x44, x43] h35 (fun x45 h46 =>
 kNot x45 (fun x47 =>
 jn (fun (h49 : Hs) =>
 kFieldA 0 x10 (fun x50 =>
 kLoad x50 h49 (fun x51 =>
 kI64 .quo x43 (Value.int .i64 (.ofNat 64)) (fun x52 =>
 kIdxA 1 x51 x52 (fun x53 =>
 kLoad x53 h49 (fun x54 =>
 kI64 .rem x43 (Value.int .i64 (.ofNat 64)) (fun x55 =>
 kShl (Value.int .u64 (.ofNat 1)) x55 (fun x56 =>
 kU64 .andNot x54 x56 (fun x57 =>
 kIdxA 1 x51 x52 (fun x58 =>
 kStore1 x58 x57 h49 (fun v76 u77 => dPut (fun x59 h60 =>
 jn (fun (h62 : Hs) =>
 k36 x43 x47 a1 h62) fun k61 =>
 cnd a1
 (kFieldA 0 x10 (fun x63 =>
 kLoad x63 h60 (fun x64 =>
 kI64 .quo x43 (Value.int .i64 (.ofNat 64)) (fun x65 =>
 kIdxA 1 x64 x65 (fun x66 =>
 kLoad x66 h60 (fun x67 =>
 kI64 .rem x43 (Value.int .i64 (.ofNat 64)) (fun x68 =>
 kShl (Value.int .u64 (.ofNat 1)) x68 (fun x69 =>
 kU64 .or x67 x69 (fun x70 =>
 kIdxA 1 x64 x65 (fun x71 =>
 kStore1 x71 x70 h60 (fun v74 u75 => dPut (fun x72 h73 =>
 k61 h73) v74 (dNext h60 u75 .bar) (andB (dFit h60 u75 .bar) (Nat.ble 0 u75.lo)))))))))))))
 (k61 h60)) v76 (dNext h49 u77 .bar) (andB (dFit h49 u77 .bar) (Nat.ble 0 u77.lo))))))))))))) fun k48 =>
 cnd x47
 (k36 x43 x47 x31 h46)
 (k48 h46))))))) fun k34 =>
 cnd x33
 (k34 h32)
 (k15 x27 x33 x29 x30 x31 h32))) (Value.int .i64 (.ofNat 0)) dunno dunno dunno dunno h13))) (oAlloc 40 [(Value.slice none 0 0)] enE h9)) (oBuild [(Value.slice none 0 0)] [(0, 1, .c x6)] enE h7))))) (oAlloc 40 [(Value.slice none 0 0)] enE h1)) (oBox 40 (.c a0) enE h0)

theorem q28 (R : RnK) (N : Nat) (args : List Value) (h : Hs) : r28 R N args h = callT Tryz.prog N R 28 args h := by kernel_rfl

/-- lintel/geom.Bits -/
noncomputable def r29 (R : RnK) (N : Nat) (args : List Value) (h : Hs) : An := unC args fun a0 sq0 => enK h fun h0 =>
 after (fun x0 h1 =>
 kLoads 4 x0 h1 (fun x2 =>
 kCall R 10 [x2] h1 (fun x3 h4 =>
 kNot x3 (fun x5 =>
 jn (fun (x7 x8 : Value) (h9 : Hs) =>
 kLoads 4 x0 h9 (fun x10 =>
 kCall R 58 [x10] h9 (fun x11 h12 =>
 kExtr x11 0 (fun x13 =>
 kExtr x11 1 (fun x14 =>
 clrK h (Value.tuple #[x13, x14]) h12))))) fun k6 =>
 cnd x5
 (clrK h (Value.tuple #[(Value.int .i64 (.ofNat 0)), (Value.int .i64 (.ofNat 0))]) h4)
 (k6 (Value.int .i64 (.ofNat 0)) (Value.int .i64 (.ofNat 0)) h4))))) (oBox 23 (.c a0) enE h0)

theorem q29 (R : RnK) (N : Nat) (args : List Value) (h : Hs) : r29 R N args h = callT Tryz.prog N R 29 args h := by kernel_rfl

/-- lintel/head.Find -/
noncomputable def r30 (R : RnK) (N : Nat) (args : List Value) (h : Hs) : An := unC args fun a0 sq0 => enK h fun h0 =>
 after (fun x0 h1 =>
 kLenV a0 (fun x2 =>
 kI64 .quo x2 (Value.int .i64 (.ofNat 8)) (fun x3 =>
 kLenV a0 (fun x4 =>
 kI64 .rem x4 (Value.int .i64 (.ofNat 8)) (fun x5 =>
 kI64 .neq x5 (Value.int .i64 (.ofNat 0)) (fun x6 =>
 gdF x6 h1 (fun k7 => k7 x3 h1) (fun x8 h9 =>
 gdF x6 h9 (fun k10 => kI64 .lss x8 (Value.int .i64 (.ofNat 64)) (fun x11 => k10 x11 h9)) (fun x12 h13 =>
 after (fun x14 h15 =>
 gdF x14 h15 (fun k16 => k16 x3 h15) (fun x17 h18 =>
 gdF x14 h18 (fun k19 => kI64 .gtr x17 (Value.int .i64 (.ofNat 1024)) (fun x20 => k19 x20 h18)) (fun x21 h22 =>
 after (fun x23 h24 =>
 jn (fun (x26 x27 : Value) (h28 : Hs) =>
 after (fun x29 h30 =>
 kCall R 61 [x29] h30 (fun x31 h32 =>
 kExtr x31 0 (fun x33 =>
 kExtr x31 1 (fun x34 =>
 after (fun x35 h36 =>
 after (fun x37 h38 =>
 kLenV a0 (fun x39 =>
 kI64 .sub x39 (Value.int .i64 (.ofNat 8)) (fun x40 =>
 after (fun x41 h42 =>
 kCall R 61 [x41] h42 (fun x43 h44 =>
 kExtr x43 0 (fun x45 =>
 kExtr x43 1 (fun x46 =>
 after (fun x47 h48 =>
 after (fun x49 h50 =>
 gdT x34 h50 (fun k51 => kFieldA 0 x35 (fun x52 => k51 x52 h50)) (fun x53 _ =>
 gdT x34 h50 (fun k55 => kFieldA 0 x53 (fun x56 => k55 x56 h50)) (fun x57 _ =>
 gdT x34 h50 (fun k59 => kLoad x57 (Hs.mk h50.hp h50.nx h50.nx) (fun x60 => k59 x60 h50)) (fun x61 _ =>
 gdT x34 h50 (fun k63 => k63 x3 h50) (fun x64 _ =>
 gdT x34 h50 (fun k66 => kI64 .eql x61 x64 (fun x67 => k66 x67 h50)) (fun x68 _ =>
 after (fun v120 u121 => dPut (fun x70 h71 =>
 gdT x46 h71 (fun k72 => kFieldA 0 x47 (fun x73 => k72 x73 h71)) (fun x74 _ =>
 gdT x46 h71 (fun k76 => kFieldA 0 x74 (fun x77 => k76 x77 h71)) (fun x78 _ =>
 gdT x46 h71 (fun k80 => kLoad x78 (dHidS .light [true, true, true, true, false, false, false, false, false, false, true, true] [none, none, none, none, some (h50.nx, h71.nx), none, none, none, none, none, none, none] h71) (fun x81 => k80 x81 h71)) (fun x82 _ =>
 gdT x46 h71 (fun k84 => k84 x3 h71) (fun x85 _ =>
 gdT x46 h71 (fun k87 => kI64 .eql x82 x85 (fun x88 => k87 x88 h71)) (fun x89 _ =>
 after (fun v118 u119 => dPut (fun x91 h92 =>
 jn (fun (x94 x95 x96 x97 : Value) (h98 : Hs) =>
 after (fun x99 h100 =>
 after (fun x101 h102 =>
 clearUp h (packR h102 (resV enE h102 [.cell (.c x0) 5 true, .t (.c (Value.bool false)), .t (.c (Value.bool false))]))) (store1 5 h100 (cellsL x99) (addrOf x0))) (oBuild [(Value.int .i64 (.ofNat 0)), (Value.int .i64 (.ofNat 0)), (Value.int .i64 (.ofNat 0)), (Value.int .i64 (.ofNat 0)), (Value.int .u64 (.ofNat 0))] [] enE h98)) fun k93 =>
 jn (fun (x104 x105 x106 : Value) (h107 : Hs) =>
 k93 x104 x105 x70 x106 h107) fun k103 =>
 cnd x70
 (kLoads 5 x35 h92 (fun x108 =>
 after (fun x109 h110 =>
 clearUp h (packR h110 (resV enE h110 [.cell (.c x0) 5 true, .t (.c x70), .t (.c x91)]))) (store1 5 h92 (cellsL x108) (addrOf x0))))
 (jn (fun (x112 x113 : Value) (h114 : Hs) =>
 k103 x112 x113 x91 h114) fun k111 =>
 cnd x91
 (kLoads 5 x47 h92 (fun x115 =>
 after (fun x116 h117 =>
 clearUp h (packR h117 (resV enE h117 [.cell (.c x0) 5 true, .t (.c x70), .t (.c x91)]))) (store1 5 h92 (cellsL x115) (addrOf x0))))
 (k111 x70 x91 h92))) v118 (dNext h71 u119 .blind) (andB (dFit h71 u119 .blind) (Nat.ble 0 u119.lo))) (pickB (.c x89) (.c (Value.bool false)) enE (Hs.mk .e h71.nx h71.nx) x46))))))) v120 (dNext h50 u121 .blind) (andB (dFit h50 u121 .blind) (Nat.ble 0 u121.lo))) (pickB (.c x68) (.c (Value.bool false)) enE (Hs.mk .e h50.nx h50.nx) x34))))))) (store1 5 h48 (cellsL x45) (addrOf x47))) (oAlloc 62 [(Value.int .i64 (.ofNat 0)), (Value.int .i64 (.ofNat 0)), (Value.int .i64 (.ofNat 0)), (Value.int .i64 (.ofNat 0)), (Value.int .u64 (.ofNat 0))] enE h44))))) (oSlice 1 (.c a0) (some (.c x40)) none none enE h38)))) (store1 5 h36 (cellsL x33) (addrOf x35))) (oAlloc 62 [(Value.int .i64 (.ofNat 0)), (Value.int .i64 (.ofNat 0)), (Value.int .i64 (.ofNat 0)), (Value.int .i64 (.ofNat 0)), (Value.int .u64 (.ofNat 0))] enE h32))))) (oSlice 1 (.c a0) none (some (.c (Value.int .i64 (.ofNat 8)))) none enE h28)) fun k25 =>
 cnd x23
 (after (fun x122 h123 =>
 after (fun x124 h125 =>
 clearUp h (packR h125 (resV enE h125 [.cell (.c x0) 5 true, .t (.c (Value.bool false)), .t (.c (Value.bool false))]))) (store1 5 h123 (cellsL x122) (addrOf x0))) (oBuild [(Value.int .i64 (.ofNat 0)), (Value.int .i64 (.ofNat 0)), (Value.int .i64 (.ofNat 0)), (Value.int .i64 (.ofNat 0)), (Value.int .u64 (.ofNat 0))] [] enE h24))
 (k25 (Value.bool false) (Value.bool false) h24)) (pickB (.c (Value.bool true)) (.c x21) enE h22 x14)))) (pickB (.c (Value.bool true)) (.c x12) enE h13 x6))))))))) (oAlloc 62 [(Value.int .i64 (.ofNat 0)), (Value.int .i64 (.ofNat 0)), (Value.int .i64 (.ofNat 0)), (Value.int .i64 (.ofNat 0)), (Value.int .u64 (.ofNat 0))] enE h0)

theorem q30 (R : RnK) (N : Nat) (args : List Value) (h : Hs) : r30 R N args h = callT Tryz.prog N R 30 args h := by kernel_rfl

/-- slices.Clone[[]uint64,uint64] -/
noncomputable def r31 (R : RnK) (N : Nat) (args : List Value) (h : Hs) : An := unC args fun a0 sq0 => enK h fun h0 =>
 obK (fun x0 =>
 jn (fun (x2 : Value) (h3 : Hs) =>
 after (fun x4 h5 =>
 after (fun x6 h7 =>
 clrK h x6 h7) (app0 24 1 8 h5 x4 a0)) (oMkrow 24 1 0 [(Value.int .u64 (.ofNat 0))] [] enE h3)) fun k1 =>
 cnd x0
 (clrK h (Value.slice none 0 0) h0)
 (k1 (Value.slice none 0 0) h0)) (e2 false qS a0 (Value.slice none 0 0))

theorem q31 (R : RnK) (N : Nat) (args : List Value) (h : Hs) : r31 R N args h = callT Tryz.prog N R 31 args h := by kernel_rfl

/-- lintel/geom.in -/
noncomputable def r32 (R : RnK) (N : Nat) (args : List Value) (h : Hs) : An := unC args fun a0 sq0 => unC sq0 fun a1 sq1 => unC sq1 fun a2 sq2 => enK h fun h0 =>
 kI64 .geq a0 a1 (fun x0 =>
 gdT x0 h0 (fun k1 => k1 a0 h0) (fun x2 h3 =>
 gdT x0 h3 (fun k4 => k4 a2 h3) (fun x5 h6 =>
 gdT x0 h6 (fun k7 => kI64 .leq x2 x5 (fun x8 => k7 x8 h6)) (fun x9 h10 =>
 after (fun x11 h12 =>
 clrK h x11 h12) (pickB (.c x9) (.c (Value.bool false)) enE h10 x0)))))

theorem q32 (R : RnK) (N : Nat) (args : List Value) (h : Hs) : r32 R N args h = callT Tryz.prog N R 32 args h := by kernel_rfl

/-- (lintel/geom.Geom).data -/
noncomputable def r33 (R : RnK) (N : Nat) (args : List Value) (h : Hs) : An := unC args fun a0 sq0 => enK h fun h0 =>
 after (fun x0 h1 =>
 kLoads 4 x0 h1 (fun x2 =>
 kCall R 58 [x2] h1 (fun x3 h4 =>
 kExtr x3 0 (fun x5 =>
 kExtr x3 1 (fun x6 =>
 kI64 .add x5 x6 (fun x7 =>
 kFieldA 1 x0 (fun x8 =>
 kLoad x8 h4 (fun x9 =>
 kI64 .mul (Value.int .i64 (.ofNat 2)) x9 (fun x10 =>
 kI64 .add x7 x10 (fun x11 =>
 kFieldA 0 x0 (fun x12 =>
 kLoad x12 h4 (fun x13 =>
 kI64 .sub x13 (Value.int .i64 (.ofNat 1)) (fun x14 =>
 kI64 .sub x14 x11 (fun x15 =>
 clrK h (Value.tuple #[x11, x15]) h4)))))))))))))) (oBox 23 (.c a0) enE h0)

theorem q33 (R : RnK) (N : Nat) (args : List Value) (h : Hs) : r33 R N args h = callT Tryz.prog N R 33 args h := by kernel_rfl

/-- (lintel/image.Image).Block -/
noncomputable def r34 (R : RnK) (N : Nat) (args : List Value) (h : Hs) : An := unC args fun a0 sq0 => unC sq0 fun a1 sq1 => enK h fun h0 =>
 after (fun x0 h1 =>
 kI64 .lss a1 (Value.int .i64 (.ofNat 0)) (fun x2 =>
 gdF x2 h1 (fun k3 => k3 a1 h1) (fun x4 h5 =>
 gdF x2 h5 (fun k6 => kFieldA 4 x0 (fun x7 => k6 x7 h5)) (fun x8 h9 =>
 gdF x2 h9 (fun k10 => kLoad x8 h9 (fun x11 => k10 x11 h9)) (fun x12 h13 =>
 gdF x2 h13 (fun k14 => kLenV x12 (fun x15 => k14 x15 h13)) (fun x16 h17 =>
 gdF x2 h17 (fun k18 => kI64 .quo x16 (Value.int .i64 (.ofNat 8)) (fun x19 => k18 x19 h17)) (fun x20 h21 =>
 gdF x2 h21 (fun k22 => kI64 .geq x4 x20 (fun x23 => k22 x23 h21)) (fun x24 h25 =>
 after (fun x26 h27 =>
 jn (fun (x29 : Value) (h30 : Hs) =>
 kFieldA 4 x0 (fun x31 =>
 kLoad x31 h30 (fun x32 =>
 kI64 .mul (Value.int .i64 (.ofNat 8)) a1 (fun x33 =>
 kI64 .add a1 (Value.int .i64 (.ofNat 1)) (fun x34 =>
 kI64 .mul (Value.int .i64 (.ofNat 8)) x34 (fun x35 =>
 after (fun x36 h37 =>
 kCall R 31 [x36] h37 (fun x38 h39 =>
 clrK h x38 h39)) (oSlice 1 (.c x32) (some (.c x33)) (some (.c x35)) none enE h30))))))) fun k28 =>
 cnd x26
 (clrK h (Value.slice none 0 0) h27)
 (k28 (Value.slice none 0 0) h27)) (pickB (.c (Value.bool true)) (.c x24) enE h25 x2))))))))) (oBox 31 (.c a0) enE h0)

theorem q34 (R : RnK) (N : Nat) (args : List Value) (h : Hs) : r34 R N args h = callT Tryz.prog N R 34 args h := by kernel_rfl

/-- lintel/lintelref6.Find -/
noncomputable def r35 (R : RnK) (N : Nat) (args : List Value) (h : Hs) : An := unC args fun a0 sq0 => enK h fun h0 =>
 after (fun x0 h1 =>
 kCall R 62 [a0] h1 (fun x2 h3 =>
 kNot x2 (fun x4 =>
 jn (fun (x6 x7 x8 : Value) (h9 : Hs) =>
 after (fun x10 h11 =>
 kCall R 63 [x10] h11 (fun x12 h13 =>
 kExtr x12 0 (fun x14 =>
 kExtr x12 1 (fun x15 =>
 kExtr x12 2 (fun x16 =>
 after (fun x17 h18 =>
 after (fun x19 h20 =>
 kLenV a0 (fun x21 =>
 kI64 .sub x21 (Value.int .i64 (.ofNat 8)) (fun x22 =>
 after (fun x23 h24 =>
 kCall R 63 [x23] h24 (fun x25 h26 =>
 kExtr x25 0 (fun x27 =>
 kExtr x25 1 (fun x28 =>
 kExtr x25 2 (fun x29 =>
 after (fun x30 h31 =>
 after (fun x32 h33 =>
 gdT x16 h33 (fun k34 => kFieldA 0 x17 (fun x35 => k34 x35 h33)) (fun x36 h37 =>
 gdT x16 h37 (fun k38 => kLoad x36 h37 (fun x39 => k38 x39 h37)) (fun x40 h41 =>
 gdT x16 h41 (fun k42 => k42 a0 h41) (fun x43 h44 =>
 gdT x16 h44 (fun k45 => kLenV x43 (fun x46 => k45 x46 h44)) (fun x47 h48 =>
 gdT x16 h48 (fun k49 => kI64 .quo x47 (Value.int .i64 (.ofNat 8)) (fun x50 => k49 x50 h48)) (fun x51 h52 =>
 gdT x16 h52 (fun k53 => kI64 .eql x40 x51 (fun x54 => k53 x54 h52)) (fun x55 h56 =>
 after (fun x57 h58 =>
 gdT x29 h58 (fun k59 => kFieldA 0 x30 (fun x60 => k59 x60 h58)) (fun x61 h62 =>
 gdT x29 h62 (fun k63 => kLoad x61 h62 (fun x64 => k63 x64 h62)) (fun x65 h66 =>
 gdT x29 h66 (fun k67 => k67 a0 h66) (fun x68 h69 =>
 gdT x29 h69 (fun k70 => kLenV x68 (fun x71 => k70 x71 h69)) (fun x72 h73 =>
 gdT x29 h73 (fun k74 => kI64 .quo x72 (Value.int .i64 (.ofNat 8)) (fun x75 => k74 x75 h73)) (fun x76 h77 =>
 gdT x29 h77 (fun k78 => kI64 .eql x65 x76 (fun x79 => k78 x79 h77)) (fun x80 h81 =>
 after (fun x82 h83 =>
 jn (fun (x85 x86 x87 x88 x89 : Value) (h90 : Hs) =>
 after (fun x91 h92 =>
 after (fun x93 h94 =>
 clearUp h (packR h94 (resV enE h94 [.cell (.c x0) 4 true, .t (.c (Value.int .u64 (.ofNat 0))), .t (.c (Value.bool false)), .t (.c (Value.bool false))]))) (store1 4 h92 (cellsL x91) (addrOf x0))) (oBuild [(Value.int .i64 (.ofNat 0)), (Value.int .i64 (.ofNat 0)), (Value.int .i64 (.ofNat 0)), (Value.int .i64 (.ofNat 0))] [] enE h90)) fun k84 =>
 jn (fun (x96 x97 x98 x99 : Value) (h100 : Hs) =>
 k84 x57 x96 x97 x98 x99 h100) fun k95 =>
 cnd x57
 (kLoads 4 x17 h83 (fun x101 =>
 after (fun x102 h103 =>
 clearUp h (packR h103 (resV enE h103 [.cell (.c x0) 4 true, .t (.c x15), .t (.c (Value.bool true)), .t (.c x82)]))) (store1 4 h83 (cellsL x101) (addrOf x0))))
 (jn (fun (x105 x106 x107 : Value) (h108 : Hs) =>
 k95 x82 x105 x106 x107 h108) fun k104 =>
 cnd x82
 (kLoads 4 x30 h83 (fun x109 =>
 after (fun x110 h111 =>
 clearUp h (packR h111 (resV enE h111 [.cell (.c x0) 4 true, .t (.c x28), .t (.c (Value.bool false)), .t (.c (Value.bool true))]))) (store1 4 h83 (cellsL x109) (addrOf x0))))
 (k104 x6 x7 x8 h83))) (pickB (.c x80) (.c (Value.bool false)) enE h81 x29)))))))) (pickB (.c x55) (.c (Value.bool false)) enE h56 x16)))))))) (store1 4 h31 (cellsL x27) (addrOf x30))) (oAlloc 43 [(Value.int .i64 (.ofNat 0)), (Value.int .i64 (.ofNat 0)), (Value.int .i64 (.ofNat 0)), (Value.int .i64 (.ofNat 0))] enE h26)))))) (oSlice 1 (.c a0) (some (.c x22)) none none enE h20)))) (store1 4 h18 (cellsL x14) (addrOf x17))) (oAlloc 43 [(Value.int .i64 (.ofNat 0)), (Value.int .i64 (.ofNat 0)), (Value.int .i64 (.ofNat 0)), (Value.int .i64 (.ofNat 0))] enE h13)))))) (oSlice 1 (.c a0) none (some (.c (Value.int .i64 (.ofNat 8)))) none enE h9)) fun k5 =>
 cnd x4
 (after (fun x112 h113 =>
 after (fun x114 h115 =>
 clearUp h (packR h115 (resV enE h115 [.cell (.c x0) 4 true, .t (.c (Value.int .u64 (.ofNat 0))), .t (.c (Value.bool false)), .t (.c (Value.bool false))]))) (store1 4 h113 (cellsL x112) (addrOf x0))) (oBuild [(Value.int .i64 (.ofNat 0)), (Value.int .i64 (.ofNat 0)), (Value.int .i64 (.ofNat 0)), (Value.int .i64 (.ofNat 0))] [] enE h3))
 (k5 (Value.int .u64 (.ofNat 0)) (Value.bool false) (Value.bool false) h3)))) (oAlloc 43 [(Value.int .i64 (.ofNat 0)), (Value.int .i64 (.ofNat 0)), (Value.int .i64 (.ofNat 0)), (Value.int .i64 (.ofNat 0))] enE h0)

theorem q35 (R : RnK) (N : Nat) (args : List Value) (h : Hs) : r35 R N args h = callT Tryz.prog N R 35 args h := by kernel_rfl

/-- lintel/lintelref6.Good -/
noncomputable def r36 (R : RnK) (N : Nat) (args : List Value) (h : Hs) : An := unC args fun a0 sq0 => enK h fun h0 =>
 after (fun x0 h1 =>
 kFieldA 0 x0 (fun x2 =>
 kLoad x2 h1 (fun x3 =>
 kI64 .lss x3 (Value.int .i64 (.ofNat 64)) (fun x4 =>
 gdF x4 h1 (fun k5 => kFieldA 0 x0 (fun x6 => k5 x6 h1)) (fun x7 h8 =>
 gdF x4 h8 (fun k9 => kLoad x7 h8 (fun x10 => k9 x10 h8)) (fun x11 h12 =>
 gdF x4 h12 (fun k13 => kI64 .gtr x11 (Value.int .i64 (.ofNat 1024)) (fun x14 => k13 x14 h12)) (fun x15 h16 =>
 after (fun x17 h18 =>
 gdF x17 h18 (fun k19 => kFieldA 1 x0 (fun x20 => k19 x20 h18)) (fun x21 h22 =>
 gdF x17 h22 (fun k23 => kLoad x21 h22 (fun x24 => k23 x24 h22)) (fun x25 h26 =>
 gdF x17 h26 (fun k27 => kI64 .lss x25 (Value.int .i64 (.ofNat 4)) (fun x28 => k27 x28 h26)) (fun x29 h30 =>
 after (fun x31 h32 =>
 gdF x31 h32 (fun k33 => kFieldA 1 x0 (fun x34 => k33 x34 h32)) (fun x35 h36 =>
 gdF x31 h36 (fun k37 => kLoad x35 h36 (fun x38 => k37 x38 h36)) (fun x39 h40 =>
 gdF x31 h40 (fun k41 => kI64 .gtr x39 (Value.int .i64 (.ofNat 64)) (fun x42 => k41 x42 h40)) (fun x43 h44 =>
 after (fun x45 h46 =>
 gdF x45 h46 (fun k47 => kFieldA 2 x0 (fun x48 => k47 x48 h46)) (fun x49 h50 =>
 gdF x45 h50 (fun k51 => kLoad x49 h50 (fun x52 => k51 x52 h50)) (fun x53 h54 =>
 gdF x45 h54 (fun k55 => kI64 .lss x53 (Value.int .i64 (.ofNat 1)) (fun x56 => k55 x56 h54)) (fun x57 h58 =>
 after (fun x59 h60 =>
 gdF x59 h60 (fun k61 => kFieldA 2 x0 (fun x62 => k61 x62 h60)) (fun x63 h64 =>
 gdF x59 h64 (fun k65 => kLoad x63 h64 (fun x66 => k65 x66 h64)) (fun x67 h68 =>
 gdF x59 h68 (fun k69 => kI64 .gtr x67 (Value.int .i64 (.ofNat 8)) (fun x70 => k69 x70 h68)) (fun x71 h72 =>
 after (fun x73 h74 =>
 gdF x73 h74 (fun k75 => kFieldA 3 x0 (fun x76 => k75 x76 h74)) (fun x77 h78 =>
 gdF x73 h78 (fun k79 => kLoad x77 h78 (fun x80 => k79 x80 h78)) (fun x81 h82 =>
 gdF x73 h82 (fun k83 => kI64 .lss x81 (Value.int .i64 (.ofNat 16)) (fun x84 => k83 x84 h82)) (fun x85 h86 =>
 after (fun x87 h88 =>
 gdF x87 h88 (fun k89 => kFieldA 3 x0 (fun x90 => k89 x90 h88)) (fun x91 h92 =>
 gdF x87 h92 (fun k93 => kLoad x91 h92 (fun x94 => k93 x94 h92)) (fun x95 h96 =>
 gdF x87 h96 (fun k97 => kI64 .gtr x95 (Value.int .i64 (.ofNat 110)) (fun x98 => k97 x98 h96)) (fun x99 h100 =>
 after (fun x101 h102 =>
 jn (fun (x104 : Value) (h105 : Hs) =>
 kFieldA 2 x0 (fun x106 =>
 kLoad x106 (Hs.mk h105.hp h105.nx h105.nx) (fun x107 =>
 kFieldA 3 x0 (fun x108 =>
 kLoad x108 (Hs.mk h105.hp h105.nx h105.nx) (fun x109 =>
 kI64 .mul x107 x109 (fun x110 =>
 kI64 .add (Value.int .i64 (.ofNat 2)) x110 (fun x111 =>
 kLoads 4 x0 (Hs.mk h105.hp h105.nx h105.nx) (fun x112 =>
 kCall R 64 [x112] (Hs.mk h105.hp h105.nx h105.nx) (fun v123 u124 => dPut (fun x113 h114 =>
 kI64 .add x111 x113 (fun x115 =>
 kFieldA 1 x0 (fun x116 =>
 kLoad x116 (dHidS .light [true, false, false, false, false, false, false, false, false, false] [none, none, some (h105.nx, h114.nx), none, none, none, none, none, none, none] h114) (fun x117 =>
 kI64 .mul (Value.int .i64 (.ofNat 2)) x117 (fun x118 =>
 kI64 .add x115 x118 (fun x119 =>
 kFieldA 0 x0 (fun x120 =>
 kLoad x120 (dHidS .light [true, false, false, false, false, false, false, false, false, false, false, false, false, false] [none, none, none, none, none, none, some (h105.nx, h114.nx), none, none, none, none, none, none, none] h114) (fun x121 =>
 kI64 .lss x119 x121 (fun x122 =>
 clrK h x122 h114))))))))) v123 (dNext h105 u124 .light) (andB (dFit h105 u124 .light) (Nat.ble 0 u124.lo))))))))))) fun k103 =>
 cnd x101
 (clrK h (Value.bool false) h102)
 (k103 (Value.bool false) h102)) (pickB (.c (Value.bool true)) (.c x99) enE h100 x87))))) (pickB (.c (Value.bool true)) (.c x85) enE h86 x73))))) (pickB (.c (Value.bool true)) (.c x71) enE h72 x59))))) (pickB (.c (Value.bool true)) (.c x57) enE h58 x45))))) (pickB (.c (Value.bool true)) (.c x43) enE h44 x31))))) (pickB (.c (Value.bool true)) (.c x29) enE h30 x17))))) (pickB (.c (Value.bool true)) (.c x15) enE h16 x4)))))))) (oBox 43 (.c a0) enE h0)

theorem q36 (R : RnK) (N : Nat) (args : List Value) (h : Hs) : r36 R N args h = callT Tryz.prog N R 36 args h := by kernel_rfl

/-- lintel/lintelref6.PutHead -/
noncomputable def r38 (R : RnK) (N : Nat) (args : List Value) (h : Hs) : An := unC args fun a0 sq0 => unC sq0 fun a1 sq1 => enK h fun h0 =>
 after (fun x0 h1 =>
 kLoads 4 x0 h1 (fun x2 =>
 kCall R 36 [x2] h1 (fun x3 h4 =>
 kNot x3 (fun x5 =>
 jn (fun (x7 : Value) (h8 : Hs) =>
 kCall R 65 [] (Hs.mk h8.hp h8.nx h8.nx) (fun v33 u34 => dPut (fun x9 h10 =>
 kFieldA 0 x0 (fun x11 =>
 kLoad x11 (dHidS .light [true, false] [none, some (h8.nx, h10.nx)] h10) (fun x12 =>
 kToU x12 (fun x13 =>
 kFieldA 1 x0 (fun x14 =>
 kLoad x14 (dHidS .light [true, false, false, false, false] [none, none, none, none, some (h8.nx, h10.nx)] h10) (fun x15 =>
 kToU x15 (fun x16 =>
 kFieldA 2 x0 (fun x17 =>
 kLoad x17 (dHidS .light [true, false, false, false, false, false, false, false] [none, none, none, none, none, none, none, some (h8.nx, h10.nx)] h10) (fun x18 =>
 kToU x18 (fun x19 =>
 kFieldA 3 x0 (fun x20 =>
 kLoad x20 (dHidS .light [true, false, false, false, false, false, false, false, false, false, false] [none, none, none, none, none, none, none, none, none, none, some (h8.nx, h10.nx)] h10) (fun x21 =>
 kToU x21 (fun x22 =>
 after (fun v31 u32 => dPut (fun x23 h24 =>
 kCall R 66 [x23] h24 (fun x25 h26 =>
 after (fun x27 h28 =>
 after (fun x29 h30 =>
 clrK h x29 h30) (app0 24 1 8 h28 x23 x27)) (oMkrow 24 1 2 [(Value.int .u64 (.ofNat 0))] [(0, 1, .c a1), (1, 1, .c x25)] enE h26))) v31 (dNext h10 u32 .bar) (andB (dFit h10 u32 .bar) (Nat.ble 0 u32.lo))) (oMkrow 24 1 6 [(Value.int .u64 (.ofNat 0))] [(0, 1, .c x9), (1, 1, .c x13), (2, 1, .c x16), (3, 1, .c x19), (4, 1, .c x22), (5, 1, .c (Value.int .u64 (.ofNat 0)))] enE h10)))))))))))))) v33 (dNext h8 u34 .light) (andB (dFit h8 u34 .light) (Nat.ble 0 u34.lo)))) fun k6 =>
 cnd x5
 (clrK h (Value.slice none 0 0) h4)
 (k6 (Value.slice none 0 0) h4))))) (oBox 43 (.c a0) enE h0)

theorem q38 (R : RnK) (N : Nat) (args : List Value) (h : Hs) : r38 R N args h = callT Tryz.prog N R 38 args h := by kernel_rfl

/-- lintel/seal.Of -/
noncomputable def r57 (R : RnK) (N : Nat) (args : List Value) (h : Hs) : An := unC args fun a0 sq0 => enK h fun h0 =>
 kCall R 86 [(Value.int .u64 (.ofNat 7811896474847682849)), a0] h0 (fun x0 h1 =>
 clrK h x0 h1)

theorem q57 (R : RnK) (N : Nat) (args : List Value) (h : Hs) : r57 R N args h = callT Tryz.prog N R 57 args h := by kernel_rfl

/-- (lintel/geom.Geom).bits -/
noncomputable def r58 (R : RnK) (N : Nat) (args : List Value) (h : Hs) : An := unC args fun a0 sq0 => enK h fun h0 =>
 after (fun x0 h1 =>
 kFieldA 2 x0 (fun x2 =>
 kLoad x2 (Hs.mk h1.hp h1.nx h1.nx) (fun x3 =>
 kFieldA 3 x0 (fun x4 =>
 kLoad x4 (Hs.mk h1.hp h1.nx h1.nx) (fun x5 =>
 kI64 .mul x3 x5 (fun x6 =>
 kI64 .add (Value.int .i64 (.ofNat 1)) x6 (fun x7 =>
 kFieldA 0 x0 (fun x8 =>
 kLoad x8 (Hs.mk h1.hp h1.nx h1.nx) (fun x9 =>
 kI64 .add x9 (Value.int .i64 (.ofNat 512)) (fun x10 =>
 kI64 .sub x10 (Value.int .i64 (.ofNat 1)) (fun x11 =>
 kI64 .quo x11 (Value.int .i64 (.ofNat 512)) (fun x12 =>
 clrK h (Value.tuple #[x7, x12]) h1)))))))))))) (oBox 23 (.c a0) enE h0)

theorem q58 (R : RnK) (N : Nat) (args : List Value) (h : Hs) : r58 R N args h = callT Tryz.prog N R 58 args h := by kernel_rfl

/-- lintel/node.fits -/
noncomputable def r59 (R : RnK) (N : Nat) (args : List Value) (h : Hs) : An := unC args fun a0 sq0 => enK h fun h0 =>
 after (fun x0 h1 =>
 kFieldA 0 x0 (fun x2 =>
 kLoad x2 h1 (fun x3 =>
 kI64 .eql x3 (Value.int .i64 (.ofNat 0)) (fun x4 =>
 jn (fun (x6 : Value) (h7 : Hs) =>
 kFieldA 0 x0 (fun x8 =>
 kLoad x8 h7 (fun x9 =>
 kCall R 88 [x9, (Value.int .i64 (.ofNat 1)), (Value.int .i64 (.ofNat 3))] h7 (fun x10 h11 =>
 kNot x10 (fun x12 =>
 gdF x12 h11 (fun k13 => kFieldA 1 x0 (fun x14 => k13 x14 h11)) (fun x15 h16 =>
 gdF x12 h16 (fun k17 => kLoad x15 h16 (fun x18 => k17 x18 h16)) (fun x19 h20 =>
 gdF x12 h20 (fun k21 => kCall R 88 [x19, (Value.int .i64 (.ofNat 0)), (Value.int .i64 (.ofNat 16777215))] h20 (k21)) (fun x22 h23 =>
 gdF x12 h23 (fun k24 => kNot x22 (fun x25 => k24 x25 h23)) (fun x26 h27 =>
 after (fun x28 h29 =>
 gdF x28 h29 (fun k30 => kFieldA 2 x0 (fun x31 => k30 x31 h29)) (fun x32 h33 =>
 gdF x28 h33 (fun k34 => kLoad x32 h33 (fun x35 => k34 x35 h33)) (fun x36 h37 =>
 gdF x28 h37 (fun k38 => kCall R 88 [x36, (Value.int .i64 (.ofNat 0)), (Value.int .i64 (.ofNat 1099511627776))] h37 (k38)) (fun x39 h40 =>
 gdF x28 h40 (fun k41 => kNot x39 (fun x42 => k41 x42 h40)) (fun x43 h44 =>
 after (fun x45 h46 =>
 gdF x45 h46 (fun k47 => kFieldA 3 x0 (fun x48 => k47 x48 h46)) (fun x49 h50 =>
 gdF x45 h50 (fun k51 => kLoad x49 h50 (fun x52 => k51 x52 h50)) (fun x53 h54 =>
 gdF x45 h54 (fun k55 => kLenV x53 (fun x56 => k55 x56 h54)) (fun x57 h58 =>
 gdF x45 h58 (fun k59 => kI64 .gtr x57 (Value.int .i64 (.ofNat 4)) (fun x60 => k59 x60 h58)) (fun x61 h62 =>
 after (fun x63 h64 =>
 jn (fun (x66 : Value) (h67 : Hs) =>
 kFieldA 3 x0 (fun x68 =>
 kLoad x68 h67 (fun x69 =>
 kCall R 89 [x69, (Value.func (.func 90) #[] #[])] h67 (fun x70 h71 =>
 kNot x70 (fun x72 =>
 clrK h x72 h71))))) fun k65 =>
 cnd x63
 (clrK h (Value.bool false) h64)
 (k65 x6 h64)) (pickB (.c (Value.bool true)) (.c x61) enE h62 x45)))))) (pickB (.c (Value.bool true)) (.c x43) enE h44 x28)))))) (pickB (.c (Value.bool true)) (.c x26) enE h27 x12)))))))))) fun k5 =>
 cnd x4
 (kLoads 4 x0 h1 (fun x73 =>
 kCall R 87 [x73] h1 (fun x74 h75 =>
 clrK h x74 h75)))
 (k5 (Value.bool false) h1))))) (oBox 68 (.c a0) enE h0)

theorem q59 (R : RnK) (N : Nat) (args : List Value) (h : Hs) : r59 R N args h = callT Tryz.prog N R 59 args h := by kernel_rfl

/-- (lintel/bits.Bits).there -/
noncomputable def r60 (R : RnK) (N : Nat) (args : List Value) (h : Hs) : An := unC args fun a0 sq0 => unC sq0 fun a1 sq1 => enK h fun h0 =>
 after (fun x0 h1 =>
 kI64 .geq a1 (Value.int .i64 (.ofNat 0)) (fun x2 =>
 gdT x2 h1 (fun k3 => k3 a1 h1) (fun x4 h5 =>
 gdT x2 h5 (fun k6 => kI64 .quo x4 (Value.int .i64 (.ofNat 64)) (fun x7 => k6 x7 h5)) (fun x8 h9 =>
 gdT x2 h9 (fun k10 => kFieldA 0 x0 (fun x11 => k10 x11 h9)) (fun x12 h13 =>
 gdT x2 h13 (fun k14 => kLoad x12 h13 (fun x15 => k14 x15 h13)) (fun x16 h17 =>
 gdT x2 h17 (fun k18 => kLenV x16 (fun x19 => k18 x19 h17)) (fun x20 h21 =>
 gdT x2 h21 (fun k22 => kI64 .lss x8 x20 (fun x23 => k22 x23 h21)) (fun x24 h25 =>
 after (fun x26 h27 =>
 clrK h x26 h27) (pickB (.c x24) (.c (Value.bool false)) enE h25 x2))))))))) (oBox 40 (.c a0) enE h0)

theorem q60 (R : RnK) (N : Nat) (args : List Value) (h : Hs) : r60 R N args h = callT Tryz.prog N R 60 args h := by kernel_rfl

/-- lintel/head.Get -/
noncomputable def r61 (R : RnK) (N : Nat) (args : List Value) (h : Hs) : An := unC args fun a0 sq0 => enK h fun h0 =>
 after (fun x0 h1 =>
 kLenV a0 (fun x2 =>
 kI64 .neq x2 (Value.int .i64 (.ofNat 8)) (fun x3 =>
 jn (fun (x5 : Value) (h6 : Hs) =>
 after (fun x7 h8 =>
 kLenV x7 (fun x9 =>
 jn (fun (x11 x12 x13 x14 x15 : Value) (h16 : Hs) =>
 kIdxA 1 a0 (Value.int .i64 (.ofNat 1)) (fun x17 =>
 kLoad x17 (Hs.mk h16.hp h16.nx h16.nx) (fun x18 =>
 kTo64 x18 (fun x19 =>
 kIdxA 1 a0 (Value.int .i64 (.ofNat 2)) (fun x20 =>
 kLoad x20 (Hs.mk h16.hp h16.nx h16.nx) (fun x21 =>
 kTo64 x21 (fun x22 =>
 kIdxA 1 a0 (Value.int .i64 (.ofNat 3)) (fun x23 =>
 kLoad x23 (Hs.mk h16.hp h16.nx h16.nx) (fun x24 =>
 kTo64 x24 (fun x25 =>
 kIdxA 1 a0 (Value.int .i64 (.ofNat 4)) (fun x26 =>
 kLoad x26 (Hs.mk h16.hp h16.nx h16.nx) (fun x27 =>
 kTo64 x27 (fun x28 =>
 after (fun v70 u71 => dPut (fun x29 h30 =>
 after (fun v68 u69 => dPut (fun x31 h32 =>
 after (fun v66 u67 => dPut (fun x33 h34 =>
 kLoads 4 x31 (Hs.mk h34.hp h34.nx h34.nx) (fun x35 =>
 kIdxA 1 a0 (Value.int .i64 (.ofNat 6)) (fun x36 =>
 kLoad x36 (Hs.mk h34.hp h34.nx h34.nx) (fun x37 =>
 after (fun v64 u65 => dPut (fun x38 h39 =>
 after (fun v62 u63 => dPut (fun x40 h41 =>
 after (fun v60 u61 => dPut (fun x42 h43 =>
 kLoads 5 x40 h43 (fun x44 =>
 kCall R 23 [x44] h43 (fun x45 h46 =>
 kCall R 91 [x45, a0] h46 (fun x47 h48 =>
 kNot x47 (fun x49 =>
 jn (fun (x51 : Value) (h52 : Hs) =>
 kLoads 5 x40 h52 (fun x53 =>
 after (fun x54 h55 =>
 clearUp h (packR h55 (resV enE h55 [.cell (.c x0) 5 true, .t (.c (Value.bool true))]))) (store1 5 h52 (cellsL x53) (addrOf x0)))) fun k50 =>
 cnd x49
 (after (fun x56 h57 =>
 after (fun x58 h59 =>
 clearUp h (packR h59 (resV enE h59 [.cell (.c x0) 5 true, .t (.c (Value.bool false))]))) (store1 5 h57 (cellsL x56) (addrOf x0))) (oBuild [(Value.int .i64 (.ofNat 0)), (Value.int .i64 (.ofNat 0)), (Value.int .i64 (.ofNat 0)), (Value.int .i64 (.ofNat 0)), (Value.int .u64 (.ofNat 0))] [] enE h48))
 (k50 x15 h48)))))) v60 (dNext h41 u61 .bar) (andB (dFit h41 u61 .bar) (Nat.ble 0 u61.lo))) (store1 5 h41 (cellsL x38) (addrOf x40))) v62 (dNext h39 u63 .make) (andB (dFit h39 u63 .make) (Nat.ble 0 u63.lo))) (oAlloc 62 [(Value.int .i64 (.ofNat 0)), (Value.int .i64 (.ofNat 0)), (Value.int .i64 (.ofNat 0)), (Value.int .i64 (.ofNat 0)), (Value.int .u64 (.ofNat 0))] enE (Hs.mk .e h39.nx h39.nx))) v64 (dNext h34 u65 .blind) (andB (dFit h34 u65 .blind) (Nat.ble 0 u65.lo))) (oBuild [(Value.int .i64 (.ofNat 0)), (Value.int .i64 (.ofNat 0)), (Value.int .i64 (.ofNat 0)), (Value.int .i64 (.ofNat 0)), (Value.int .u64 (.ofNat 0))] [(0, 4, .c x35), (4, 1, .c x37)] enE (Hs.mk .e h34.nx h34.nx)))))) v66 (dNext h32 u67 .bar) (andB (dFit h32 u67 .bar) (Nat.ble 0 u67.lo))) (store1 4 h32 (cellsL x29) (addrOf x31))) v68 (dNext h30 u69 .make) (andB (dFit h30 u69 .make) (Nat.ble 0 u69.lo))) (oAlloc 23 [(Value.int .i64 (.ofNat 0)), (Value.int .i64 (.ofNat 0)), (Value.int .i64 (.ofNat 0)), (Value.int .i64 (.ofNat 0))] enE (Hs.mk .e h30.nx h30.nx))) v70 (dNext h16 u71 .blind) (andB (dFit h16 u71 .blind) (Nat.ble 0 u71.lo))) (oBuild [(Value.int .i64 (.ofNat 0)), (Value.int .i64 (.ofNat 0)), (Value.int .i64 (.ofNat 0)), (Value.int .i64 (.ofNat 0))] [(0, 1, .c x19), (1, 1, .c x22), (2, 1, .c x25), (3, 1, .c x28)] enE (Hs.mk .e h16.nx h16.nx))))))))))))))) fun k10 =>
 lpT (T := Value → Value → Value → Value → Value → Hs → An) (fun _ _ _ _ _ _ => none) N (fun k72 =>
 fun (x74 x75 x76 x77 x78 : Value) (h79 : Hs) =>
 kI64 .lss x74 x9 (fun x80 =>
 jn (fun (h82 : Hs) =>
 jn (fun (x84 x85 x86 : Value) (h87 : Hs) =>
 kI64 .add x74 (Value.int .i64 (.ofNat 1)) (fun x88 =>
 k72 x88 x80 x84 x85 x86 h87)) fun k83 =>
 kIdxA 1 x7 x74 (fun x89 =>
 kLoad x89 h82 (fun x90 =>
 kU64 .gtr x90 (Value.int .u64 (.ofNat 1024)) (fun x91 =>
 jn (fun (x93 : Value) (h94 : Hs) =>
 k83 x90 x91 x93 h94) fun k92 =>
 cnd x91
 (after (fun x95 h96 =>
 after (fun x97 h98 =>
 clearUp h (packR h98 (resV enE h98 [.cell (.c x0) 5 true, .t (.c (Value.bool false))]))) (store1 5 h96 (cellsL x95) (addrOf x0))) (oBuild [(Value.int .i64 (.ofNat 0)), (Value.int .i64 (.ofNat 0)), (Value.int .i64 (.ofNat 0)), (Value.int .i64 (.ofNat 0)), (Value.int .u64 (.ofNat 0))] [] enE h82))
 (k92 x78 h82))))) fun k81 =>
 cnd x80
 (k81 h79)
 (k10 x74 x80 x76 x77 x78 h79))) (Value.int .i64 (.ofNat 0)) dunno dunno dunno x5 h8)) (oSlice 1 (.c a0) (some (.c (Value.int .i64 (.ofNat 1)))) (some (.c (Value.int .i64 (.ofNat 6)))) none enE h6)) fun k4 =>
 cnd x3
 (after (fun x99 h100 =>
 after (fun x101 h102 =>
 clearUp h (packR h102 (resV enE h102 [.cell (.c x0) 5 true, .t (.c (Value.bool false))]))) (store1 5 h100 (cellsL x99) (addrOf x0))) (oBuild [(Value.int .i64 (.ofNat 0)), (Value.int .i64 (.ofNat 0)), (Value.int .i64 (.ofNat 0)), (Value.int .i64 (.ofNat 0)), (Value.int .u64 (.ofNat 0))] [] enE h1))
 (k4 (Value.bool false) h1)))) (oAlloc 62 [(Value.int .i64 (.ofNat 0)), (Value.int .i64 (.ofNat 0)), (Value.int .i64 (.ofNat 0)), (Value.int .i64 (.ofNat 0)), (Value.int .u64 (.ofNat 0))] enE h0)

theorem q61 (R : RnK) (N : Nat) (args : List Value) (h : Hs) : r61 R N args h = callT Tryz.prog N R 61 args h := by kernel_rfl

/-- lintel/lintelref6.Whole -/
noncomputable def r62 (R : RnK) (N : Nat) (args : List Value) (h : Hs) : An := unC args fun a0 sq0 => enK h fun h0 =>
 kLenV a0 (fun x0 =>
 kI64 .rem x0 (Value.int .i64 (.ofNat 8)) (fun x1 =>
 kI64 .eql x1 (Value.int .i64 (.ofNat 0)) (fun x2 =>
 gdT x2 h0 (fun k3 => k3 a0 h0) (fun x4 h5 =>
 gdT x2 h5 (fun k6 => kLenV x4 (fun x7 => k6 x7 h5)) (fun x8 h9 =>
 gdT x2 h9 (fun k10 => kI64 .quo x8 (Value.int .i64 (.ofNat 8)) (fun x11 => k10 x11 h9)) (fun x12 h13 =>
 gdT x2 h13 (fun k14 => kI64 .geq x12 (Value.int .i64 (.ofNat 64)) (fun x15 => k14 x15 h13)) (fun x16 h17 =>
 after (fun x18 h19 =>
 gdT x18 h19 (fun k20 => k20 a0 h19) (fun x21 h22 =>
 gdT x18 h22 (fun k23 => kLenV x21 (fun x24 => k23 x24 h22)) (fun x25 h26 =>
 gdT x18 h26 (fun k27 => kI64 .quo x25 (Value.int .i64 (.ofNat 8)) (fun x28 => k27 x28 h26)) (fun x29 h30 =>
 gdT x18 h30 (fun k31 => kI64 .leq x29 (Value.int .i64 (.ofNat 1024)) (fun x32 => k31 x32 h30)) (fun x33 h34 =>
 after (fun x35 h36 =>
 clrK h x35 h36) (pickB (.c x33) (.c (Value.bool false)) enE h34 x18)))))) (pickB (.c x16) (.c (Value.bool false)) enE h17 x2))))))))

theorem q62 (R : RnK) (N : Nat) (args : List Value) (h : Hs) : r62 R N args h = callT Tryz.prog N R 62 args h := by kernel_rfl

/-- lintel/lintelref6.GetHead -/
noncomputable def r63 (R : RnK) (N : Nat) (args : List Value) (h : Hs) : An := unC args fun a0 sq0 => enK h fun h0 =>
 after (fun x0 h1 =>
 kLenV a0 (fun x2 =>
 kI64 .neq x2 (Value.int .i64 (.ofNat 8)) (fun x3 =>
 jn (fun (x5 x6 : Value) (h7 : Hs) =>
 jn (fun (x9 x10 x11 x12 x13 : Value) (h14 : Hs) =>
 kIdxA 1 a0 (Value.int .i64 (.ofNat 1)) (fun x15 =>
 kLoad x15 (Hs.mk h14.hp h14.nx h14.nx) (fun x16 =>
 kTo64 x16 (fun x17 =>
 kIdxA 1 a0 (Value.int .i64 (.ofNat 2)) (fun x18 =>
 kLoad x18 (Hs.mk h14.hp h14.nx h14.nx) (fun x19 =>
 kTo64 x19 (fun x20 =>
 kIdxA 1 a0 (Value.int .i64 (.ofNat 3)) (fun x21 =>
 kLoad x21 (Hs.mk h14.hp h14.nx h14.nx) (fun x22 =>
 kTo64 x22 (fun x23 =>
 kIdxA 1 a0 (Value.int .i64 (.ofNat 4)) (fun x24 =>
 kLoad x24 (Hs.mk h14.hp h14.nx h14.nx) (fun x25 =>
 kTo64 x25 (fun x26 =>
 after (fun v66 u67 => dPut (fun x27 h28 =>
 after (fun v64 u65 => dPut (fun x29 h30 =>
 after (fun v62 u63 => dPut (fun x31 h32 =>
 kLoads 4 x29 (Hs.mk h32.hp h32.nx h32.nx) (fun x33 =>
 kIdxA 1 a0 (Value.int .i64 (.ofNat 6)) (fun x34 =>
 kLoad x34 (Hs.mk h32.hp h32.nx h32.nx) (fun x35 =>
 kCall R 38 [x33, x35] h32 (fun v60 u61 => dPut (fun x36 h37 =>
 kCall R 92 [x36, a0] h37 (fun v58 u59 => dPut (fun x38 h39 =>
 kNot x38 (fun x40 =>
 jn (fun (x42 x43 : Value) (h44 : Hs) =>
 lwC x0 h44 (fun h45 =>
 kLoads 4 x29 h45 (fun x46 =>
 kIdxA 1 a0 (Value.int .i64 (.ofNat 6)) (fun x47 =>
 kLoad x47 (lowM (cutV x0) h45 h45) (fun x48 =>
 after (fun v52 u53 => dPut (fun x49 h50 =>
 lwCE x0 h44 h50 (fun h51 =>
 clearUp h (packR h51 (resV enE h51 [.cell (.c x0) 4 true, .t (.c x48), .t (.c (Value.bool true))])))) v52 (dNext h45 u53 .bar) (andB (dFit h45 u53 .bar) (Nat.ble (cutV x0) u53.lo))) (store1 4 h45 (cellsL x46) (addrOf x0))))))) fun k41 =>
 cnd x40
 (after (fun x54 h55 =>
 after (fun x56 h57 =>
 clearUp h (packR h57 (resV enE h57 [.cell (.c x0) 4 true, .t (.c (Value.int .u64 (.ofNat 0))), .t (.c (Value.bool false))]))) (store1 4 h55 (cellsL x54) (addrOf x0))) (oBuild [(Value.int .i64 (.ofNat 0)), (Value.int .i64 (.ofNat 0)), (Value.int .i64 (.ofNat 0)), (Value.int .i64 (.ofNat 0))] [] enE h39))
 (k41 x12 x13 h39))) v58 (dNext h37 u59 .bar) (andB (dFit h37 u59 .bar) (Nat.ble 0 u59.lo)))) v60 (dNext h32 u61 .bar) (andB (dFit h32 u61 .bar) (Nat.ble 0 u61.lo))))))) v62 (dNext h30 u63 .bar) (andB (dFit h30 u63 .bar) (Nat.ble 0 u63.lo))) (store1 4 h30 (cellsL x27) (addrOf x29))) v64 (dNext h28 u65 .make) (andB (dFit h28 u65 .make) (Nat.ble 0 u65.lo))) (oAlloc 43 [(Value.int .i64 (.ofNat 0)), (Value.int .i64 (.ofNat 0)), (Value.int .i64 (.ofNat 0)), (Value.int .i64 (.ofNat 0))] enE (Hs.mk .e h28.nx h28.nx))) v66 (dNext h14 u67 .blind) (andB (dFit h14 u67 .blind) (Nat.ble 0 u67.lo))) (oBuild [(Value.int .i64 (.ofNat 0)), (Value.int .i64 (.ofNat 0)), (Value.int .i64 (.ofNat 0)), (Value.int .i64 (.ofNat 0))] [(0, 1, .c x17), (1, 1, .c x20), (2, 1, .c x23), (3, 1, .c x26)] enE (Hs.mk .e h14.nx h14.nx))))))))))))))) fun k8 =>
 lpT (T := Value → Value → Value → Value → Value → Hs → An) (fun _ _ _ _ _ _ => none) N (fun k68 =>
 fun (x70 x71 x72 x73 x74 : Value) (h75 : Hs) =>
 kI64 .lss x70 (Value.int .i64 (.ofNat 5)) (fun x76 =>
 jn (fun (h78 : Hs) =>
 jn (fun (x80 x81 x82 : Value) (h83 : Hs) =>
 kI64 .add x70 (Value.int .i64 (.ofNat 1)) (fun x84 =>
 k68 x84 x76 x80 x81 x82 h83)) fun k79 =>
 kIdxA 1 a0 x70 (fun x85 =>
 kLoad x85 h78 (fun x86 =>
 kU64 .gtr x86 (Value.int .u64 (.ofNat 2000)) (fun x87 =>
 jn (fun (x89 x90 : Value) (h91 : Hs) =>
 k79 x87 x89 x90 h91) fun k88 =>
 cnd x87
 (after (fun x92 h93 =>
 after (fun x94 h95 =>
 clearUp h (packR h95 (resV enE h95 [.cell (.c x0) 4 true, .t (.c (Value.int .u64 (.ofNat 0))), .t (.c (Value.bool false))]))) (store1 4 h93 (cellsL x92) (addrOf x0))) (oBuild [(Value.int .i64 (.ofNat 0)), (Value.int .i64 (.ofNat 0)), (Value.int .i64 (.ofNat 0)), (Value.int .i64 (.ofNat 0))] [] enE h78))
 (k88 x73 x74 h78))))) fun k77 =>
 cnd x76
 (k77 h75)
 (k8 x70 x76 x72 x73 x74 h75))) (Value.int .i64 (.ofNat 1)) dunno dunno x5 x6 h7) fun k4 =>
 cnd x3
 (after (fun x96 h97 =>
 after (fun x98 h99 =>
 clearUp h (packR h99 (resV enE h99 [.cell (.c x0) 4 true, .t (.c (Value.int .u64 (.ofNat 0))), .t (.c (Value.bool false))]))) (store1 4 h97 (cellsL x96) (addrOf x0))) (oBuild [(Value.int .i64 (.ofNat 0)), (Value.int .i64 (.ofNat 0)), (Value.int .i64 (.ofNat 0)), (Value.int .i64 (.ofNat 0))] [] enE h1))
 (k4 (Value.int .u64 (.ofNat 0)) (Value.bool false) h1)))) (oAlloc 43 [(Value.int .i64 (.ofNat 0)), (Value.int .i64 (.ofNat 0)), (Value.int .i64 (.ofNat 0)), (Value.int .i64 (.ofNat 0))] enE h0)

theorem q63 (R : RnK) (N : Nat) (args : List Value) (h : Hs) : r63 R N args h = callT Tryz.prog N R 63 args h := by kernel_rfl

/-- lintel/lintelref6.bitBlocks -/
noncomputable def r64 (R : RnK) (N : Nat) (args : List Value) (h : Hs) : An := unC args fun a0 sq0 => enK h fun h0 =>
 after (fun x0 h1 =>
 kFieldA 0 x0 (fun x2 =>
 kLoad x2 h1 (fun x3 =>
 kI64 .add x3 (Value.int .i64 (.ofNat 511)) (fun x4 =>
 kI64 .quo x4 (Value.int .i64 (.ofNat 512)) (fun x5 =>
 clrK h x5 h1))))) (oBox 43 (.c a0) enE h0)

theorem q64 (R : RnK) (N : Nat) (args : List Value) (h : Hs) : r64 R N args h = callT Tryz.prog N R 64 args h := by kernel_rfl

/-- lintel/lintelref6.magic -/
noncomputable def r65 (R : RnK) (N : Nat) (args : List Value) (h : Hs) : An := enK h fun h0 =>
 clrK h (Value.int .u64 (.ofNat 5497010944029229057)) h0

theorem q65 (R : RnK) (N : Nat) (args : List Value) (h : Hs) : r65 R N args h = callT Tryz.prog N R 65 args h := by kernel_rfl

/-- lintel/lintelref1.Of -/
noncomputable def r66 (R : RnK) (N : Nat) (args : List Value) (h : Hs) : An := unC args fun a0 sq0 => enK h fun h0 =>
 kCall R 93 [(Value.int .u64 (.ofNat 7811896474847682849)), a0] h0 (fun x0 h1 =>
 clrK h x0 h1)

theorem q66 (R : RnK) (N : Nat) (args : List Value) (h : Hs) : r66 R N args h = callT Tryz.prog N R 66 args h := by kernel_rfl

/-- lintel/seal.On -/
noncomputable def r86 (R : RnK) (N : Nat) (args : List Value) (h : Hs) : An := unC args fun a0 sq0 => unC sq0 fun a1 sq1 => enK h fun h0 =>
 kLenV a1 (fun x0 =>
 jn (fun (x2 x3 x4 x5 : Value) (h6 : Hs) =>
 clrK h x4 h6) fun k1 =>
 lpT (T := Value → Value → Value → Value → Hs → An) (fun _ _ _ _ _ => none) N (fun k7 =>
 fun (x9 x10 x11 x12 : Value) (h13 : Hs) =>
 kI64 .lss x9 x0 (fun x14 =>
 jn (fun (h16 : Hs) =>
 jn (fun (x18 x19 : Value) (h20 : Hs) =>
 kI64 .add x9 (Value.int .i64 (.ofNat 1)) (fun x21 =>
 k7 x21 x14 x18 x19 h20)) fun k17 =>
 kIdxA 1 a1 x9 (fun x22 =>
 kLoad x22 h16 (fun x23 =>
 kCall R 111 [x11, (Value.int .i64 (.ofNat 9))] h16 (fun x24 h25 =>
 kU64 .xor x24 x23 (fun x26 =>
 k17 x26 x23 h25))))) fun k15 =>
 cnd x14
 (k15 h13)
 (k1 x9 x14 x11 x12 h13))) (Value.int .i64 (.ofNat 0)) dunno a0 dunno h0)

theorem q86 (R : RnK) (N : Nat) (args : List Value) (h : Hs) : r86 R N args h = callT Tryz.prog N R 86 args h := by kernel_rfl

/-- lintel/node.free -/
noncomputable def r87 (R : RnK) (N : Nat) (args : List Value) (h : Hs) : An := unC args fun a0 sq0 => enK h fun h0 =>
 after (fun x0 h1 =>
 kFieldA 0 x0 (fun x2 =>
 kLoad x2 h1 (fun x3 =>
 kI64 .eql x3 (Value.int .i64 (.ofNat 0)) (fun x4 =>
 gdT x4 h1 (fun k5 => kFieldA 1 x0 (fun x6 => k5 x6 h1)) (fun x7 h8 =>
 gdT x4 h8 (fun k9 => kLoad x7 h8 (fun x10 => k9 x10 h8)) (fun x11 h12 =>
 gdT x4 h12 (fun k13 => kI64 .eql x11 (Value.int .i64 (.ofNat 0)) (fun x14 => k13 x14 h12)) (fun x15 h16 =>
 after (fun x17 h18 =>
 gdT x17 h18 (fun k19 => kFieldA 2 x0 (fun x20 => k19 x20 h18)) (fun x21 h22 =>
 gdT x17 h22 (fun k23 => kLoad x21 h22 (fun x24 => k23 x24 h22)) (fun x25 h26 =>
 gdT x17 h26 (fun k27 => kI64 .eql x25 (Value.int .i64 (.ofNat 0)) (fun x28 => k27 x28 h26)) (fun x29 h30 =>
 after (fun x31 h32 =>
 gdT x31 h32 (fun k33 => kFieldA 3 x0 (fun x34 => k33 x34 h32)) (fun x35 h36 =>
 gdT x31 h36 (fun k37 => kLoad x35 h36 (fun x38 => k37 x38 h36)) (fun x39 h40 =>
 gdT x31 h40 (fun k41 => kLenV x39 (fun x42 => k41 x42 h40)) (fun x43 h44 =>
 gdT x31 h44 (fun k45 => kI64 .eql x43 (Value.int .i64 (.ofNat 0)) (fun x46 => k45 x46 h44)) (fun x47 h48 =>
 after (fun x49 h50 =>
 clrK h x49 h50) (pickB (.c x47) (.c (Value.bool false)) enE h48 x31)))))) (pickB (.c x29) (.c (Value.bool false)) enE h30 x17))))) (pickB (.c x15) (.c (Value.bool false)) enE h16 x4)))))))) (oBox 68 (.c a0) enE h0)

theorem q87 (R : RnK) (N : Nat) (args : List Value) (h : Hs) : r87 R N args h = callT Tryz.prog N R 87 args h := by kernel_rfl

/-- lintel/node.in -/
noncomputable def r88 (R : RnK) (N : Nat) (args : List Value) (h : Hs) : An := unC args fun a0 sq0 => unC sq0 fun a1 sq1 => unC sq1 fun a2 sq2 => enK h fun h0 =>
 kI64 .geq a0 a1 (fun x0 =>
 gdT x0 h0 (fun k1 => k1 a0 h0) (fun x2 h3 =>
 gdT x0 h3 (fun k4 => k4 a2 h3) (fun x5 h6 =>
 gdT x0 h6 (fun k7 => kI64 .leq x2 x5 (fun x8 => k7 x8 h6)) (fun x9 h10 =>
 after (fun x11 h12 =>
 clrK h x11 h12) (pickB (.c x9) (.c (Value.bool false)) enE h10 x0)))))

theorem q88 (R : RnK) (N : Nat) (args : List Value) (h : Hs) : r88 R N args h = callT Tryz.prog N R 88 args h := by kernel_rfl

/-- slices.ContainsFunc[[]lintel/node.Run,lintel/node.Run] -/
noncomputable def r89 (R : RnK) (N : Nat) (args : List Value) (h : Hs) : An := unC args fun a0 sq0 => unC sq0 fun a1 sq1 => enK h fun h0 =>
 kCall R 112 [a0, a1] h0 (fun x0 h1 =>
 kI64 .geq x0 (Value.int .i64 (.ofNat 0)) (fun x2 =>
 clrK h x2 h1))

theorem q89 (R : RnK) (N : Nat) (args : List Value) (h : Hs) : r89 R N args h = callT Tryz.prog N R 89 args h := by kernel_rfl

/-- lintel/node.fits$1 -/
noncomputable def r90 (R : RnK) (N : Nat) (args : List Value) (h : Hs) : An := unC args fun a0 sq0 => enK h fun h0 =>
 after (fun x0 h1 =>
 kFieldA 0 x0 (fun x2 =>
 kLoad x2 h1 (fun x3 =>
 kCall R 88 [x3, (Value.int .i64 (.ofNat 0)), (Value.int .i64 (.ofNat 2147483648))] h1 (fun x4 h5 =>
 kNot x4 (fun x6 =>
 gdF x6 h5 (fun k7 => kFieldA 1 x0 (fun x8 => k7 x8 h5)) (fun x9 h10 =>
 gdF x6 h10 (fun k11 => kLoad x9 h10 (fun x12 => k11 x12 h10)) (fun x13 h14 =>
 gdF x6 h14 (fun k15 => kCall R 88 [x13, (Value.int .i64 (.ofNat 1)), (Value.int .i64 (.ofNat 2147483648))] h14 (k15)) (fun x16 h17 =>
 gdF x6 h17 (fun k18 => kNot x16 (fun x19 => k18 x19 h17)) (fun x20 h21 =>
 after (fun x22 h23 =>
 clrK h x22 h23) (pickB (.c (Value.bool true)) (.c x20) enE h21 x6)))))))))) (oBox 70 (.c a0) enE h0)

theorem q90 (R : RnK) (N : Nat) (args : List Value) (h : Hs) : r90 R N args h = callT Tryz.prog N R 90 args h := by kernel_rfl

/-- slices.Equal[[]uint64,uint64] -/
noncomputable def r91 (R : RnK) (N : Nat) (args : List Value) (h : Hs) : An := unC args fun a0 sq0 => unC sq0 fun a1 sq1 => enK h fun h0 =>
 kLenV a0 (fun x0 =>
 kLenV a1 (fun x1 =>
 kI64 .neq x0 x1 (fun x2 =>
 jn (fun (x4 : Value) (h5 : Hs) =>
 kLenV a0 (fun x6 =>
 jn (fun (x8 x9 x10 x11 x12 : Value) (h13 : Hs) =>
 clrK h (Value.bool true) h13) fun k7 =>
 lpT (T := Value → Value → Value → Value → Value → Hs → An) (fun _ _ _ _ _ _ => none) N (fun k14 =>
 fun (x16 x17 x18 x19 x20 : Value) (h21 : Hs) =>
 kI64 .lss x16 x6 (fun x22 =>
 jn (fun (h24 : Hs) =>
 jn (fun (x26 x27 x28 : Value) (h29 : Hs) =>
 kI64 .add x16 (Value.int .i64 (.ofNat 1)) (fun x30 =>
 k14 x30 x22 x26 x27 x28 h29)) fun k25 =>
 kIdxA 1 a0 x16 (fun x31 =>
 kLoad x31 (Hs.mk h24.hp h24.nx h24.nx) (fun x32 =>
 kIdxA 1 a1 x16 (fun x33 =>
 kLoad x33 (Hs.mk h24.hp h24.nx h24.nx) (fun x34 =>
 kU64 .neq x32 x34 (fun x35 =>
 jn (fun (x37 : Value) (h38 : Hs) =>
 k25 x16 x35 x37 h38) fun k36 =>
 cnd x35
 (clrK h (Value.bool false) h24)
 (k36 x20 h24))))))) fun k23 =>
 cnd x22
 (k23 h21)
 (k7 x16 x22 x18 x19 x20 h21))) (Value.int .i64 (.ofNat 0)) dunno dunno dunno x4 h5)) fun k3 =>
 cnd x2
 (clrK h (Value.bool false) h0)
 (k3 (Value.bool false) h0))))

theorem q91 (R : RnK) (N : Nat) (args : List Value) (h : Hs) : r91 R N args h = callT Tryz.prog N R 91 args h := by kernel_rfl

/-- lintel/lintelref6.Same -/
noncomputable def r92 (R : RnK) (N : Nat) (args : List Value) (h : Hs) : An := unC args fun a0 sq0 => unC sq0 fun a1 sq1 => enK h fun h0 =>
 kLenV a0 (fun x0 =>
 kLenV a1 (fun x1 =>
 kI64 .neq x0 x1 (fun x2 =>
 jn (fun (x4 : Value) (h5 : Hs) =>
 jn (fun (x7 x8 x9 x10 : Value) (h11 : Hs) =>
 clrK h (Value.bool true) h11) fun k6 =>
 lpT (T := Value → Value → Value → Value → Hs → An) (fun _ _ _ _ _ => none) N (fun k12 =>
 fun (x14 x15 x16 x17 : Value) (h18 : Hs) =>
 kLenV a0 (fun x19 =>
 kI64 .lss x14 x19 (fun x20 =>
 jn (fun (h22 : Hs) =>
 jn (fun (x24 x25 : Value) (h26 : Hs) =>
 kI64 .add x14 (Value.int .i64 (.ofNat 1)) (fun x27 =>
 k12 x27 x20 x24 x25 h26)) fun k23 =>
 kIdxA 1 a0 x14 (fun x28 =>
 kLoad x28 (Hs.mk h22.hp h22.nx h22.nx) (fun x29 =>
 kIdxA 1 a1 x14 (fun x30 =>
 kLoad x30 (Hs.mk h22.hp h22.nx h22.nx) (fun x31 =>
 kU64 .neq x29 x31 (fun x32 =>
 jn (fun (x34 : Value) (h35 : Hs) =>
 k23 x32 x34 h35) fun k33 =>
 cnd x32
 (clrK h (Value.bool false) h22)
 (k33 x17 h22))))))) fun k21 =>
 cnd x20
 (k21 h18)
 (k6 x14 x20 x16 x17 h18)))) (Value.int .i64 (.ofNat 0)) dunno dunno x4 h5) fun k3 =>
 cnd x2
 (clrK h (Value.bool false) h0)
 (k3 (Value.bool false) h0))))

theorem q92 (R : RnK) (N : Nat) (args : List Value) (h : Hs) : r92 R N args h = callT Tryz.prog N R 92 args h := by kernel_rfl

/-- lintel/lintelref1.Seal -/
noncomputable def r93 (R : RnK) (N : Nat) (args : List Value) (h : Hs) : An := unC args fun a0 sq0 => unC sq0 fun a1 sq1 => enK h fun h0 =>
 jn (fun (x1 x2 x3 : Value) (h4 : Hs) =>
 clrK h x3 h4) fun k0 =>
 lpT (T := Value → Value → Value → Hs → An) (fun _ _ _ _ => none) N (fun k5 =>
 fun (x7 x8 x9 : Value) (h10 : Hs) =>
 kLenV a1 (fun x11 =>
 kI64 .lss x7 x11 (fun x12 =>
 jn (fun (h14 : Hs) =>
 jn (fun (x16 : Value) (h17 : Hs) =>
 kI64 .add x7 (Value.int .i64 (.ofNat 1)) (fun x18 =>
 k5 x18 x12 x16 h17)) fun k15 =>
 kCall R 113 [x9, (Value.int .i64 (.ofNat 9))] (Hs.mk h14.hp h14.nx h14.nx) (fun v24 u25 => dPut (fun x19 h20 =>
 kIdxA 1 a1 x7 (fun x21 =>
 kLoad x21 (dHidS .light [true, true, true, false, false] [none, none, none, some (h14.nx, h20.nx), none] h20) (fun x22 =>
 kU64 .xor x19 x22 (fun x23 =>
 k15 x23 h20)))) v24 (dNext h14 u25 .light) (andB (dFit h14 u25 .light) (Nat.ble 0 u25.lo)))) fun k13 =>
 cnd x12
 (k13 h10)
 (k0 x7 x12 x9 h10)))) (Value.int .i64 (.ofNat 0)) dunno a0 h0

theorem q93 (R : RnK) (N : Nat) (args : List Value) (h : Hs) : r93 R N args h = callT Tryz.prog N R 93 args h := by kernel_rfl

/-- math/bits.RotateLeft64 -/
noncomputable def r111 (R : RnK) (N : Nat) (args : List Value) (h : Hs) : An := unC args fun a0 sq0 => unC sq0 fun a1 sq1 => enK h fun h0 =>
 kToU a1 (fun x0 =>
 kU64 .and x0 (Value.int .u64 (.ofNat 63)) (fun x1 =>
 kShl a0 x1 (fun x2 =>
 kU64 .sub (Value.int .u64 (.ofNat 64)) x1 (fun x3 =>
 kShr a0 x3 (fun x4 =>
 kU64 .or x2 x4 (fun x5 =>
 clrK h x5 h0))))))

theorem q111 (R : RnK) (N : Nat) (args : List Value) (h : Hs) : r111 R N args h = callT Tryz.prog N R 111 args h := by kernel_rfl

/-- slices.IndexFunc[[]lintel/node.Run,lintel/node.Run] -/
noncomputable def r112 (R : RnK) (N : Nat) (args : List Value) (h : Hs) : An := unC args fun a0 sq0 => unC sq0 fun a1 sq1 => enK h fun h0 =>
 kLenV a0 (fun x0 =>
 jn (fun (x2 x3 x4 x5 x6 : Value) (h7 : Hs) =>
 clrK h (Value.int .i64 (.negSucc 0)) h7) fun k1 =>
 lpT (T := Value → Value → Value → Value → Value → Hs → An) (fun _ _ _ _ _ _ => none) N (fun k8 =>
 fun (x10 x11 x12 x13 x14 : Value) (h15 : Hs) =>
 kI64 .lss x10 x0 (fun x16 =>
 jn (fun (h18 : Hs) =>
 jn (fun (x20 x21 x22 : Value) (h23 : Hs) =>
 kI64 .add x10 (Value.int .i64 (.ofNat 1)) (fun x24 =>
 k8 x24 x16 x20 x21 x22 h23)) fun k19 =>
 kIdxA 2 a0 x10 (fun x25 =>
 kLoads 2 x25 h18 (fun x26 =>
 kCallV R a1 [x26] h18 (fun x27 h28 =>
 jn (fun (x30 : Value) (h31 : Hs) =>
 k19 x10 x27 x30 h31) fun k29 =>
 cnd x27
 (clrK h x10 h28)
 (k29 x14 h28))))) fun k17 =>
 cnd x16
 (k17 h15)
 (k1 x10 x16 x12 x13 x14 h15))) (Value.int .i64 (.ofNat 0)) dunno dunno dunno (Value.int .i64 (.ofNat 0)) h0)

theorem q112 (R : RnK) (N : Nat) (args : List Value) (h : Hs) : r112 R N args h = callT Tryz.prog N R 112 args h := by kernel_rfl

/-- lintel/lintelref1.Turn -/
noncomputable def r113 (R : RnK) (N : Nat) (args : List Value) (h : Hs) : An := unC args fun a0 sq0 => unC sq0 fun a1 sq1 => enK h fun h0 =>
 kI64 .rem a1 (Value.int .i64 (.ofNat 64)) (fun x0 =>
 kI64 .lss x0 (Value.int .i64 (.ofNat 0)) (fun x1 =>
 jn (fun (x3 : Value) (h4 : Hs) =>
 kI64 .eql x3 (Value.int .i64 (.ofNat 0)) (fun x5 =>
 jn (fun (x7 : Value) (h8 : Hs) =>
 kToU x3 (fun x9 =>
 kShl a0 x9 (fun x10 =>
 kI64 .sub (Value.int .i64 (.ofNat 64)) x3 (fun x11 =>
 kToU x11 (fun x12 =>
 kShr a0 x12 (fun x13 =>
 kU64 .or x10 x13 (fun x14 =>
 clrK h x14 h8))))))) fun k6 =>
 cnd x5
 (clrK h a0 h4)
 (k6 (Value.int .u64 (.ofNat 0)) h4))) fun k2 =>
 cnd x1
 (kI64 .add x0 (Value.int .i64 (.ofNat 64)) (fun x15 =>
 k2 x15 h0))
 (k2 x0 h0)))

theorem q113 (R : RnK) (N : Nat) (args : List Value) (h : Hs) : r113 R N args h = callT Tryz.prog N R 113 args h := by kernel_rfl

noncomputable def entries : List (Nat × FnK) := [(4, r4), (7, r7), (8, r8), (10, r10), (11, r11), (12, r12), (13, r13), (21, r21), (22, r22), (23, r23), (24, r24), (25, r25), (26, r26), (27, r27), (28, r28), (29, r29), (30, r30), (31, r31), (32, r32), (33, r33), (34, r34), (35, r35), (36, r36), (38, r38), (57, r57), (58, r58), (59, r59), (60, r60), (61, r61), (62, r62), (63, r63), (64, r64), (65, r65), (66, r66), (86, r86), (87, r87), (88, r88), (89, r89), (90, r90), (91, r91), (92, r92), (93, r93), (111, r111), (112, r112), (113, r113)]
theorem entries_ok : AllOk Tryz.prog entries := ⟨q4, q7, q8, q10, q11, q12, q13, q21, q22, q23, q24, q25, q26, q27, q28, q29, q30, q31, q32, q33, q34, q35, q36, q38, q57, q58, q59, q60, q61, q62, q63, q64, q65, q66, q86, q87, q88, q89, q90, q91, q92, q93, q111, q112, q113, trivial⟩
end Go.Proofs.YtkmdcgfgfinmjaaGreatDoor.imageBits
