/- The functions that 'ImageOpens' reaches, in the fast evaluator's form, each held against the program's own text by the kernel. Written by a program. -/
import Derived.Test.YtkmdcgfgfinmjaaGreatDoorGevKM
import Derived.Test.YtkmdcgfgfinmjaaGreatDoorProg
import Derived.KernelRfl
namespace Go.Proofs.YtkmdcgfgfinmjaaGreatDoor.imageOpens
open Go.Gev
set_option linter.unusedVariables false
/-- lintel/lintellaw18.ImageOpens -/
noncomputable def r3 (R : RnK) (N : Nat) (args : List Value) (h : Hs) : An := unC args fun a0 sq0 => unC sq0 fun a1 sq1 => unC sq1 fun a2 sq2 => enK h fun h0 =>
 after (fun x0 h1 =>
 kCall R 6 [] h1 (fun x2 h3 =>
 kNot x2 (fun x4 =>
 jn (fun (x6 : Value) (h7 : Hs) =>
 kLoads 4 x0 h7 (fun x8 =>
 kCall R 7 [x8] h7 (fun x9 h10 =>
 kExtr x9 0 (fun x11 =>
 kExtr x9 1 (fun x12 =>
 kI64 .neq x12 (Value.int .i64 (.ofNat 0)) (fun x13 =>
 gdF x13 h10 (fun k14 => k14 a1 h10) (fun x15 h16 =>
 gdF x13 h16 (fun k17 => kI64 .lss x15 (Value.int .i64 (.ofNat 0)) (fun x18 => k17 x18 h16)) (fun x19 h20 =>
 after (fun x21 h22 =>
 gdF x21 h22 (fun k23 => k23 a1 h22) (fun x24 h25 =>
 gdF x21 h25 (fun k26 => k26 x11 h25) (fun x27 h28 =>
 gdF x21 h28 (fun k29 => kLenV x27 (fun x30 => k29 x30 h28)) (fun x31 h32 =>
 gdF x21 h32 (fun k33 => kI64 .geq x24 x31 (fun x34 => k33 x34 h32)) (fun x35 h36 =>
 after (fun x37 h38 =>
 jn (fun (x40 : Value) (h41 : Hs) =>
 after (fun x42 h43 =>
 after (fun x44 h45 =>
 kCall R 8 [x11] h45 (fun x46 h47 =>
 kExtr x46 0 (fun x48 =>
 kExtr x46 1 (fun x49 =>
 after (fun x50 h51 =>
 after (fun x52 h53 =>
 kI64 .neq x49 (Value.int .i64 (.ofNat 0)) (fun x54 =>
 gdF x54 h53 (fun k55 => kFieldA 4 x50 (fun x56 => k55 x56 h53)) (fun x57 h58 =>
 gdF x54 h58 (fun k59 => kLoad x57 h58 (fun x60 => k59 x60 h58)) (fun x61 h62 =>
 gdF x54 h62 (fun k63 => kLenV x61 (fun x64 => k63 x64 h62)) (fun x65 h66 =>
 gdF x54 h66 (fun k67 => k67 x11 h66) (fun x68 h69 =>
 gdF x54 h69 (fun k70 => kLenV x68 (fun x71 => k70 x71 h69)) (fun x72 h73 =>
 gdF x54 h73 (fun k74 => kI64 .neq x65 x72 (fun x75 => k74 x75 h73)) (fun x76 h77 =>
 after (fun x78 h79 =>
 jn (fun (x81 : Value) (h82 : Hs) =>
 kFieldA 4 x50 (fun x83 =>
 kLoad x83 h82 (fun x84 =>
 kIdxA 1 x84 a1 (fun x85 =>
 kStore1 x85 a2 h82 (fun x86 h87 =>
 kIdxA 1 x11 a1 (fun x88 =>
 kLoad x88 h87 (fun x89 =>
 kU64 .xor x89 (Value.int .u64 (.ofNat 1)) (fun x90 =>
 kIdxA 1 x11 a1 (fun x91 =>
 kStore1 x91 x90 h87 (fun x92 h93 =>
 kCall R 8 [x44] h93 (fun x94 h95 =>
 kExtr x94 0 (fun x96 =>
 kExtr x94 1 (fun x97 =>
 after (fun x98 h99 =>
 after (fun x100 h101 =>
 kI64 .eql x97 (Value.int .i64 (.ofNat 0)) (fun x102 =>
 gdT x102 h101 (fun k103 => kFieldA 4 x50 (fun x104 => k103 x104 h101)) (fun x105 _ =>
 gdT x102 h101 (fun k107 => kLoad x105 h101 (fun x108 => k107 x108 h101)) (fun x109 _ =>
 gdT x102 h101 (fun k111 => k111 a1 h101) (fun x112 _ =>
 gdT x102 h101 (fun k114 => kIdxA 1 x109 x112 (fun x115 => k114 x115 h101)) (fun x116 _ =>
 gdT x102 h101 (fun k118 => kLoad x116 h101 (fun x119 => k118 x119 h101)) (fun x120 _ =>
 gdT x102 h101 (fun k122 => k122 a2 h101) (fun x123 _ =>
 gdT x102 h101 (fun k125 => kU64 .eql x120 x123 (fun x126 => k125 x126 h101)) (fun x127 _ =>
 after (fun v219 u220 => dPut (fun x129 h130 =>
 gdT x129 h130 (fun k131 => k131 x11 h130) (fun x132 _ =>
 gdT x129 h130 (fun k134 => k134 a1 h130) (fun x135 _ =>
 gdT x129 h130 (fun k137 => kIdxA 1 x132 x135 (fun x138 => k137 x138 h130)) (fun x139 _ =>
 gdT x129 h130 (fun k141 => kLoad x139 (dHidS .light [true, true, true, true, true, true, true, true, true, true, true, true, true, true, true] [none, none, none, none, some (h101.nx, h130.nx), none, none, none, none, none, none, none, none, none, none] h130) (fun x142 => k141 x142 h130)) (fun x143 _ =>
 gdT x129 h130 (fun k145 => k145 x44 h130) (fun x146 _ =>
 gdT x129 h130 (fun k148 => k148 a1 h130) (fun x149 _ =>
 gdT x129 h130 (fun k151 => kIdxA 1 x146 x149 (fun x152 => k151 x152 h130)) (fun x153 _ =>
 gdT x129 h130 (fun k155 => kLoad x153 (dHidS .light [true, true, true, false, false, false, false, true, true, true, true, true, true, true, true, true, true, true, true] [none, none, none, none, none, none, none, none, some (h101.nx, h130.nx), none, none, none, none, none, none, none, none, none, none] h130) (fun x156 => k155 x156 h130)) (fun x157 _ =>
 gdT x129 h130 (fun k159 => kU64 .xor x157 (Value.int .u64 (.ofNat 1)) (fun x160 => k159 x160 h130)) (fun x161 _ =>
 gdT x129 h130 (fun k163 => kU64 .eql x143 x161 (fun x164 => k163 x164 h130)) (fun x165 _ =>
 after (fun v217 u218 => dPut (fun x167 h168 =>
 gdT x167 h168 (fun k169 => kFieldA 4 x98 (fun x170 => k169 x170 h168)) (fun x171 _ =>
 gdT x167 h168 (fun k173 => kLoad x171 h168 (fun x174 => k173 x174 h168)) (fun x175 _ =>
 gdT x167 h168 (fun k177 => k177 x44 h168) (fun x178 _ =>
 gdT x167 h168 (fun k180 => kCall R 9 [x175, x178] h168 (fun v181 u182 => dPut k180 v181 (dNext h168 u182 .bar) (andB (dFit h168 u182 .bar) (Nat.ble 0 u182.lo)))) (fun x183 h184 =>
 after (fun v215 u216 => dPut (fun x185 h186 =>
 gdT x185 h186 (fun k187 => kFieldA 0 x98 (fun x188 => k187 x188 h186)) (fun x189 _ =>
 gdT x185 h186 (fun k191 => kFieldA 0 x189 (fun x192 => k191 x192 h186)) (fun x193 _ =>
 gdT x185 h186 (fun k195 => kLoad x193 (dHidS .light [true, true, true, true, true, true, true, true, true, true, true, true, true, true, true, true, true, true, true, true, true, true, true, true, true, true, true, true, true, true, true, true] [none, none, none, some (h184.nx, h186.nx), some (h168.nx, h184.nx), none, none, none, none, some (h130.nx, h168.nx), none, none, none, none, none, none, none, none, none, none, none, some (h101.nx, h130.nx), none, none, none, none, none, none, none, none, none, none] h186) (fun x196 => k195 x196 h186)) (fun x197 _ =>
 gdT x185 h186 (fun k199 => kFieldA 0 x0 (fun x200 => k199 x200 h186)) (fun x201 _ =>
 gdT x185 h186 (fun k203 => kLoad x201 (dHidS .light [true, false, false, false, true, true, true, true, true, true, true, true, true, true, true, true, true, true, true, true, true, true, true, true, true, true, true, true, true, true, true, true, true, true] [none, none, none, none, none, some (h184.nx, h186.nx), some (h168.nx, h184.nx), none, none, none, none, some (h130.nx, h168.nx), none, none, none, none, none, none, none, none, none, none, none, some (h101.nx, h130.nx), none, none, none, none, none, none, none, none, none, none] h186) (fun x204 => k203 x204 h186)) (fun x205 _ =>
 gdT x185 h186 (fun k207 => kI64 .eql x197 x205 (fun x208 => k207 x208 h186)) (fun x209 _ =>
 after (fun v213 u214 => dPut (fun x211 h212 =>
 clrK h x211 h212) v213 (dNext h186 u214 .blind) (andB (dFit h186 u214 .blind) (Nat.ble 0 u214.lo))) (pickB (.c x209) (.c (Value.bool false)) enE (Hs.mk .e h186.nx h186.nx) x185)))))))) v215 (dNext h184 u216 .blind) (andB (dFit h184 u216 .blind) (Nat.ble 0 u216.lo))) (pickB (.c x183) (.c (Value.bool false)) enE (Hs.mk .e h184.nx h184.nx) x167)))))) v217 (dNext h130 u218 .blind) (andB (dFit h130 u218 .blind) (Nat.ble 0 u218.lo))) (pickB (.c x165) (.c (Value.bool false)) enE (Hs.mk .e h130.nx h130.nx) x129)))))))))))) v219 (dNext h101 u220 .blind) (andB (dFit h101 u220 .blind) (Nat.ble 0 u220.lo))) (pickB (.c x127) (.c (Value.bool false)) enE (Hs.mk .e h101.nx h101.nx) x102)))))))))) (store1 5 h99 (cellsL x96) (addrOf x98))) (oAlloc 31 [(Value.int .i64 (.ofNat 0)), (Value.int .i64 (.ofNat 0)), (Value.int .i64 (.ofNat 0)), (Value.int .i64 (.ofNat 0)), (Value.slice none 0 0)] enE h95)))))))))))))) fun k80 =>
 cnd x78
 (clrK h (Value.bool false) h79)
 (k80 x40 h79)) (pickB (.c (Value.bool true)) (.c x76) enE h77 x54))))))))) (store1 5 h51 (cellsL x48) (addrOf x50))) (oAlloc 31 [(Value.int .i64 (.ofNat 0)), (Value.int .i64 (.ofNat 0)), (Value.int .i64 (.ofNat 0)), (Value.int .i64 (.ofNat 0)), (Value.slice none 0 0)] enE h47))))) (app0 24 1 8 h43 x42 x11)) (oMkrow 24 1 0 [(Value.int .u64 (.ofNat 0))] [] enE h41)) fun k39 =>
 cnd x37
 (clrK h (Value.bool true) h38)
 (k39 x6 h38)) (pickB (.c (Value.bool true)) (.c x35) enE h36 x21)))))) (pickB (.c (Value.bool true)) (.c x19) enE h20 x13))))))))) fun k5 =>
 cnd x4
 (clrK h (Value.bool false) h3)
 (k5 (Value.bool false) h3)))) (oBox 23 (.c a0) enE h0)

theorem q3 (R : RnK) (N : Nat) (args : List Value) (h : Hs) : r3 R N args h = callT Tryz.prog N R 3 args h := by kernel_rfl

/-- lintel/lintellaw18.awake -/
noncomputable def r6 (R : RnK) (N : Nat) (args : List Value) (h : Hs) : An := enK h fun h0 =>
 kCall R 19 [(Value.int .i64 (.ofNat 64))] h0 (fun x0 h1 =>
 kCall R 7 [x0] h1 (fun x2 h3 =>
 kExtr x2 0 (fun x4 =>
 kExtr x2 1 (fun x5 =>
 kCall R 8 [x4] h3 (fun x6 h7 =>
 kExtr x6 0 (fun x8 =>
 kExtr x6 1 (fun x9 =>
 after (fun x10 h11 =>
 after (fun x12 h13 =>
 kLoads 5 x10 h13 (fun x14 =>
 kCall R 16 [x14] h13 (fun x15 h16 =>
 kExtr x15 0 (fun x17 =>
 kExtr x15 1 (fun x18 =>
 kI64 .eql x5 (Value.int .i64 (.ofNat 0)) (fun x19 =>
 gdT x19 h16 (fun k20 => k20 x4 h16) (fun x21 h22 =>
 gdT x19 h22 (fun k23 => kLenV x21 (fun x24 => k23 x24 h22)) (fun x25 h26 =>
 gdT x19 h26 (fun k27 => kI64 .eql x25 (Value.int .i64 (.ofNat 512)) (fun x28 => k27 x28 h26)) (fun x29 h30 =>
 after (fun x31 h32 =>
 gdT x31 h32 (fun k33 => k33 x9 h32) (fun x34 h35 =>
 gdT x31 h35 (fun k36 => kI64 .eql x34 (Value.int .i64 (.ofNat 0)) (fun x37 => k36 x37 h35)) (fun x38 h39 =>
 after (fun x40 h41 =>
 gdT x40 h41 (fun k42 => kFieldA 0 x10 (fun x43 => k42 x43 h41)) (fun x44 h45 =>
 gdT x40 h45 (fun k46 => kFieldA 0 x44 (fun x47 => k46 x47 h45)) (fun x48 h49 =>
 gdT x40 h49 (fun k50 => kLoad x48 h49 (fun x51 => k50 x51 h49)) (fun x52 h53 =>
 gdT x40 h53 (fun k54 => kI64 .eql x52 (Value.int .i64 (.ofNat 64)) (fun x55 => k54 x55 h53)) (fun x56 h57 =>
 after (fun x58 h59 =>
 gdT x58 h59 (fun k60 => k60 x18 h59) (fun x61 h62 =>
 gdT x58 h62 (fun k63 => kI64 .eql x61 (Value.int .i64 (.ofNat 0)) (fun x64 => k63 x64 h62)) (fun x65 h66 =>
 after (fun x67 h68 =>
 gdT x67 h68 (fun k69 => k69 x17 h68) (fun x70 h71 =>
 gdT x67 h71 (fun k72 => obK (fun x73 => k72 x73 h71) (e2 true qP x70 (Value.pointer none))) (fun x74 h75 =>
 after (fun x76 h77 =>
 gdT x76 h77 (fun k78 => k78 x17 h77) (fun x79 h80 =>
 gdT x76 h80 (fun k81 => kCall R 20 [x79] h80 (k81)) (fun x82 h83 =>
 gdT x76 h83 (fun k84 => kLenV x82 (fun x85 => k84 x85 h83)) (fun x86 h87 =>
 gdT x76 h87 (fun k88 => kI64 .eql x86 (Value.int .i64 (.ofNat 2)) (fun x89 => k88 x89 h87)) (fun x90 h91 =>
 after (fun x92 h93 =>
 clrK h x92 h93) (pickB (.c x90) (.c (Value.bool false)) enE h91 x76)))))) (pickB (.c x74) (.c (Value.bool false)) enE h75 x67)))) (pickB (.c x65) (.c (Value.bool false)) enE h66 x58)))) (pickB (.c x56) (.c (Value.bool false)) enE h57 x40)))))) (pickB (.c x38) (.c (Value.bool false)) enE h39 x31)))) (pickB (.c x29) (.c (Value.bool false)) enE h30 x19)))))))))) (store1 5 h11 (cellsL x8) (addrOf x10))) (oAlloc 31 [(Value.int .i64 (.ofNat 0)), (Value.int .i64 (.ofNat 0)), (Value.int .i64 (.ofNat 0)), (Value.int .i64 (.ofNat 0)), (Value.slice none 0 0)] enE h7))))))))

theorem q6 (R : RnK) (N : Nat) (args : List Value) (h : Hs) : r6 R N args h = callT Tryz.prog N R 6 args h := by kernel_rfl

/-- lintel/image.Make -/
noncomputable def r7 (R : RnK) (N : Nat) (args : List Value) (h : Hs) : An := unC args fun a0 sq0 => enK h fun h0 =>
 after (fun x0 h1 =>
 kLoads 4 x0 h1 (fun x2 =>
 kCall R 10 [x2] h1 (fun x3 h4 =>
 kNot x3 (fun x5 =>
 jn (fun (x7 x8 : Value) (h9 : Hs) =>
 kFieldA 0 x0 (fun x10 =>
 kLoad x10 h9 (fun x11 =>
 kI64 .mul (Value.int .i64 (.ofNat 8)) x11 (fun x12 =>
 after (fun x13 h14 =>
 after (fun x15 h16 =>
 kStore1 x15 x13 h16 (fun x17 h18 =>
 after (fun x19 h20 =>
 kLoads 4 x0 h20 (fun x21 =>
 kCall R 22 [x21] h20 (fun x22 h23 =>
 kExtr x22 0 (fun x24 =>
 kExtr x22 1 (fun x25 =>
 kLoads 4 x0 h23 (fun x26 =>
 after (fun x27 h28 =>
 kCall R 23 [x27] h28 (fun x29 h30 =>
 kCallV R x19 [(Value.int .i64 (.ofNat 0)), x29] h30 (fun x31 h32 =>
 kLoads 4 x0 (Hs.mk h32.hp h32.nx h32.nx) (fun x33 =>
 kCall R 24 [x33] (Hs.mk h32.hp h32.nx h32.nx) (fun v146 u147 => dPut (fun x34 h35 =>
 kLoads 4 x0 (dHidS .light [false, false, false] [some (h32.nx, h35.nx), none, none] h35) (fun x36 =>
 after (fun v144 u145 => dPut (fun x37 h38 =>
 kCall R 23 [x37] h38 (fun v142 u143 => dPut (fun x39 h40 =>
 isVal (fun v140 u141 => dPut (fun x41 h42 =>
 kLoads 4 x0 h42 (fun x43 =>
 kCall R 25 [x43, (Value.int .i64 (.ofNat 1))] h42 (fun x44 h45 =>
 after (fun x46 h47 =>
 kCall R 26 [x46] h47 (fun x48 h49 =>
 kCallV R x19 [x44, x48] h49 (fun x50 h51 =>
 kLoads 4 x0 h51 (fun x52 =>
 kCall R 25 [x52, (Value.int .i64 (.ofNat 2))] h51 (fun x53 h54 =>
 after (fun x55 h56 =>
 after (fun x57 h58 =>
 after (fun x59 h60 =>
 kCall R 26 [x59] h60 (fun x61 h62 =>
 kCallV R x19 [x53, x61] h62 (fun x63 h64 =>
 kLoads 4 x0 h64 (fun x65 =>
 kCall R 11 [x65] h64 (fun x66 h67 =>
 kExtr x66 0 (fun x68 =>
 kExtr x66 1 (fun x69 =>
 kFieldA 0 x0 (fun x70 =>
 kLoad x70 h67 (fun x71 =>
 kCall R 27 [x71] h67 (fun x72 h73 =>
 after (fun x74 h75 =>
 kStore1 x74 x72 h75 (fun x76 h77 =>
 kFieldA 0 x0 (fun x78 =>
 kLoad x78 h77 (fun x79 =>
 jn (fun (x81 x82 x83 x84 : Value) (h85 : Hs) =>
 kLoads 4 x0 h85 (fun x86 =>
 kCall R 29 [x86] h85 (fun x87 h88 =>
 kExtr x87 0 (fun x89 =>
 kExtr x87 1 (fun x90 =>
 kFieldA 0 x74 (fun x91 =>
 kLoad x91 h88 (fun x92 =>
 kCallV R x19 [x89, x92] h88 (fun x93 h94 =>
 kLoad x15 h94 (fun x95 =>
 clrK h (Value.tuple #[x95, (Value.int .i64 (.ofNat 0))]) h94))))))))) fun k80 =>
 lpT (T := Value → Value → Value → Value → Hs → An) (fun _ _ _ _ _ => none) N (fun k96 =>
 fun (x98 x99 x100 x101 : Value) (h102 : Hs) =>
 kI64 .lss x98 x79 (fun x103 =>
 jn (fun (h105 : Hs) =>
 jn (fun (x107 x108 : Value) (h109 : Hs) =>
 kI64 .add x98 (Value.int .i64 (.ofNat 1)) (fun x110 =>
 k96 x110 x103 x107 x108 h109)) fun k106 =>
 kI64 .lss x98 x68 (fun x111 =>
 gdF x111 h105 (fun k112 => k112 x98 h105) (fun x113 h114 =>
 gdF x111 h114 (fun k115 => k115 x68 h114) (fun x116 h117 =>
 gdF x111 h117 (fun k118 => k118 x69 h117) (fun x119 h120 =>
 gdF x111 h120 (fun k121 => kI64 .add x116 x119 (fun x122 => k121 x122 h120)) (fun x123 h124 =>
 gdF x111 h124 (fun k125 => kI64 .geq x113 x123 (fun x126 => k125 x126 h124)) (fun x127 h128 =>
 after (fun x129 h130 =>
 jn (fun (h132 : Hs) =>
 k106 x98 x129 h132) fun k131 =>
 cnd x129
 (kLoads 1 x74 h130 (fun x133 =>
 after (fun x134 h135 =>
 kCall R 28 [x133, (Value.bool true), x134] h135 (fun x136 h137 =>
 kStore1 x74 x136 h137 (fun x138 h139 =>
 k131 h139))) (oMkrow 3 1 1 [(Value.int .i64 (.ofNat 0))] [(0, 1, .c x98)] enE h130)))
 (k131 h130)) (pickB (.c (Value.bool true)) (.c x127) enE h128 x111)))))))) fun k104 =>
 cnd x103
 (k104 h102)
 (k80 x98 x103 x100 x101 h102))) (Value.int .i64 (.ofNat 0)) dunno dunno dunno h77)))) (oAlloc 40 [(Value.slice none 0 0)] enE h73))))))))))) (oBuild [(Value.int .i64 (.ofNat 0)), (Value.int .i64 (.ofNat 0)), (Value.int .i64 (.ofNat 0)), (Value.slice none 0 0)] [(0, 1, .c (Value.int .i64 (.ofNat 2))), (1, 1, .c (Value.int .i64 (.ofNat 1))), (2, 1, .c x25), (3, 1, .c x57)] enE h58)) (oMkrow 70 2 1 [(Value.int .i64 (.ofNat 0)), (Value.int .i64 (.ofNat 0))] [(0, 2, .c x55)] enE h56)) (oBuild [(Value.int .i64 (.ofNat 0)), (Value.int .i64 (.ofNat 0))] [(0, 1, .c x24), (1, 1, .c x25)] enE h54)))))) (oBuild [(Value.int .i64 (.ofNat 0)), (Value.int .i64 (.ofNat 0)), (Value.int .i64 (.ofNat 0)), (Value.slice none 0 0)] [(0, 1, .c (Value.int .i64 (.ofNat 2))), (1, 1, .c (Value.int .i64 (.ofNat 1)))] enE h45)))) v140 (dNext h40 u141 .bar) (andB (dFit h40 u141 .bar) (Nat.ble 0 u141.lo))) (callV (toRn R) [x34, x39] h40 x19)) v142 (dNext h38 u143 .bar) (andB (dFit h38 u143 .bar) (Nat.ble 0 u143.lo)))) v144 (dNext h35 u145 .blind) (andB (dFit h35 u145 .blind) (Nat.ble 0 u145.lo))) (oBuild [(Value.int .i64 (.ofNat 0)), (Value.int .i64 (.ofNat 0)), (Value.int .i64 (.ofNat 0)), (Value.int .i64 (.ofNat 0)), (Value.int .u64 (.ofNat 0))] [(0, 4, .c x36)] enE (Hs.mk .e h35.nx h35.nx)))) v146 (dNext h32 u147 .light) (andB (dFit h32 u147 .light) (Nat.ble 0 u147.lo))))))) (oBuild [(Value.int .i64 (.ofNat 0)), (Value.int .i64 (.ofNat 0)), (Value.int .i64 (.ofNat 0)), (Value.int .i64 (.ofNat 0)), (Value.int .u64 (.ofNat 0))] [(0, 4, .c x26)] enE h23))))))) (oMkfunc (.func 21) [] [.c x15] enE h18))) (oAlloc 26 [(Value.slice none 0 0)] enE h14)) (mkslice1 24 1 8 [(Value.int .u64 (.ofNat 0))] h9 (natOf x12) (natOf x12)))))) fun k6 =>
 cnd x5
 (clrK h (Value.tuple #[(Value.slice none 0 0), (Value.int .i64 (.ofNat 1))]) h4)
 (k6 (Value.slice none 0 0) (Value.int .i64 (.ofNat 0)) h4))))) (oBox 23 (.c a0) enE h0)

theorem q7 (R : RnK) (N : Nat) (args : List Value) (h : Hs) : r7 R N args h = callT Tryz.prog N R 7 args h := by kernel_rfl

/-- lintel/image.Open -/
noncomputable def r8 (R : RnK) (N : Nat) (args : List Value) (h : Hs) : An := unC args fun a0 sq0 => enK h fun h0 =>
 after (fun x0 h1 =>
 kCall R 30 [a0] h1 (fun x2 h3 =>
 kExtr x2 0 (fun x4 =>
 kExtr x2 1 (fun x5 =>
 kExtr x2 2 (fun x6 =>
 after (fun x7 h8 =>
 after (fun x9 h10 =>
 kNot x5 (fun x11 =>
 gdT x11 h10 (fun k12 => k12 x6 h10) (fun x13 h14 =>
 gdT x11 h14 (fun k15 => kNot x13 (fun x16 => k15 x16 h14)) (fun x17 h18 =>
 after (fun x19 h20 =>
 jn (fun (x22 : Value) (h23 : Hs) =>
 kFieldA 0 x7 (fun x24 =>
 kLoads 4 x24 (Hs.mk h23.hp h23.nx h23.nx) (fun x25 =>
 kCall R 31 [a0] (Hs.mk h23.hp h23.nx h23.nx) (fun v36 u37 => dPut (fun x26 h27 =>
 after (fun v34 u35 => dPut (fun x28 h29 =>
 after (fun v32 u33 => dPut (fun x30 h31 =>
 clearUp h (packR h31 (resV enE h31 [.cell (.c x0) 5 true, .t (.c (Value.int .i64 (.ofNat 0)))]))) v32 (dNext h29 u33 .bar) (andB (dFit h29 u33 .bar) (Nat.ble 0 u33.lo))) (store1 5 h29 (cellsL x28) (addrOf x0))) v34 (dNext h27 u35 .blind) (andB (dFit h27 u35 .blind) (Nat.ble 0 u35.lo))) (oBuild [(Value.int .i64 (.ofNat 0)), (Value.int .i64 (.ofNat 0)), (Value.int .i64 (.ofNat 0)), (Value.int .i64 (.ofNat 0)), (Value.slice none 0 0)] [(0, 4, .c x25), (4, 1, .c x26)] enE (Hs.mk .e h27.nx h27.nx))) v36 (dNext h23 u37 .light) (andB (dFit h23 u37 .light) (Nat.ble 0 u37.lo)))))) fun k21 =>
 cnd x19
 (after (fun x38 h39 =>
 after (fun x40 h41 =>
 clearUp h (packR h41 (resV enE h41 [.cell (.c x0) 5 true, .t (.c (Value.int .i64 (.ofNat 13)))]))) (store1 5 h39 (cellsL x38) (addrOf x0))) (oBuild [(Value.int .i64 (.ofNat 0)), (Value.int .i64 (.ofNat 0)), (Value.int .i64 (.ofNat 0)), (Value.int .i64 (.ofNat 0)), (Value.slice none 0 0)] [] enE h20))
 (k21 (Value.int .i64 (.ofNat 0)) h20)) (pickB (.c x17) (.c (Value.bool false)) enE h18 x11))))) (store1 5 h8 (cellsL x4) (addrOf x7))) (oAlloc 62 [(Value.int .i64 (.ofNat 0)), (Value.int .i64 (.ofNat 0)), (Value.int .i64 (.ofNat 0)), (Value.int .i64 (.ofNat 0)), (Value.int .u64 (.ofNat 0))] enE h3)))))) (oAlloc 31 [(Value.int .i64 (.ofNat 0)), (Value.int .i64 (.ofNat 0)), (Value.int .i64 (.ofNat 0)), (Value.int .i64 (.ofNat 0)), (Value.slice none 0 0)] enE h0)

theorem q8 (R : RnK) (N : Nat) (args : List Value) (h : Hs) : r8 R N args h = callT Tryz.prog N R 8 args h := by kernel_rfl

/-- lintel/lintellaw18.same -/
noncomputable def r9 (R : RnK) (N : Nat) (args : List Value) (h : Hs) : An := unC args fun a0 sq0 => unC sq0 fun a1 sq1 => enK h fun h0 =>
 kLenV a0 (fun x0 =>
 kLenV a1 (fun x1 =>
 kI64 .neq x0 x1 (fun x2 =>
 jn (fun (x4 : Value) (h5 : Hs) =>
 jn (fun (x7 x8 x9 x10 : Value) (h11 : Hs) =>
 clrK h (Value.bool true) h11) fun k6 =>
 lpT (T := Value → Value → Value → Value → Hs → An) (fun _ _ _ _ _ => none) N (fun k12 =>
 fun (x14 x15 x16 x17 : Value) (h18 : Hs) =>
 kLenV a0 (fun x19 =>
 kI64 .lss x14 x19 (fun x20 =>
 jn (fun (h22 : Hs) =>
 jn (fun (x24 x25 : Value) (h26 : Hs) =>
 kI64 .add x14 (Value.int .i64 (.ofNat 1)) (fun x27 =>
 k12 x27 x20 x24 x25 h26)) fun k23 =>
 kIdxA 1 a0 x14 (fun x28 =>
 kLoad x28 (Hs.mk h22.hp h22.nx h22.nx) (fun x29 =>
 kIdxA 1 a1 x14 (fun x30 =>
 kLoad x30 (Hs.mk h22.hp h22.nx h22.nx) (fun x31 =>
 kU64 .neq x29 x31 (fun x32 =>
 jn (fun (x34 : Value) (h35 : Hs) =>
 k23 x32 x34 h35) fun k33 =>
 cnd x32
 (clrK h (Value.bool false) h22)
 (k33 x17 h22))))))) fun k21 =>
 cnd x20
 (k21 h18)
 (k6 x14 x20 x16 x17 h18)))) (Value.int .i64 (.ofNat 0)) dunno dunno x4 h5) fun k3 =>
 cnd x2
 (clrK h (Value.bool false) h0)
 (k3 (Value.bool false) h0))))

theorem q9 (R : RnK) (N : Nat) (args : List Value) (h : Hs) : r9 R N args h = callT Tryz.prog N R 9 args h := by kernel_rfl

/-- lintel/geom.Good -/
noncomputable def r10 (R : RnK) (N : Nat) (args : List Value) (h : Hs) : An := unC args fun a0 sq0 => enK h fun h0 =>
 after (fun x0 h1 =>
 kFieldA 0 x0 (fun x2 =>
 kLoad x2 h1 (fun x3 =>
 kCall R 32 [x3, (Value.int .i64 (.ofNat 64)), (Value.int .i64 (.ofNat 1024))] h1 (fun x4 h5 =>
 kNot x4 (fun x6 =>
 gdF x6 h5 (fun k7 => kFieldA 1 x0 (fun x8 => k7 x8 h5)) (fun x9 h10 =>
 gdF x6 h10 (fun k11 => kLoad x9 h10 (fun x12 => k11 x12 h10)) (fun x13 h14 =>
 gdF x6 h14 (fun k15 => kCall R 32 [x13, (Value.int .i64 (.ofNat 4)), (Value.int .i64 (.ofNat 64))] h14 (k15)) (fun x16 h17 =>
 gdF x6 h17 (fun k18 => kNot x16 (fun x19 => k18 x19 h17)) (fun x20 h21 =>
 after (fun x22 h23 =>
 gdF x22 h23 (fun k24 => kFieldA 2 x0 (fun x25 => k24 x25 h23)) (fun x26 h27 =>
 gdF x22 h27 (fun k28 => kLoad x26 h27 (fun x29 => k28 x29 h27)) (fun x30 h31 =>
 gdF x22 h31 (fun k32 => kCall R 32 [x30, (Value.int .i64 (.ofNat 1)), (Value.int .i64 (.ofNat 8))] h31 (k32)) (fun x33 h34 =>
 gdF x22 h34 (fun k35 => kNot x33 (fun x36 => k35 x36 h34)) (fun x37 h38 =>
 after (fun x39 h40 =>
 gdF x39 h40 (fun k41 => kFieldA 3 x0 (fun x42 => k41 x42 h40)) (fun x43 h44 =>
 gdF x39 h44 (fun k45 => kLoad x43 h44 (fun x46 => k45 x46 h44)) (fun x47 h48 =>
 gdF x39 h48 (fun k49 => kCall R 32 [x47, (Value.int .i64 (.ofNat 16)), (Value.int .i64 (.ofNat 110))] h48 (k49)) (fun x50 h51 =>
 gdF x39 h51 (fun k52 => kNot x50 (fun x53 => k52 x53 h51)) (fun x54 h55 =>
 after (fun x56 h57 =>
 jn (fun (x59 : Value) (h60 : Hs) =>
 kLoads 4 x0 h60 (fun x61 =>
 kCall R 33 [x61] h60 (fun x62 h63 =>
 kExtr x62 0 (fun x64 =>
 kExtr x62 1 (fun x65 =>
 kI64 .geq x65 (Value.int .i64 (.ofNat 1)) (fun x66 =>
 clrK h x66 h63)))))) fun k58 =>
 cnd x56
 (clrK h (Value.bool false) h57)
 (k58 (Value.bool false) h57)) (pickB (.c (Value.bool true)) (.c x54) enE h55 x39)))))) (pickB (.c (Value.bool true)) (.c x37) enE h38 x22)))))) (pickB (.c (Value.bool true)) (.c x20) enE h21 x6)))))))))) (oBox 23 (.c a0) enE h0)

theorem q10 (R : RnK) (N : Nat) (args : List Value) (h : Hs) : r10 R N args h = callT Tryz.prog N R 10 args h := by kernel_rfl

/-- lintel/geom.Data -/
noncomputable def r11 (R : RnK) (N : Nat) (args : List Value) (h : Hs) : An := unC args fun a0 sq0 => enK h fun h0 =>
 after (fun x0 h1 =>
 kLoads 4 x0 h1 (fun x2 =>
 kCall R 10 [x2] h1 (fun x3 h4 =>
 kNot x3 (fun x5 =>
 jn (fun (x7 x8 : Value) (h9 : Hs) =>
 kLoads 4 x0 h9 (fun x10 =>
 kCall R 33 [x10] h9 (fun x11 h12 =>
 kExtr x11 0 (fun x13 =>
 kExtr x11 1 (fun x14 =>
 clrK h (Value.tuple #[x13, x14]) h12))))) fun k6 =>
 cnd x5
 (clrK h (Value.tuple #[(Value.int .i64 (.ofNat 0)), (Value.int .i64 (.ofNat 0))]) h4)
 (k6 (Value.int .i64 (.ofNat 0)) (Value.int .i64 (.ofNat 0)) h4))))) (oBox 23 (.c a0) enE h0)

theorem q11 (R : RnK) (N : Nat) (args : List Value) (h : Hs) : r11 R N args h = callT Tryz.prog N R 11 args h := by kernel_rfl

/-- (lintel/image.Image).Tree -/
noncomputable def r16 (R : RnK) (N : Nat) (args : List Value) (h : Hs) : An := unC args fun a0 sq0 => enK h fun h0 =>
 after (fun x0 h1 =>
 jn (fun (x3 x4 x5 x6 x7 x8 x9 x10 x11 x12 x13 x14 x15 x16 x17 x18 : Value) (h19 : Hs) =>
 kFieldA 0 x0 (fun x20 =>
 kFieldA 1 x20 (fun x21 =>
 kLoad x21 h19 (fun x22 =>
 kCall R 47 [x22, x16] h19 (fun x23 h24 =>
 kExtr x23 0 (fun x25 =>
 kExtr x23 1 (fun x26 =>
 kI64 .neq x26 (Value.int .i64 (.ofNat 0)) (fun x27 =>
 jn (fun (x29 x30 : Value) (h31 : Hs) =>
 clrK h (Value.tuple #[x25, (Value.int .i64 (.ofNat 0))]) h31) fun k28 =>
 cnd x27
 (clrK h (Value.tuple #[(Value.pointer none), (Value.int .i64 (.ofNat 13))]) h24)
 (k28 x17 x18 h24))))))))) fun k2 =>
 lpT (T := Value → Value → Value → Value → Value → Value → Value → Value → Value → Value → Value → Value → Value → Value → Value → Value → Hs → An) (fun _ _ _ _ _ _ _ _ _ _ _ _ _ _ _ _ _ => none) N (fun k32 =>
 fun (x34 x35 x36 x37 x38 x39 x40 x41 x42 x43 x44 x45 x46 x47 x48 x49 : Value) (h50 : Hs) =>
 kFieldA 0 x0 (fun x51 =>
 kFieldA 1 x51 (fun x52 =>
 kLoad x52 h50 (fun x53 =>
 kI64 .leq x34 x53 (fun x54 =>
 jn (fun (h56 : Hs) =>
 jn (fun (x58 x59 x60 x61 x62 x63 x64 x65 x66 x67 x68 x69 x70 x71 : Value) (h72 : Hs) =>
 kI64 .add x34 (Value.int .i64 (.ofNat 1)) (fun x73 =>
 k32 x73 x54 x58 x59 x60 x61 x62 x63 x64 x65 x66 x67 x68 x69 x70 x71 h72)) fun k57 =>
 kLoads 5 x0 h56 (fun x74 =>
 kCall R 44 [x74, x34] h56 (fun x75 h76 =>
 kExtr x75 0 (fun x77 =>
 kExtr x75 1 (fun x78 =>
 after (fun x79 h80 =>
 after (fun x81 h82 =>
 kNot x78 (fun x83 =>
 jn (fun (x85 x86 : Value) (h87 : Hs) =>
 kFieldA 0 x79 (fun x88 =>
 kLoad x88 h87 (fun x89 =>
 kI64 .eql x89 (Value.int .i64 (.ofNat 0)) (fun x90 =>
 jn (fun (h92 : Hs) =>
 kFieldA 0 x79 (fun x93 =>
 kLoad x93 (Hs.mk h92.hp h92.nx h92.nx) (fun x94 =>
 kLoads 5 x0 (Hs.mk h92.hp h92.nx h92.nx) (fun x95 =>
 kCall R 45 [x95, x34] (Hs.mk h92.hp h92.nx h92.nx) (fun v166 u167 => dPut (fun x96 h97 =>
 after (fun v164 u165 => dPut (fun x98 h99 =>
 after (fun v162 u163 => dPut (fun x100 h101 =>
 after (fun v160 u161 => dPut (fun x102 h103 =>
 kLoads 5 x0 h103 (fun x104 =>
 kCall R 46 [x104, x34] h103 (fun x105 h106 =>
 kLenV x105 (fun x107 =>
 jn (fun (x109 x110 x111 x112 : Value) (h113 : Hs) =>
 kLoads 4 x100 h113 (fun x114 =>
 after (fun x115 h116 =>
 after (fun x117 h118 =>
 k57 x78 x83 x79 x90 x109 x107 x110 x105 x111 x112 x100 x117 x85 x86 h118) (app0 98 4 64 h116 x47 x115)) (oMkrow 98 4 1 [(Value.int .i64 (.ofNat 0)), (Value.int .i64 (.ofNat 0)), (Value.slice none 0 0), (Value.slice none 0 0)] [(0, 4, .c x114)] enE h113))) fun k108 =>
 lpT (T := Value → Value → Value → Value → Hs → An) (fun _ _ _ _ _ => none) N (fun k119 =>
 fun (x121 x122 x123 x124 : Value) (h125 : Hs) =>
 kI64 .lss x121 x107 (fun x126 =>
 jn (fun (h128 : Hs) =>
 jn (fun (x130 x131 : Value) (h132 : Hs) =>
 kI64 .add x121 (Value.int .i64 (.ofNat 1)) (fun x133 =>
 k119 x133 x126 x130 x131 h132)) fun k129 =>
 kIdxA 2 x105 x121 (fun x134 =>
 kLoads 2 x134 h128 (fun x135 =>
 after (fun x136 h137 =>
 after (fun x138 h139 =>
 kFieldA 0 x136 (fun x140 =>
 kLoad x140 h139 (fun x141 =>
 kI64 .neq x141 (Value.int .i64 (.ofNat 0)) (fun x142 =>
 jn (fun (h144 : Hs) =>
 k129 x136 x142 h144) fun k143 =>
 cnd x142
 (kFieldA 3 x100 (fun x145 =>
 kLoad x145 h139 (fun x146 =>
 kFieldA 1 x136 (fun x147 =>
 kLoad x147 h139 (fun x148 =>
 kFieldA 0 x136 (fun x149 =>
 kLoad x149 h139 (fun x150 =>
 after (fun x151 h152 =>
 after (fun x153 h154 =>
 after (fun x155 h156 =>
 kFieldA 3 x100 (fun x157 =>
 kStore1 x157 x155 h156 (fun x158 h159 =>
 k143 h159))) (app0 104 2 24 h154 x146 x153)) (oMkrow 104 2 1 [(Value.string ⟨#[]⟩), (Value.int .i64 (.ofNat 0))] [(0, 2, .c x151)] enE h152)) (oBuild [(Value.string ⟨#[]⟩), (Value.int .i64 (.ofNat 0))] [(0, 1, .c x148), (1, 1, .c x150)] enE h139))))))))
 (k143 h139))))) (store1 2 h137 (cellsL x135) (addrOf x136))) (oAlloc 102 [(Value.int .i64 (.ofNat 0)), (Value.string ⟨#[]⟩)] enE h128)))) fun k127 =>
 cnd x126
 (k127 h125)
 (k108 x121 x126 x123 x124 h125))) (Value.int .i64 (.ofNat 0)) x42 x44 x45 h106)))) v160 (dNext h101 u161 .bar) (andB (dFit h101 u161 .bar) (Nat.ble 0 u161.lo))) (store1 4 h101 (cellsL x98) (addrOf x100))) v162 (dNext h99 u163 .make) (andB (dFit h99 u163 .make) (Nat.ble 0 u163.lo))) (oAlloc 98 [(Value.int .i64 (.ofNat 0)), (Value.int .i64 (.ofNat 0)), (Value.slice none 0 0), (Value.slice none 0 0)] enE (Hs.mk .e h99.nx h99.nx))) v164 (dNext h97 u165 .blind) (andB (dFit h97 u165 .blind) (Nat.ble 0 u165.lo))) (oBuild [(Value.int .i64 (.ofNat 0)), (Value.int .i64 (.ofNat 0)), (Value.slice none 0 0), (Value.slice none 0 0)] [(0, 1, .c x34), (1, 1, .c x94), (2, 1, .c x96)] enE (Hs.mk .e h97.nx h97.nx))) v166 (dNext h92 u167 .light) (andB (dFit h92 u167 .light) (Nat.ble 0 u167.lo))))))) fun k91 =>
 cnd x90
 (k57 x78 x83 x79 x90 x40 x41 x42 x43 x44 x45 x46 x47 x85 x86 h87)
 (k91 h87))))) fun k84 =>
 cnd x83
 (clrK h (Value.tuple #[(Value.pointer none), (Value.int .i64 (.ofNat 13))]) h82)
 (k84 x48 x49 h82))) (store1 4 h80 (cellsL x77) (addrOf x79))) (oAlloc 68 [(Value.int .i64 (.ofNat 0)), (Value.int .i64 (.ofNat 0)), (Value.int .i64 (.ofNat 0)), (Value.slice none 0 0)] enE h76)))))) fun k55 =>
 cnd x54
 (k55 h50)
 (k2 x34 x54 x36 x37 x38 x39 x40 x41 x42 x43 x44 x45 x46 x47 x48 x49 h50)))))) (Value.int .i64 (.ofNat 1)) dunno dunno dunno dunno dunno dunno dunno dunno dunno dunno dunno dunno (Value.slice none 0 0) (Value.pointer none) (Value.int .i64 (.ofNat 0)) h1) (oBox 31 (.c a0) enE h0)

theorem q16 (R : RnK) (N : Nat) (args : List Value) (h : Hs) : r16 R N args h = callT Tryz.prog N R 16 args h := by kernel_rfl

/-- lintel/geom.Plain -/
noncomputable def r19 (R : RnK) (N : Nat) (args : List Value) (h : Hs) : An := unC args fun a0 sq0 => enK h fun h0 =>
 after (fun x0 h1 =>
 after (fun x2 h3 =>
 after (fun x4 h5 =>
 clearUp h (packR h5 (resV enE h5 [.cell (.c x0) 4 true]))) (store1 4 h3 (cellsL x2) (addrOf x0))) (oBuild [(Value.int .i64 (.ofNat 0)), (Value.int .i64 (.ofNat 0)), (Value.int .i64 (.ofNat 0)), (Value.int .i64 (.ofNat 0))] [(0, 1, .c a0), (1, 1, .c (Value.int .i64 (.ofNat 10))), (2, 1, .c (Value.int .i64 (.ofNat 1))), (3, 1, .c (Value.int .i64 (.ofNat 20)))] enE h1)) (oAlloc 23 [(Value.int .i64 (.ofNat 0)), (Value.int .i64 (.ofNat 0)), (Value.int .i64 (.ofNat 0)), (Value.int .i64 (.ofNat 0))] enE h0)

theorem q19 (R : RnK) (N : Nat) (args : List Value) (h : Hs) : r19 R N args h = callT Tryz.prog N R 19 args h := by kernel_rfl

/-- (*lintel/tree.Tree).Parts -/
noncomputable def r20 (R : RnK) (N : Nat) (args : List Value) (h : Hs) : An := unC args fun a0 sq0 => enK h fun h0 =>
 kNil a0 (fun x0 =>
 kFieldA 1 x0 (fun x1 =>
 kLoad x1 h0 (fun x2 =>
 kCall R 53 [x2] h0 (fun x3 h4 =>
 kCall R 52 [x3] h4 (fun x5 h6 =>
 kLenV x5 (fun x7 =>
 jn (fun (x9 x10 x11 x12 x13 x14 x15 x16 x17 x18 x19 : Value) (h20 : Hs) =>
 clrK h x19 h20) fun k8 =>
 lpT (T := Value → Value → Value → Value → Value → Value → Value → Value → Value → Value → Value → Hs → An) (fun _ _ _ _ _ _ _ _ _ _ _ _ => none) N (fun k21 =>
 fun (x23 x24 x25 x26 x27 x28 x29 x30 x31 x32 x33 : Value) (h34 : Hs) =>
 kI64 .lss x23 x7 (fun x35 =>
 jn (fun (h37 : Hs) =>
 jn (fun (x39 x40 x41 x42 x43 x44 x45 x46 x47 : Value) (h48 : Hs) =>
 kI64 .add x23 (Value.int .i64 (.ofNat 1)) (fun x49 =>
 k21 x49 x35 x39 x40 x41 x42 x43 x44 x45 x46 x47 h48)) fun k38 =>
 kIdxA 1 x5 x23 (fun x50 =>
 kLoad x50 h37 (fun x51 =>
 kNil a0 (fun x52 =>
 kFieldA 1 x52 (fun x53 =>
 kLoad x53 h37 (fun x54 =>
 after (fun x55 h56 =>
 kNil x55 (fun x57 =>
 kFieldA 0 x57 (fun x58 =>
 kLoad x58 (Hs.mk h56.hp h56.nx h56.nx) (fun x59 =>
 kNil x55 (fun x60 =>
 kFieldA 1 x60 (fun x61 =>
 kLoad x61 (Hs.mk h56.hp h56.nx h56.nx) (fun x62 =>
 kCall R 54 [x62] (Hs.mk h56.hp h56.nx h56.nx) (fun v136 u137 => dPut (fun x63 h64 =>
 after (fun v134 u135 => dPut (fun x65 h66 =>
 after (fun v132 u133 => dPut (fun x67 h68 =>
 after (fun v130 u131 => dPut (fun x69 h70 =>
 kNil x55 (fun x71 =>
 kFieldA 2 x71 (fun x72 =>
 kLoad x72 h70 (fun x73 =>
 kCall R 56 [x73] h70 (fun x74 h75 =>
 kCall R 55 [x74] h75 (fun x76 h77 =>
 kLenV x76 (fun x78 =>
 jn (fun (x80 x81 x82 : Value) (h83 : Hs) =>
 kLoads 4 x67 h83 (fun x84 =>
 after (fun x85 h86 =>
 after (fun x87 h88 =>
 k38 x51 x55 x80 x78 x81 x76 x67 x82 x87 h88) (app0 98 4 64 h86 x33 x85)) (oMkrow 98 4 1 [(Value.int .i64 (.ofNat 0)), (Value.int .i64 (.ofNat 0)), (Value.slice none 0 0), (Value.slice none 0 0)] [(0, 4, .c x84)] enE h83))) fun k79 =>
 lpT (T := Value → Value → Value → Hs → An) (fun _ _ _ _ => none) N (fun k89 =>
 fun (x91 x92 x93 : Value) (h94 : Hs) =>
 kI64 .lss x91 x78 (fun x95 =>
 jn (fun (h97 : Hs) =>
 jn (fun (x99 : Value) (h100 : Hs) =>
 kI64 .add x91 (Value.int .i64 (.ofNat 1)) (fun x101 =>
 k89 x101 x95 x99 h100)) fun k98 =>
 kIdxA 1 x76 x91 (fun x102 =>
 kLoad x102 h97 (fun x103 =>
 kFieldA 3 x67 (fun x104 =>
 kLoad x104 (Hs.mk h97.hp h97.nx h97.nx) (fun x105 =>
 kNil x55 (fun x106 =>
 kFieldA 2 x106 (fun x107 =>
 kLoad x107 (Hs.mk h97.hp h97.nx h97.nx) (fun x108 =>
 after (fun v128 u129 => dPut (fun x109 h110 =>
 after (fun v126 u127 => dPut (fun x111 h112 =>
 after (fun v124 u125 => dPut (fun x113 h114 =>
 after (fun v122 u123 => dPut (fun x115 h116 =>
 kFieldA 3 x67 (fun x117 =>
 kStore1 x117 x115 h116 (fun v120 u121 => dPut (fun x118 h119 =>
 k98 x103 h119) v120 (dNext h116 u121 .bar) (andB (dFit h116 u121 .bar) (Nat.ble 0 u121.lo))))) v122 (dNext h114 u123 .bar) (andB (dFit h114 u123 .bar) (Nat.ble 0 u123.lo))) (app0 104 2 24 h114 x105 x113)) v124 (dNext h112 u125 .light) (andB (dFit h112 u125 .light) (Nat.ble 0 u125.lo))) (oMkrow 104 2 1 [(Value.string ⟨#[]⟩), (Value.int .i64 (.ofNat 0))] [(0, 2, .c x111)] enE (dHidS .light [true, true, true, true, true, true, true, true, false, false] [some (h110.nx, h112.nx), some (h97.nx, h110.nx), none, none, none, none, none, none, none, none] h112))) v126 (dNext h110 u127 .blind) (andB (dFit h110 u127 .blind) (Nat.ble 0 u127.lo))) (oBuild [(Value.string ⟨#[]⟩), (Value.int .i64 (.ofNat 0))] [(0, 1, .c x103), (1, 1, .c x109)] enE (Hs.mk .e h110.nx h110.nx))) v128 (dNext h97 u129 .light) (andB (dFit h97 u129 .light) (Nat.ble 0 u129.lo))) (ret1 (Hs.mk h97.hp h97.nx h97.nx) (lk1 false (Hs.mk h97.hp h97.nx h97.nx) (Value.int .i64 (.ofNat 0)) false x103 x108)))))))))) fun k96 =>
 cnd x95
 (k96 h94)
 (k79 x91 x95 x93 h94))) (Value.int .i64 (.ofNat 0)) x29 x32 h77))))))) v130 (dNext h68 u131 .bar) (andB (dFit h68 u131 .bar) (Nat.ble 0 u131.lo))) (store1 4 h68 (cellsL x65) (addrOf x67))) v132 (dNext h66 u133 .make) (andB (dFit h66 u133 .make) (Nat.ble 0 u133.lo))) (oAlloc 98 [(Value.int .i64 (.ofNat 0)), (Value.int .i64 (.ofNat 0)), (Value.slice none 0 0), (Value.slice none 0 0)] enE (Hs.mk .e h66.nx h66.nx))) v134 (dNext h64 u135 .blind) (andB (dFit h64 u135 .blind) (Nat.ble 0 u135.lo))) (oBuild [(Value.int .i64 (.ofNat 0)), (Value.int .i64 (.ofNat 0)), (Value.slice none 0 0), (Value.slice none 0 0)] [(0, 1, .c x51), (1, 1, .c x59), (2, 1, .c x63)] enE (Hs.mk .e h64.nx h64.nx))) v136 (dNext h56 u137 .light) (andB (dFit h56 u137 .light) (Nat.ble 0 u137.lo)))))))))) (ret1 h37 (lk1 true h37 (Value.pointer none) false x51 x54)))))))) fun k36 =>
 cnd x35
 (k36 h34)
 (k8 x23 x35 x25 x26 x27 x28 x29 x30 x31 x32 x33 h34))) (Value.int .i64 (.ofNat 0)) dunno dunno dunno dunno dunno dunno dunno dunno dunno (Value.slice none 0 0) h6))))))

theorem q20 (R : RnK) (N : Nat) (args : List Value) (h : Hs) : r20 R N args h = callT Tryz.prog N R 20 args h := by kernel_rfl

/-- lintel/image.Make$1 -/
noncomputable def r21 (R : RnK) (N : Nat) (args : List Value) (h : Hs) : An := unC args fun a0 sq0 => unC sq0 fun a1 sq1 => unC sq1 fun a2 sq2 => enK h fun h0 =>
 kLoad a2 h0 (fun x0 =>
 kI64 .mul (Value.int .i64 (.ofNat 8)) a0 (fun x1 =>
 after (fun x2 h3 =>
 after (fun x4 h5 =>
 clrK h (Value.tuple #[]) h5) (copy0 1 h3 x2 a1)) (oSlice 1 (.c x0) (some (.c x1)) none none enE h0)))

theorem q21 (R : RnK) (N : Nat) (args : List Value) (h : Hs) : r21 R N args h = callT Tryz.prog N R 21 args h := by kernel_rfl

/-- lintel/geom.Lost -/
noncomputable def r22 (R : RnK) (N : Nat) (args : List Value) (h : Hs) : An := unC args fun a0 sq0 => enK h fun h0 =>
 after (fun x0 h1 =>
 kLoads 4 x0 h1 (fun x2 =>
 kCall R 10 [x2] h1 (fun x3 h4 =>
 kNot x3 (fun x5 =>
 jn (fun (x7 x8 : Value) (h9 : Hs) =>
 kLoads 4 x0 (Hs.mk h9.hp h9.nx h9.nx) (fun x10 =>
 kFieldA 1 x0 (fun x11 =>
 kLoad x11 (Hs.mk h9.hp h9.nx h9.nx) (fun x12 =>
 kCall R 25 [x10, x12] (Hs.mk h9.hp h9.nx h9.nx) (fun v18 u19 => dPut (fun x13 h14 =>
 kI64 .add x13 (Value.int .i64 (.ofNat 1)) (fun x15 =>
 kFieldA 1 x0 (fun x16 =>
 kLoad x16 (dHidS .light [true, false, false, false, false, false] [none, none, some (h9.nx, h14.nx), none, none, none] h14) (fun x17 =>
 clrK h (Value.tuple #[x15, x17]) h14)))) v18 (dNext h9 u19 .light) (andB (dFit h9 u19 .light) (Nat.ble 0 u19.lo))))))) fun k6 =>
 cnd x5
 (clrK h (Value.tuple #[(Value.int .i64 (.ofNat 0)), (Value.int .i64 (.ofNat 0))]) h4)
 (k6 (Value.int .i64 (.ofNat 0)) (Value.int .i64 (.ofNat 0)) h4))))) (oBox 23 (.c a0) enE h0)

theorem q22 (R : RnK) (N : Nat) (args : List Value) (h : Hs) : r22 R N args h = callT Tryz.prog N R 22 args h := by kernel_rfl

/-- lintel/head.Put -/
noncomputable def r23 (R : RnK) (N : Nat) (args : List Value) (h : Hs) : An := unC args fun a0 sq0 => enK h fun h0 =>
 after (fun x0 h1 =>
 kFieldA 0 x0 (fun x2 =>
 kLoads 4 x2 h1 (fun x3 =>
 kCall R 10 [x3] h1 (fun x4 h5 =>
 kNot x4 (fun x6 =>
 jn (fun (x8 : Value) (h9 : Hs) =>
 kFieldA 0 x0 (fun x10 =>
 kFieldA 0 x10 (fun x11 =>
 kLoad x11 h9 (fun x12 =>
 kToU x12 (fun x13 =>
 kFieldA 0 x0 (fun x14 =>
 kFieldA 1 x14 (fun x15 =>
 kLoad x15 h9 (fun x16 =>
 kToU x16 (fun x17 =>
 kFieldA 0 x0 (fun x18 =>
 kFieldA 2 x18 (fun x19 =>
 kLoad x19 h9 (fun x20 =>
 kToU x20 (fun x21 =>
 kFieldA 0 x0 (fun x22 =>
 kFieldA 3 x22 (fun x23 =>
 kLoad x23 h9 (fun x24 =>
 kToU x24 (fun x25 =>
 after (fun x26 h27 =>
 kFieldA 4 x0 (fun x28 =>
 kLoad x28 (Hs.mk h27.hp h27.nx h27.nx) (fun x29 =>
 kCall R 57 [x26] (Hs.mk h27.hp h27.nx h27.nx) (fun v40 u41 => dPut (fun x30 h31 =>
 after (fun v38 u39 => dPut (fun x32 h33 =>
 after (fun v36 u37 => dPut (fun x34 h35 =>
 clrK h x34 h35) v36 (dNext h33 u37 .bar) (andB (dFit h33 u37 .bar) (Nat.ble 0 u37.lo))) (app0 24 1 8 h33 x26 x32)) v38 (dNext h31 u39 .bar) (andB (dFit h31 u39 .bar) (Nat.ble 0 u39.lo))) (oMkrow 24 1 2 [(Value.int .u64 (.ofNat 0))] [(0, 1, .c x29), (1, 1, .c x30)] enE h31)) v40 (dNext h27 u41 .light) (andB (dFit h27 u41 .light) (Nat.ble 0 u41.lo)))))) (oMkrow 24 1 6 [(Value.int .u64 (.ofNat 0))] [(0, 1, .c (Value.int .u64 (.ofNat 5497010944029229057))), (1, 1, .c x13), (2, 1, .c x17), (3, 1, .c x21), (4, 1, .c x25), (5, 1, .c (Value.int .u64 (.ofNat 0)))] enE h9)))))))))))))))))) fun k7 =>
 cnd x6
 (clrK h (Value.slice none 0 0) h5)
 (k7 (Value.slice none 0 0) h5)))))) (oBox 62 (.c a0) enE h0)

theorem q23 (R : RnK) (N : Nat) (args : List Value) (h : Hs) : r23 R N args h = callT Tryz.prog N R 23 args h := by kernel_rfl

/-- lintel/geom.Back -/
noncomputable def r24 (R : RnK) (N : Nat) (args : List Value) (h : Hs) : An := unC args fun a0 sq0 => enK h fun h0 =>
 after (fun x0 h1 =>
 kLoads 4 x0 h1 (fun x2 =>
 kCall R 10 [x2] h1 (fun x3 h4 =>
 kNot x3 (fun x5 =>
 jn (fun (x7 : Value) (h8 : Hs) =>
 kFieldA 0 x0 (fun x9 =>
 kLoad x9 h8 (fun x10 =>
 kI64 .sub x10 (Value.int .i64 (.ofNat 1)) (fun x11 =>
 clrK h x11 h8)))) fun k6 =>
 cnd x5
 (clrK h (Value.int .i64 (.ofNat 0)) h4)
 (k6 (Value.int .i64 (.ofNat 0)) h4))))) (oBox 23 (.c a0) enE h0)

theorem q24 (R : RnK) (N : Nat) (args : List Value) (h : Hs) : r24 R N args h = callT Tryz.prog N R 24 args h := by kernel_rfl

/-- lintel/geom.Node -/
noncomputable def r25 (R : RnK) (N : Nat) (args : List Value) (h : Hs) : An := unC args fun a0 sq0 => unC sq0 fun a1 sq1 => enK h fun h0 =>
 after (fun x0 h1 =>
 kLoads 4 x0 h1 (fun x2 =>
 kCall R 10 [x2] h1 (fun x3 h4 =>
 kNot x3 (fun x5 =>
 gdF x5 h4 (fun k6 => k6 a1 h4) (fun x7 h8 =>
 gdF x5 h8 (fun k9 => kFieldA 1 x0 (fun x10 => k9 x10 h8)) (fun x11 h12 =>
 gdF x5 h12 (fun k13 => kLoad x11 h12 (fun x14 => k13 x14 h12)) (fun x15 h16 =>
 gdF x5 h16 (fun k17 => kCall R 32 [x7, (Value.int .i64 (.ofNat 1)), x15] h16 (k17)) (fun x18 h19 =>
 gdF x5 h19 (fun k20 => kNot x18 (fun x21 => k20 x21 h19)) (fun x22 h23 =>
 after (fun x24 h25 =>
 jn (fun (x27 : Value) (h28 : Hs) =>
 kLoads 4 x0 h28 (fun x29 =>
 kCall R 58 [x29] h28 (fun x30 h31 =>
 kExtr x30 0 (fun x32 =>
 kExtr x30 1 (fun x33 =>
 kI64 .add x32 x33 (fun x34 =>
 kI64 .add x34 a1 (fun x35 =>
 kI64 .sub x35 (Value.int .i64 (.ofNat 1)) (fun x36 =>
 clrK h x36 h31)))))))) fun k26 =>
 cnd x24
 (clrK h (Value.int .i64 (.ofNat 0)) h25)
 (k26 (Value.int .i64 (.ofNat 0)) h25)) (pickB (.c (Value.bool true)) (.c x22) enE h23 x5)))))))))) (oBox 23 (.c a0) enE h0)

theorem q25 (R : RnK) (N : Nat) (args : List Value) (h : Hs) : r25 R N args h = callT Tryz.prog N R 25 args h := by kernel_rfl

/-- lintel/node.Put -/
noncomputable def r26 (R : RnK) (N : Nat) (args : List Value) (h : Hs) : An := unC args fun a0 sq0 => enK h fun h0 =>
 after (fun x0 h1 =>
 kLoads 4 x0 h1 (fun x2 =>
 kCall R 59 [x2] h1 (fun x3 h4 =>
 kNot x3 (fun x5 =>
 jn (fun (x7 : Value) (h8 : Hs) =>
 after (fun x9 h10 =>
 kFieldA 0 x0 (fun x11 =>
 kLoad x11 h10 (fun x12 =>
 kI64 .eql x12 (Value.int .i64 (.ofNat 0)) (fun x13 =>
 jn (fun (x15 : Value) (h16 : Hs) =>
 kFieldA 0 x0 (fun x17 =>
 kLoad x17 h16 (fun x18 =>
 kToU x18 (fun x19 =>
 kFieldA 1 x0 (fun x20 =>
 kLoad x20 h16 (fun x21 =>
 kToU x21 (fun x22 =>
 kShl x22 (Value.int .u64 (.ofNat 8)) (fun x23 =>
 kU64 .or x19 x23 (fun x24 =>
 kIdxA 1 x9 (Value.int .i64 (.ofNat 0)) (fun x25 =>
 kStore1 x25 x24 h16 (fun x26 h27 =>
 kFieldA 2 x0 (fun x28 =>
 kLoad x28 h27 (fun x29 =>
 kToU x29 (fun x30 =>
 kIdxA 1 x9 (Value.int .i64 (.ofNat 1)) (fun x31 =>
 kStore1 x31 x30 h27 (fun x32 h33 =>
 kFieldA 3 x0 (fun x34 =>
 kLoad x34 h33 (fun x35 =>
 kLenV x35 (fun x36 =>
 jn (fun (x38 x39 x40 x41 : Value) (h42 : Hs) =>
 after (fun x43 h44 =>
 kCall R 57 [x43] h44 (fun x45 h46 =>
 kIdxA 1 x9 (Value.int .i64 (.ofNat 7)) (fun x47 =>
 kStore1 x47 x45 h46 (fun x48 h49 =>
 clrK h x9 h49)))) (oSlice 1 (.c x9) none (some (.c (Value.int .i64 (.ofNat 7)))) none enE h42)) fun k37 =>
 lpT (T := Value → Value → Value → Value → Hs → An) (fun _ _ _ _ _ => none) N (fun k50 =>
 fun (x52 x53 x54 x55 : Value) (h56 : Hs) =>
 kI64 .lss x52 x36 (fun x57 =>
 jn (fun (h59 : Hs) =>
 jn (fun (x61 x62 : Value) (h63 : Hs) =>
 kI64 .add x52 (Value.int .i64 (.ofNat 1)) (fun x64 =>
 k50 x64 x57 x61 x62 h63)) fun k60 =>
 kIdxA 2 x35 x52 (fun x65 =>
 kLoads 2 x65 h59 (fun x66 =>
 after (fun x67 h68 =>
 after (fun x69 h70 =>
 kI64 .add (Value.int .i64 (.ofNat 2)) x52 (fun x71 =>
 kFieldA 0 x67 (fun x72 =>
 kLoad x72 h70 (fun x73 =>
 kToU x73 (fun x74 =>
 kFieldA 1 x67 (fun x75 =>
 kLoad x75 h70 (fun x76 =>
 kToU x76 (fun x77 =>
 kShl x77 (Value.int .u64 (.ofNat 32)) (fun x78 =>
 kU64 .or x74 x78 (fun x79 =>
 kIdxA 1 x9 x71 (fun x80 =>
 kStore1 x80 x79 h70 (fun x81 h82 =>
 k60 x52 x67 h82)))))))))))) (store1 2 h68 (cellsL x66) (addrOf x67))) (oAlloc 70 [(Value.int .i64 (.ofNat 0)), (Value.int .i64 (.ofNat 0))] enE h59)))) fun k58 =>
 cnd x57
 (k58 h56)
 (k37 x52 x57 x54 x55 h56))) (Value.int .i64 (.ofNat 0)) dunno dunno dunno h33))))))))))))))))))) fun k14 =>
 cnd x13
 (clrK h x9 h10)
 (k14 x7 h10))))) (mkslice1 24 1 8 [(Value.int .u64 (.ofNat 0))] h8 (natOf (Value.int .i64 (.ofNat 8))) (natOf (Value.int .i64 (.ofNat 8))))) fun k6 =>
 cnd x5
 (clrK h (Value.slice none 0 0) h4)
 (k6 (Value.slice none 0 0) h4))))) (oBox 68 (.c a0) enE h0)

theorem q26 (R : RnK) (N : Nat) (args : List Value) (h : Hs) : r26 R N args h = callT Tryz.prog N R 26 args h := by kernel_rfl

/-- lintel/bits.New -/
noncomputable def r27 (R : RnK) (N : Nat) (args : List Value) (h : Hs) : An := unC args fun a0 sq0 => enK h fun h0 =>
 after (fun x0 h1 =>
 after (fun x2 h3 =>
 after (fun x4 h5 =>
 kI64 .add x4 (Value.int .i64 (.ofNat 64)) (fun x6 =>
 kI64 .sub x6 (Value.int .i64 (.ofNat 1)) (fun x7 =>
 kI64 .quo x7 (Value.int .i64 (.ofNat 64)) (fun x8 =>
 after (fun x9 h10 =>
 after (fun x11 h12 =>
 kStore1 x0 x11 h12 (fun x13 h14 =>
 clearUp h (packR h14 (resV enE h14 [.cell (.c x0) 1 true])))) (oBuild [(Value.slice none 0 0)] [(0, 1, .c x9)] enE h10)) (mkslice1 24 1 8 [(Value.int .u64 (.ofNat 0))] h5 (natOf x8) (natOf x8)))))) (oMinmax false [.c x2, .c (Value.int .i64 (.ofNat 65536))] enE h3)) (oMinmax true [.c a0, .c (Value.int .i64 (.ofNat 0))] enE h1)) (oAlloc 40 [(Value.slice none 0 0)] enE h0)

theorem q27 (R : RnK) (N : Nat) (args : List Value) (h : Hs) : r27 R N args h = callT Tryz.prog N R 27 args h := by kernel_rfl

/-- lintel/bits.Set -/
noncomputable def r28 (R : RnK) (N : Nat) (args : List Value) (h : Hs) : An := unC args fun a0 sq0 => unC sq0 fun a1 sq1 => unC sq1 fun a2 sq2 => enK h fun h0 =>
 after (fun x0 h1 =>
 after (fun x2 h3 =>
 kFieldA 0 x0 (fun x4 =>
 kLoad x4 h3 (fun x5 =>
 kCall R 31 [x5] h3 (fun x6 h7 =>
 after (fun x8 h9 =>
 after (fun x10 h11 =>
 kStore1 x10 x8 h11 (fun x12 h13 =>
 kLenV a2 (fun x14 =>
 jn (fun (x16 x17 x18 x19 x20 : Value) (h21 : Hs) =>
 kLoads 1 x10 h21 (fun x22 =>
 kStore1 x2 x22 h21 (fun x23 h24 =>
 clearUp h (packR h24 (resV enE h24 [.cell (.c x2) 1 true]))))) fun k15 =>
 lpT (T := Value → Value → Value → Value → Value → Hs → An) (fun _ _ _ _ _ _ => none) N (fun k25 =>
 fun (x27 x28 x29 x30 x31 : Value) (h32 : Hs) =>
 kI64 .lss x27 x14 (fun x33 =>
 jn (fun (h35 : Hs) =>
 jn (fun (x37 x38 x39 : Value) (h40 : Hs) =>
 kI64 .add x27 (Value.int .i64 (.ofNat 1)) (fun x41 =>
 k25 x41 x33 x37 x38 x39 h40)) fun k36 =>
 kIdxA 1 a2 x27 (fun x42 =>
 kLoad x42 h35 (fun x43 =>
 kLoads 1 x0 h35 (fun x44 =>
 kCall R 60 [x44, x43] h35 (fun x45 h46 =>
 kNot x45 (fun x47 =>
 jn (fun (h49 : Hs) =>
 kFieldA 0 x10 (fun x50 =>
 kLoad x50 h49 (fun x51 =>
 kI64 .quo x43 (Value.int .i64 (.ofNat 64)) (fun x52 =>
 kIdxA 1 x51 x52 (fun x53 =>
 kLoad x53 h49 (fun x54 =>
 kI64 .rem x43 (Value.int .i64 (.ofNat 64)) (fun x55 =>
 kShl (Value.int .u64 (.ofNat 1)) x55 (fun x56 =>
 kU64 .andNot x54 x56 (fun x57 =>
 kIdxA 1 x51 x52 (fun x58 =>
 kStore1 x58 x57 h49 (fun v76 u77 => dPut (fun x59 h60 =>
 jn (fun (h62 : Hs) =>
 k36 x43 x47 a1 h62) fun k61 =>
 cnd a1
 (kFieldA 0 x10 (fun x63 =>
 kLoad x63 h60 (fun x64 =>
 kI64 .quo x43 (Value.int .i64 (.ofNat 64)) (fun x65 =>
 kIdxA 1 x64 x65 (fun x66 =>
 kLoad x66 h60 (fun x67 =>
 kI64 .rem x43 (Value.int .i64 (.ofNat 64)) (fun x68 =>
 kShl (Value.int .u64 (.ofNat 1)) x68 (fun x69 =>
 kU64 .or x67 x69 (fun x70 =>
 kIdxA 1 x64 x65 (fun x71 =>
 kStore1 x71 x70 h60 (fun v74 u75 => dPut (fun x72 h73 =>
 k61 h73) v74 (dNext h60 u75 .bar) (andB (dFit h60 u75 .bar) (Nat.ble 0 u75.lo)))))))))))))
 (k61 h60)) v76 (dNext h49 u77 .bar) (andB (dFit h49 u77 .bar) (Nat.ble 0 u77.lo))))))))))))) fun k48 =>
 cnd x47
 (k36 x43 x47 x31 h46)
 (k48 h46))))))) fun k34 =>
 cnd x33
 (k34 h32)
 (k15 x27 x33 x29 x30 x31 h32))) (Value.int .i64 (.ofNat 0)) dunno dunno dunno dunno h13))) (oAlloc 40 [(Value.slice none 0 0)] enE h9)) (oBuild [(Value.slice none 0 0)] [(0, 1, .c x6)] enE h7))))) (oAlloc 40 [(Value.slice none 0 0)] enE h1)) (oBox 40 (.c a0) enE h0)

theorem q28 (R : RnK) (N : Nat) (args : List Value) (h : Hs) : r28 R N args h = callT Tryz.prog N R 28 args h := by kernel_rfl

/-- lintel/geom.Bits -/
noncomputable def r29 (R : RnK) (N : Nat) (args : List Value) (h : Hs) : An := unC args fun a0 sq0 => enK h fun h0 =>
 after (fun x0 h1 =>
 kLoads 4 x0 h1 (fun x2 =>
 kCall R 10 [x2] h1 (fun x3 h4 =>
 kNot x3 (fun x5 =>
 jn (fun (x7 x8 : Value) (h9 : Hs) =>
 kLoads 4 x0 h9 (fun x10 =>
 kCall R 58 [x10] h9 (fun x11 h12 =>
 kExtr x11 0 (fun x13 =>
 kExtr x11 1 (fun x14 =>
 clrK h (Value.tuple #[x13, x14]) h12))))) fun k6 =>
 cnd x5
 (clrK h (Value.tuple #[(Value.int .i64 (.ofNat 0)), (Value.int .i64 (.ofNat 0))]) h4)
 (k6 (Value.int .i64 (.ofNat 0)) (Value.int .i64 (.ofNat 0)) h4))))) (oBox 23 (.c a0) enE h0)

theorem q29 (R : RnK) (N : Nat) (args : List Value) (h : Hs) : r29 R N args h = callT Tryz.prog N R 29 args h := by kernel_rfl

/-- lintel/head.Find -/
noncomputable def r30 (R : RnK) (N : Nat) (args : List Value) (h : Hs) : An := unC args fun a0 sq0 => enK h fun h0 =>
 after (fun x0 h1 =>
 kLenV a0 (fun x2 =>
 kI64 .quo x2 (Value.int .i64 (.ofNat 8)) (fun x3 =>
 kLenV a0 (fun x4 =>
 kI64 .rem x4 (Value.int .i64 (.ofNat 8)) (fun x5 =>
 kI64 .neq x5 (Value.int .i64 (.ofNat 0)) (fun x6 =>
 gdF x6 h1 (fun k7 => k7 x3 h1) (fun x8 h9 =>
 gdF x6 h9 (fun k10 => kI64 .lss x8 (Value.int .i64 (.ofNat 64)) (fun x11 => k10 x11 h9)) (fun x12 h13 =>
 after (fun x14 h15 =>
 gdF x14 h15 (fun k16 => k16 x3 h15) (fun x17 h18 =>
 gdF x14 h18 (fun k19 => kI64 .gtr x17 (Value.int .i64 (.ofNat 1024)) (fun x20 => k19 x20 h18)) (fun x21 h22 =>
 after (fun x23 h24 =>
 jn (fun (x26 x27 : Value) (h28 : Hs) =>
 after (fun x29 h30 =>
 kCall R 61 [x29] h30 (fun x31 h32 =>
 kExtr x31 0 (fun x33 =>
 kExtr x31 1 (fun x34 =>
 after (fun x35 h36 =>
 after (fun x37 h38 =>
 kLenV a0 (fun x39 =>
 kI64 .sub x39 (Value.int .i64 (.ofNat 8)) (fun x40 =>
 after (fun x41 h42 =>
 kCall R 61 [x41] h42 (fun x43 h44 =>
 kExtr x43 0 (fun x45 =>
 kExtr x43 1 (fun x46 =>
 after (fun x47 h48 =>
 after (fun x49 h50 =>
 gdT x34 h50 (fun k51 => kFieldA 0 x35 (fun x52 => k51 x52 h50)) (fun x53 _ =>
 gdT x34 h50 (fun k55 => kFieldA 0 x53 (fun x56 => k55 x56 h50)) (fun x57 _ =>
 gdT x34 h50 (fun k59 => kLoad x57 (Hs.mk h50.hp h50.nx h50.nx) (fun x60 => k59 x60 h50)) (fun x61 _ =>
 gdT x34 h50 (fun k63 => k63 x3 h50) (fun x64 _ =>
 gdT x34 h50 (fun k66 => kI64 .eql x61 x64 (fun x67 => k66 x67 h50)) (fun x68 _ =>
 after (fun v120 u121 => dPut (fun x70 h71 =>
 gdT x46 h71 (fun k72 => kFieldA 0 x47 (fun x73 => k72 x73 h71)) (fun x74 _ =>
 gdT x46 h71 (fun k76 => kFieldA 0 x74 (fun x77 => k76 x77 h71)) (fun x78 _ =>
 gdT x46 h71 (fun k80 => kLoad x78 (dHidS .light [true, true, true, true, false, false, false, false, false, false, true, true] [none, none, none, none, some (h50.nx, h71.nx), none, none, none, none, none, none, none] h71) (fun x81 => k80 x81 h71)) (fun x82 _ =>
 gdT x46 h71 (fun k84 => k84 x3 h71) (fun x85 _ =>
 gdT x46 h71 (fun k87 => kI64 .eql x82 x85 (fun x88 => k87 x88 h71)) (fun x89 _ =>
 after (fun v118 u119 => dPut (fun x91 h92 =>
 jn (fun (x94 x95 x96 x97 : Value) (h98 : Hs) =>
 after (fun x99 h100 =>
 after (fun x101 h102 =>
 clearUp h (packR h102 (resV enE h102 [.cell (.c x0) 5 true, .t (.c (Value.bool false)), .t (.c (Value.bool false))]))) (store1 5 h100 (cellsL x99) (addrOf x0))) (oBuild [(Value.int .i64 (.ofNat 0)), (Value.int .i64 (.ofNat 0)), (Value.int .i64 (.ofNat 0)), (Value.int .i64 (.ofNat 0)), (Value.int .u64 (.ofNat 0))] [] enE h98)) fun k93 =>
 jn (fun (x104 x105 x106 : Value) (h107 : Hs) =>
 k93 x104 x105 x70 x106 h107) fun k103 =>
 cnd x70
 (kLoads 5 x35 h92 (fun x108 =>
 after (fun x109 h110 =>
 clearUp h (packR h110 (resV enE h110 [.cell (.c x0) 5 true, .t (.c x70), .t (.c x91)]))) (store1 5 h92 (cellsL x108) (addrOf x0))))
 (jn (fun (x112 x113 : Value) (h114 : Hs) =>
 k103 x112 x113 x91 h114) fun k111 =>
 cnd x91
 (kLoads 5 x47 h92 (fun x115 =>
 after (fun x116 h117 =>
 clearUp h (packR h117 (resV enE h117 [.cell (.c x0) 5 true, .t (.c x70), .t (.c x91)]))) (store1 5 h92 (cellsL x115) (addrOf x0))))
 (k111 x70 x91 h92))) v118 (dNext h71 u119 .blind) (andB (dFit h71 u119 .blind) (Nat.ble 0 u119.lo))) (pickB (.c x89) (.c (Value.bool false)) enE (Hs.mk .e h71.nx h71.nx) x46))))))) v120 (dNext h50 u121 .blind) (andB (dFit h50 u121 .blind) (Nat.ble 0 u121.lo))) (pickB (.c x68) (.c (Value.bool false)) enE (Hs.mk .e h50.nx h50.nx) x34))))))) (store1 5 h48 (cellsL x45) (addrOf x47))) (oAlloc 62 [(Value.int .i64 (.ofNat 0)), (Value.int .i64 (.ofNat 0)), (Value.int .i64 (.ofNat 0)), (Value.int .i64 (.ofNat 0)), (Value.int .u64 (.ofNat 0))] enE h44))))) (oSlice 1 (.c a0) (some (.c x40)) none none enE h38)))) (store1 5 h36 (cellsL x33) (addrOf x35))) (oAlloc 62 [(Value.int .i64 (.ofNat 0)), (Value.int .i64 (.ofNat 0)), (Value.int .i64 (.ofNat 0)), (Value.int .i64 (.ofNat 0)), (Value.int .u64 (.ofNat 0))] enE h32))))) (oSlice 1 (.c a0) none (some (.c (Value.int .i64 (.ofNat 8)))) none enE h28)) fun k25 =>
 cnd x23
 (after (fun x122 h123 =>
 after (fun x124 h125 =>
 clearUp h (packR h125 (resV enE h125 [.cell (.c x0) 5 true, .t (.c (Value.bool false)), .t (.c (Value.bool false))]))) (store1 5 h123 (cellsL x122) (addrOf x0))) (oBuild [(Value.int .i64 (.ofNat 0)), (Value.int .i64 (.ofNat 0)), (Value.int .i64 (.ofNat 0)), (Value.int .i64 (.ofNat 0)), (Value.int .u64 (.ofNat 0))] [] enE h24))
 (k25 (Value.bool false) (Value.bool false) h24)) (pickB (.c (Value.bool true)) (.c x21) enE h22 x14)))) (pickB (.c (Value.bool true)) (.c x12) enE h13 x6))))))))) (oAlloc 62 [(Value.int .i64 (.ofNat 0)), (Value.int .i64 (.ofNat 0)), (Value.int .i64 (.ofNat 0)), (Value.int .i64 (.ofNat 0)), (Value.int .u64 (.ofNat 0))] enE h0)

theorem q30 (R : RnK) (N : Nat) (args : List Value) (h : Hs) : r30 R N args h = callT Tryz.prog N R 30 args h := by kernel_rfl

/-- slices.Clone[[]uint64,uint64] -/
noncomputable def r31 (R : RnK) (N : Nat) (args : List Value) (h : Hs) : An := unC args fun a0 sq0 => enK h fun h0 =>
 obK (fun x0 =>
 jn (fun (x2 : Value) (h3 : Hs) =>
 after (fun x4 h5 =>
 after (fun x6 h7 =>
 clrK h x6 h7) (app0 24 1 8 h5 x4 a0)) (oMkrow 24 1 0 [(Value.int .u64 (.ofNat 0))] [] enE h3)) fun k1 =>
 cnd x0
 (clrK h (Value.slice none 0 0) h0)
 (k1 (Value.slice none 0 0) h0)) (e2 false qS a0 (Value.slice none 0 0))

theorem q31 (R : RnK) (N : Nat) (args : List Value) (h : Hs) : r31 R N args h = callT Tryz.prog N R 31 args h := by kernel_rfl

/-- lintel/geom.in -/
noncomputable def r32 (R : RnK) (N : Nat) (args : List Value) (h : Hs) : An := unC args fun a0 sq0 => unC sq0 fun a1 sq1 => unC sq1 fun a2 sq2 => enK h fun h0 =>
 kI64 .geq a0 a1 (fun x0 =>
 gdT x0 h0 (fun k1 => k1 a0 h0) (fun x2 h3 =>
 gdT x0 h3 (fun k4 => k4 a2 h3) (fun x5 h6 =>
 gdT x0 h6 (fun k7 => kI64 .leq x2 x5 (fun x8 => k7 x8 h6)) (fun x9 h10 =>
 after (fun x11 h12 =>
 clrK h x11 h12) (pickB (.c x9) (.c (Value.bool false)) enE h10 x0)))))

theorem q32 (R : RnK) (N : Nat) (args : List Value) (h : Hs) : r32 R N args h = callT Tryz.prog N R 32 args h := by kernel_rfl

/-- (lintel/geom.Geom).data -/
noncomputable def r33 (R : RnK) (N : Nat) (args : List Value) (h : Hs) : An := unC args fun a0 sq0 => enK h fun h0 =>
 after (fun x0 h1 =>
 kLoads 4 x0 h1 (fun x2 =>
 kCall R 58 [x2] h1 (fun x3 h4 =>
 kExtr x3 0 (fun x5 =>
 kExtr x3 1 (fun x6 =>
 kI64 .add x5 x6 (fun x7 =>
 kFieldA 1 x0 (fun x8 =>
 kLoad x8 h4 (fun x9 =>
 kI64 .mul (Value.int .i64 (.ofNat 2)) x9 (fun x10 =>
 kI64 .add x7 x10 (fun x11 =>
 kFieldA 0 x0 (fun x12 =>
 kLoad x12 h4 (fun x13 =>
 kI64 .sub x13 (Value.int .i64 (.ofNat 1)) (fun x14 =>
 kI64 .sub x14 x11 (fun x15 =>
 clrK h (Value.tuple #[x11, x15]) h4)))))))))))))) (oBox 23 (.c a0) enE h0)

theorem q33 (R : RnK) (N : Nat) (args : List Value) (h : Hs) : r33 R N args h = callT Tryz.prog N R 33 args h := by kernel_rfl

/-- (lintel/image.Image).Block -/
noncomputable def r34 (R : RnK) (N : Nat) (args : List Value) (h : Hs) : An := unC args fun a0 sq0 => unC sq0 fun a1 sq1 => enK h fun h0 =>
 after (fun x0 h1 =>
 kI64 .lss a1 (Value.int .i64 (.ofNat 0)) (fun x2 =>
 gdF x2 h1 (fun k3 => k3 a1 h1) (fun x4 h5 =>
 gdF x2 h5 (fun k6 => kFieldA 4 x0 (fun x7 => k6 x7 h5)) (fun x8 h9 =>
 gdF x2 h9 (fun k10 => kLoad x8 h9 (fun x11 => k10 x11 h9)) (fun x12 h13 =>
 gdF x2 h13 (fun k14 => kLenV x12 (fun x15 => k14 x15 h13)) (fun x16 h17 =>
 gdF x2 h17 (fun k18 => kI64 .quo x16 (Value.int .i64 (.ofNat 8)) (fun x19 => k18 x19 h17)) (fun x20 h21 =>
 gdF x2 h21 (fun k22 => kI64 .geq x4 x20 (fun x23 => k22 x23 h21)) (fun x24 h25 =>
 after (fun x26 h27 =>
 jn (fun (x29 : Value) (h30 : Hs) =>
 kFieldA 4 x0 (fun x31 =>
 kLoad x31 h30 (fun x32 =>
 kI64 .mul (Value.int .i64 (.ofNat 8)) a1 (fun x33 =>
 kI64 .add a1 (Value.int .i64 (.ofNat 1)) (fun x34 =>
 kI64 .mul (Value.int .i64 (.ofNat 8)) x34 (fun x35 =>
 after (fun x36 h37 =>
 kCall R 31 [x36] h37 (fun x38 h39 =>
 clrK h x38 h39)) (oSlice 1 (.c x32) (some (.c x33)) (some (.c x35)) none enE h30))))))) fun k28 =>
 cnd x26
 (clrK h (Value.slice none 0 0) h27)
 (k28 (Value.slice none 0 0) h27)) (pickB (.c (Value.bool true)) (.c x24) enE h25 x2))))))))) (oBox 31 (.c a0) enE h0)

theorem q34 (R : RnK) (N : Nat) (args : List Value) (h : Hs) : r34 R N args h = callT Tryz.prog N R 34 args h := by kernel_rfl

/-- (lintel/image.Image).Node -/
noncomputable def r44 (R : RnK) (N : Nat) (args : List Value) (h : Hs) : An := unC args fun a0 sq0 => unC sq0 fun a1 sq1 => enK h fun h0 =>
 after (fun x0 h1 =>
 after (fun x2 h3 =>
 kFieldA 0 x0 (fun x4 =>
 kLoads 4 x4 h3 (fun x5 =>
 kCall R 25 [x5, a1] h3 (fun x6 h7 =>
 kI64 .eql x6 (Value.int .i64 (.ofNat 0)) (fun x8 =>
 jn (fun (x10 : Value) (h11 : Hs) =>
 kLoads 5 x0 h11 (fun x12 =>
 kCall R 34 [x12, x6] h11 (fun x13 h14 =>
 kCall R 72 [x13] h14 (fun x15 h16 =>
 kExtr x15 0 (fun x17 =>
 kExtr x15 1 (fun x18 =>
 after (fun x19 h20 =>
 after (fun x21 h22 =>
 kNot x18 (fun x23 =>
 gdF x23 h22 (fun k24 => kFieldA 0 x0 (fun x25 => k24 x25 h22)) (fun x26 h27 =>
 gdF x23 h27 (fun k28 => kLoads 4 x26 h27 (fun x29 => k28 x29 h27)) (fun x30 h31 =>
 gdF x23 h31 (fun k32 => kLoads 4 x19 h31 (fun x33 => k32 x33 h31)) (fun x34 h35 =>
 gdF x23 h35 (fun k36 => kCall R 73 [x30, x34] h35 (k36)) (fun x37 h38 =>
 gdF x23 h38 (fun k39 => kNot x37 (fun x40 => k39 x40 h38)) (fun x41 h42 =>
 after (fun x43 h44 =>
 jn (fun (x46 : Value) (h47 : Hs) =>
 kLoads 4 x19 h47 (fun x48 =>
 after (fun x49 h50 =>
 clearUp h (packR h50 (resV enE h50 [.cell (.c x2) 4 true, .t (.c (Value.bool true))]))) (store1 4 h47 (cellsL x48) (addrOf x2)))) fun k45 =>
 cnd x43
 (after (fun x51 h52 =>
 after (fun x53 h54 =>
 clearUp h (packR h54 (resV enE h54 [.cell (.c x2) 4 true, .t (.c (Value.bool false))]))) (store1 4 h52 (cellsL x51) (addrOf x2))) (oBuild [(Value.int .i64 (.ofNat 0)), (Value.int .i64 (.ofNat 0)), (Value.int .i64 (.ofNat 0)), (Value.slice none 0 0)] [] enE h44))
 (k45 x10 h44)) (pickB (.c (Value.bool true)) (.c x41) enE h42 x23)))))))) (store1 4 h20 (cellsL x17) (addrOf x19))) (oAlloc 68 [(Value.int .i64 (.ofNat 0)), (Value.int .i64 (.ofNat 0)), (Value.int .i64 (.ofNat 0)), (Value.slice none 0 0)] enE h16))))))) fun k9 =>
 cnd x8
 (after (fun x55 h56 =>
 after (fun x57 h58 =>
 clearUp h (packR h58 (resV enE h58 [.cell (.c x2) 4 true, .t (.c (Value.bool false))]))) (store1 4 h56 (cellsL x55) (addrOf x2))) (oBuild [(Value.int .i64 (.ofNat 0)), (Value.int .i64 (.ofNat 0)), (Value.int .i64 (.ofNat 0)), (Value.slice none 0 0)] [] enE h7))
 (k9 (Value.bool false) h7)))))) (oAlloc 68 [(Value.int .i64 (.ofNat 0)), (Value.int .i64 (.ofNat 0)), (Value.int .i64 (.ofNat 0)), (Value.slice none 0 0)] enE h1)) (oBox 31 (.c a0) enE h0)

theorem q44 (R : RnK) (N : Nat) (args : List Value) (h : Hs) : r44 R N args h = callT Tryz.prog N R 44 args h := by kernel_rfl

/-- (lintel/image.Image).Content -/
noncomputable def r45 (R : RnK) (N : Nat) (args : List Value) (h : Hs) : An := unC args fun a0 sq0 => unC sq0 fun a1 sq1 => enK h fun h0 =>
 after (fun x0 h1 =>
 kLoads 5 x0 h1 (fun x2 =>
 kCall R 44 [x2, a1] h1 (fun x3 h4 =>
 kExtr x3 0 (fun x5 =>
 kExtr x3 1 (fun x6 =>
 after (fun x7 h8 =>
 after (fun x9 h10 =>
 kNot x6 (fun x11 =>
 gdF x11 h10 (fun k12 => kFieldA 0 x7 (fun x13 => k12 x13 h10)) (fun x14 h15 =>
 gdF x11 h15 (fun k16 => kLoad x14 h15 (fun x17 => k16 x17 h15)) (fun x18 h19 =>
 gdF x11 h19 (fun k20 => kI64 .neq x18 (Value.int .i64 (.ofNat 1)) (fun x21 => k20 x21 h19)) (fun x22 h23 =>
 gdF x11 h23 (fun k24 => k24 x22 h23) (fun x25 h26 =>
 gdT x25 h26 (fun k27 => kFieldA 0 x7 (fun x28 => k27 x28 h26)) (fun x29 h30 =>
 gdT x25 h30 (fun k31 => kLoad x29 h30 (fun x32 => k31 x32 h30)) (fun x33 h34 =>
 gdT x25 h34 (fun k35 => kI64 .neq x33 (Value.int .i64 (.ofNat 3)) (fun x36 => k35 x36 h34)) (fun x37 h38 =>
 gdF x11 h38 (fun k39 => after (k39) (pickB (.c x37) (.c (Value.bool false)) enE h38 x25)) (fun x40 h41 =>
 after (fun x42 h43 =>
 jn (fun (x45 : Value) (h46 : Hs) =>
 kFieldA 3 x7 (fun x47 =>
 kLoad x47 h46 (fun x48 =>
 kLenV x48 (fun x49 =>
 jn (fun (x51 x52 x53 x54 x55 x56 x57 x58 x59 x60 x61 x62 x63 x64 x65 : Value) (h66 : Hs) =>
 kFieldA 2 x7 (fun x67 =>
 kLoad x67 h66 (fun x68 =>
 after (fun x69 h70 =>
 kCall R 74 [x69] h70 (fun x71 h72 =>
 clrK h x71 h72)) (oSlice 1 (.c x64) none (some (.c x68)) none enE h66)))) fun k50 =>
 lpT (T := Value → Value → Value → Value → Value → Value → Value → Value → Value → Value → Value → Value → Value → Value → Value → Hs → An) (fun _ _ _ _ _ _ _ _ _ _ _ _ _ _ _ _ => none) N (fun k73 =>
 fun (x75 x76 x77 x78 x79 x80 x81 x82 x83 x84 x85 x86 x87 x88 x89 : Value) (h90 : Hs) =>
 kI64 .lss x75 x49 (fun x91 =>
 jn (fun (h93 : Hs) =>
 jn (fun (x95 x96 x97 x98 x99 x100 x101 x102 x103 x104 x105 x106 x107 : Value) (h108 : Hs) =>
 kI64 .add x75 (Value.int .i64 (.ofNat 1)) (fun x109 =>
 k73 x109 x91 x95 x96 x97 x98 x99 x100 x101 x102 x103 x104 x105 x106 x107 h108)) fun k94 =>
 kIdxA 2 x48 x75 (fun x110 =>
 kLoads 2 x110 h93 (fun x111 =>
 after (fun x112 h113 =>
 after (fun x114 h115 =>
 kFieldA 1 x112 (fun x116 =>
 kLoad x116 h115 (fun x117 =>
 jn (fun (x119 x120 x121 x122 x123 x124 x125 x126 x127 x128 x129 : Value) (h130 : Hs) =>
 k94 x112 x119 x117 x120 x121 x122 x123 x124 x125 x126 x127 x128 x129 h130) fun k118 =>
 lpT (T := Value → Value → Value → Value → Value → Value → Value → Value → Value → Value → Value → Hs → An) (fun _ _ _ _ _ _ _ _ _ _ _ _ => none) N (fun k131 =>
 fun (x133 x134 x135 x136 x137 x138 x139 x140 x141 x142 x143 : Value) (h144 : Hs) =>
 kI64 .lss x133 x117 (fun x145 =>
 jn (fun (h147 : Hs) =>
 jn (fun (x149 x150 x151 x152 x153 x154 x155 x156 x157 : Value) (h158 : Hs) =>
 kI64 .add x133 (Value.int .i64 (.ofNat 1)) (fun x159 =>
 k131 x159 x145 x149 x150 x151 x152 x153 x154 x155 x156 x157 h158)) fun k148 =>
 kLoads 5 x0 h147 (fun x160 =>
 kFieldA 0 x112 (fun x161 =>
 kLoad x161 h147 (fun x162 =>
 kI64 .add x162 x133 (fun x163 =>
 kCall R 34 [x160, x163] h147 (fun x164 h165 =>
 kLenV x164 (fun x166 =>
 jn (fun (x168 x169 x170 x171 x172 x173 : Value) (h174 : Hs) =>
 k148 x133 x168 x166 x169 x164 x170 x171 x172 x173 h174) fun k167 =>
 lpT (T := Value → Value → Value → Value → Value → Value → Hs → An) (fun _ _ _ _ _ _ _ => none) N (fun k175 =>
 fun (x177 x178 x179 x180 x181 x182 : Value) (h183 : Hs) =>
 kI64 .lss x177 x166 (fun x184 =>
 jn (fun (h186 : Hs) =>
 jn (fun (x188 x189 x190 x191 : Value) (h192 : Hs) =>
 kI64 .add x177 (Value.int .i64 (.ofNat 1)) (fun x193 =>
 k175 x193 x184 x188 x189 x190 x191 h192)) fun k187 =>
 kIdxA 1 x164 x177 (fun x194 =>
 kLoad x194 h186 (fun x195 =>
 jn (fun (x197 x198 x199 x200 : Value) (h201 : Hs) =>
 k187 x197 x198 x199 x200 h201) fun k196 =>
 lpT (T := Value → Value → Value → Value → Hs → An) (fun _ _ _ _ _ => none) N (fun k202 =>
 fun (x204 x205 x206 x207 : Value) (h208 : Hs) =>
 kI64 .lss x204 (Value.int .i64 (.ofNat 8)) (fun x209 =>
 jn (fun (h211 : Hs) =>
 jn (fun (x213 x214 : Value) (h215 : Hs) =>
 kI64 .add x204 (Value.int .i64 (.ofNat 1)) (fun x216 =>
 k202 x216 x209 x213 x214 h215)) fun k212 =>
 kTo8 x207 (fun x217 =>
 after (fun x218 h219 =>
 after (fun x220 h221 =>
 kShr x207 (Value.int .u64 (.ofNat 8)) (fun x222 =>
 k212 x220 x222 h221)) (app0 5 1 1 h219 x206 x218)) (oMkrow 5 1 1 [(Value.int .u8 (.ofNat 0))] [(0, 1, .c x217)] enE h211))) fun k210 =>
 cnd x209
 (k210 h208)
 (k196 x204 x209 x206 x207 h208))) (Value.int .i64 (.ofNat 0)) x180 x181 x195 h186))) fun k185 =>
 cnd x184
 (k185 h183)
 (k167 x177 x184 x179 x180 x181 x182 h183))) (Value.int .i64 (.ofNat 0)) x138 x140 x141 x142 x143 h165))))))) fun k146 =>
 cnd x145
 (k146 h144)
 (k118 x133 x145 x135 x136 x137 x138 x139 x140 x141 x142 x143 h144))) (Value.int .i64 (.ofNat 0)) x80 x81 x82 x83 x84 x85 x86 x87 x88 x89 h115))) (store1 2 h113 (cellsL x111) (addrOf x112))) (oAlloc 70 [(Value.int .i64 (.ofNat 0)), (Value.int .i64 (.ofNat 0))] enE h93)))) fun k92 =>
 cnd x91
 (k92 h90)
 (k50 x75 x91 x77 x78 x79 x80 x81 x82 x83 x84 x85 x86 x87 x88 x89 h90))) (Value.int .i64 (.ofNat 0)) dunno dunno dunno dunno dunno dunno dunno dunno dunno dunno dunno dunno (Value.slice none 0 0) dunno h46)))) fun k44 =>
 cnd x42
 (clrK h (Value.slice none 0 0) h43)
 (k44 (Value.slice none 0 0) h43)) (pickB (.c (Value.bool true)) (.c x40) enE h41 x11))))))))))) (store1 4 h8 (cellsL x5) (addrOf x7))) (oAlloc 68 [(Value.int .i64 (.ofNat 0)), (Value.int .i64 (.ofNat 0)), (Value.int .i64 (.ofNat 0)), (Value.slice none 0 0)] enE h4)))))) (oBox 31 (.c a0) enE h0)

theorem q45 (R : RnK) (N : Nat) (args : List Value) (h : Hs) : r45 R N args h = callT Tryz.prog N R 45 args h := by kernel_rfl

/-- (lintel/image.Image).Slots -/
noncomputable def r46 (R : RnK) (N : Nat) (args : List Value) (h : Hs) : An := unC args fun a0 sq0 => unC sq0 fun a1 sq1 => enK h fun h0 =>
 after (fun x0 h1 =>
 kLoads 5 x0 h1 (fun x2 =>
 kCall R 44 [x2, a1] h1 (fun x3 h4 =>
 kExtr x3 0 (fun x5 =>
 kExtr x3 1 (fun x6 =>
 after (fun x7 h8 =>
 after (fun x9 h10 =>
 kNot x6 (fun x11 =>
 gdF x11 h10 (fun k12 => kFieldA 0 x7 (fun x13 => k12 x13 h10)) (fun x14 h15 =>
 gdF x11 h15 (fun k16 => kLoad x14 h15 (fun x17 => k16 x17 h15)) (fun x18 h19 =>
 gdF x11 h19 (fun k20 => kI64 .neq x18 (Value.int .i64 (.ofNat 2)) (fun x21 => k20 x21 h19)) (fun x22 h23 =>
 after (fun x24 h25 =>
 jn (fun (x27 : Value) (h28 : Hs) =>
 kFieldA 2 x7 (fun x29 =>
 kLoad x29 h28 (fun x30 =>
 jn (fun (x32 x33 x34 x35 x36 x37 : Value) (h38 : Hs) =>
 clrK h x36 h38) fun k31 =>
 lpT (T := Value → Value → Value → Value → Value → Value → Hs → An) (fun _ _ _ _ _ _ _ => none) N (fun k39 =>
 fun (x41 x42 x43 x44 x45 x46 : Value) (h47 : Hs) =>
 kI64 .lss x41 x30 (fun x48 =>
 jn (fun (h50 : Hs) =>
 jn (fun (x52 x53 x54 x55 : Value) (h56 : Hs) =>
 kI64 .add x41 (Value.int .i64 (.ofNat 1)) (fun x57 =>
 k39 x57 x48 x52 x53 x54 x55 h56)) fun k51 =>
 kFieldA 3 x7 (fun x58 =>
 kLoad x58 h50 (fun x59 =>
 kCall R 75 [x59, x41] h50 (fun x60 h61 =>
 kExtr x60 0 (fun x62 =>
 kExtr x60 1 (fun x63 =>
 kLoads 5 x0 h61 (fun x64 =>
 kCall R 34 [x64, x62] h61 (fun x65 h66 =>
 kCall R 76 [x65] h66 (fun x67 h68 =>
 kExtr x67 0 (fun x69 =>
 kExtr x67 1 (fun x70 =>
 after (fun x71 h72 =>
 after (fun x73 h74 =>
 kLoads 2 x71 h74 (fun x75 =>
 after (fun x76 h77 =>
 after (fun x78 h79 =>
 k51 x41 x62 x78 x71 h79) (app0 102 2 24 h77 x45 x76)) (oMkrow 102 2 1 [(Value.int .i64 (.ofNat 0)), (Value.string ⟨#[]⟩)] [(0, 2, .c x75)] enE h74))) (store1 2 h72 (cellsL x69) (addrOf x71))) (oAlloc 102 [(Value.int .i64 (.ofNat 0)), (Value.string ⟨#[]⟩)] enE h68)))))))))))) fun k49 =>
 cnd x48
 (k49 h47)
 (k31 x41 x48 x43 x44 x45 x46 h47))) (Value.int .i64 (.ofNat 0)) dunno dunno dunno (Value.slice none 0 0) dunno h28))) fun k26 =>
 cnd x24
 (clrK h (Value.slice none 0 0) h25)
 (k26 (Value.slice none 0 0) h25)) (pickB (.c (Value.bool true)) (.c x22) enE h23 x11)))))) (store1 4 h8 (cellsL x5) (addrOf x7))) (oAlloc 68 [(Value.int .i64 (.ofNat 0)), (Value.int .i64 (.ofNat 0)), (Value.int .i64 (.ofNat 0)), (Value.slice none 0 0)] enE h4)))))) (oBox 31 (.c a0) enE h0)

theorem q46 (R : RnK) (N : Nat) (args : List Value) (h : Hs) : r46 R N args h = callT Tryz.prog N R 46 args h := by kernel_rfl

/-- maps.Keys[map[int]*lintel/tree.item,int,*lintel/tree.item] -/
noncomputable def r53 (R : RnK) (N : Nat) (args : List Value) (h : Hs) : An := unC args fun a0 sq0 => enK h fun h0 =>
 after (fun x0 h1 =>
 after (fun x2 h3 =>
 clrK h x2 h3) (oMkfunc (.func 82) [] [.c x0] enE h1)) (oBox 106 (.c a0) enE h0)

theorem q53 (R : RnK) (N : Nat) (args : List Value) (h : Hs) : r53 R N args h = callT Tryz.prog N R 53 args h := by kernel_rfl

/-- bytes.Clone -/
noncomputable def r54 (R : RnK) (N : Nat) (args : List Value) (h : Hs) : An := unC args fun a0 sq0 => enK h fun h0 =>
 obK (fun x0 =>
 jn (fun (x2 : Value) (h3 : Hs) =>
 after (fun x4 h5 =>
 after (fun x6 h7 =>
 clrK h x6 h7) (app0 5 1 1 h5 x4 a0)) (oMkrow 5 1 0 [(Value.int .u8 (.ofNat 0))] [] enE h3)) fun k1 =>
 cnd x0
 (clrK h (Value.slice none 0 0) h0)
 (k1 (Value.slice none 0 0) h0)) (e2 false qS a0 (Value.slice none 0 0))

theorem q54 (R : RnK) (N : Nat) (args : List Value) (h : Hs) : r54 R N args h = callT Tryz.prog N R 54 args h := by kernel_rfl

/-- maps.Keys[map[string]int,string,int] -/
noncomputable def r56 (R : RnK) (N : Nat) (args : List Value) (h : Hs) : An := unC args fun a0 sq0 => enK h fun h0 =>
 after (fun x0 h1 =>
 after (fun x2 h3 =>
 clrK h x2 h3) (oMkfunc (.func 85) [] [.c x0] enE h1)) (oBox 114 (.c a0) enE h0)

theorem q56 (R : RnK) (N : Nat) (args : List Value) (h : Hs) : r56 R N args h = callT Tryz.prog N R 56 args h := by kernel_rfl

/-- lintel/seal.Of -/
noncomputable def r57 (R : RnK) (N : Nat) (args : List Value) (h : Hs) : An := unC args fun a0 sq0 => enK h fun h0 =>
 kCall R 86 [(Value.int .u64 (.ofNat 7811896474847682849)), a0] h0 (fun x0 h1 =>
 clrK h x0 h1)

theorem q57 (R : RnK) (N : Nat) (args : List Value) (h : Hs) : r57 R N args h = callT Tryz.prog N R 57 args h := by kernel_rfl

/-- (lintel/geom.Geom).bits -/
noncomputable def r58 (R : RnK) (N : Nat) (args : List Value) (h : Hs) : An := unC args fun a0 sq0 => enK h fun h0 =>
 after (fun x0 h1 =>
 kFieldA 2 x0 (fun x2 =>
 kLoad x2 (Hs.mk h1.hp h1.nx h1.nx) (fun x3 =>
 kFieldA 3 x0 (fun x4 =>
 kLoad x4 (Hs.mk h1.hp h1.nx h1.nx) (fun x5 =>
 kI64 .mul x3 x5 (fun x6 =>
 kI64 .add (Value.int .i64 (.ofNat 1)) x6 (fun x7 =>
 kFieldA 0 x0 (fun x8 =>
 kLoad x8 (Hs.mk h1.hp h1.nx h1.nx) (fun x9 =>
 kI64 .add x9 (Value.int .i64 (.ofNat 512)) (fun x10 =>
 kI64 .sub x10 (Value.int .i64 (.ofNat 1)) (fun x11 =>
 kI64 .quo x11 (Value.int .i64 (.ofNat 512)) (fun x12 =>
 clrK h (Value.tuple #[x7, x12]) h1)))))))))))) (oBox 23 (.c a0) enE h0)

theorem q58 (R : RnK) (N : Nat) (args : List Value) (h : Hs) : r58 R N args h = callT Tryz.prog N R 58 args h := by kernel_rfl

/-- lintel/node.fits -/
noncomputable def r59 (R : RnK) (N : Nat) (args : List Value) (h : Hs) : An := unC args fun a0 sq0 => enK h fun h0 =>
 after (fun x0 h1 =>
 kFieldA 0 x0 (fun x2 =>
 kLoad x2 h1 (fun x3 =>
 kI64 .eql x3 (Value.int .i64 (.ofNat 0)) (fun x4 =>
 jn (fun (x6 : Value) (h7 : Hs) =>
 kFieldA 0 x0 (fun x8 =>
 kLoad x8 h7 (fun x9 =>
 kCall R 88 [x9, (Value.int .i64 (.ofNat 1)), (Value.int .i64 (.ofNat 3))] h7 (fun x10 h11 =>
 kNot x10 (fun x12 =>
 gdF x12 h11 (fun k13 => kFieldA 1 x0 (fun x14 => k13 x14 h11)) (fun x15 h16 =>
 gdF x12 h16 (fun k17 => kLoad x15 h16 (fun x18 => k17 x18 h16)) (fun x19 h20 =>
 gdF x12 h20 (fun k21 => kCall R 88 [x19, (Value.int .i64 (.ofNat 0)), (Value.int .i64 (.ofNat 16777215))] h20 (k21)) (fun x22 h23 =>
 gdF x12 h23 (fun k24 => kNot x22 (fun x25 => k24 x25 h23)) (fun x26 h27 =>
 after (fun x28 h29 =>
 gdF x28 h29 (fun k30 => kFieldA 2 x0 (fun x31 => k30 x31 h29)) (fun x32 h33 =>
 gdF x28 h33 (fun k34 => kLoad x32 h33 (fun x35 => k34 x35 h33)) (fun x36 h37 =>
 gdF x28 h37 (fun k38 => kCall R 88 [x36, (Value.int .i64 (.ofNat 0)), (Value.int .i64 (.ofNat 1099511627776))] h37 (k38)) (fun x39 h40 =>
 gdF x28 h40 (fun k41 => kNot x39 (fun x42 => k41 x42 h40)) (fun x43 h44 =>
 after (fun x45 h46 =>
 gdF x45 h46 (fun k47 => kFieldA 3 x0 (fun x48 => k47 x48 h46)) (fun x49 h50 =>
 gdF x45 h50 (fun k51 => kLoad x49 h50 (fun x52 => k51 x52 h50)) (fun x53 h54 =>
 gdF x45 h54 (fun k55 => kLenV x53 (fun x56 => k55 x56 h54)) (fun x57 h58 =>
 gdF x45 h58 (fun k59 => kI64 .gtr x57 (Value.int .i64 (.ofNat 4)) (fun x60 => k59 x60 h58)) (fun x61 h62 =>
 after (fun x63 h64 =>
 jn (fun (x66 : Value) (h67 : Hs) =>
 kFieldA 3 x0 (fun x68 =>
 kLoad x68 h67 (fun x69 =>
 kCall R 89 [x69, (Value.func (.func 90) #[] #[])] h67 (fun x70 h71 =>
 kNot x70 (fun x72 =>
 clrK h x72 h71))))) fun k65 =>
 cnd x63
 (clrK h (Value.bool false) h64)
 (k65 x6 h64)) (pickB (.c (Value.bool true)) (.c x61) enE h62 x45)))))) (pickB (.c (Value.bool true)) (.c x43) enE h44 x28)))))) (pickB (.c (Value.bool true)) (.c x26) enE h27 x12)))))))))) fun k5 =>
 cnd x4
 (kLoads 4 x0 h1 (fun x73 =>
 kCall R 87 [x73] h1 (fun x74 h75 =>
 clrK h x74 h75)))
 (k5 (Value.bool false) h1))))) (oBox 68 (.c a0) enE h0)

theorem q59 (R : RnK) (N : Nat) (args : List Value) (h : Hs) : r59 R N args h = callT Tryz.prog N R 59 args h := by kernel_rfl

/-- (lintel/bits.Bits).there -/
noncomputable def r60 (R : RnK) (N : Nat) (args : List Value) (h : Hs) : An := unC args fun a0 sq0 => unC sq0 fun a1 sq1 => enK h fun h0 =>
 after (fun x0 h1 =>
 kI64 .geq a1 (Value.int .i64 (.ofNat 0)) (fun x2 =>
 gdT x2 h1 (fun k3 => k3 a1 h1) (fun x4 h5 =>
 gdT x2 h5 (fun k6 => kI64 .quo x4 (Value.int .i64 (.ofNat 64)) (fun x7 => k6 x7 h5)) (fun x8 h9 =>
 gdT x2 h9 (fun k10 => kFieldA 0 x0 (fun x11 => k10 x11 h9)) (fun x12 h13 =>
 gdT x2 h13 (fun k14 => kLoad x12 h13 (fun x15 => k14 x15 h13)) (fun x16 h17 =>
 gdT x2 h17 (fun k18 => kLenV x16 (fun x19 => k18 x19 h17)) (fun x20 h21 =>
 gdT x2 h21 (fun k22 => kI64 .lss x8 x20 (fun x23 => k22 x23 h21)) (fun x24 h25 =>
 after (fun x26 h27 =>
 clrK h x26 h27) (pickB (.c x24) (.c (Value.bool false)) enE h25 x2))))))))) (oBox 40 (.c a0) enE h0)

theorem q60 (R : RnK) (N : Nat) (args : List Value) (h : Hs) : r60 R N args h = callT Tryz.prog N R 60 args h := by kernel_rfl

/-- lintel/head.Get -/
noncomputable def r61 (R : RnK) (N : Nat) (args : List Value) (h : Hs) : An := unC args fun a0 sq0 => enK h fun h0 =>
 after (fun x0 h1 =>
 kLenV a0 (fun x2 =>
 kI64 .neq x2 (Value.int .i64 (.ofNat 8)) (fun x3 =>
 jn (fun (x5 : Value) (h6 : Hs) =>
 after (fun x7 h8 =>
 kLenV x7 (fun x9 =>
 jn (fun (x11 x12 x13 x14 x15 : Value) (h16 : Hs) =>
 kIdxA 1 a0 (Value.int .i64 (.ofNat 1)) (fun x17 =>
 kLoad x17 (Hs.mk h16.hp h16.nx h16.nx) (fun x18 =>
 kTo64 x18 (fun x19 =>
 kIdxA 1 a0 (Value.int .i64 (.ofNat 2)) (fun x20 =>
 kLoad x20 (Hs.mk h16.hp h16.nx h16.nx) (fun x21 =>
 kTo64 x21 (fun x22 =>
 kIdxA 1 a0 (Value.int .i64 (.ofNat 3)) (fun x23 =>
 kLoad x23 (Hs.mk h16.hp h16.nx h16.nx) (fun x24 =>
 kTo64 x24 (fun x25 =>
 kIdxA 1 a0 (Value.int .i64 (.ofNat 4)) (fun x26 =>
 kLoad x26 (Hs.mk h16.hp h16.nx h16.nx) (fun x27 =>
 kTo64 x27 (fun x28 =>
 after (fun v70 u71 => dPut (fun x29 h30 =>
 after (fun v68 u69 => dPut (fun x31 h32 =>
 after (fun v66 u67 => dPut (fun x33 h34 =>
 kLoads 4 x31 (Hs.mk h34.hp h34.nx h34.nx) (fun x35 =>
 kIdxA 1 a0 (Value.int .i64 (.ofNat 6)) (fun x36 =>
 kLoad x36 (Hs.mk h34.hp h34.nx h34.nx) (fun x37 =>
 after (fun v64 u65 => dPut (fun x38 h39 =>
 after (fun v62 u63 => dPut (fun x40 h41 =>
 after (fun v60 u61 => dPut (fun x42 h43 =>
 kLoads 5 x40 h43 (fun x44 =>
 kCall R 23 [x44] h43 (fun x45 h46 =>
 kCall R 91 [x45, a0] h46 (fun x47 h48 =>
 kNot x47 (fun x49 =>
 jn (fun (x51 : Value) (h52 : Hs) =>
 kLoads 5 x40 h52 (fun x53 =>
 after (fun x54 h55 =>
 clearUp h (packR h55 (resV enE h55 [.cell (.c x0) 5 true, .t (.c (Value.bool true))]))) (store1 5 h52 (cellsL x53) (addrOf x0)))) fun k50 =>
 cnd x49
 (after (fun x56 h57 =>
 after (fun x58 h59 =>
 clearUp h (packR h59 (resV enE h59 [.cell (.c x0) 5 true, .t (.c (Value.bool false))]))) (store1 5 h57 (cellsL x56) (addrOf x0))) (oBuild [(Value.int .i64 (.ofNat 0)), (Value.int .i64 (.ofNat 0)), (Value.int .i64 (.ofNat 0)), (Value.int .i64 (.ofNat 0)), (Value.int .u64 (.ofNat 0))] [] enE h48))
 (k50 x15 h48)))))) v60 (dNext h41 u61 .bar) (andB (dFit h41 u61 .bar) (Nat.ble 0 u61.lo))) (store1 5 h41 (cellsL x38) (addrOf x40))) v62 (dNext h39 u63 .make) (andB (dFit h39 u63 .make) (Nat.ble 0 u63.lo))) (oAlloc 62 [(Value.int .i64 (.ofNat 0)), (Value.int .i64 (.ofNat 0)), (Value.int .i64 (.ofNat 0)), (Value.int .i64 (.ofNat 0)), (Value.int .u64 (.ofNat 0))] enE (Hs.mk .e h39.nx h39.nx))) v64 (dNext h34 u65 .blind) (andB (dFit h34 u65 .blind) (Nat.ble 0 u65.lo))) (oBuild [(Value.int .i64 (.ofNat 0)), (Value.int .i64 (.ofNat 0)), (Value.int .i64 (.ofNat 0)), (Value.int .i64 (.ofNat 0)), (Value.int .u64 (.ofNat 0))] [(0, 4, .c x35), (4, 1, .c x37)] enE (Hs.mk .e h34.nx h34.nx)))))) v66 (dNext h32 u67 .bar) (andB (dFit h32 u67 .bar) (Nat.ble 0 u67.lo))) (store1 4 h32 (cellsL x29) (addrOf x31))) v68 (dNext h30 u69 .make) (andB (dFit h30 u69 .make) (Nat.ble 0 u69.lo))) (oAlloc 23 [(Value.int .i64 (.ofNat 0)), (Value.int .i64 (.ofNat 0)), (Value.int .i64 (.ofNat 0)), (Value.int .i64 (.ofNat 0))] enE (Hs.mk .e h30.nx h30.nx))) v70 (dNext h16 u71 .blind) (andB (dFit h16 u71 .blind) (Nat.ble 0 u71.lo))) (oBuild [(Value.int .i64 (.ofNat 0)), (Value.int .i64 (.ofNat 0)), (Value.int .i64 (.ofNat 0)), (Value.int .i64 (.ofNat 0))] [(0, 1, .c x19), (1, 1, .c x22), (2, 1, .c x25), (3, 1, .c x28)] enE (Hs.mk .e h16.nx h16.nx))))))))))))))) fun k10 =>
 lpT (T := Value → Value → Value → Value → Value → Hs → An) (fun _ _ _ _ _ _ => none) N (fun k72 =>
 fun (x74 x75 x76 x77 x78 : Value) (h79 : Hs) =>
 kI64 .lss x74 x9 (fun x80 =>
 jn (fun (h82 : Hs) =>
 jn (fun (x84 x85 x86 : Value) (h87 : Hs) =>
 kI64 .add x74 (Value.int .i64 (.ofNat 1)) (fun x88 =>
 k72 x88 x80 x84 x85 x86 h87)) fun k83 =>
 kIdxA 1 x7 x74 (fun x89 =>
 kLoad x89 h82 (fun x90 =>
 kU64 .gtr x90 (Value.int .u64 (.ofNat 1024)) (fun x91 =>
 jn (fun (x93 : Value) (h94 : Hs) =>
 k83 x90 x91 x93 h94) fun k92 =>
 cnd x91
 (after (fun x95 h96 =>
 after (fun x97 h98 =>
 clearUp h (packR h98 (resV enE h98 [.cell (.c x0) 5 true, .t (.c (Value.bool false))]))) (store1 5 h96 (cellsL x95) (addrOf x0))) (oBuild [(Value.int .i64 (.ofNat 0)), (Value.int .i64 (.ofNat 0)), (Value.int .i64 (.ofNat 0)), (Value.int .i64 (.ofNat 0)), (Value.int .u64 (.ofNat 0))] [] enE h82))
 (k92 x78 h82))))) fun k81 =>
 cnd x80
 (k81 h79)
 (k10 x74 x80 x76 x77 x78 h79))) (Value.int .i64 (.ofNat 0)) dunno dunno dunno x5 h8)) (oSlice 1 (.c a0) (some (.c (Value.int .i64 (.ofNat 1)))) (some (.c (Value.int .i64 (.ofNat 6)))) none enE h6)) fun k4 =>
 cnd x3
 (after (fun x99 h100 =>
 after (fun x101 h102 =>
 clearUp h (packR h102 (resV enE h102 [.cell (.c x0) 5 true, .t (.c (Value.bool false))]))) (store1 5 h100 (cellsL x99) (addrOf x0))) (oBuild [(Value.int .i64 (.ofNat 0)), (Value.int .i64 (.ofNat 0)), (Value.int .i64 (.ofNat 0)), (Value.int .i64 (.ofNat 0)), (Value.int .u64 (.ofNat 0))] [] enE h1))
 (k4 (Value.bool false) h1)))) (oAlloc 62 [(Value.int .i64 (.ofNat 0)), (Value.int .i64 (.ofNat 0)), (Value.int .i64 (.ofNat 0)), (Value.int .i64 (.ofNat 0)), (Value.int .u64 (.ofNat 0))] enE h0)

theorem q61 (R : RnK) (N : Nat) (args : List Value) (h : Hs) : r61 R N args h = callT Tryz.prog N R 61 args h := by kernel_rfl

/-- lintel/node.Get -/
noncomputable def r72 (R : RnK) (N : Nat) (args : List Value) (h : Hs) : An := unC args fun a0 sq0 => enK h fun h0 =>
 after (fun x0 h1 =>
 kLenV a0 (fun x2 =>
 kI64 .neq x2 (Value.int .i64 (.ofNat 8)) (fun x3 =>
 gdF x3 h1 (fun k4 => k4 a0 h1) (fun x5 h6 =>
 gdF x3 h6 (fun k7 => kIdxA 1 x5 (Value.int .i64 (.ofNat 0)) (fun x8 => k7 x8 h6)) (fun x9 h10 =>
 gdF x3 h10 (fun k11 => kLoad x9 h10 (fun x12 => k11 x12 h10)) (fun x13 h14 =>
 gdF x3 h14 (fun k15 => kShr x13 (Value.int .u64 (.ofNat 32)) (fun x16 => k15 x16 h14)) (fun x17 h18 =>
 gdF x3 h18 (fun k19 => kU64 .neq x17 (Value.int .u64 (.ofNat 0)) (fun x20 => k19 x20 h18)) (fun x21 h22 =>
 after (fun x23 h24 =>
 gdF x23 h24 (fun k25 => k25 a0 h24) (fun x26 h27 =>
 gdF x23 h27 (fun k28 => kIdxA 1 x26 (Value.int .i64 (.ofNat 1)) (fun x29 => k28 x29 h27)) (fun x30 h31 =>
 gdF x23 h31 (fun k32 => kLoad x30 h31 (fun x33 => k32 x33 h31)) (fun x34 h35 =>
 gdF x23 h35 (fun k36 => kU64 .gtr x34 (Value.int .u64 (.ofNat 1099511627776)) (fun x37 => k36 x37 h35)) (fun x38 h39 =>
 after (fun x40 h41 =>
 jn (fun (x43 : Value) (h44 : Hs) =>
 kIdxA 1 a0 (Value.int .i64 (.ofNat 0)) (fun x45 =>
 kLoad x45 (Hs.mk h44.hp h44.nx h44.nx) (fun x46 =>
 kU64 .and x46 (Value.int .u64 (.ofNat 255)) (fun x47 =>
 kTo64 x47 (fun x48 =>
 kIdxA 1 a0 (Value.int .i64 (.ofNat 0)) (fun x49 =>
 kLoad x49 (Hs.mk h44.hp h44.nx h44.nx) (fun x50 =>
 kShr x50 (Value.int .u64 (.ofNat 8)) (fun x51 =>
 kTo64 x51 (fun x52 =>
 kIdxA 1 a0 (Value.int .i64 (.ofNat 1)) (fun x53 =>
 kLoad x53 (Hs.mk h44.hp h44.nx h44.nx) (fun x54 =>
 kTo64 x54 (fun x55 =>
 after (fun v126 u127 => dPut (fun x56 h57 =>
 after (fun v124 u125 => dPut (fun x58 h59 =>
 after (fun v122 u123 => dPut (fun x60 h61 =>
 after (fun x62 h63 =>
 kLenV x62 (fun x64 =>
 jn (fun (x66 x67 x68 x69 : Value) (h70 : Hs) =>
 kLoads 4 x58 h70 (fun x71 =>
 kCall R 26 [x71] h70 (fun x72 h73 =>
 kCall R 91 [x72, a0] h73 (fun x74 h75 =>
 kNot x74 (fun x76 =>
 jn (fun (x78 : Value) (h79 : Hs) =>
 kLoads 4 x58 h79 (fun x80 =>
 after (fun x81 h82 =>
 clearUp h (packR h82 (resV enE h82 [.cell (.c x0) 4 true, .t (.c (Value.bool true))]))) (store1 4 h79 (cellsL x80) (addrOf x0)))) fun k77 =>
 cnd x76
 (after (fun x83 h84 =>
 after (fun x85 h86 =>
 clearUp h (packR h86 (resV enE h86 [.cell (.c x0) 4 true, .t (.c (Value.bool false))]))) (store1 4 h84 (cellsL x83) (addrOf x0))) (oBuild [(Value.int .i64 (.ofNat 0)), (Value.int .i64 (.ofNat 0)), (Value.int .i64 (.ofNat 0)), (Value.slice none 0 0)] [] enE h75))
 (k77 x43 h75)))))) fun k65 =>
 lpT (T := Value → Value → Value → Value → Hs → An) (fun _ _ _ _ _ => none) N (fun k87 =>
 fun (x89 x90 x91 x92 : Value) (h93 : Hs) =>
 kI64 .lss x89 x64 (fun x94 =>
 jn (fun (h96 : Hs) =>
 jn (fun (x98 x99 : Value) (h100 : Hs) =>
 kI64 .add x89 (Value.int .i64 (.ofNat 1)) (fun x101 =>
 k87 x101 x94 x98 x99 h100)) fun k97 =>
 kIdxA 1 x62 x89 (fun x102 =>
 kLoad x102 h96 (fun x103 =>
 kU64 .eql x103 (Value.int .u64 (.ofNat 0)) (fun x104 =>
 jn (fun (h106 : Hs) =>
 kFieldA 3 x58 (fun x107 =>
 kLoad x107 h106 (fun x108 =>
 kU64 .and x103 (Value.int .u64 (.ofNat 4294967295)) (fun x109 =>
 kTo64 x109 (fun x110 =>
 kShr x103 (Value.int .u64 (.ofNat 32)) (fun x111 =>
 kTo64 x111 (fun x112 =>
 after (fun x113 h114 =>
 after (fun x115 h116 =>
 after (fun x117 h118 =>
 kFieldA 3 x58 (fun x119 =>
 kStore1 x119 x117 h118 (fun x120 h121 =>
 k97 x103 x104 h121))) (app0 70 2 16 h116 x108 x115)) (oMkrow 70 2 1 [(Value.int .i64 (.ofNat 0)), (Value.int .i64 (.ofNat 0))] [(0, 2, .c x113)] enE h114)) (oBuild [(Value.int .i64 (.ofNat 0)), (Value.int .i64 (.ofNat 0))] [(0, 1, .c x110), (1, 1, .c x112)] enE h106)))))))) fun k105 =>
 cnd x104
 (k65 x89 x94 x103 x104 h96)
 (k105 h96))))) fun k95 =>
 cnd x94
 (k95 h93)
 (k65 x89 x94 x91 x92 h93))) (Value.int .i64 (.ofNat 0)) dunno dunno dunno h63)) (oSlice 1 (.c a0) (some (.c (Value.int .i64 (.ofNat 2)))) (some (.c (Value.int .i64 (.ofNat 6)))) none enE h61)) v122 (dNext h59 u123 .bar) (andB (dFit h59 u123 .bar) (Nat.ble 0 u123.lo))) (store1 4 h59 (cellsL x56) (addrOf x58))) v124 (dNext h57 u125 .make) (andB (dFit h57 u125 .make) (Nat.ble 0 u125.lo))) (oAlloc 68 [(Value.int .i64 (.ofNat 0)), (Value.int .i64 (.ofNat 0)), (Value.int .i64 (.ofNat 0)), (Value.slice none 0 0)] enE (Hs.mk .e h57.nx h57.nx))) v126 (dNext h44 u127 .blind) (andB (dFit h44 u127 .blind) (Nat.ble 0 u127.lo))) (oBuild [(Value.int .i64 (.ofNat 0)), (Value.int .i64 (.ofNat 0)), (Value.int .i64 (.ofNat 0)), (Value.slice none 0 0)] [(0, 1, .c x48), (1, 1, .c x52), (2, 1, .c x55)] enE (Hs.mk .e h44.nx h44.nx)))))))))))))) fun k42 =>
 cnd x40
 (after (fun x128 h129 =>
 after (fun x130 h131 =>
 clearUp h (packR h131 (resV enE h131 [.cell (.c x0) 4 true, .t (.c (Value.bool false))]))) (store1 4 h129 (cellsL x128) (addrOf x0))) (oBuild [(Value.int .i64 (.ofNat 0)), (Value.int .i64 (.ofNat 0)), (Value.int .i64 (.ofNat 0)), (Value.slice none 0 0)] [] enE h41))
 (k42 (Value.bool false) h41)) (pickB (.c (Value.bool true)) (.c x38) enE h39 x23)))))) (pickB (.c (Value.bool true)) (.c x21) enE h22 x3))))))))) (oAlloc 68 [(Value.int .i64 (.ofNat 0)), (Value.int .i64 (.ofNat 0)), (Value.int .i64 (.ofNat 0)), (Value.slice none 0 0)] enE h0)

theorem q72 (R : RnK) (N : Nat) (args : List Value) (h : Hs) : r72 R N args h = callT Tryz.prog N R 72 args h := by kernel_rfl

/-- lintel/node.Good -/
noncomputable def r73 (R : RnK) (N : Nat) (args : List Value) (h : Hs) : An := unC args fun a0 sq0 => unC sq0 fun a1 sq1 => enK h fun h0 =>
 after (fun x0 h1 =>
 after (fun x2 h3 =>
 kLoads 4 x0 h3 (fun x4 =>
 kCall R 10 [x4] h3 (fun x5 h6 =>
 kNot x5 (fun x7 =>
 jn (fun (x9 : Value) (h10 : Hs) =>
 kFieldA 0 x2 (fun x11 =>
 kLoad x11 h10 (fun x12 =>
 kI64 .eql x12 (Value.int .i64 (.ofNat 0)) (fun x13 =>
 jn (fun (x15 : Value) (h16 : Hs) =>
 kFieldA 0 x2 (fun x17 =>
 kLoad x17 h16 (fun x18 =>
 kCall R 88 [x18, (Value.int .i64 (.ofNat 1)), (Value.int .i64 (.ofNat 3))] h16 (fun x19 h20 =>
 kNot x19 (fun x21 =>
 gdF x21 h20 (fun k22 => kFieldA 1 x2 (fun x23 => k22 x23 h20)) (fun x24 h25 =>
 gdF x21 h25 (fun k26 => kLoad x24 h25 (fun x27 => k26 x27 h25)) (fun x28 h29 =>
 gdF x21 h29 (fun k30 => kCall R 88 [x28, (Value.int .i64 (.ofNat 1)), (Value.int .i64 (.ofNat 200))] h29 (k30)) (fun x31 h32 =>
 gdF x21 h32 (fun k33 => kNot x31 (fun x34 => k33 x34 h32)) (fun x35 h36 =>
 after (fun x37 h38 =>
 gdF x37 h38 (fun k39 => kLoads 4 x0 h38 (fun x40 => k39 x40 h38)) (fun x41 h42 =>
 gdF x37 h42 (fun k43 => kLoads 4 x2 h42 (fun x44 => k43 x44 h42)) (fun x45 h46 =>
 gdF x37 h46 (fun k47 => kCall R 94 [x41, x45] h46 (k47)) (fun x48 h49 =>
 gdF x37 h49 (fun k50 => kNot x48 (fun x51 => k50 x51 h49)) (fun x52 h53 =>
 after (fun x54 h55 =>
 jn (fun (x57 : Value) (h58 : Hs) =>
 kFieldA 3 x2 (fun x59 =>
 kLoad x59 h58 (fun x60 =>
 kLenV x60 (fun x61 =>
 kI64 .leq x61 (Value.int .i64 (.ofNat 4)) (fun x62 =>
 gdT x62 h58 (fun k63 => kLoads 4 x0 (Hs.mk h58.hp h58.nx h58.nx) (fun x64 => k63 x64 h58)) (fun x65 _ =>
 gdT x62 h58 (fun k67 => kLoads 4 x2 (Hs.mk h58.hp h58.nx h58.nx) (fun x68 => k67 x68 h58)) (fun x69 _ =>
 gdT x62 h58 (fun k71 => kCall R 95 [x65, x69] h58 (fun v72 u73 => dPut k71 v72 (dNext h58 u73 .bar) (andB (dFit h58 u73 .bar) (Nat.ble 0 u73.lo)))) (fun x74 h75 =>
 after (fun v104 u105 => dPut (fun x76 h77 =>
 gdT x76 h77 (fun k78 => kLoads 4 x2 (dHidS .light [true, true, true, true, true, true, true, true, true, true] [none, some (h75.nx, h77.nx), some (h58.nx, h75.nx), none, none, none, none, none, none, none] h77) (fun x79 => k78 x79 h77)) (fun x80 _ =>
 gdT x76 h77 (fun k82 => kCall R 96 [x80] (dHidS .light [true, true, true, true, true, true, true, true, true, true, true] [none, none, some (h75.nx, h77.nx), some (h58.nx, h75.nx), none, none, none, none, none, none, none] h77) (fun v83 u84 => dPut k82 v83 (dNext h77 u84 .light) (andB (dFit h77 u84 .light) (Nat.ble 0 u84.lo)))) (fun x85 h86 =>
 gdT x76 h86 (fun k87 => kLoads 4 x2 (dHidS .light [false, false, true, true, true, true, true, true, true, true, true, true] [some (h77.nx, h86.nx), none, none, some (h75.nx, h77.nx), some (h58.nx, h75.nx), none, none, none, none, none, none, none] h86) (fun x88 => k87 x88 h86)) (fun x89 _ =>
 gdT x76 h86 (fun k91 => kCall R 97 [x89] h86 (fun v92 u93 => dPut k91 v92 (dNext h86 u93 .bar) (andB (dFit h86 u93 .bar) (Nat.ble 0 u93.lo)))) (fun x94 h95 =>
 gdT x76 h95 (fun k96 => kI64 .eql x85 x94 (fun x97 => k96 x97 h95)) (fun x98 _ =>
 after (fun v102 u103 => dPut (fun x100 h101 =>
 clrK h x100 h101) v102 (dNext h95 u103 .blind) (andB (dFit h95 u103 .blind) (Nat.ble 0 u103.lo))) (pickB (.c x98) (.c (Value.bool false)) enE (Hs.mk .e h95.nx h95.nx) x76))))))) v104 (dNext h75 u105 .blind) (andB (dFit h75 u105 .blind) (Nat.ble 0 u105.lo))) (pickB (.c x74) (.c (Value.bool false)) enE (Hs.mk .e h75.nx h75.nx) x62))))))))) fun k56 =>
 cnd x54
 (clrK h (Value.bool false) h55)
 (k56 x15 h55)) (pickB (.c (Value.bool true)) (.c x52) enE h53 x37)))))) (pickB (.c (Value.bool true)) (.c x35) enE h36 x21)))))))))) fun k14 =>
 cnd x13
 (kLoads 4 x2 h10 (fun x106 =>
 kCall R 87 [x106] h10 (fun x107 h108 =>
 clrK h x107 h108)))
 (k14 x9 h10))))) fun k8 =>
 cnd x7
 (clrK h (Value.bool false) h6)
 (k8 (Value.bool false) h6))))) (oBox 68 (.c a1) enE h1)) (oBox 23 (.c a0) enE h0)

theorem q73 (R : RnK) (N : Nat) (args : List Value) (h : Hs) : r73 R N args h = callT Tryz.prog N R 73 args h := by kernel_rfl

/-- slices.Clone[[]byte,byte] -/
noncomputable def r74 (R : RnK) (N : Nat) (args : List Value) (h : Hs) : An := unC args fun a0 sq0 => enK h fun h0 =>
 obK (fun x0 =>
 jn (fun (x2 : Value) (h3 : Hs) =>
 after (fun x4 h5 =>
 after (fun x6 h7 =>
 clrK h x6 h7) (app0 5 1 1 h5 x4 a0)) (oMkrow 5 1 0 [(Value.int .u8 (.ofNat 0))] [] enE h3)) fun k1 =>
 cnd x0
 (clrK h (Value.slice none 0 0) h0)
 (k1 (Value.slice none 0 0) h0)) (e2 false qS a0 (Value.slice none 0 0))

theorem q74 (R : RnK) (N : Nat) (args : List Value) (h : Hs) : r74 R N args h = callT Tryz.prog N R 74 args h := by kernel_rfl

/-- lintel/runs.At -/
noncomputable def r75 (R : RnK) (N : Nat) (args : List Value) (h : Hs) : An := unC args fun a0 sq0 => unC sq0 fun a1 sq1 => enK h fun h0 =>
 kI64 .lss a1 (Value.int .i64 (.ofNat 0)) (fun x0 =>
 jn (fun (x2 x3 : Value) (h4 : Hs) =>
 kCall R 98 [a0] h4 (fun x5 h6 =>
 kLenV x5 (fun x7 =>
 jn (fun (x9 x10 x11 x12 x13 x14 x15 : Value) (h16 : Hs) =>
 clrK h (Value.tuple #[(Value.int .i64 (.ofNat 0)), (Value.bool false)]) h16) fun k8 =>
 lpT (T := Value → Value → Value → Value → Value → Value → Value → Hs → An) (fun _ _ _ _ _ _ _ _ => none) N (fun k17 =>
 fun (x19 x20 x21 x22 x23 x24 x25 : Value) (h26 : Hs) =>
 kI64 .lss x20 x7 (fun x27 =>
 jn (fun (h29 : Hs) =>
 jn (fun (x31 x32 x33 x34 x35 : Value) (h36 : Hs) =>
 kI64 .add x20 (Value.int .i64 (.ofNat 1)) (fun x37 =>
 k17 x31 x37 x27 x32 x33 x34 x35 h36)) fun k30 =>
 kIdxA 2 x5 x20 (fun x38 =>
 kLoads 2 x38 h29 (fun x39 =>
 after (fun x40 h41 =>
 after (fun x42 h43 =>
 kFieldA 1 x40 (fun x44 =>
 kLoad x44 h43 (fun x45 =>
 kI64 .lss x19 x45 (fun x46 =>
 jn (fun (x48 x49 : Value) (h50 : Hs) =>
 kFieldA 1 x40 (fun x51 =>
 kLoad x51 h50 (fun x52 =>
 kI64 .sub x19 x52 (fun x53 =>
 k30 x53 x40 x46 x48 x49 h50)))) fun k47 =>
 cnd x46
 (kFieldA 0 x40 (fun x54 =>
 kLoad x54 h43 (fun x55 =>
 kI64 .add x55 x19 (fun x56 =>
 clrK h (Value.tuple #[x56, (Value.bool true)]) h43))))
 (k47 x24 x25 h43))))) (store1 2 h41 (cellsL x39) (addrOf x40))) (oAlloc 70 [(Value.int .i64 (.ofNat 0)), (Value.int .i64 (.ofNat 0))] enE h29)))) fun k28 =>
 cnd x27
 (k28 h26)
 (k8 x19 x20 x27 x22 x23 x24 x25 h26))) a1 (Value.int .i64 (.ofNat 0)) dunno dunno dunno x2 x3 h6))) fun k1 =>
 cnd x0
 (clrK h (Value.tuple #[(Value.int .i64 (.ofNat 0)), (Value.bool false)]) h0)
 (k1 (Value.int .i64 (.ofNat 0)) (Value.bool false) h0))

theorem q75 (R : RnK) (N : Nat) (args : List Value) (h : Hs) : r75 R N args h = callT Tryz.prog N R 75 args h := by kernel_rfl

/-- (lintel/tree.Part).may -/
noncomputable def r77 (R : RnK) (N : Nat) (args : List Value) (h : Hs) : An := unC args fun a0 sq0 => enK h fun h0 =>
 after (fun x0 h1 =>
 kFieldA 1 x0 (fun x2 =>
 kLoad x2 h1 (fun x3 =>
 jn (fun (x5 x6 x7 : Value) (h8 : Hs) =>
 kFieldA 1 x0 (fun x9 =>
 kLoad x9 h8 (fun x10 =>
 kI64 .eql x10 (Value.int .i64 (.ofNat 2)) (fun x11 =>
 gdT x11 h8 (fun k12 => kFieldA 2 x0 (fun x13 => k12 x13 h8)) (fun x14 h15 =>
 gdT x11 h15 (fun k16 => kLoad x14 h15 (fun x17 => k16 x17 h15)) (fun x18 h19 =>
 gdT x11 h19 (fun k20 => kLenV x18 (fun x21 => k20 x21 h19)) (fun x22 h23 =>
 gdT x11 h23 (fun k24 => kI64 .eql x22 (Value.int .i64 (.ofNat 0)) (fun x25 => k24 x25 h23)) (fun x26 h27 =>
 after (fun x28 h29 =>
 clrK h x28 h29) (pickB (.c x26) (.c (Value.bool false)) enE h27 x11))))))))) fun k4 =>
 kI64 .eql x3 (Value.int .i64 (.ofNat 1)) (fun x30 =>
 jn (fun (x32 x33 : Value) (h34 : Hs) =>
 k4 x30 x32 x33 h34) fun k31 =>
 cnd x30
 (kFieldA 2 x0 (fun x35 =>
 kLoad x35 h1 (fun x36 =>
 kLenV x36 (fun x37 =>
 kI64 .leq x37 (Value.int .i64 (.ofNat 4096)) (fun x38 =>
 gdT x38 h1 (fun k39 => kFieldA 3 x0 (fun x40 => k39 x40 h1)) (fun x41 h42 =>
 gdT x38 h42 (fun k43 => kLoad x41 h42 (fun x44 => k43 x44 h42)) (fun x45 h46 =>
 gdT x38 h46 (fun k47 => kLenV x45 (fun x48 => k47 x48 h46)) (fun x49 h50 =>
 gdT x38 h50 (fun k51 => kI64 .eql x49 (Value.int .i64 (.ofNat 0)) (fun x52 => k51 x52 h50)) (fun x53 h54 =>
 after (fun x55 h56 =>
 clrK h x55 h56) (pickB (.c x53) (.c (Value.bool false)) enE h54 x38))))))))))
 (kI64 .eql x3 (Value.int .i64 (.ofNat 3)) (fun x57 =>
 jn (fun (x59 : Value) (h60 : Hs) =>
 k31 x57 x59 h60) fun k58 =>
 cnd x57
 (kFieldA 2 x0 (fun x61 =>
 kLoad x61 h1 (fun x62 =>
 kLenV x62 (fun x63 =>
 kI64 .geq x63 (Value.int .i64 (.ofNat 1)) (fun x64 =>
 gdT x64 h1 (fun k65 => kFieldA 2 x0 (fun x66 => k65 x66 h1)) (fun x67 h68 =>
 gdT x64 h68 (fun k69 => kLoad x67 h68 (fun x70 => k69 x70 h68)) (fun x71 h72 =>
 gdT x64 h72 (fun k73 => kLenV x71 (fun x74 => k73 x74 h72)) (fun x75 h76 =>
 gdT x64 h76 (fun k77 => kI64 .leq x75 (Value.int .i64 (.ofNat 400)) (fun x78 => k77 x78 h76)) (fun x79 h80 =>
 after (fun x81 h82 =>
 gdT x81 h82 (fun k83 => kFieldA 3 x0 (fun x84 => k83 x84 h82)) (fun x85 h86 =>
 gdT x81 h86 (fun k87 => kLoad x85 h86 (fun x88 => k87 x88 h86)) (fun x89 h90 =>
 gdT x81 h90 (fun k91 => kLenV x89 (fun x92 => k91 x92 h90)) (fun x93 h94 =>
 gdT x81 h94 (fun k95 => kI64 .eql x93 (Value.int .i64 (.ofNat 0)) (fun x96 => k95 x96 h94)) (fun x97 h98 =>
 after (fun x99 h100 =>
 clrK h x99 h100) (pickB (.c x97) (.c (Value.bool false)) enE h98 x81)))))) (pickB (.c x79) (.c (Value.bool false)) enE h80 x64))))))))))
 (k58 (Value.bool false) h1))))))) (oBox 98 (.c a0) enE h0)

theorem q77 (R : RnK) (N : Nat) (args : List Value) (h : Hs) : r77 R N args h = callT Tryz.prog N R 77 args h := by kernel_rfl

/-- (*lintel/tree.Tree).name -/
noncomputable def r78 (R : RnK) (N : Nat) (args : List Value) (h : Hs) : An := unC args fun a0 sq0 => unC sq0 fun a1 sq1 => unC sq1 fun a2 sq2 => enK h fun h0 =>
 after (fun x0 h1 =>
 kNil a0 (fun x2 =>
 kFieldA 1 x2 (fun x3 =>
 kLoad x3 (Hs.mk h1.hp h1.nx h1.nx) (fun x4 =>
 kFieldA 1 x0 (fun x5 =>
 kLoad x5 (Hs.mk h1.hp h1.nx h1.nx) (fun x6 =>
 after (fun v148 u149 => dPut (fun x7 h8 =>
 kFieldA 0 x0 (fun x9 =>
 kLoad x9 h8 (fun x10 =>
 kCall R 102 [a0, a1, x10] h8 (fun x11 h12 =>
 kExtr x11 0 (fun x13 =>
 kExtr x11 1 (fun x14 =>
 jn (fun (x16 x17 x18 x19 x20 : Value) (h21 : Hs) =>
 kFieldA 0 x0 (fun x22 =>
 kLoad x22 h21 (fun x23 =>
 kFieldA 1 x0 (fun x24 =>
 kLoad x24 h21 (fun x25 =>
 kCall R 105 [a0, a1, x23, x25] h21 (fun x26 h27 =>
 clrK h (Value.bool true) h27)))))) fun k15 =>
 kFieldA 0 x0 (fun x28 =>
 kLoad x28 h12 (fun x29 =>
 kCall R 103 [x29] h12 (fun x30 h31 =>
 kNot x30 (fun x32 =>
 jn (fun (x34 : Value) (h35 : Hs) =>
 jn (fun (x37 x38 x39 x40 : Value) (h41 : Hs) =>
 k15 x34 x37 x38 x39 x40 h41) fun k36 =>
 cnd x34
 (clrK h (Value.bool false) h35)
 (kI64 .eql a1 (Value.int .i64 (.ofNat 2)) (fun x42 =>
 gdT x42 h35 (fun k43 => kFieldA 0 x0 (fun x44 => k43 x44 h35)) (fun x45 _ =>
 gdT x42 h35 (fun k47 => kLoad x45 (Hs.mk h35.hp h35.nx h35.nx) (fun x48 => k47 x48 h35)) (fun x49 _ =>
 gdT x42 h35 (fun k51 => kFieldA 1 x0 (fun x52 => k51 x52 h35)) (fun x53 _ =>
 gdT x42 h35 (fun k55 => kLoad x53 (Hs.mk h35.hp h35.nx h35.nx) (fun x56 => k55 x56 h35)) (fun x57 _ =>
 gdT x42 h35 (fun k59 => kCall R 104 [x57] (Hs.mk h35.hp h35.nx h35.nx) (fun v60 u61 => dPut k59 v60 (dNext h35 u61 .light) (andB (dFit h35 u61 .light) (Nat.ble 0 u61.lo)))) (fun x62 h63 =>
 gdT x42 h63 (fun k64 => obK (fun x65 => k64 x65 h63) (s2 .add (Value.string ⟨#[35]⟩) x62)) (fun x66 _ =>
 gdT x42 h63 (fun k68 => obK (fun x69 => k68 x69 h63) (s2 .neq x49 x66)) (fun x70 _ =>
 after (fun v136 u137 => dPut (fun x72 h73 =>
 jn (fun (x75 x76 x77 : Value) (h78 : Hs) =>
 k36 x72 x75 x76 x77 h78) fun k74 =>
 cnd x72
 (clrK h (Value.bool false) h73)
 (kNil x7 (fun x79 =>
 kFieldA 0 x79 (fun x80 =>
 kLoad x80 h73 (fun x81 =>
 kI64 .eql x81 (Value.int .i64 (.ofNat 2)) (fun x82 =>
 gdT x82 h73 (fun k83 => k83 x7 h73) (fun x84 h85 =>
 gdT x82 h85 (fun k86 => kNil x84 (fun x87 => k86 x87 h85)) (fun x88 h89 =>
 gdT x82 h89 (fun k90 => kFieldA 3 x88 (fun x91 => k90 x91 h89)) (fun x92 h93 =>
 gdT x82 h93 (fun k94 => kLoad x92 h93 (fun x95 => k94 x95 h93)) (fun x96 h97 =>
 gdT x82 h97 (fun k98 => kI64 .neq x96 (Value.int .i64 (.ofNat 0)) (fun x99 => k98 x99 h97)) (fun x100 h101 =>
 after (fun x102 h103 =>
 jn (fun (x105 x106 : Value) (h107 : Hs) =>
 k74 x102 x105 x106 h107) fun k104 =>
 cnd x102
 (clrK h (Value.bool false) h103)
 (kNil x7 (fun x108 =>
 kFieldA 0 x108 (fun x109 =>
 kLoad x109 h103 (fun x110 =>
 kI64 .neq x110 (Value.int .i64 (.ofNat 2)) (fun x111 =>
 gdT x111 h103 (fun k112 => k112 x7 h103) (fun x113 h114 =>
 gdT x111 h114 (fun k115 => kNil x113 (fun x116 => k115 x116 h114)) (fun x117 h118 =>
 gdT x111 h118 (fun k119 => kFieldA 4 x117 (fun x120 => k119 x120 h118)) (fun x121 h122 =>
 gdT x111 h122 (fun k123 => kLoad x121 h122 (fun x124 => k123 x124 h122)) (fun x125 h126 =>
 gdT x111 h126 (fun k127 => kI64 .eql x125 (Value.int .i64 (.ofNat 200)) (fun x128 => k127 x128 h126)) (fun x129 h130 =>
 after (fun x131 h132 =>
 jn (fun (x134 : Value) (h135 : Hs) =>
 k104 x131 x134 h135) fun k133 =>
 cnd x131
 (clrK h (Value.bool false) h132)
 (k133 (Value.bool false) h132)) (pickB (.c x129) (.c (Value.bool false)) enE h130 x111)))))))))))) (pickB (.c x100) (.c (Value.bool false)) enE h101 x82)))))))))))) v136 (dNext h63 u137 .blind) (andB (dFit h63 u137 .blind) (Nat.ble 0 u137.lo))) (pickB (.c x70) (.c (Value.bool false)) enE (Hs.mk .e h63.nx h63.nx) x42))))))))))) fun k33 =>
 cnd x32
 (k33 x32 h31)
 (jn (fun (x139 : Value) (h140 : Hs) =>
 k33 x139 h140) fun k138 =>
 cnd x14
 (k138 x14 h31)
 (obK (fun x141 =>
 jn (fun (x143 : Value) (h144 : Hs) =>
 k138 x143 h144) fun k142 =>
 cnd x141
 (k142 x141 h31)
 (kFieldA 1 x0 (fun x145 =>
 kLoad x145 h31 (fun x146 =>
 kI64 .leq x146 (Value.int .i64 (.ofNat 2)) (fun x147 =>
 k142 x147 h31))))) (e2 false qP x7 (Value.pointer none)))))))))))))) v148 (dNext h1 u149 .bar) (andB (dFit h1 u149 .bar) (Nat.ble 0 u149.lo))) (ret1 h1 (lk1 true h1 (Value.pointer none) false x6 x4)))))))) (oBox 104 (.c a2) enE h0)

theorem q78 (R : RnK) (N : Nat) (args : List Value) (h : Hs) : r78 R N args h = callT Tryz.prog N R 78 args h := by kernel_rfl

/-- lintel/seal.On -/
noncomputable def r86 (R : RnK) (N : Nat) (args : List Value) (h : Hs) : An := unC args fun a0 sq0 => unC sq0 fun a1 sq1 => enK h fun h0 =>
 kLenV a1 (fun x0 =>
 jn (fun (x2 x3 x4 x5 : Value) (h6 : Hs) =>
 clrK h x4 h6) fun k1 =>
 lpT (T := Value → Value → Value → Value → Hs → An) (fun _ _ _ _ _ => none) N (fun k7 =>
 fun (x9 x10 x11 x12 : Value) (h13 : Hs) =>
 kI64 .lss x9 x0 (fun x14 =>
 jn (fun (h16 : Hs) =>
 jn (fun (x18 x19 : Value) (h20 : Hs) =>
 kI64 .add x9 (Value.int .i64 (.ofNat 1)) (fun x21 =>
 k7 x21 x14 x18 x19 h20)) fun k17 =>
 kIdxA 1 a1 x9 (fun x22 =>
 kLoad x22 h16 (fun x23 =>
 kCall R 111 [x11, (Value.int .i64 (.ofNat 9))] h16 (fun x24 h25 =>
 kU64 .xor x24 x23 (fun x26 =>
 k17 x26 x23 h25))))) fun k15 =>
 cnd x14
 (k15 h13)
 (k1 x9 x14 x11 x12 h13))) (Value.int .i64 (.ofNat 0)) dunno a0 dunno h0)

theorem q86 (R : RnK) (N : Nat) (args : List Value) (h : Hs) : r86 R N args h = callT Tryz.prog N R 86 args h := by kernel_rfl

/-- lintel/node.free -/
noncomputable def r87 (R : RnK) (N : Nat) (args : List Value) (h : Hs) : An := unC args fun a0 sq0 => enK h fun h0 =>
 after (fun x0 h1 =>
 kFieldA 0 x0 (fun x2 =>
 kLoad x2 h1 (fun x3 =>
 kI64 .eql x3 (Value.int .i64 (.ofNat 0)) (fun x4 =>
 gdT x4 h1 (fun k5 => kFieldA 1 x0 (fun x6 => k5 x6 h1)) (fun x7 h8 =>
 gdT x4 h8 (fun k9 => kLoad x7 h8 (fun x10 => k9 x10 h8)) (fun x11 h12 =>
 gdT x4 h12 (fun k13 => kI64 .eql x11 (Value.int .i64 (.ofNat 0)) (fun x14 => k13 x14 h12)) (fun x15 h16 =>
 after (fun x17 h18 =>
 gdT x17 h18 (fun k19 => kFieldA 2 x0 (fun x20 => k19 x20 h18)) (fun x21 h22 =>
 gdT x17 h22 (fun k23 => kLoad x21 h22 (fun x24 => k23 x24 h22)) (fun x25 h26 =>
 gdT x17 h26 (fun k27 => kI64 .eql x25 (Value.int .i64 (.ofNat 0)) (fun x28 => k27 x28 h26)) (fun x29 h30 =>
 after (fun x31 h32 =>
 gdT x31 h32 (fun k33 => kFieldA 3 x0 (fun x34 => k33 x34 h32)) (fun x35 h36 =>
 gdT x31 h36 (fun k37 => kLoad x35 h36 (fun x38 => k37 x38 h36)) (fun x39 h40 =>
 gdT x31 h40 (fun k41 => kLenV x39 (fun x42 => k41 x42 h40)) (fun x43 h44 =>
 gdT x31 h44 (fun k45 => kI64 .eql x43 (Value.int .i64 (.ofNat 0)) (fun x46 => k45 x46 h44)) (fun x47 h48 =>
 after (fun x49 h50 =>
 clrK h x49 h50) (pickB (.c x47) (.c (Value.bool false)) enE h48 x31)))))) (pickB (.c x29) (.c (Value.bool false)) enE h30 x17))))) (pickB (.c x15) (.c (Value.bool false)) enE h16 x4)))))))) (oBox 68 (.c a0) enE h0)

theorem q87 (R : RnK) (N : Nat) (args : List Value) (h : Hs) : r87 R N args h = callT Tryz.prog N R 87 args h := by kernel_rfl

/-- lintel/node.in -/
noncomputable def r88 (R : RnK) (N : Nat) (args : List Value) (h : Hs) : An := unC args fun a0 sq0 => unC sq0 fun a1 sq1 => unC sq1 fun a2 sq2 => enK h fun h0 =>
 kI64 .geq a0 a1 (fun x0 =>
 gdT x0 h0 (fun k1 => k1 a0 h0) (fun x2 h3 =>
 gdT x0 h3 (fun k4 => k4 a2 h3) (fun x5 h6 =>
 gdT x0 h6 (fun k7 => kI64 .leq x2 x5 (fun x8 => k7 x8 h6)) (fun x9 h10 =>
 after (fun x11 h12 =>
 clrK h x11 h12) (pickB (.c x9) (.c (Value.bool false)) enE h10 x0)))))

theorem q88 (R : RnK) (N : Nat) (args : List Value) (h : Hs) : r88 R N args h = callT Tryz.prog N R 88 args h := by kernel_rfl

/-- slices.ContainsFunc[[]lintel/node.Run,lintel/node.Run] -/
noncomputable def r89 (R : RnK) (N : Nat) (args : List Value) (h : Hs) : An := unC args fun a0 sq0 => unC sq0 fun a1 sq1 => enK h fun h0 =>
 kCall R 112 [a0, a1] h0 (fun x0 h1 =>
 kI64 .geq x0 (Value.int .i64 (.ofNat 0)) (fun x2 =>
 clrK h x2 h1))

theorem q89 (R : RnK) (N : Nat) (args : List Value) (h : Hs) : r89 R N args h = callT Tryz.prog N R 89 args h := by kernel_rfl

/-- lintel/node.fits$1 -/
noncomputable def r90 (R : RnK) (N : Nat) (args : List Value) (h : Hs) : An := unC args fun a0 sq0 => enK h fun h0 =>
 after (fun x0 h1 =>
 kFieldA 0 x0 (fun x2 =>
 kLoad x2 h1 (fun x3 =>
 kCall R 88 [x3, (Value.int .i64 (.ofNat 0)), (Value.int .i64 (.ofNat 2147483648))] h1 (fun x4 h5 =>
 kNot x4 (fun x6 =>
 gdF x6 h5 (fun k7 => kFieldA 1 x0 (fun x8 => k7 x8 h5)) (fun x9 h10 =>
 gdF x6 h10 (fun k11 => kLoad x9 h10 (fun x12 => k11 x12 h10)) (fun x13 h14 =>
 gdF x6 h14 (fun k15 => kCall R 88 [x13, (Value.int .i64 (.ofNat 1)), (Value.int .i64 (.ofNat 2147483648))] h14 (k15)) (fun x16 h17 =>
 gdF x6 h17 (fun k18 => kNot x16 (fun x19 => k18 x19 h17)) (fun x20 h21 =>
 after (fun x22 h23 =>
 clrK h x22 h23) (pickB (.c (Value.bool true)) (.c x20) enE h21 x6)))))))))) (oBox 70 (.c a0) enE h0)

theorem q90 (R : RnK) (N : Nat) (args : List Value) (h : Hs) : r90 R N args h = callT Tryz.prog N R 90 args h := by kernel_rfl

/-- slices.Equal[[]uint64,uint64] -/
noncomputable def r91 (R : RnK) (N : Nat) (args : List Value) (h : Hs) : An := unC args fun a0 sq0 => unC sq0 fun a1 sq1 => enK h fun h0 =>
 kLenV a0 (fun x0 =>
 kLenV a1 (fun x1 =>
 kI64 .neq x0 x1 (fun x2 =>
 jn (fun (x4 : Value) (h5 : Hs) =>
 kLenV a0 (fun x6 =>
 jn (fun (x8 x9 x10 x11 x12 : Value) (h13 : Hs) =>
 clrK h (Value.bool true) h13) fun k7 =>
 lpT (T := Value → Value → Value → Value → Value → Hs → An) (fun _ _ _ _ _ _ => none) N (fun k14 =>
 fun (x16 x17 x18 x19 x20 : Value) (h21 : Hs) =>
 kI64 .lss x16 x6 (fun x22 =>
 jn (fun (h24 : Hs) =>
 jn (fun (x26 x27 x28 : Value) (h29 : Hs) =>
 kI64 .add x16 (Value.int .i64 (.ofNat 1)) (fun x30 =>
 k14 x30 x22 x26 x27 x28 h29)) fun k25 =>
 kIdxA 1 a0 x16 (fun x31 =>
 kLoad x31 (Hs.mk h24.hp h24.nx h24.nx) (fun x32 =>
 kIdxA 1 a1 x16 (fun x33 =>
 kLoad x33 (Hs.mk h24.hp h24.nx h24.nx) (fun x34 =>
 kU64 .neq x32 x34 (fun x35 =>
 jn (fun (x37 : Value) (h38 : Hs) =>
 k25 x16 x35 x37 h38) fun k36 =>
 cnd x35
 (clrK h (Value.bool false) h24)
 (k36 x20 h24))))))) fun k23 =>
 cnd x22
 (k23 h21)
 (k7 x16 x22 x18 x19 x20 h21))) (Value.int .i64 (.ofNat 0)) dunno dunno dunno x4 h5)) fun k3 =>
 cnd x2
 (clrK h (Value.bool false) h0)
 (k3 (Value.bool false) h0))))

theorem q91 (R : RnK) (N : Nat) (args : List Value) (h : Hs) : r91 R N args h = callT Tryz.prog N R 91 args h := by kernel_rfl

/-- lintel/node.sized -/
noncomputable def r94 (R : RnK) (N : Nat) (args : List Value) (h : Hs) : An := unC args fun a0 sq0 => unC sq0 fun a1 sq1 => enK h fun h0 =>
 after (fun x0 h1 =>
 after (fun x2 h3 =>
 kFieldA 0 x2 (fun x4 =>
 kLoad x4 h3 (fun x5 =>
 jn (fun (x7 x8 x9 : Value) (h10 : Hs) =>
 kFieldA 2 x2 (fun x11 =>
 kLoad x11 h10 (fun x12 =>
 kCall R 88 [x12, (Value.int .i64 (.ofNat 1)), (Value.int .i64 (.ofNat 400))] h10 (fun x13 h14 =>
 clrK h x13 h14)))) fun k6 =>
 kI64 .eql x5 (Value.int .i64 (.ofNat 1)) (fun x15 =>
 jn (fun (x17 x18 : Value) (h19 : Hs) =>
 k6 x15 x17 x18 h19) fun k16 =>
 cnd x15
 (kFieldA 2 x2 (fun x20 =>
 kLoad x20 h3 (fun x21 =>
 kCall R 88 [x21, (Value.int .i64 (.ofNat 0)), (Value.int .i64 (.ofNat 4096))] h3 (fun x22 h23 =>
 clrK h x22 h23))))
 (kI64 .eql x5 (Value.int .i64 (.ofNat 2)) (fun x24 =>
 jn (fun (x26 : Value) (h27 : Hs) =>
 k16 x24 x26 h27) fun k25 =>
 cnd x24
 (kFieldA 2 x2 (fun x28 =>
 kLoad x28 h3 (fun x29 =>
 kFieldA 0 x0 (fun x30 =>
 kLoad x30 h3 (fun x31 =>
 after (fun x32 h33 =>
 kCall R 88 [x29, (Value.int .i64 (.ofNat 0)), x32] h33 (fun x34 h35 =>
 clrK h x34 h35)) (oMinmax false [.c x31, .c (Value.int .i64 (.ofNat 4096))] enE h3))))))
 (k25 (Value.bool false) h3))))))) (oBox 68 (.c a1) enE h1)) (oBox 23 (.c a0) enE h0)

theorem q94 (R : RnK) (N : Nat) (args : List Value) (h : Hs) : r94 R N args h = callT Tryz.prog N R 94 args h := by kernel_rfl

/-- lintel/node.placed -/
noncomputable def r95 (R : RnK) (N : Nat) (args : List Value) (h : Hs) : An := unC args fun a0 sq0 => unC sq0 fun a1 sq1 => enK h fun h0 =>
 after (fun x0 h1 =>
 after (fun x2 h3 =>
 kLoads 4 x0 h3 (fun x4 =>
 kCall R 22 [x4] h3 (fun x5 h6 =>
 kExtr x5 0 (fun x7 =>
 kExtr x5 1 (fun x8 =>
 kFieldA 0 x2 (fun x9 =>
 kLoad x9 h6 (fun x10 =>
 kI64 .eql x10 (Value.int .i64 (.ofNat 2)) (fun x11 =>
 gdT x11 h6 (fun k12 => kFieldA 3 x2 (fun x13 => k12 x13 h6)) (fun x14 h15 =>
 gdT x11 h15 (fun k16 => kLoad x14 h15 (fun x17 => k16 x17 h15)) (fun x18 h19 =>
 gdT x11 h19 (fun k20 => k20 x7 h19) (fun x21 h22 =>
 gdT x11 h22 (fun k23 => k23 x8 h22) (fun x24 h25 =>
 gdT x11 h25 (fun k26 => after (k26) (oBuild [(Value.int .i64 (.ofNat 0)), (Value.int .i64 (.ofNat 0))] [(0, 1, .c x21), (1, 1, .c x24)] enE h25)) (fun x27 h28 =>
 gdT x11 h28 (fun k29 => after (k29) (oMkrow 70 2 1 [(Value.int .i64 (.ofNat 0)), (Value.int .i64 (.ofNat 0))] [(0, 2, .c x27)] enE h28)) (fun x30 h31 =>
 gdT x11 h31 (fun k32 => kCall R 114 [x18, x30] h31 (k32)) (fun x33 h34 =>
 after (fun x35 h36 =>
 jn (fun (x38 : Value) (h39 : Hs) =>
 kLoads 4 x0 h39 (fun x40 =>
 kCall R 11 [x40] h39 (fun x41 h42 =>
 kExtr x41 0 (fun x43 =>
 kExtr x41 1 (fun x44 =>
 kFieldA 3 x2 (fun x45 =>
 kLoad x45 h42 (fun x46 =>
 kLenV x46 (fun x47 =>
 jn (fun (x49 x50 x51 x52 x53 x54 x55 x56 x57 x58 x59 x60 : Value) (h61 : Hs) =>
 clrK h (Value.bool true) h61) fun k48 =>
 lpT (T := Value → Value → Value → Value → Value → Value → Value → Value → Value → Value → Value → Value → Hs → An) (fun _ _ _ _ _ _ _ _ _ _ _ _ _ => none) N (fun k62 =>
 fun (x64 x65 x66 x67 x68 x69 x70 x71 x72 x73 x74 x75 : Value) (h76 : Hs) =>
 kI64 .lss x64 x47 (fun x77 =>
 jn (fun (h79 : Hs) =>
 jn (fun (x81 x82 x83 x84 x85 x86 x87 x88 x89 x90 : Value) (h91 : Hs) =>
 kI64 .add x64 (Value.int .i64 (.ofNat 1)) (fun x92 =>
 k62 x92 x77 x81 x82 x83 x84 x85 x86 x87 x88 x89 x90 h91)) fun k80 =>
 kIdxA 2 x46 x64 (fun x93 =>
 kLoads 2 x93 h79 (fun x94 =>
 after (fun x95 h96 =>
 after (fun x97 h98 =>
 kFieldA 1 x95 (fun x99 =>
 kLoad x99 h98 (fun x100 =>
 kI64 .lss x100 (Value.int .i64 (.ofNat 1)) (fun x101 =>
 gdF x101 h98 (fun k102 => kFieldA 0 x95 (fun x103 => k102 x103 h98)) (fun x104 h105 =>
 gdF x101 h105 (fun k106 => kLoad x104 h105 (fun x107 => k106 x107 h105)) (fun x108 h109 =>
 gdF x101 h109 (fun k110 => k110 x43 h109) (fun x111 h112 =>
 gdF x101 h112 (fun k113 => kI64 .lss x108 x111 (fun x114 => k113 x114 h112)) (fun x115 h116 =>
 after (fun x117 h118 =>
 gdF x117 h118 (fun k119 => kFieldA 0 x95 (fun x120 => k119 x120 h118)) (fun x121 h122 =>
 gdF x117 h122 (fun k123 => kLoad x121 h122 (fun x124 => k123 x124 h122)) (fun x125 h126 =>
 gdF x117 h126 (fun k127 => k127 x43 h126) (fun x128 h129 =>
 gdF x117 h129 (fun k130 => kI64 .sub x125 x128 (fun x131 => k130 x131 h129)) (fun x132 h133 =>
 gdF x117 h133 (fun k134 => k134 x44 h133) (fun x135 h136 =>
 gdF x117 h136 (fun k137 => kI64 .geq x132 x135 (fun x138 => k137 x138 h136)) (fun x139 h140 =>
 after (fun x141 h142 =>
 gdF x141 h142 (fun k143 => kFieldA 1 x95 (fun x144 => k143 x144 h142)) (fun x145 h146 =>
 gdF x141 h146 (fun k147 => kLoad x145 h146 (fun x148 => k147 x148 h146)) (fun x149 h150 =>
 gdF x141 h150 (fun k151 => k151 x44 h150) (fun x152 h153 =>
 gdF x141 h153 (fun k154 => kFieldA 0 x95 (fun x155 => k154 x155 h153)) (fun x156 h157 =>
 gdF x141 h157 (fun k158 => kLoad x156 h157 (fun x159 => k158 x159 h157)) (fun x160 h161 =>
 gdF x141 h161 (fun k162 => k162 x43 h161) (fun x163 h164 =>
 gdF x141 h164 (fun k165 => kI64 .sub x160 x163 (fun x166 => k165 x166 h164)) (fun x167 h168 =>
 gdF x141 h168 (fun k169 => kI64 .sub x152 x167 (fun x170 => k169 x170 h168)) (fun x171 h172 =>
 gdF x141 h172 (fun k173 => kI64 .gtr x149 x171 (fun x174 => k173 x174 h172)) (fun x175 h176 =>
 after (fun x177 h178 =>
 jn (fun (x180 : Value) (h181 : Hs) =>
 kFieldA 3 x2 (fun x182 =>
 kLoad x182 h181 (fun x183 =>
 after (fun x184 h185 =>
 kLenV x184 (fun x186 =>
 jn (fun (x188 x189 x190 x191 x192 : Value) (h193 : Hs) =>
 k80 x95 x177 x64 x188 x186 x189 x184 x190 x191 x192 h193) fun k187 =>
 lpT (T := Value → Value → Value → Value → Value → Hs → An) (fun _ _ _ _ _ _ => none) N (fun k194 =>
 fun (x196 x197 x198 x199 x200 : Value) (h201 : Hs) =>
 kI64 .lss x196 x186 (fun x202 =>
 jn (fun (h204 : Hs) =>
 jn (fun (x206 x207 x208 : Value) (h209 : Hs) =>
 kI64 .add x196 (Value.int .i64 (.ofNat 1)) (fun x210 =>
 k194 x210 x202 x206 x207 x208 h209)) fun k205 =>
 kIdxA 2 x184 x196 (fun x211 =>
 kLoads 2 x211 h204 (fun x212 =>
 after (fun x213 h214 =>
 after (fun x215 h216 =>
 kFieldA 0 x95 (fun x217 =>
 kLoad x217 h216 (fun x218 =>
 kFieldA 0 x213 (fun x219 =>
 kLoad x219 h216 (fun x220 =>
 kFieldA 1 x213 (fun x221 =>
 kLoad x221 h216 (fun x222 =>
 kI64 .add x220 x222 (fun x223 =>
 kI64 .lss x218 x223 (fun x224 =>
 gdT x224 h216 (fun k225 => kFieldA 0 x213 (fun x226 => k225 x226 h216)) (fun x227 h228 =>
 gdT x224 h228 (fun k229 => kLoad x227 h228 (fun x230 => k229 x230 h228)) (fun x231 h232 =>
 gdT x224 h232 (fun k233 => kFieldA 0 x95 (fun x234 => k233 x234 h232)) (fun x235 h236 =>
 gdT x224 h236 (fun k237 => kLoad x235 h236 (fun x238 => k237 x238 h236)) (fun x239 h240 =>
 gdT x224 h240 (fun k241 => kFieldA 1 x95 (fun x242 => k241 x242 h240)) (fun x243 h244 =>
 gdT x224 h244 (fun k245 => kLoad x243 h244 (fun x246 => k245 x246 h244)) (fun x247 h248 =>
 gdT x224 h248 (fun k249 => kI64 .add x239 x247 (fun x250 => k249 x250 h248)) (fun x251 h252 =>
 gdT x224 h252 (fun k253 => kI64 .lss x231 x251 (fun x254 => k253 x254 h252)) (fun x255 h256 =>
 after (fun x257 h258 =>
 jn (fun (x260 : Value) (h261 : Hs) =>
 k205 x213 x257 x260 h261) fun k259 =>
 cnd x257
 (clrK h (Value.bool false) h258)
 (k259 x200 h258)) (pickB (.c x255) (.c (Value.bool false)) enE h256 x224)))))))))))))))))) (store1 2 h214 (cellsL x212) (addrOf x213))) (oAlloc 70 [(Value.int .i64 (.ofNat 0)), (Value.int .i64 (.ofNat 0))] enE h204)))) fun k203 =>
 cnd x202
 (k203 h201)
 (k187 x196 x202 x198 x199 x200 h201))) (Value.int .i64 (.ofNat 0)) x71 x73 x74 x180 h185)) (oSlice 2 (.c x183) none (some (.c x64)) none enE h181)))) fun k179 =>
 cnd x177
 (clrK h (Value.bool false) h178)
 (k179 x75 h178)) (pickB (.c (Value.bool true)) (.c x175) enE h176 x141))))))))))) (pickB (.c (Value.bool true)) (.c x139) enE h140 x117)))))))) (pickB (.c (Value.bool true)) (.c x115) enE h116 x101))))))))) (store1 2 h96 (cellsL x94) (addrOf x95))) (oAlloc 70 [(Value.int .i64 (.ofNat 0)), (Value.int .i64 (.ofNat 0))] enE h79)))) fun k78 =>
 cnd x77
 (k78 h76)
 (k48 x64 x77 x66 x67 x68 x69 x70 x71 x72 x73 x74 x75 h76))) (Value.int .i64 (.ofNat 0)) dunno dunno dunno dunno dunno dunno dunno dunno dunno dunno x38 h42)))))))) fun k37 =>
 cnd x35
 (clrK h (Value.bool true) h36)
 (k37 (Value.bool false) h36)) (pickB (.c x33) (.c (Value.bool false)) enE h34 x11)))))))))))))))) (oBox 68 (.c a1) enE h1)) (oBox 23 (.c a0) enE h0)

theorem q95 (R : RnK) (N : Nat) (args : List Value) (h : Hs) : r95 R N args h = callT Tryz.prog N R 95 args h := by kernel_rfl

/-- lintel/node.Blocks -/
noncomputable def r96 (R : RnK) (N : Nat) (args : List Value) (h : Hs) : An := unC args fun a0 sq0 => enK h fun h0 =>
 after (fun x0 h1 =>
 kFieldA 3 x0 (fun x2 =>
 kLoad x2 h1 (fun x3 =>
 kLenV x3 (fun x4 =>
 jn (fun (x6 x7 x8 x9 : Value) (h10 : Hs) =>
 clrK h x8 h10) fun k5 =>
 lpT (T := Value → Value → Value → Value → Hs → An) (fun _ _ _ _ _ => none) N (fun k11 =>
 fun (x13 x14 x15 x16 : Value) (h17 : Hs) =>
 kI64 .lss x13 x4 (fun x18 =>
 jn (fun (h20 : Hs) =>
 jn (fun (x22 x23 : Value) (h24 : Hs) =>
 kI64 .add x13 (Value.int .i64 (.ofNat 1)) (fun x25 =>
 k11 x25 x18 x22 x23 h24)) fun k21 =>
 kIdxA 2 x3 x13 (fun x26 =>
 kLoads 2 x26 h20 (fun x27 =>
 after (fun x28 h29 =>
 after (fun x30 h31 =>
 kFieldA 1 x28 (fun x32 =>
 kLoad x32 h31 (fun x33 =>
 kI64 .add x15 x33 (fun x34 =>
 k21 x34 x28 h31)))) (store1 2 h29 (cellsL x27) (addrOf x28))) (oAlloc 70 [(Value.int .i64 (.ofNat 0)), (Value.int .i64 (.ofNat 0))] enE h20)))) fun k19 =>
 cnd x18
 (k19 h17)
 (k5 x13 x18 x15 x16 h17))) (Value.int .i64 (.ofNat 0)) dunno (Value.int .i64 (.ofNat 0)) dunno h1)))) (oBox 68 (.c a0) enE h0)

theorem q96 (R : RnK) (N : Nat) (args : List Value) (h : Hs) : r96 R N args h = callT Tryz.prog N R 96 args h := by kernel_rfl

/-- lintel/node.Needs -/
noncomputable def r97 (R : RnK) (N : Nat) (args : List Value) (h : Hs) : An := unC args fun a0 sq0 => enK h fun h0 =>
 after (fun x0 h1 =>
 jn (fun (x3 x4 x5 x6 : Value) (h7 : Hs) =>
 clrK h (Value.int .i64 (.ofNat 0)) h7) fun k2 =>
 kFieldA 2 x0 (fun x8 =>
 kLoad x8 h1 (fun x9 =>
 kI64 .lss x9 (Value.int .i64 (.ofNat 0)) (fun x10 =>
 jn (fun (x12 x13 x14 : Value) (h15 : Hs) =>
 k2 x10 x12 x13 x14 h15) fun k11 =>
 cnd x10
 (clrK h (Value.int .i64 (.ofNat 0)) h1)
 (kFieldA 0 x0 (fun x16 =>
 kLoad x16 h1 (fun x17 =>
 kI64 .eql x17 (Value.int .i64 (.ofNat 2)) (fun x18 =>
 jn (fun (x20 x21 : Value) (h22 : Hs) =>
 k11 x18 x20 x21 h22) fun k19 =>
 cnd x18
 (kFieldA 2 x0 (fun x23 =>
 kLoad x23 h1 (fun x24 =>
 clrK h x24 h1)))
 (kFieldA 0 x0 (fun x25 =>
 kLoad x25 h1 (fun x26 =>
 kI64 .eql x26 (Value.int .i64 (.ofNat 1)) (fun x27 =>
 jn (fun (x29 : Value) (h30 : Hs) =>
 jn (fun (x32 : Value) (h33 : Hs) =>
 k19 x29 x32 h33) fun k31 =>
 cnd x29
 (kFieldA 2 x0 (fun x34 =>
 kLoad x34 h30 (fun x35 =>
 kI64 .quo x35 (Value.int .i64 (.ofNat 64)) (fun x36 =>
 kFieldA 2 x0 (fun x37 =>
 kLoad x37 h30 (fun x38 =>
 kI64 .rem x38 (Value.int .i64 (.ofNat 64)) (fun x39 =>
 after (fun x40 h41 =>
 kI64 .add x36 x40 (fun x42 =>
 clrK h x42 h41)) (oMinmax false [.c x39, .c (Value.int .i64 (.ofNat 1))] enE h30))))))))
 (k31 (Value.int .i64 (.ofNat 0)) h30)) fun k28 =>
 cnd x27
 (k28 x27 h1)
 (kFieldA 0 x0 (fun x43 =>
 kLoad x43 h1 (fun x44 =>
 kI64 .eql x44 (Value.int .i64 (.ofNat 3)) (fun x45 =>
 k28 x45 h1)))))))))))))))) (oBox 68 (.c a0) enE h0)

theorem q97 (R : RnK) (N : Nat) (args : List Value) (h : Hs) : r97 R N args h = callT Tryz.prog N R 97 args h := by kernel_rfl

/-- lintel/runs.counts -/
noncomputable def r98 (R : RnK) (N : Nat) (args : List Value) (h : Hs) : An := unC args fun a0 sq0 => enK h fun h0 =>
 kLenV a0 (fun x0 =>
 jn (fun (x2 x3 x4 x5 x6 : Value) (h7 : Hs) =>
 clrK h x6 h7) fun k1 =>
 lpT (T := Value → Value → Value → Value → Value → Hs → An) (fun _ _ _ _ _ _ => none) N (fun k8 =>
 fun (x10 x11 x12 x13 x14 : Value) (h15 : Hs) =>
 kI64 .lss x10 x0 (fun x16 =>
 jn (fun (h18 : Hs) =>
 jn (fun (x20 x21 x22 : Value) (h23 : Hs) =>
 kI64 .add x10 (Value.int .i64 (.ofNat 1)) (fun x24 =>
 k8 x24 x16 x20 x21 x22 h23)) fun k19 =>
 kIdxA 2 a0 x10 (fun x25 =>
 kLoads 2 x25 h18 (fun x26 =>
 after (fun x27 h28 =>
 after (fun x29 h30 =>
 kFieldA 1 x27 (fun x31 =>
 kLoad x31 h30 (fun x32 =>
 kI64 .geq x32 (Value.int .i64 (.ofNat 1)) (fun x33 =>
 gdT x33 h30 (fun k34 => kFieldA 1 x27 (fun x35 => k34 x35 h30)) (fun x36 h37 =>
 gdT x33 h37 (fun k38 => kLoad x36 h37 (fun x39 => k38 x39 h37)) (fun x40 h41 =>
 gdT x33 h41 (fun k42 => kI64 .leq x40 (Value.int .i64 (.ofNat 1073741824)) (fun x43 => k42 x43 h41)) (fun x44 h45 =>
 after (fun x46 h47 =>
 gdT x46 h47 (fun k48 => kFieldA 0 x27 (fun x49 => k48 x49 h47)) (fun x50 h51 =>
 gdT x46 h51 (fun k52 => kLoad x50 h51 (fun x53 => k52 x53 h51)) (fun x54 h55 =>
 gdT x46 h55 (fun k56 => kI64 .geq x54 (Value.int .i64 (.ofNat 0)) (fun x57 => k56 x57 h55)) (fun x58 h59 =>
 after (fun x60 h61 =>
 gdT x60 h61 (fun k62 => kFieldA 0 x27 (fun x63 => k62 x63 h61)) (fun x64 h65 =>
 gdT x60 h65 (fun k66 => kLoad x64 h65 (fun x67 => k66 x67 h65)) (fun x68 h69 =>
 gdT x60 h69 (fun k70 => kI64 .leq x68 (Value.int .i64 (.ofNat 1073741824)) (fun x71 => k70 x71 h69)) (fun x72 h73 =>
 after (fun x74 h75 =>
 jn (fun (x77 : Value) (h78 : Hs) =>
 k19 x27 x74 x77 h78) fun k76 =>
 cnd x74
 (kLoads 2 x27 h75 (fun x79 =>
 after (fun x80 h81 =>
 after (fun x82 h83 =>
 k76 x82 h83) (app0 70 2 16 h81 x14 x80)) (oMkrow 70 2 1 [(Value.int .i64 (.ofNat 0)), (Value.int .i64 (.ofNat 0))] [(0, 2, .c x79)] enE h75)))
 (k76 x14 h75)) (pickB (.c x72) (.c (Value.bool false)) enE h73 x60))))) (pickB (.c x58) (.c (Value.bool false)) enE h59 x46))))) (pickB (.c x44) (.c (Value.bool false)) enE h45 x33)))))))) (store1 2 h28 (cellsL x26) (addrOf x27))) (oAlloc 70 [(Value.int .i64 (.ofNat 0)), (Value.int .i64 (.ofNat 0))] enE h18)))) fun k17 =>
 cnd x16
 (k17 h15)
 (k1 x10 x16 x12 x13 x14 h15))) (Value.int .i64 (.ofNat 0)) dunno dunno dunno (Value.slice none 0 0) h0)

theorem q98 (R : RnK) (N : Nat) (args : List Value) (h : Hs) : r98 R N args h = callT Tryz.prog N R 98 args h := by kernel_rfl

/-- (*strings.Builder).WriteByte -/
noncomputable def r99 (R : RnK) (N : Nat) (args : List Value) (h : Hs) : An := unC args fun a0 sq0 => unC sq0 fun a1 sq1 => enK h fun h0 =>
 kCall R 115 [a0] h0 (fun x0 h1 =>
 kNil a0 (fun x2 =>
 kFieldA 1 x2 (fun x3 =>
 kLoad x3 h1 (fun x4 =>
 after (fun x5 h6 =>
 after (fun x7 h8 =>
 kNil a0 (fun x9 =>
 kFieldA 1 x9 (fun x10 =>
 kStore1 x10 x7 h8 (fun x11 h12 =>
 clrK h Value.nilIface h12)))) (app0 5 1 1 h6 x4 x5)) (oMkrow 5 1 1 [(Value.int .u8 (.ofNat 0))] [(0, 1, .c a1)] enE h1)))))

theorem q99 (R : RnK) (N : Nat) (args : List Value) (h : Hs) : r99 R N args h = callT Tryz.prog N R 99 args h := by kernel_rfl

/-- (*strings.Builder).String -/
noncomputable def r100 (R : RnK) (N : Nat) (args : List Value) (h : Hs) : An := unC args fun a0 sq0 => enK h fun h0 =>
 kNil a0 (fun x0 =>
 kFieldA 1 x0 (fun x1 =>
 kLoad x1 (Hs.mk h0.hp h0.nx h0.nx) (fun x2 =>
 after (fun v13 u14 => dPut (fun x3 h4 =>
 kNil a0 (fun x5 =>
 kFieldA 1 x5 (fun x6 =>
 kLoad x6 (dHidS .light [true, true, true, false, false, false, false, false] [none, none, none, some (h0.nx, h4.nx), none, none, none, none] h4) (fun x7 =>
 kLenV x7 (fun x8 =>
 after (fun v11 u12 => dPut (fun x9 h10 =>
 clrK h x9 h10) v11 (dNext h4 u12 .bar) (andB (dFit h4 u12 .bar) (Nat.ble 0 u12.lo))) (ustr1 5 h4 x3 (nat64 x8))))))) v13 (dNext h0 u14 .light) (andB (dFit h0 u14 .light) (Nat.ble 0 u14.lo))) (ret1 (Hs.mk h0.hp h0.nx h0.nx) (sdata1 x2)))))

theorem q100 (R : RnK) (N : Nat) (args : List Value) (h : Hs) : r100 R N args h = callT Tryz.prog N R 100 args h := by kernel_rfl

/-- (*lintel/tree.Tree).find -/
noncomputable def r102 (R : RnK) (N : Nat) (args : List Value) (h : Hs) : An := unC args fun a0 sq0 => unC sq0 fun a1 sq1 => unC sq1 fun a2 sq2 => enK h fun h0 =>
 kI64 .eql a1 (Value.int .i64 (.ofNat 1)) (fun x0 =>
 gdT x0 h0 (fun k1 => k1 a2 h0) (fun x2 h3 =>
 gdT x0 h3 (fun k4 => obK (fun x5 => k4 x5 h3) (s2 .eql x2 (Value.string ⟨#[108, 111, 115, 116, 43, 102, 111, 117, 110, 100]⟩))) (fun x6 h7 =>
 after (fun x8 h9 =>
 jn (fun (x11 x12 : Value) (h13 : Hs) =>
 kNil a0 (fun x14 =>
 kFieldA 1 x14 (fun x15 =>
 kLoad x15 h13 (fun x16 =>
 after (fun x17 h18 =>
 kNil x17 (fun x19 =>
 kFieldA 2 x19 (fun x20 =>
 kLoad x20 h18 (fun x21 =>
 after (fun x22 h23 =>
 kExtr x22 0 (fun x24 =>
 kExtr x22 1 (fun x25 =>
 clrK h (Value.tuple #[x24, x25]) h23))) (ret1 h18 (lk1 false h18 (Value.int .i64 (.ofNat 0)) true a2 x21)))))) (ret1 h13 (lk1 true h13 (Value.pointer none) false a1 x16)))))) fun k10 =>
 cnd x8
 (clrK h (Value.tuple #[(Value.int .i64 (.ofNat 2)), (Value.bool true)]) h9)
 (k10 (Value.int .i64 (.ofNat 0)) (Value.bool false) h9)) (pickB (.c x6) (.c (Value.bool false)) enE h7 x0))))

theorem q102 (R : RnK) (N : Nat) (args : List Value) (h : Hs) : r102 R N args h = callT Tryz.prog N R 102 args h := by kernel_rfl

/-- lintel/path.Name -/
noncomputable def r103 (R : RnK) (N : Nat) (args : List Value) (h : Hs) : An := unC args fun a0 sq0 => enK h fun h0 =>
 obK (fun x0 =>
 gdT x0 h0 (fun k1 => k1 a0 h0) (fun x2 h3 =>
 gdT x0 h3 (fun k4 => kLenS x2 (fun x5 => k4 x5 h3)) (fun x6 h7 =>
 gdT x0 h7 (fun k8 => kI64 .leq x6 (Value.int .i64 (.ofNat 40)) (fun x9 => k8 x9 h7)) (fun x10 h11 =>
 after (fun x12 h13 =>
 gdT x12 h13 (fun k14 => k14 a0 h13) (fun x15 h16 =>
 gdT x12 h16 (fun k17 => obK (fun x18 => k17 x18 h16) (s2 .neq x15 (Value.string ⟨#[46]⟩))) (fun x19 h20 =>
 after (fun x21 h22 =>
 gdT x21 h22 (fun k23 => k23 a0 h22) (fun x24 h25 =>
 gdT x21 h25 (fun k26 => obK (fun x27 => k26 x27 h25) (s2 .neq x24 (Value.string ⟨#[46, 46]⟩))) (fun x28 h29 =>
 after (fun x30 h31 =>
 gdT x30 h31 (fun k32 => k32 a0 h31) (fun x33 h34 =>
 gdT x30 h34 (fun k35 => kCall R 117 [x33, (Value.string ⟨#[47]⟩)] h34 (k35)) (fun x36 h37 =>
 gdT x30 h37 (fun k38 => kNot x36 (fun x39 => k38 x39 h37)) (fun x40 h41 =>
 after (fun x42 h43 =>
 gdT x42 h43 (fun k44 => k44 a0 h43) (fun x45 h46 =>
 gdT x42 h46 (fun k47 => kCall R 117 [x45, (Value.string ⟨#[0]⟩)] h46 (k47)) (fun x48 h49 =>
 gdT x42 h49 (fun k50 => kNot x48 (fun x51 => k50 x51 h49)) (fun x52 h53 =>
 after (fun x54 h55 =>
 clrK h x54 h55) (pickB (.c x52) (.c (Value.bool false)) enE h53 x42))))) (pickB (.c x40) (.c (Value.bool false)) enE h41 x30))))) (pickB (.c x28) (.c (Value.bool false)) enE h29 x21)))) (pickB (.c x19) (.c (Value.bool false)) enE h20 x12)))) (pickB (.c x10) (.c (Value.bool false)) enE h11 x0))))) (s2 .neq a0 (Value.string ⟨#[]⟩))

theorem q103 (R : RnK) (N : Nat) (args : List Value) (h : Hs) : r103 R N args h = callT Tryz.prog N R 103 args h := by kernel_rfl

/-- strconv.Itoa -/
noncomputable def r104 (R : RnK) (N : Nat) (args : List Value) (h : Hs) : An := unC args fun a0 sq0 => enK h fun h0 =>
 kCall R 118 [a0] h0 (fun x0 h1 =>
 clrK h x0 h1)

theorem q104 (R : RnK) (N : Nat) (args : List Value) (h : Hs) : r104 R N args h = callT Tryz.prog N R 104 args h := by kernel_rfl

/-- (*lintel/tree.Tree).put -/
noncomputable def r105 (R : RnK) (N : Nat) (args : List Value) (h : Hs) : An := unC args fun a0 sq0 => unC sq0 fun a1 sq1 => unC sq1 fun a2 sq2 => unC sq2 fun a3 sq3 => enK h fun h0 =>
 kNil a0 (fun x0 =>
 kFieldA 1 x0 (fun x1 =>
 kLoad x1 h0 (fun x2 =>
 after (fun x3 h4 =>
 kNil a0 (fun x5 =>
 kFieldA 1 x5 (fun x6 =>
 kLoad x6 h4 (fun x7 =>
 after (fun x8 h9 =>
 kNil x8 (fun x10 =>
 kFieldA 2 x10 (fun x11 =>
 kLoad x11 h9 (fun x12 =>
 after (fun x13 h14 =>
 kNil x3 (fun x15 =>
 kFieldA 0 x15 (fun x16 =>
 kLoad x16 h14 (fun x17 =>
 kI64 .eql x17 (Value.int .i64 (.ofNat 2)) (fun x18 =>
 jn (fun (h20 : Hs) =>
 clrK h (Value.tuple #[]) h20) fun k19 =>
 cnd x18
 (kNil x3 (fun x21 =>
 kFieldA 3 x21 (fun x22 =>
 kStore1 x22 a1 h14 (fun x23 h24 =>
 k19 h24))))
 (kNil x3 (fun x25 =>
 kFieldA 4 x25 (fun x26 =>
 kLoad x26 h14 (fun x27 =>
 kI64 .add x27 (Value.int .i64 (.ofNat 1)) (fun x28 =>
 kNil x3 (fun x29 =>
 kFieldA 4 x29 (fun x30 =>
 kStore1 x30 x28 h14 (fun x31 h32 =>
 k19 h32))))))))))))) (mapup1 false h9 a2 a3 x12))))) (ret1 h4 (lk1 true h4 (Value.pointer none) false a1 x7)))))) (ret1 h0 (lk1 true h0 (Value.pointer none) false a3 x2)))))

theorem q105 (R : RnK) (N : Nat) (args : List Value) (h : Hs) : r105 R N args h = callT Tryz.prog N R 105 args h := by kernel_rfl

/-- math/bits.Len -/
noncomputable def r108 (R : RnK) (N : Nat) (args : List Value) (h : Hs) : An := unC args fun a0 sq0 => enK h fun h0 =>
 jn (fun (x1 : Value) (h2 : Hs) =>
 kCall R 129 [a0] h2 (fun x3 h4 =>
 clrK h x3 h4)) fun k0 =>
 cnd (Value.bool false)
 (obK (fun x5 =>
 kCall R 128 [x5] h0 (fun x6 h7 =>
 clrK h x6 h7)) (convI1 .u32 a0))
 (k0 (Value.int .i64 (.ofNat 0)) h0)

theorem q108 (R : RnK) (N : Nat) (args : List Value) (h : Hs) : r108 R N args h = callT Tryz.prog N R 108 args h := by kernel_rfl

/-- math/bits.RotateLeft64 -/
noncomputable def r111 (R : RnK) (N : Nat) (args : List Value) (h : Hs) : An := unC args fun a0 sq0 => unC sq0 fun a1 sq1 => enK h fun h0 =>
 kToU a1 (fun x0 =>
 kU64 .and x0 (Value.int .u64 (.ofNat 63)) (fun x1 =>
 kShl a0 x1 (fun x2 =>
 kU64 .sub (Value.int .u64 (.ofNat 64)) x1 (fun x3 =>
 kShr a0 x3 (fun x4 =>
 kU64 .or x2 x4 (fun x5 =>
 clrK h x5 h0))))))

theorem q111 (R : RnK) (N : Nat) (args : List Value) (h : Hs) : r111 R N args h = callT Tryz.prog N R 111 args h := by kernel_rfl

/-- slices.IndexFunc[[]lintel/node.Run,lintel/node.Run] -/
noncomputable def r112 (R : RnK) (N : Nat) (args : List Value) (h : Hs) : An := unC args fun a0 sq0 => unC sq0 fun a1 sq1 => enK h fun h0 =>
 kLenV a0 (fun x0 =>
 jn (fun (x2 x3 x4 x5 x6 : Value) (h7 : Hs) =>
 clrK h (Value.int .i64 (.negSucc 0)) h7) fun k1 =>
 lpT (T := Value → Value → Value → Value → Value → Hs → An) (fun _ _ _ _ _ _ => none) N (fun k8 =>
 fun (x10 x11 x12 x13 x14 : Value) (h15 : Hs) =>
 kI64 .lss x10 x0 (fun x16 =>
 jn (fun (h18 : Hs) =>
 jn (fun (x20 x21 x22 : Value) (h23 : Hs) =>
 kI64 .add x10 (Value.int .i64 (.ofNat 1)) (fun x24 =>
 k8 x24 x16 x20 x21 x22 h23)) fun k19 =>
 kIdxA 2 a0 x10 (fun x25 =>
 kLoads 2 x25 h18 (fun x26 =>
 kCallV R a1 [x26] h18 (fun x27 h28 =>
 jn (fun (x30 : Value) (h31 : Hs) =>
 k19 x10 x27 x30 h31) fun k29 =>
 cnd x27
 (clrK h x10 h28)
 (k29 x14 h28))))) fun k17 =>
 cnd x16
 (k17 h15)
 (k1 x10 x16 x12 x13 x14 h15))) (Value.int .i64 (.ofNat 0)) dunno dunno dunno (Value.int .i64 (.ofNat 0)) h0)

theorem q112 (R : RnK) (N : Nat) (args : List Value) (h : Hs) : r112 R N args h = callT Tryz.prog N R 112 args h := by kernel_rfl

/-- slices.Equal[[]lintel/node.Run,lintel/node.Run] -/
noncomputable def r114 (R : RnK) (N : Nat) (args : List Value) (h : Hs) : An := unC args fun a0 sq0 => unC sq0 fun a1 sq1 => enK h fun h0 =>
 kLenV a0 (fun x0 =>
 kLenV a1 (fun x1 =>
 kI64 .neq x0 x1 (fun x2 =>
 jn (fun (x4 : Value) (h5 : Hs) =>
 kLenV a0 (fun x6 =>
 jn (fun (x8 x9 x10 x11 x12 : Value) (h13 : Hs) =>
 clrK h (Value.bool true) h13) fun k7 =>
 lpT (T := Value → Value → Value → Value → Value → Hs → An) (fun _ _ _ _ _ _ => none) N (fun k14 =>
 fun (x16 x17 x18 x19 x20 : Value) (h21 : Hs) =>
 kI64 .lss x16 x6 (fun x22 =>
 jn (fun (h24 : Hs) =>
 jn (fun (x26 x27 x28 : Value) (h29 : Hs) =>
 kI64 .add x16 (Value.int .i64 (.ofNat 1)) (fun x30 =>
 k14 x30 x22 x26 x27 x28 h29)) fun k25 =>
 kIdxA 2 a0 x16 (fun x31 =>
 kLoads 2 x31 (Hs.mk h24.hp h24.nx h24.nx) (fun x32 =>
 kIdxA 2 a1 x16 (fun x33 =>
 kLoads 2 x33 (Hs.mk h24.hp h24.nx h24.nx) (fun x34 =>
 obK (fun x35 =>
 jn (fun (x37 : Value) (h38 : Hs) =>
 k25 x16 x35 x37 h38) fun k36 =>
 cnd x35
 (clrK h (Value.bool false) h24)
 (k36 x20 h24)) (e2 true (qA [.i, .i]) x32 x34)))))) fun k23 =>
 cnd x22
 (k23 h21)
 (k7 x16 x22 x18 x19 x20 h21))) (Value.int .i64 (.ofNat 0)) dunno dunno dunno x4 h5)) fun k3 =>
 cnd x2
 (clrK h (Value.bool false) h0)
 (k3 (Value.bool false) h0))))

theorem q114 (R : RnK) (N : Nat) (args : List Value) (h : Hs) : r114 R N args h = callT Tryz.prog N R 114 args h := by kernel_rfl

/-- lintel/slot.Good -/
noncomputable def r116 (R : RnK) (N : Nat) (args : List Value) (h : Hs) : An := unC args fun a0 sq0 => enK h fun h0 =>
 after (fun x0 h1 =>
 kFieldA 0 x0 (fun x2 =>
 kLoad x2 h1 (fun x3 =>
 kI64 .eql x3 (Value.int .i64 (.ofNat 0)) (fun x4 =>
 jn (fun (x6 : Value) (h7 : Hs) =>
 kFieldA 0 x0 (fun x8 =>
 kLoad x8 h7 (fun x9 =>
 kI64 .geq x9 (Value.int .i64 (.ofNat 1)) (fun x10 =>
 gdT x10 h7 (fun k11 => kFieldA 0 x0 (fun x12 => k11 x12 h7)) (fun x13 h14 =>
 gdT x10 h14 (fun k15 => kLoad x13 h14 (fun x16 => k15 x16 h14)) (fun x17 h18 =>
 gdT x10 h18 (fun k19 => kI64 .leq x17 (Value.int .i64 (.ofNat 64)) (fun x20 => k19 x20 h18)) (fun x21 h22 =>
 after (fun x23 h24 =>
 gdT x23 h24 (fun k25 => kFieldA 1 x0 (fun x26 => k25 x26 h24)) (fun x27 h28 =>
 gdT x23 h28 (fun k29 => kLoad x27 h28 (fun x30 => k29 x30 h28)) (fun x31 h32 =>
 gdT x23 h32 (fun k33 => kCall R 140 [x31] h32 (k33)) (fun x34 h35 =>
 after (fun x36 h37 =>
 clrK h x36 h37) (pickB (.c x34) (.c (Value.bool false)) enE h35 x23))))) (pickB (.c x21) (.c (Value.bool false)) enE h22 x10)))))))) fun k5 =>
 cnd x4
 (kFieldA 1 x0 (fun x38 =>
 kLoad x38 h1 (fun x39 =>
 obK (fun x40 =>
 clrK h x40 h1) (s2 .eql x39 (Value.string ⟨#[]⟩)))))
 (k5 (Value.bool false) h1))))) (oBox 102 (.c a0) enE h0)

theorem q116 (R : RnK) (N : Nat) (args : List Value) (h : Hs) : r116 R N args h = callT Tryz.prog N R 116 args h := by kernel_rfl

/-- strings.Contains -/
noncomputable def r117 (R : RnK) (N : Nat) (args : List Value) (h : Hs) : An := unC args fun a0 sq0 => unC sq0 fun a1 sq1 => enK h fun h0 =>
 kCall R 141 [a0, a1] h0 (fun x0 h1 =>
 kI64 .geq x0 (Value.int .i64 (.ofNat 0)) (fun x2 =>
 clrK h x2 h1))

theorem q117 (R : RnK) (N : Nat) (args : List Value) (h : Hs) : r117 R N args h = callT Tryz.prog N R 117 args h := by kernel_rfl

/-- internal/strconv.Itoa -/
noncomputable def r118 (R : RnK) (N : Nat) (args : List Value) (h : Hs) : An := unC args fun a0 sq0 => enK h fun h0 =>
 kCall R 142 [a0, (Value.int .i64 (.ofNat 10))] h0 (fun x0 h1 =>
 clrK h x0 h1)

theorem q118 (R : RnK) (N : Nat) (args : List Value) (h : Hs) : r118 R N args h = callT Tryz.prog N R 118 args h := by kernel_rfl

/-- math/bits.Len32 -/
noncomputable def r128 (R : RnK) (N : Nat) (args : List Value) (h : Hs) : An := unC args fun a0 sq0 => enK h fun h0 =>
 obK (fun x0 =>
 jn (fun (x2 x3 : Value) (h4 : Hs) =>
 obK (fun x5 =>
 jn (fun (x7 x8 : Value) (h9 : Hs) =>
 kTo8 x7 (fun x10 =>
 after (fun x11 h12 =>
 kTo64 x11 (fun x13 =>
 kI64 .add x8 x13 (fun x14 =>
 clrK h x14 h12))) (oIdxS (.c (Value.string ⟨#[0, 1, 2, 2, 3, 3, 3, 3, 4, 4, 4, 4, 4, 4, 4, 4, 5, 5, 5, 5, 5, 5, 5, 5, 5, 5, 5, 5, 5, 5, 5, 5, 6, 6, 6, 6, 6, 6, 6, 6, 6, 6, 6, 6, 6, 6, 6, 6, 6, 6, 6, 6, 6, 6, 6, 6, 6, 6, 6, 6, 6, 6, 6, 6, 7, 7, 7, 7, 7, 7, 7, 7, 7, 7, 7, 7, 7, 7, 7, 7, 7, 7, 7, 7, 7, 7, 7, 7, 7, 7, 7, 7, 7, 7, 7, 7, 7, 7, 7, 7, 7, 7, 7, 7, 7, 7, 7, 7, 7, 7, 7, 7, 7, 7, 7, 7, 7, 7, 7, 7, 7, 7, 7, 7, 7, 7, 7, 7, 8, 8, 8, 8, 8, 8, 8, 8, 8, 8, 8, 8, 8, 8, 8, 8, 8, 8, 8, 8, 8, 8, 8, 8, 8, 8, 8, 8, 8, 8, 8, 8, 8, 8, 8, 8, 8, 8, 8, 8, 8, 8, 8, 8, 8, 8, 8, 8, 8, 8, 8, 8, 8, 8, 8, 8, 8, 8, 8, 8, 8, 8, 8, 8, 8, 8, 8, 8, 8, 8, 8, 8, 8, 8, 8, 8, 8, 8, 8, 8, 8, 8, 8, 8, 8, 8, 8, 8, 8, 8, 8, 8, 8, 8, 8, 8, 8, 8, 8, 8, 8, 8, 8, 8, 8, 8, 8, 8, 8, 8, 8, 8, 8, 8, 8, 8, 8, 8, 8, 8, 8, 8, 8, 8, 8, 8, 8, 8]⟩)) (.c x10) enE h9))) fun k6 =>
 cnd x5
 (kShr x2 (Value.int .u64 (.ofNat 8)) (fun x15 =>
 kI64 .add x3 (Value.int .i64 (.ofNat 8)) (fun x16 =>
 k6 x15 x16 h4)))
 (k6 x2 x3 h4)) (i2 (fOf .geq) x2 (Value.int .u32 (.ofNat 256)))) fun k1 =>
 cnd x0
 (kShr a0 (Value.int .u64 (.ofNat 16)) (fun x17 =>
 k1 x17 (Value.int .i64 (.ofNat 16)) h0))
 (k1 a0 (Value.int .i64 (.ofNat 0)) h0)) (i2 (fOf .geq) a0 (Value.int .u32 (.ofNat 65536)))

theorem q128 (R : RnK) (N : Nat) (args : List Value) (h : Hs) : r128 R N args h = callT Tryz.prog N R 128 args h := by kernel_rfl

/-- math/bits.Len64 -/
noncomputable def r129 (R : RnK) (N : Nat) (args : List Value) (h : Hs) : An := unC args fun a0 sq0 => enK h fun h0 =>
 kU64 .geq a0 (Value.int .u64 (.ofNat 4294967296)) (fun x0 =>
 jn (fun (x2 x3 : Value) (h4 : Hs) =>
 kU64 .geq x2 (Value.int .u64 (.ofNat 65536)) (fun x5 =>
 jn (fun (x7 x8 : Value) (h9 : Hs) =>
 kU64 .geq x7 (Value.int .u64 (.ofNat 256)) (fun x10 =>
 jn (fun (x12 x13 : Value) (h14 : Hs) =>
 kTo8 x12 (fun x15 =>
 after (fun x16 h17 =>
 kTo64 x16 (fun x18 =>
 kI64 .add x13 x18 (fun x19 =>
 clrK h x19 h17))) (oIdxS (.c (Value.string ⟨#[0, 1, 2, 2, 3, 3, 3, 3, 4, 4, 4, 4, 4, 4, 4, 4, 5, 5, 5, 5, 5, 5, 5, 5, 5, 5, 5, 5, 5, 5, 5, 5, 6, 6, 6, 6, 6, 6, 6, 6, 6, 6, 6, 6, 6, 6, 6, 6, 6, 6, 6, 6, 6, 6, 6, 6, 6, 6, 6, 6, 6, 6, 6, 6, 7, 7, 7, 7, 7, 7, 7, 7, 7, 7, 7, 7, 7, 7, 7, 7, 7, 7, 7, 7, 7, 7, 7, 7, 7, 7, 7, 7, 7, 7, 7, 7, 7, 7, 7, 7, 7, 7, 7, 7, 7, 7, 7, 7, 7, 7, 7, 7, 7, 7, 7, 7, 7, 7, 7, 7, 7, 7, 7, 7, 7, 7, 7, 7, 8, 8, 8, 8, 8, 8, 8, 8, 8, 8, 8, 8, 8, 8, 8, 8, 8, 8, 8, 8, 8, 8, 8, 8, 8, 8, 8, 8, 8, 8, 8, 8, 8, 8, 8, 8, 8, 8, 8, 8, 8, 8, 8, 8, 8, 8, 8, 8, 8, 8, 8, 8, 8, 8, 8, 8, 8, 8, 8, 8, 8, 8, 8, 8, 8, 8, 8, 8, 8, 8, 8, 8, 8, 8, 8, 8, 8, 8, 8, 8, 8, 8, 8, 8, 8, 8, 8, 8, 8, 8, 8, 8, 8, 8, 8, 8, 8, 8, 8, 8, 8, 8, 8, 8, 8, 8, 8, 8, 8, 8, 8, 8, 8, 8, 8, 8, 8, 8, 8, 8, 8, 8, 8, 8, 8, 8, 8, 8]⟩)) (.c x15) enE h14))) fun k11 =>
 cnd x10
 (kShr x7 (Value.int .u64 (.ofNat 8)) (fun x20 =>
 kI64 .add x8 (Value.int .i64 (.ofNat 8)) (fun x21 =>
 k11 x20 x21 h9)))
 (k11 x7 x8 h9))) fun k6 =>
 cnd x5
 (kShr x2 (Value.int .u64 (.ofNat 16)) (fun x22 =>
 kI64 .add x3 (Value.int .i64 (.ofNat 16)) (fun x23 =>
 k6 x22 x23 h4)))
 (k6 x2 x3 h4))) fun k1 =>
 cnd x0
 (kShr a0 (Value.int .u64 (.ofNat 32)) (fun x24 =>
 k1 x24 (Value.int .i64 (.ofNat 32)) h0))
 (k1 a0 (Value.int .i64 (.ofNat 0)) h0))

theorem q129 (R : RnK) (N : Nat) (args : List Value) (h : Hs) : r129 R N args h = callT Tryz.prog N R 129 args h := by kernel_rfl

/-- lintel/slot.named -/
noncomputable def r140 (R : RnK) (N : Nat) (args : List Value) (h : Hs) : An := unC args fun a0 sq0 => enK h fun h0 =>
 kLenS a0 (fun x0 =>
 kI64 .geq x0 (Value.int .i64 (.ofNat 1)) (fun x1 =>
 gdT x1 h0 (fun k2 => k2 a0 h0) (fun x3 h4 =>
 gdT x1 h4 (fun k5 => kLenS x3 (fun x6 => k5 x6 h4)) (fun x7 h8 =>
 gdT x1 h8 (fun k9 => kI64 .leq x7 (Value.int .i64 (.ofNat 40)) (fun x10 => k9 x10 h8)) (fun x11 h12 =>
 after (fun x13 h14 =>
 gdT x13 h14 (fun k15 => k15 a0 h14) (fun x16 h17 =>
 gdT x13 h17 (fun k18 => obK (fun x19 => k18 x19 h17) (s2 .neq x16 (Value.string ⟨#[46]⟩))) (fun x20 h21 =>
 after (fun x22 h23 =>
 gdT x22 h23 (fun k24 => k24 a0 h23) (fun x25 h26 =>
 gdT x22 h26 (fun k27 => obK (fun x28 => k27 x28 h26) (s2 .neq x25 (Value.string ⟨#[46, 46]⟩))) (fun x29 h30 =>
 after (fun x31 h32 =>
 gdT x31 h32 (fun k33 => k33 a0 h32) (fun x34 h35 =>
 gdT x31 h35 (fun k36 => kCall R 117 [x34, (Value.string ⟨#[47]⟩)] h35 (k36)) (fun x37 h38 =>
 gdT x31 h38 (fun k39 => kNot x37 (fun x40 => k39 x40 h38)) (fun x41 h42 =>
 after (fun x43 h44 =>
 gdT x43 h44 (fun k45 => k45 a0 h44) (fun x46 h47 =>
 gdT x43 h47 (fun k48 => kCall R 117 [x46, (Value.string ⟨#[0]⟩)] h47 (k48)) (fun x49 h50 =>
 gdT x43 h50 (fun k51 => kNot x49 (fun x52 => k51 x52 h50)) (fun x53 h54 =>
 after (fun x55 h56 =>
 clrK h x55 h56) (pickB (.c x53) (.c (Value.bool false)) enE h54 x43))))) (pickB (.c x41) (.c (Value.bool false)) enE h42 x31))))) (pickB (.c x29) (.c (Value.bool false)) enE h30 x22)))) (pickB (.c x20) (.c (Value.bool false)) enE h21 x13)))) (pickB (.c x11) (.c (Value.bool false)) enE h12 x1))))))

theorem q140 (R : RnK) (N : Nat) (args : List Value) (h : Hs) : r140 R N args h = callT Tryz.prog N R 140 args h := by kernel_rfl

/-- strings.Index -/
noncomputable def r141 (R : RnK) (N : Nat) (args : List Value) (h : Hs) : An := unC args fun a0 sq0 => unC sq0 fun a1 sq1 => enK h fun h0 =>
 kCall R 153 [a0, a1] h0 (fun x0 h1 =>
 clrK h x0 h1)

theorem q141 (R : RnK) (N : Nat) (args : List Value) (h : Hs) : r141 R N args h = callT Tryz.prog N R 141 args h := by kernel_rfl

/-- internal/strconv.FormatInt -/
noncomputable def r142 (R : RnK) (N : Nat) (args : List Value) (h : Hs) : An := unC args fun a0 sq0 => unC sq0 fun a1 sq1 => enK h fun h0 =>
 kI64 .eql a1 (Value.int .i64 (.ofNat 10)) (fun x0 =>
 jn (fun (x2 x3 x4 x5 x6 x7 x8 : Value) (h9 : Hs) =>
 kToU a0 (fun x10 =>
 kI64 .lss a0 (Value.int .i64 (.ofNat 0)) (fun x11 =>
 kCall R 157 [(Value.slice none 0 0), x10, a1, x11, (Value.bool false)] h9 (fun x12 h13 =>
 kExtr x12 0 (fun x14 =>
 kExtr x12 1 (fun x15 =>
 clrK h x15 h13)))))) fun k1 =>
 cnd x0
 (kI64 .leq (Value.int .i64 (.ofNat 0)) a0 (fun x16 =>
 gdT x16 h0 (fun k17 => k17 a0 h0) (fun x18 h19 =>
 gdT x16 h19 (fun k20 => kI64 .lss x18 (Value.int .i64 (.ofNat 100)) (fun x21 => k20 x21 h19)) (fun x22 h23 =>
 after (fun x24 h25 =>
 jn (fun (x27 : Value) (h28 : Hs) =>
 after (fun x29 h30 =>
 kToU a0 (fun x31 =>
 kI64 .lss a0 (Value.int .i64 (.ofNat 0)) (fun x32 =>
 jn (fun (x34 : Value) (h35 : Hs) =>
 kCall R 155 [x34] h35 (fun x36 h37 =>
 kI64 .add (Value.int .i64 (.ofNat 1)) x36 (fun x38 =>
 none))) fun k33 =>
 cnd x32
 (obK (fun x60 =>
 k33 x60 h30) (un .neg x31))
 (k33 x31 h30)))) (oAlloc 208 [(Value.int .u8 (.ofNat 0)), (Value.int .u8 (.ofNat 0)), (Value.int .u8 (.ofNat 0)), (Value.int .u8 (.ofNat 0)), (Value.int .u8 (.ofNat 0)), (Value.int .u8 (.ofNat 0)), (Value.int .u8 (.ofNat 0)), (Value.int .u8 (.ofNat 0)), (Value.int .u8 (.ofNat 0)), (Value.int .u8 (.ofNat 0)), (Value.int .u8 (.ofNat 0)), (Value.int .u8 (.ofNat 0)), (Value.int .u8 (.ofNat 0)), (Value.int .u8 (.ofNat 0)), (Value.int .u8 (.ofNat 0)), (Value.int .u8 (.ofNat 0)), (Value.int .u8 (.ofNat 0)), (Value.int .u8 (.ofNat 0)), (Value.int .u8 (.ofNat 0)), (Value.int .u8 (.ofNat 0)), (Value.int .u8 (.ofNat 0)), (Value.int .u8 (.ofNat 0)), (Value.int .u8 (.ofNat 0)), (Value.int .u8 (.ofNat 0))] enE h28)) fun k26 =>
 cnd x24
 (kCall R 154 [a0] h25 (fun x61 h62 =>
 clrK h x61 h62))
 (k26 (Value.string ⟨#[]⟩) h25)) (pickB (.c x22) (.c (Value.bool false)) enE h23 x16)))))
 (k1 dunno dunno dunno dunno dunno dunno (Value.string ⟨#[]⟩) h0))

theorem q142 (R : RnK) (N : Nat) (args : List Value) (h : Hs) : r142 R N args h = callT Tryz.prog N R 142 args h := by kernel_rfl

/-- slices.nextPowerOfTwo -/
noncomputable def r144 (R : RnK) (N : Nat) (args : List Value) (h : Hs) : An := unC args fun a0 sq0 => enK h fun h0 =>
 kToU a0 (fun x0 =>
 kCall R 108 [x0] h0 (fun x1 h2 =>
 kShl (Value.int .u64 (.ofNat 1)) x1 (fun x3 =>
 clrK h x3 h2)))

theorem q144 (R : RnK) (N : Nat) (args : List Value) (h : Hs) : r144 R N args h = callT Tryz.prog N R 144 args h := by kernel_rfl

/-- (*slices.xorshift).Next -/
noncomputable def r145 (R : RnK) (N : Nat) (args : List Value) (h : Hs) : An := unC args fun a0 sq0 => enK h fun h0 =>
 kNil a0 (fun x0 =>
 kLoad x0 (Hs.mk h0.hp h0.nx h0.nx) (fun x1 =>
 kNil a0 (fun x2 =>
 kLoad x2 (Hs.mk h0.hp h0.nx h0.nx) (fun x3 =>
 kShl x3 (Value.int .u64 (.ofNat 13)) (fun x4 =>
 kU64 .xor x1 x4 (fun x5 =>
 kNil a0 (fun x6 =>
 kStore1 x6 x5 h0 (fun v33 u34 => dPut (fun x7 h8 =>
 kNil a0 (fun x9 =>
 kLoad x9 (Hs.mk h8.hp h8.nx h8.nx) (fun x10 =>
 kNil a0 (fun x11 =>
 kLoad x11 (Hs.mk h8.hp h8.nx h8.nx) (fun x12 =>
 kShr x12 (Value.int .u64 (.ofNat 7)) (fun x13 =>
 kU64 .xor x10 x13 (fun x14 =>
 kNil a0 (fun x15 =>
 kStore1 x15 x14 h8 (fun v31 u32 => dPut (fun x16 h17 =>
 kNil a0 (fun x18 =>
 kLoad x18 (Hs.mk h17.hp h17.nx h17.nx) (fun x19 =>
 kNil a0 (fun x20 =>
 kLoad x20 (Hs.mk h17.hp h17.nx h17.nx) (fun x21 =>
 kShl x21 (Value.int .u64 (.ofNat 17)) (fun x22 =>
 kU64 .xor x19 x22 (fun x23 =>
 kNil a0 (fun x24 =>
 kStore1 x24 x23 h17 (fun v29 u30 => dPut (fun x25 h26 =>
 kNil a0 (fun x27 =>
 kLoad x27 h26 (fun x28 =>
 clrK h x28 h26))) v29 (dNext h17 u30 .bar) (andB (dFit h17 u30 .bar) (Nat.ble 0 u30.lo))))))))))) v31 (dNext h8 u32 .bar) (andB (dFit h8 u32 .bar) (Nat.ble 0 u32.lo))))))))))) v33 (dNext h0 u34 .bar) (andB (dFit h0 u34 .bar) (Nat.ble 0 u34.lo))))))))))

theorem q145 (R : RnK) (N : Nat) (args : List Value) (h : Hs) : r145 R N args h = callT Tryz.prog N R 145 args h := by kernel_rfl

/-- cmp.isNaN[int] -/
noncomputable def r148 (R : RnK) (N : Nat) (args : List Value) (h : Hs) : An := unC args fun a0 sq0 => enK h fun h0 =>
 kI64 .neq a0 a0 (fun x0 =>
 clrK h x0 h0)

theorem q148 (R : RnK) (N : Nat) (args : List Value) (h : Hs) : r148 R N args h = callT Tryz.prog N R 148 args h := by kernel_rfl

/-- cmp.isNaN[string] -/
noncomputable def r152 (R : RnK) (N : Nat) (args : List Value) (h : Hs) : An := unC args fun a0 sq0 => enK h fun h0 =>
 obK (fun x0 =>
 clrK h x0 h0) (s2 .neq a0 a0)

theorem q152 (R : RnK) (N : Nat) (args : List Value) (h : Hs) : r152 R N args h = callT Tryz.prog N R 152 args h := by kernel_rfl

/-- internal/stringslite.Index -/
noncomputable def r153 (R : RnK) (N : Nat) (args : List Value) (h : Hs) : An := unC args fun a0 sq0 => unC sq0 fun a1 sq1 => enK h fun h0 =>
 kLenS a1 (fun x0 =>
 jn (fun (x2 x3 x4 x5 x6 : Value) (h7 : Hs) =>
 after (fun x8 h9 =>
 after (fun x10 h11 =>
 kLenS a0 (fun x12 =>
 kI64 .sub x12 x0 (fun x13 =>
 kI64 .add x13 (Value.int .i64 (.ofNat 1)) (fun x14 =>
 jn (fun (x16 x17 x18 x19 x20 x21 x22 x23 x24 x25 x26 x27 x28 x29 : Value) (h30 : Hs) =>
 clrK h (Value.int .i64 (.negSucc 0)) h30) fun k15 =>
 lpT (T := Value → Value → Value → Value → Value → Value → Value → Value → Value → Value → Value → Value → Value → Value → Hs → An) (fun _ _ _ _ _ _ _ _ _ _ _ _ _ _ _ => none) N (fun k31 =>
 fun (x33 x34 x35 x36 x37 x38 x39 x40 x41 x42 x43 x44 x45 x46 : Value) (h47 : Hs) =>
 kI64 .lss x33 x14 (fun x48 =>
 jn (fun (h50 : Hs) =>
 jn (fun (x52 x53 x54 x55 x56 x57 x58 x59 x60 x61 x62 x63 x64 : Value) (h65 : Hs) =>
 k31 x52 x48 x53 x54 x55 x56 x57 x58 x59 x60 x61 x62 x63 x64 h65) fun k51 =>
 after (fun x66 h67 =>
 kU8 .neq x66 x8 (fun x68 =>
 jn (fun (x70 x71 x72 x73 : Value) (h74 : Hs) =>
 kI64 .add x70 (Value.int .i64 (.ofNat 1)) (fun x75 =>
 after (fun x76 h77 =>
 kU8 .eql x76 x10 (fun x78 =>
 gdT x78 h77 (fun k79 => k79 a0 h77) (fun x80 h81 =>
 gdT x78 h81 (fun k82 => k82 x70 h81) (fun x83 h84 =>
 gdT x78 h84 (fun k85 => k85 x70 h84) (fun x86 h87 =>
 gdT x78 h87 (fun k88 => k88 x0 h87) (fun x89 h90 =>
 gdT x78 h90 (fun k91 => kI64 .add x86 x89 (fun x92 => k91 x92 h90)) (fun x93 h94 =>
 gdT x78 h94 (fun k95 => after (k95) (oCutstr (.c x80) (some (.c x83)) (some (.c x93)) enE h94)) (fun x96 h97 =>
 gdT x78 h97 (fun k98 => k98 a1 h97) (fun x99 h100 =>
 gdT x78 h100 (fun k101 => obK (fun x102 => k101 x102 h100) (s2 .eql x96 x99)) (fun x103 h104 =>
 after (fun x105 h106 =>
 jn (fun (x108 : Value) (h109 : Hs) =>
 kI64 .add x70 (Value.int .i64 (.ofNat 1)) (fun x110 =>
 kI64 .add x39 (Value.int .i64 (.ofNat 1)) (fun x111 =>
 none))) fun k107 =>
 cnd x105
 (clrK h x70 h106)
 (k107 x73 h106)) (pickB (.c x103) (.c (Value.bool false)) enE h104 x78))))))))))) (oIdxS (.c a0) (.c x75) enE h74))) fun k69 =>
 cnd x68
 (kI64 .add x33 (Value.int .i64 (.ofNat 1)) (fun x196 =>
 after (fun x197 h198 =>
 kCall R 160 [x197, x8] h198 (fun x199 h200 =>
 kI64 .lss x199 (Value.int .i64 (.ofNat 0)) (fun x201 =>
 jn (fun (x203 : Value) (h204 : Hs) =>
 kI64 .add x199 (Value.int .i64 (.ofNat 1)) (fun x205 =>
 kI64 .add x33 x205 (fun x206 =>
 k69 x206 x199 x201 x203 h204))) fun k202 =>
 cnd x201
 (clrK h (Value.int .i64 (.negSucc 0)) h200)
 (k202 x46 h200)))) (oCutstr (.c a0) (some (.c x196)) (some (.c x14)) enE h67)))
 (k69 x33 x36 x37 x46 h67))) (oIdxS (.c a0) (.c x33) enE h50)) fun k49 =>
 cnd x48
 (k49 h47)
 (k15 x33 x48 x35 x36 x37 x38 x39 x40 x41 x42 x43 x44 x45 x46 h47))) (Value.int .i64 (.ofNat 0)) dunno dunno dunno dunno dunno (Value.int .i64 (.ofNat 0)) dunno dunno dunno dunno dunno dunno x6 h11)))) (oIdxS (.c a1) (.c (Value.int .i64 (.ofNat 1))) enE h9)) (oIdxS (.c a1) (.c (Value.int .i64 (.ofNat 0))) enE h7)) fun k1 =>
 kI64 .eql x0 (Value.int .i64 (.ofNat 0)) (fun x207 =>
 gdF x207 h0 (fun k208 => k208 a1 h0) (fun x209 h210 =>
 gdF x207 h210 (fun k211 => k211 a0 h210) (fun x212 h213 =>
 gdF x207 h213 (fun k214 => obK (fun x215 => k214 x215 h213) (s2 .eql x209 x212)) (fun x216 h217 =>
 after (fun x218 h219 =>
 jn (fun (x221 x222 x223 x224 : Value) (h225 : Hs) =>
 k1 x218 x221 x222 x223 x224 h225) fun k220 =>
 cnd x218
 (clrK h (Value.int .i64 (.ofNat 0)) h219)
 (kI64 .eql x0 (Value.int .i64 (.ofNat 1)) (fun x226 =>
 jn (fun (x228 x229 x230 : Value) (h231 : Hs) =>
 k220 x226 x228 x229 x230 h231) fun k227 =>
 cnd x226
 (after (fun x232 h233 =>
 kCall R 160 [a0, x232] h233 (fun x234 h235 =>
 clrK h x234 h235)) (oIdxS (.c a1) (.c (Value.int .i64 (.ofNat 0))) enE h219))
 (kLenS a0 (fun x236 =>
 kI64 .geq x0 x236 (fun x237 =>
 jn (fun (x239 x240 : Value) (h241 : Hs) =>
 k227 x237 x239 x240 h241) fun k238 =>
 cnd x237
 (clrK h (Value.int .i64 (.negSucc 0)) h219)
 (none))))))) (pickB (.c (Value.bool true)) (.c x216) enE h217 x207))))))

theorem q153 (R : RnK) (N : Nat) (args : List Value) (h : Hs) : r153 R N args h = callT Tryz.prog N R 153 args h := by kernel_rfl

/-- internal/strconv.small -/
noncomputable def r154 (R : RnK) (N : Nat) (args : List Value) (h : Hs) : An := unC args fun a0 sq0 => enK h fun h0 =>
 kI64 .lss a0 (Value.int .i64 (.ofNat 10)) (fun x0 =>
 jn (fun (x2 : Value) (h3 : Hs) =>
 kI64 .mul a0 (Value.int .i64 (.ofNat 2)) (fun x4 =>
 kI64 .mul a0 (Value.int .i64 (.ofNat 2)) (fun x5 =>
 kI64 .add x5 (Value.int .i64 (.ofNat 2)) (fun x6 =>
 after (fun x7 h8 =>
 clrK h x7 h8) (oCutstr (.c (Value.string ⟨#[48, 48, 48, 49, 48, 50, 48, 51, 48, 52, 48, 53, 48, 54, 48, 55, 48, 56, 48, 57, 49, 48, 49, 49, 49, 50, 49, 51, 49, 52, 49, 53, 49, 54, 49, 55, 49, 56, 49, 57, 50, 48, 50, 49, 50, 50, 50, 51, 50, 52, 50, 53, 50, 54, 50, 55, 50, 56, 50, 57, 51, 48, 51, 49, 51, 50, 51, 51, 51, 52, 51, 53, 51, 54, 51, 55, 51, 56, 51, 57, 52, 48, 52, 49, 52, 50, 52, 51, 52, 52, 52, 53, 52, 54, 52, 55, 52, 56, 52, 57, 53, 48, 53, 49, 53, 50, 53, 51, 53, 52, 53, 53, 53, 54, 53, 55, 53, 56, 53, 57, 54, 48, 54, 49, 54, 50, 54, 51, 54, 52, 54, 53, 54, 54, 54, 55, 54, 56, 54, 57, 55, 48, 55, 49, 55, 50, 55, 51, 55, 52, 55, 53, 55, 54, 55, 55, 55, 56, 55, 57, 56, 48, 56, 49, 56, 50, 56, 51, 56, 52, 56, 53, 56, 54, 56, 55, 56, 56, 56, 57, 57, 48, 57, 49, 57, 50, 57, 51, 57, 52, 57, 53, 57, 54, 57, 55, 57, 56, 57, 57]⟩)) (some (.c x4)) (some (.c x6)) enE h3))))) fun k1 =>
 cnd x0
 (kI64 .add a0 (Value.int .i64 (.ofNat 1)) (fun x9 =>
 after (fun x10 h11 =>
 clrK h x10 h11) (oCutstr (.c (Value.string ⟨#[48, 49, 50, 51, 52, 53, 54, 55, 56, 57, 97, 98, 99, 100, 101, 102, 103, 104, 105, 106, 107, 108, 109, 110, 111, 112, 113, 114, 115, 116, 117, 118, 119, 120, 121, 122]⟩)) (some (.c a0)) (some (.c x9)) enE h0)))
 (k1 (Value.string ⟨#[]⟩) h0))

theorem q154 (R : RnK) (N : Nat) (args : List Value) (h : Hs) : r154 R N args h = callT Tryz.prog N R 154 args h := by kernel_rfl

/-- internal/strconv.numDigits -/
noncomputable def r155 (R : RnK) (N : Nat) (args : List Value) (h : Hs) : An := unC args fun a0 sq0 => enK h fun h0 =>
 kCall R 129 [a0] h0 (fun x0 h1 =>
 kCall R 164 [x0] h1 (fun x2 h3 =>
 none))

theorem q155 (R : RnK) (N : Nat) (args : List Value) (h : Hs) : r155 R N args h = callT Tryz.prog N R 155 args h := by kernel_rfl

/-- internal/strconv.formatBase10 -/
noncomputable def r156 (R : RnK) (N : Nat) (args : List Value) (h : Hs) : An := unC args fun a0 sq0 => unC sq0 fun a1 sq1 => enK h fun h0 =>
 kLenV a0 (fun x0 =>
 jn (fun (x2 x3 x4 x5 x6 x7 x8 x9 x10 x11 : Value) (h12 : Hs) =>
 obK (fun x13 =>
 kI64 .geq x2 (Value.int .i64 (.ofNat 4)) (fun x14 =>
 jn (fun (x16 x17 x18 x19 x20 : Value) (h21 : Hs) =>
 kI64 .geq x16 (Value.int .i64 (.ofNat 2)) (fun x22 =>
 jn (fun (x24 x25 x26 : Value) (h27 : Hs) =>
 kI64 .gtr x24 (Value.int .i64 (.ofNat 0)) (fun x28 =>
 jn (fun (h30 : Hs) =>
 clrK h (Value.tuple #[]) h30) fun k29 =>
 cnd x28
 (obK (fun x31 =>
 kTo8 x31 (fun x32 =>
 kIdxA 1 a0 (Value.int .i64 (.ofNat 0)) (fun x33 =>
 kStore1 x33 x32 h27 (fun x34 h35 =>
 k29 h35)))) (i2 (fOf .add) (Value.int .u32 (.ofNat 48)) x25))
 (k29 h27))) fun k23 =>
 cnd x22
 (obK (fun x36 =>
 obK (fun x37 =>
 obK (fun x38 =>
 kI64 .sub x16 (Value.int .i64 (.ofNat 1)) (fun x39 =>
 kI64 .sub x16 (Value.int .i64 (.ofNat 2)) (fun x40 =>
 obK (fun x41 =>
 after (fun v59 u60 => dPut (fun x42 h43 =>
 after (fun v57 u58 => dPut (fun x44 h45 =>
 kIdxA 1 a0 x39 (fun x46 =>
 kStore1 x46 x42 h45 (fun v55 u56 => dPut (fun x47 h48 =>
 kIdxA 1 a0 x40 (fun x49 =>
 kStore1 x49 x44 h48 (fun v53 u54 => dPut (fun x50 h51 =>
 kI64 .sub x16 (Value.int .i64 (.ofNat 2)) (fun x52 =>
 k23 x52 x38 x37 h51)) v53 (dNext h48 u54 .bar) (andB (dFit h48 u54 .bar) (Nat.ble 0 u54.lo))))) v55 (dNext h45 u56 .bar) (andB (dFit h45 u56 .bar) (Nat.ble 0 u56.lo))))) v57 (dNext h43 u58 .blind) (andB (dFit h43 u58 .blind) (Nat.ble 0 u58.lo))) (oIdxS (.c (Value.string ⟨#[48, 48, 48, 49, 48, 50, 48, 51, 48, 52, 48, 53, 48, 54, 48, 55, 48, 56, 48, 57, 49, 48, 49, 49, 49, 50, 49, 51, 49, 52, 49, 53, 49, 54, 49, 55, 49, 56, 49, 57, 50, 48, 50, 49, 50, 50, 50, 51, 50, 52, 50, 53, 50, 54, 50, 55, 50, 56, 50, 57, 51, 48, 51, 49, 51, 50, 51, 51, 51, 52, 51, 53, 51, 54, 51, 55, 51, 56, 51, 57, 52, 48, 52, 49, 52, 50, 52, 51, 52, 52, 52, 53, 52, 54, 52, 55, 52, 56, 52, 57, 53, 48, 53, 49, 53, 50, 53, 51, 53, 52, 53, 53, 53, 54, 53, 55, 53, 56, 53, 57, 54, 48, 54, 49, 54, 50, 54, 51, 54, 52, 54, 53, 54, 54, 54, 55, 54, 56, 54, 57, 55, 48, 55, 49, 55, 50, 55, 51, 55, 52, 55, 53, 55, 54, 55, 55, 55, 56, 55, 57, 56, 48, 56, 49, 56, 50, 56, 51, 56, 52, 56, 53, 56, 54, 56, 55, 56, 56, 56, 57, 57, 48, 57, 49, 57, 50, 57, 51, 57, 52, 57, 53, 57, 54, 57, 55, 57, 56, 57, 57]⟩)) (.c x37) enE (Hs.mk .e h43.nx h43.nx))) v59 (dNext h21 u60 .blind) (andB (dFit h21 u60 .blind) (Nat.ble 0 u60.lo))) (oIdxS (.c (Value.string ⟨#[48, 48, 48, 49, 48, 50, 48, 51, 48, 52, 48, 53, 48, 54, 48, 55, 48, 56, 48, 57, 49, 48, 49, 49, 49, 50, 49, 51, 49, 52, 49, 53, 49, 54, 49, 55, 49, 56, 49, 57, 50, 48, 50, 49, 50, 50, 50, 51, 50, 52, 50, 53, 50, 54, 50, 55, 50, 56, 50, 57, 51, 48, 51, 49, 51, 50, 51, 51, 51, 52, 51, 53, 51, 54, 51, 55, 51, 56, 51, 57, 52, 48, 52, 49, 52, 50, 52, 51, 52, 52, 52, 53, 52, 54, 52, 55, 52, 56, 52, 57, 53, 48, 53, 49, 53, 50, 53, 51, 53, 52, 53, 53, 53, 54, 53, 55, 53, 56, 53, 57, 54, 48, 54, 49, 54, 50, 54, 51, 54, 52, 54, 53, 54, 54, 54, 55, 54, 56, 54, 57, 55, 48, 55, 49, 55, 50, 55, 51, 55, 52, 55, 53, 55, 54, 55, 55, 55, 56, 55, 57, 56, 48, 56, 49, 56, 50, 56, 51, 56, 52, 56, 53, 56, 54, 56, 55, 56, 56, 56, 57, 57, 48, 57, 49, 57, 50, 57, 51, 57, 52, 57, 53, 57, 54, 57, 55, 57, 56, 57, 57]⟩)) (.c x41) enE (Hs.mk .e h21.nx h21.nx))) (i2 (fOf .add) x37 (Value.int .u32 (.ofNat 1)))))) (i2 (fOf .quo) x17 (Value.int .u32 (.ofNat 100)))) (i2 (fOf .mul) x36 (Value.int .u32 (.ofNat 2)))) (i2 (fOf .rem) x17 (Value.int .u32 (.ofNat 100))))
 (k23 x16 x17 dunno h21))) fun k15 =>
 cnd x14
 (obK (fun x61 =>
 obK (fun x62 =>
 obK (fun x63 =>
 obK (fun x64 =>
 obK (fun x65 =>
 obK (fun x66 =>
 kI64 .sub x2 (Value.int .i64 (.ofNat 1)) (fun x67 =>
 kI64 .sub x2 (Value.int .i64 (.ofNat 2)) (fun x68 =>
 obK (fun x69 =>
 after (fun v108 u109 => dPut (fun x70 h71 =>
 after (fun v106 u107 => dPut (fun x72 h73 =>
 kIdxA 1 a0 x67 (fun x74 =>
 kStore1 x74 x70 h73 (fun v104 u105 => dPut (fun x75 h76 =>
 kIdxA 1 a0 x68 (fun x77 =>
 kStore1 x77 x72 h76 (fun v102 u103 => dPut (fun x78 h79 =>
 kI64 .sub x2 (Value.int .i64 (.ofNat 3)) (fun x80 =>
 kI64 .sub x2 (Value.int .i64 (.ofNat 4)) (fun x81 =>
 obK (fun x82 =>
 after (fun v100 u101 => dPut (fun x83 h84 =>
 after (fun v98 u99 => dPut (fun x85 h86 =>
 kIdxA 1 a0 x80 (fun x87 =>
 kStore1 x87 x83 h86 (fun v96 u97 => dPut (fun x88 h89 =>
 kIdxA 1 a0 x81 (fun x90 =>
 kStore1 x90 x85 h89 (fun v94 u95 => dPut (fun x91 h92 =>
 kI64 .sub x2 (Value.int .i64 (.ofNat 4)) (fun x93 =>
 k15 x93 x62 x61 x66 x64 h92)) v94 (dNext h89 u95 .bar) (andB (dFit h89 u95 .bar) (Nat.ble 0 u95.lo))))) v96 (dNext h86 u97 .bar) (andB (dFit h86 u97 .bar) (Nat.ble 0 u97.lo))))) v98 (dNext h84 u99 .blind) (andB (dFit h84 u99 .blind) (Nat.ble 0 u99.lo))) (oIdxS (.c (Value.string ⟨#[48, 48, 48, 49, 48, 50, 48, 51, 48, 52, 48, 53, 48, 54, 48, 55, 48, 56, 48, 57, 49, 48, 49, 49, 49, 50, 49, 51, 49, 52, 49, 53, 49, 54, 49, 55, 49, 56, 49, 57, 50, 48, 50, 49, 50, 50, 50, 51, 50, 52, 50, 53, 50, 54, 50, 55, 50, 56, 50, 57, 51, 48, 51, 49, 51, 50, 51, 51, 51, 52, 51, 53, 51, 54, 51, 55, 51, 56, 51, 57, 52, 48, 52, 49, 52, 50, 52, 51, 52, 52, 52, 53, 52, 54, 52, 55, 52, 56, 52, 57, 53, 48, 53, 49, 53, 50, 53, 51, 53, 52, 53, 53, 53, 54, 53, 55, 53, 56, 53, 57, 54, 48, 54, 49, 54, 50, 54, 51, 54, 52, 54, 53, 54, 54, 54, 55, 54, 56, 54, 57, 55, 48, 55, 49, 55, 50, 55, 51, 55, 52, 55, 53, 55, 54, 55, 55, 55, 56, 55, 57, 56, 48, 56, 49, 56, 50, 56, 51, 56, 52, 56, 53, 56, 54, 56, 55, 56, 56, 56, 57, 57, 48, 57, 49, 57, 50, 57, 51, 57, 52, 57, 53, 57, 54, 57, 55, 57, 56, 57, 57]⟩)) (.c x64) enE (Hs.mk .e h84.nx h84.nx))) v100 (dNext h79 u101 .blind) (andB (dFit h79 u101 .blind) (Nat.ble 0 u101.lo))) (oIdxS (.c (Value.string ⟨#[48, 48, 48, 49, 48, 50, 48, 51, 48, 52, 48, 53, 48, 54, 48, 55, 48, 56, 48, 57, 49, 48, 49, 49, 49, 50, 49, 51, 49, 52, 49, 53, 49, 54, 49, 55, 49, 56, 49, 57, 50, 48, 50, 49, 50, 50, 50, 51, 50, 52, 50, 53, 50, 54, 50, 55, 50, 56, 50, 57, 51, 48, 51, 49, 51, 50, 51, 51, 51, 52, 51, 53, 51, 54, 51, 55, 51, 56, 51, 57, 52, 48, 52, 49, 52, 50, 52, 51, 52, 52, 52, 53, 52, 54, 52, 55, 52, 56, 52, 57, 53, 48, 53, 49, 53, 50, 53, 51, 53, 52, 53, 53, 53, 54, 53, 55, 53, 56, 53, 57, 54, 48, 54, 49, 54, 50, 54, 51, 54, 52, 54, 53, 54, 54, 54, 55, 54, 56, 54, 57, 55, 48, 55, 49, 55, 50, 55, 51, 55, 52, 55, 53, 55, 54, 55, 55, 55, 56, 55, 57, 56, 48, 56, 49, 56, 50, 56, 51, 56, 52, 56, 53, 56, 54, 56, 55, 56, 56, 56, 57, 57, 48, 57, 49, 57, 50, 57, 51, 57, 52, 57, 53, 57, 54, 57, 55, 57, 56, 57, 57]⟩)) (.c x82) enE (Hs.mk .e h79.nx h79.nx))) (i2 (fOf .add) x64 (Value.int .u32 (.ofNat 1)))))) v102 (dNext h76 u103 .bar) (andB (dFit h76 u103 .bar) (Nat.ble 0 u103.lo))))) v104 (dNext h73 u105 .bar) (andB (dFit h73 u105 .bar) (Nat.ble 0 u105.lo))))) v106 (dNext h71 u107 .blind) (andB (dFit h71 u107 .blind) (Nat.ble 0 u107.lo))) (oIdxS (.c (Value.string ⟨#[48, 48, 48, 49, 48, 50, 48, 51, 48, 52, 48, 53, 48, 54, 48, 55, 48, 56, 48, 57, 49, 48, 49, 49, 49, 50, 49, 51, 49, 52, 49, 53, 49, 54, 49, 55, 49, 56, 49, 57, 50, 48, 50, 49, 50, 50, 50, 51, 50, 52, 50, 53, 50, 54, 50, 55, 50, 56, 50, 57, 51, 48, 51, 49, 51, 50, 51, 51, 51, 52, 51, 53, 51, 54, 51, 55, 51, 56, 51, 57, 52, 48, 52, 49, 52, 50, 52, 51, 52, 52, 52, 53, 52, 54, 52, 55, 52, 56, 52, 57, 53, 48, 53, 49, 53, 50, 53, 51, 53, 52, 53, 53, 53, 54, 53, 55, 53, 56, 53, 57, 54, 48, 54, 49, 54, 50, 54, 51, 54, 52, 54, 53, 54, 54, 54, 55, 54, 56, 54, 57, 55, 48, 55, 49, 55, 50, 55, 51, 55, 52, 55, 53, 55, 54, 55, 55, 55, 56, 55, 57, 56, 48, 56, 49, 56, 50, 56, 51, 56, 52, 56, 53, 56, 54, 56, 55, 56, 56, 56, 57, 57, 48, 57, 49, 57, 50, 57, 51, 57, 52, 57, 53, 57, 54, 57, 55, 57, 56, 57, 57]⟩)) (.c x66) enE (Hs.mk .e h71.nx h71.nx))) v108 (dNext h12 u109 .blind) (andB (dFit h12 u109 .blind) (Nat.ble 0 u109.lo))) (oIdxS (.c (Value.string ⟨#[48, 48, 48, 49, 48, 50, 48, 51, 48, 52, 48, 53, 48, 54, 48, 55, 48, 56, 48, 57, 49, 48, 49, 49, 49, 50, 49, 51, 49, 52, 49, 53, 49, 54, 49, 55, 49, 56, 49, 57, 50, 48, 50, 49, 50, 50, 50, 51, 50, 52, 50, 53, 50, 54, 50, 55, 50, 56, 50, 57, 51, 48, 51, 49, 51, 50, 51, 51, 51, 52, 51, 53, 51, 54, 51, 55, 51, 56, 51, 57, 52, 48, 52, 49, 52, 50, 52, 51, 52, 52, 52, 53, 52, 54, 52, 55, 52, 56, 52, 57, 53, 48, 53, 49, 53, 50, 53, 51, 53, 52, 53, 53, 53, 54, 53, 55, 53, 56, 53, 57, 54, 48, 54, 49, 54, 50, 54, 51, 54, 52, 54, 53, 54, 54, 54, 55, 54, 56, 54, 57, 55, 48, 55, 49, 55, 50, 55, 51, 55, 52, 55, 53, 55, 54, 55, 55, 55, 56, 55, 57, 56, 48, 56, 49, 56, 50, 56, 51, 56, 52, 56, 53, 56, 54, 56, 55, 56, 56, 56, 57, 57, 48, 57, 49, 57, 50, 57, 51, 57, 52, 57, 53, 57, 54, 57, 55, 57, 56, 57, 57]⟩)) (.c x69) enE (Hs.mk .e h12.nx h12.nx))) (i2 (fOf .add) x66 (Value.int .u32 (.ofNat 1)))))) (i2 (fOf .mul) x65 (Value.int .u32 (.ofNat 2)))) (i2 (fOf .rem) x61 (Value.int .u32 (.ofNat 100)))) (i2 (fOf .mul) x63 (Value.int .u32 (.ofNat 2)))) (i2 (fOf .quo) x61 (Value.int .u32 (.ofNat 100)))) (i2 (fOf .quo) x13 (Value.int .u32 (.ofNat 10000)))) (i2 (fOf .rem) x13 (Value.int .u32 (.ofNat 10000))))
 (k15 x2 x13 dunno dunno dunno h12))) (convI1 .u32 x4)) fun k1 =>
 lpT (T := Value → Value → Value → Value → Value → Value → Value → Value → Value → Value → Hs → An) (fun _ _ _ _ _ _ _ _ _ _ _ => none) N (fun k110 =>
 fun (x112 x113 x114 x115 x116 x117 x118 x119 x120 x121 : Value) (h122 : Hs) =>
 kI64 .geq x112 (Value.int .i64 (.ofNat 8)) (fun x123 =>
 jn (fun (h125 : Hs) =>
 jn (fun (x127 x128 x129 x130 x131 x132 x133 x134 x135 : Value) (h136 : Hs) =>
 k110 x127 x123 x128 x129 x130 x131 x132 x133 x134 x135 h136) fun k126 =>
 kU64 .rem x114 (Value.int .u64 (.ofNat 100000000)) (fun x137 =>
 obK (fun x138 =>
 kU64 .quo x114 (Value.int .u64 (.ofNat 100000000)) (fun x139 =>
 obK (fun x140 =>
 obK (fun x141 =>
 obK (fun x142 =>
 obK (fun x143 =>
 obK (fun x144 =>
 obK (fun x145 =>
 obK (fun x146 =>
 obK (fun x147 =>
 obK (fun x148 =>
 obK (fun x149 =>
 kI64 .sub x112 (Value.int .i64 (.ofNat 1)) (fun x150 =>
 kI64 .sub x112 (Value.int .i64 (.ofNat 2)) (fun x151 =>
 obK (fun x152 =>
 after (fun v233 u234 => dPut (fun x153 h154 =>
 after (fun v231 u232 => dPut (fun x155 h156 =>
 kIdxA 1 a0 x150 (fun x157 =>
 kStore1 x157 x153 h156 (fun v229 u230 => dPut (fun x158 h159 =>
 kIdxA 1 a0 x151 (fun x160 =>
 kStore1 x160 x155 h159 (fun v227 u228 => dPut (fun x161 h162 =>
 kI64 .sub x112 (Value.int .i64 (.ofNat 3)) (fun x163 =>
 kI64 .sub x112 (Value.int .i64 (.ofNat 4)) (fun x164 =>
 obK (fun x165 =>
 after (fun v225 u226 => dPut (fun x166 h167 =>
 after (fun v223 u224 => dPut (fun x168 h169 =>
 kIdxA 1 a0 x163 (fun x170 =>
 kStore1 x170 x166 h169 (fun v221 u222 => dPut (fun x171 h172 =>
 kIdxA 1 a0 x164 (fun x173 =>
 kStore1 x173 x168 h172 (fun v219 u220 => dPut (fun x174 h175 =>
 kI64 .sub x112 (Value.int .i64 (.ofNat 5)) (fun x176 =>
 kI64 .sub x112 (Value.int .i64 (.ofNat 6)) (fun x177 =>
 obK (fun x178 =>
 after (fun v217 u218 => dPut (fun x179 h180 =>
 after (fun v215 u216 => dPut (fun x181 h182 =>
 kIdxA 1 a0 x176 (fun x183 =>
 kStore1 x183 x179 h182 (fun v213 u214 => dPut (fun x184 h185 =>
 kIdxA 1 a0 x177 (fun x186 =>
 kStore1 x186 x181 h185 (fun v211 u212 => dPut (fun x187 h188 =>
 kI64 .sub x112 (Value.int .i64 (.ofNat 7)) (fun x189 =>
 kI64 .sub x112 (Value.int .i64 (.ofNat 8)) (fun x190 =>
 obK (fun x191 =>
 after (fun v209 u210 => dPut (fun x192 h193 =>
 after (fun v207 u208 => dPut (fun x194 h195 =>
 kIdxA 1 a0 x189 (fun x196 =>
 kStore1 x196 x192 h195 (fun v205 u206 => dPut (fun x197 h198 =>
 kIdxA 1 a0 x190 (fun x199 =>
 kStore1 x199 x194 h198 (fun v203 u204 => dPut (fun x200 h201 =>
 kI64 .sub x112 (Value.int .i64 (.ofNat 8)) (fun x202 =>
 k126 x202 x139 x138 x141 x140 x145 x143 x149 x147 h201)) v203 (dNext h198 u204 .bar) (andB (dFit h198 u204 .bar) (Nat.ble 0 u204.lo))))) v205 (dNext h195 u206 .bar) (andB (dFit h195 u206 .bar) (Nat.ble 0 u206.lo))))) v207 (dNext h193 u208 .blind) (andB (dFit h193 u208 .blind) (Nat.ble 0 u208.lo))) (oIdxS (.c (Value.string ⟨#[48, 48, 48, 49, 48, 50, 48, 51, 48, 52, 48, 53, 48, 54, 48, 55, 48, 56, 48, 57, 49, 48, 49, 49, 49, 50, 49, 51, 49, 52, 49, 53, 49, 54, 49, 55, 49, 56, 49, 57, 50, 48, 50, 49, 50, 50, 50, 51, 50, 52, 50, 53, 50, 54, 50, 55, 50, 56, 50, 57, 51, 48, 51, 49, 51, 50, 51, 51, 51, 52, 51, 53, 51, 54, 51, 55, 51, 56, 51, 57, 52, 48, 52, 49, 52, 50, 52, 51, 52, 52, 52, 53, 52, 54, 52, 55, 52, 56, 52, 57, 53, 48, 53, 49, 53, 50, 53, 51, 53, 52, 53, 53, 53, 54, 53, 55, 53, 56, 53, 57, 54, 48, 54, 49, 54, 50, 54, 51, 54, 52, 54, 53, 54, 54, 54, 55, 54, 56, 54, 57, 55, 48, 55, 49, 55, 50, 55, 51, 55, 52, 55, 53, 55, 54, 55, 55, 55, 56, 55, 57, 56, 48, 56, 49, 56, 50, 56, 51, 56, 52, 56, 53, 56, 54, 56, 55, 56, 56, 56, 57, 57, 48, 57, 49, 57, 50, 57, 51, 57, 52, 57, 53, 57, 54, 57, 55, 57, 56, 57, 57]⟩)) (.c x147) enE (Hs.mk .e h193.nx h193.nx))) v209 (dNext h188 u210 .blind) (andB (dFit h188 u210 .blind) (Nat.ble 0 u210.lo))) (oIdxS (.c (Value.string ⟨#[48, 48, 48, 49, 48, 50, 48, 51, 48, 52, 48, 53, 48, 54, 48, 55, 48, 56, 48, 57, 49, 48, 49, 49, 49, 50, 49, 51, 49, 52, 49, 53, 49, 54, 49, 55, 49, 56, 49, 57, 50, 48, 50, 49, 50, 50, 50, 51, 50, 52, 50, 53, 50, 54, 50, 55, 50, 56, 50, 57, 51, 48, 51, 49, 51, 50, 51, 51, 51, 52, 51, 53, 51, 54, 51, 55, 51, 56, 51, 57, 52, 48, 52, 49, 52, 50, 52, 51, 52, 52, 52, 53, 52, 54, 52, 55, 52, 56, 52, 57, 53, 48, 53, 49, 53, 50, 53, 51, 53, 52, 53, 53, 53, 54, 53, 55, 53, 56, 53, 57, 54, 48, 54, 49, 54, 50, 54, 51, 54, 52, 54, 53, 54, 54, 54, 55, 54, 56, 54, 57, 55, 48, 55, 49, 55, 50, 55, 51, 55, 52, 55, 53, 55, 54, 55, 55, 55, 56, 55, 57, 56, 48, 56, 49, 56, 50, 56, 51, 56, 52, 56, 53, 56, 54, 56, 55, 56, 56, 56, 57, 57, 48, 57, 49, 57, 50, 57, 51, 57, 52, 57, 53, 57, 54, 57, 55, 57, 56, 57, 57]⟩)) (.c x191) enE (Hs.mk .e h188.nx h188.nx))) (i2 (fOf .add) x147 (Value.int .u32 (.ofNat 1)))))) v211 (dNext h185 u212 .bar) (andB (dFit h185 u212 .bar) (Nat.ble 0 u212.lo))))) v213 (dNext h182 u214 .bar) (andB (dFit h182 u214 .bar) (Nat.ble 0 u214.lo))))) v215 (dNext h180 u216 .blind) (andB (dFit h180 u216 .blind) (Nat.ble 0 u216.lo))) (oIdxS (.c (Value.string ⟨#[48, 48, 48, 49, 48, 50, 48, 51, 48, 52, 48, 53, 48, 54, 48, 55, 48, 56, 48, 57, 49, 48, 49, 49, 49, 50, 49, 51, 49, 52, 49, 53, 49, 54, 49, 55, 49, 56, 49, 57, 50, 48, 50, 49, 50, 50, 50, 51, 50, 52, 50, 53, 50, 54, 50, 55, 50, 56, 50, 57, 51, 48, 51, 49, 51, 50, 51, 51, 51, 52, 51, 53, 51, 54, 51, 55, 51, 56, 51, 57, 52, 48, 52, 49, 52, 50, 52, 51, 52, 52, 52, 53, 52, 54, 52, 55, 52, 56, 52, 57, 53, 48, 53, 49, 53, 50, 53, 51, 53, 52, 53, 53, 53, 54, 53, 55, 53, 56, 53, 57, 54, 48, 54, 49, 54, 50, 54, 51, 54, 52, 54, 53, 54, 54, 54, 55, 54, 56, 54, 57, 55, 48, 55, 49, 55, 50, 55, 51, 55, 52, 55, 53, 55, 54, 55, 55, 55, 56, 55, 57, 56, 48, 56, 49, 56, 50, 56, 51, 56, 52, 56, 53, 56, 54, 56, 55, 56, 56, 56, 57, 57, 48, 57, 49, 57, 50, 57, 51, 57, 52, 57, 53, 57, 54, 57, 55, 57, 56, 57, 57]⟩)) (.c x149) enE (Hs.mk .e h180.nx h180.nx))) v217 (dNext h175 u218 .blind) (andB (dFit h175 u218 .blind) (Nat.ble 0 u218.lo))) (oIdxS (.c (Value.string ⟨#[48, 48, 48, 49, 48, 50, 48, 51, 48, 52, 48, 53, 48, 54, 48, 55, 48, 56, 48, 57, 49, 48, 49, 49, 49, 50, 49, 51, 49, 52, 49, 53, 49, 54, 49, 55, 49, 56, 49, 57, 50, 48, 50, 49, 50, 50, 50, 51, 50, 52, 50, 53, 50, 54, 50, 55, 50, 56, 50, 57, 51, 48, 51, 49, 51, 50, 51, 51, 51, 52, 51, 53, 51, 54, 51, 55, 51, 56, 51, 57, 52, 48, 52, 49, 52, 50, 52, 51, 52, 52, 52, 53, 52, 54, 52, 55, 52, 56, 52, 57, 53, 48, 53, 49, 53, 50, 53, 51, 53, 52, 53, 53, 53, 54, 53, 55, 53, 56, 53, 57, 54, 48, 54, 49, 54, 50, 54, 51, 54, 52, 54, 53, 54, 54, 54, 55, 54, 56, 54, 57, 55, 48, 55, 49, 55, 50, 55, 51, 55, 52, 55, 53, 55, 54, 55, 55, 55, 56, 55, 57, 56, 48, 56, 49, 56, 50, 56, 51, 56, 52, 56, 53, 56, 54, 56, 55, 56, 56, 56, 57, 57, 48, 57, 49, 57, 50, 57, 51, 57, 52, 57, 53, 57, 54, 57, 55, 57, 56, 57, 57]⟩)) (.c x178) enE (Hs.mk .e h175.nx h175.nx))) (i2 (fOf .add) x149 (Value.int .u32 (.ofNat 1)))))) v219 (dNext h172 u220 .bar) (andB (dFit h172 u220 .bar) (Nat.ble 0 u220.lo))))) v221 (dNext h169 u222 .bar) (andB (dFit h169 u222 .bar) (Nat.ble 0 u222.lo))))) v223 (dNext h167 u224 .blind) (andB (dFit h167 u224 .blind) (Nat.ble 0 u224.lo))) (oIdxS (.c (Value.string ⟨#[48, 48, 48, 49, 48, 50, 48, 51, 48, 52, 48, 53, 48, 54, 48, 55, 48, 56, 48, 57, 49, 48, 49, 49, 49, 50, 49, 51, 49, 52, 49, 53, 49, 54, 49, 55, 49, 56, 49, 57, 50, 48, 50, 49, 50, 50, 50, 51, 50, 52, 50, 53, 50, 54, 50, 55, 50, 56, 50, 57, 51, 48, 51, 49, 51, 50, 51, 51, 51, 52, 51, 53, 51, 54, 51, 55, 51, 56, 51, 57, 52, 48, 52, 49, 52, 50, 52, 51, 52, 52, 52, 53, 52, 54, 52, 55, 52, 56, 52, 57, 53, 48, 53, 49, 53, 50, 53, 51, 53, 52, 53, 53, 53, 54, 53, 55, 53, 56, 53, 57, 54, 48, 54, 49, 54, 50, 54, 51, 54, 52, 54, 53, 54, 54, 54, 55, 54, 56, 54, 57, 55, 48, 55, 49, 55, 50, 55, 51, 55, 52, 55, 53, 55, 54, 55, 55, 55, 56, 55, 57, 56, 48, 56, 49, 56, 50, 56, 51, 56, 52, 56, 53, 56, 54, 56, 55, 56, 56, 56, 57, 57, 48, 57, 49, 57, 50, 57, 51, 57, 52, 57, 53, 57, 54, 57, 55, 57, 56, 57, 57]⟩)) (.c x143) enE (Hs.mk .e h167.nx h167.nx))) v225 (dNext h162 u226 .blind) (andB (dFit h162 u226 .blind) (Nat.ble 0 u226.lo))) (oIdxS (.c (Value.string ⟨#[48, 48, 48, 49, 48, 50, 48, 51, 48, 52, 48, 53, 48, 54, 48, 55, 48, 56, 48, 57, 49, 48, 49, 49, 49, 50, 49, 51, 49, 52, 49, 53, 49, 54, 49, 55, 49, 56, 49, 57, 50, 48, 50, 49, 50, 50, 50, 51, 50, 52, 50, 53, 50, 54, 50, 55, 50, 56, 50, 57, 51, 48, 51, 49, 51, 50, 51, 51, 51, 52, 51, 53, 51, 54, 51, 55, 51, 56, 51, 57, 52, 48, 52, 49, 52, 50, 52, 51, 52, 52, 52, 53, 52, 54, 52, 55, 52, 56, 52, 57, 53, 48, 53, 49, 53, 50, 53, 51, 53, 52, 53, 53, 53, 54, 53, 55, 53, 56, 53, 57, 54, 48, 54, 49, 54, 50, 54, 51, 54, 52, 54, 53, 54, 54, 54, 55, 54, 56, 54, 57, 55, 48, 55, 49, 55, 50, 55, 51, 55, 52, 55, 53, 55, 54, 55, 55, 55, 56, 55, 57, 56, 48, 56, 49, 56, 50, 56, 51, 56, 52, 56, 53, 56, 54, 56, 55, 56, 56, 56, 57, 57, 48, 57, 49, 57, 50, 57, 51, 57, 52, 57, 53, 57, 54, 57, 55, 57, 56, 57, 57]⟩)) (.c x165) enE (Hs.mk .e h162.nx h162.nx))) (i2 (fOf .add) x143 (Value.int .u32 (.ofNat 1)))))) v227 (dNext h159 u228 .bar) (andB (dFit h159 u228 .bar) (Nat.ble 0 u228.lo))))) v229 (dNext h156 u230 .bar) (andB (dFit h156 u230 .bar) (Nat.ble 0 u230.lo))))) v231 (dNext h154 u232 .blind) (andB (dFit h154 u232 .blind) (Nat.ble 0 u232.lo))) (oIdxS (.c (Value.string ⟨#[48, 48, 48, 49, 48, 50, 48, 51, 48, 52, 48, 53, 48, 54, 48, 55, 48, 56, 48, 57, 49, 48, 49, 49, 49, 50, 49, 51, 49, 52, 49, 53, 49, 54, 49, 55, 49, 56, 49, 57, 50, 48, 50, 49, 50, 50, 50, 51, 50, 52, 50, 53, 50, 54, 50, 55, 50, 56, 50, 57, 51, 48, 51, 49, 51, 50, 51, 51, 51, 52, 51, 53, 51, 54, 51, 55, 51, 56, 51, 57, 52, 48, 52, 49, 52, 50, 52, 51, 52, 52, 52, 53, 52, 54, 52, 55, 52, 56, 52, 57, 53, 48, 53, 49, 53, 50, 53, 51, 53, 52, 53, 53, 53, 54, 53, 55, 53, 56, 53, 57, 54, 48, 54, 49, 54, 50, 54, 51, 54, 52, 54, 53, 54, 54, 54, 55, 54, 56, 54, 57, 55, 48, 55, 49, 55, 50, 55, 51, 55, 52, 55, 53, 55, 54, 55, 55, 55, 56, 55, 57, 56, 48, 56, 49, 56, 50, 56, 51, 56, 52, 56, 53, 56, 54, 56, 55, 56, 56, 56, 57, 57, 48, 57, 49, 57, 50, 57, 51, 57, 52, 57, 53, 57, 54, 57, 55, 57, 56, 57, 57]⟩)) (.c x145) enE (Hs.mk .e h154.nx h154.nx))) v233 (dNext h125 u234 .blind) (andB (dFit h125 u234 .blind) (Nat.ble 0 u234.lo))) (oIdxS (.c (Value.string ⟨#[48, 48, 48, 49, 48, 50, 48, 51, 48, 52, 48, 53, 48, 54, 48, 55, 48, 56, 48, 57, 49, 48, 49, 49, 49, 50, 49, 51, 49, 52, 49, 53, 49, 54, 49, 55, 49, 56, 49, 57, 50, 48, 50, 49, 50, 50, 50, 51, 50, 52, 50, 53, 50, 54, 50, 55, 50, 56, 50, 57, 51, 48, 51, 49, 51, 50, 51, 51, 51, 52, 51, 53, 51, 54, 51, 55, 51, 56, 51, 57, 52, 48, 52, 49, 52, 50, 52, 51, 52, 52, 52, 53, 52, 54, 52, 55, 52, 56, 52, 57, 53, 48, 53, 49, 53, 50, 53, 51, 53, 52, 53, 53, 53, 54, 53, 55, 53, 56, 53, 57, 54, 48, 54, 49, 54, 50, 54, 51, 54, 52, 54, 53, 54, 54, 54, 55, 54, 56, 54, 57, 55, 48, 55, 49, 55, 50, 55, 51, 55, 52, 55, 53, 55, 54, 55, 55, 55, 56, 55, 57, 56, 48, 56, 49, 56, 50, 56, 51, 56, 52, 56, 53, 56, 54, 56, 55, 56, 56, 56, 57, 57, 48, 57, 49, 57, 50, 57, 51, 57, 52, 57, 53, 57, 54, 57, 55, 57, 56, 57, 57]⟩)) (.c x152) enE (Hs.mk .e h125.nx h125.nx))) (i2 (fOf .add) x145 (Value.int .u32 (.ofNat 1)))))) (i2 (fOf .mul) x148 (Value.int .u32 (.ofNat 2)))) (i2 (fOf .rem) x140 (Value.int .u32 (.ofNat 100)))) (i2 (fOf .mul) x146 (Value.int .u32 (.ofNat 2)))) (i2 (fOf .quo) x140 (Value.int .u32 (.ofNat 100)))) (i2 (fOf .mul) x144 (Value.int .u32 (.ofNat 2)))) (i2 (fOf .rem) x141 (Value.int .u32 (.ofNat 100)))) (i2 (fOf .mul) x142 (Value.int .u32 (.ofNat 2)))) (i2 (fOf .quo) x141 (Value.int .u32 (.ofNat 100)))) (i2 (fOf .rem) x138 (Value.int .u32 (.ofNat 10000)))) (i2 (fOf .quo) x138 (Value.int .u32 (.ofNat 10000))))) (convI1 .u32 x137))) fun k124 =>
 cnd x123
 (k124 h122)
 (k1 x112 x123 x114 x115 x116 x117 x118 x119 x120 x121 h122))) x0 dunno a1 dunno dunno dunno dunno dunno dunno dunno h0)

theorem q156 (R : RnK) (N : Nat) (args : List Value) (h : Hs) : r156 R N args h = callT Tryz.prog N R 156 args h := by kernel_rfl

/-- internal/strconv.formatBits -/
noncomputable def r157 (R : RnK) (N : Nat) (args : List Value) (h : Hs) : An := unC args fun a0 sq0 => unC sq0 fun a1 sq1 => unC sq1 fun a2 sq2 => unC sq2 fun a3 sq3 => unC sq3 fun a4 sq4 => enK h fun h0 =>
 kI64 .lss a2 (Value.int .i64 (.ofNat 2)) (fun x0 =>
 gdF x0 h0 (fun k1 => k1 a2 h0) (fun x2 h3 =>
 gdF x0 h3 (fun k4 => kI64 .eql x2 (Value.int .i64 (.ofNat 10)) (fun x5 => k4 x5 h3)) (fun x6 h7 =>
 after (fun x8 h9 =>
 gdF x8 h9 (fun k10 => k10 a2 h9) (fun x11 h12 =>
 gdF x8 h12 (fun k13 => kI64 .gtr x11 (Value.int .i64 (.ofNat 36)) (fun x14 => k13 x14 h12)) (fun x15 h16 =>
 after (fun x17 h18 =>
 jn (fun (h20 : Hs) =>
 after (fun x21 h22 =>
 jn (fun (x24 : Value) (h25 : Hs) =>
 kCall R 166 [a2] h25 (fun x26 h27 =>
 jn (fun (x29 x30 x31 x32 x33 x34 x35 x36 x37 : Value) (h38 : Hs) =>
 jn (fun (x40 : Value) (h41 : Hs) =>
 jn (fun (x43 : Value) (h44 : Hs) =>
 none) fun k42 =>
 cnd a4
 (none)
 (k42 (Value.slice none 0 0) h41)) fun k39 =>
 cnd a3
 (kI64 .sub x32 (Value.int .i64 (.ofNat 1)) (fun x53 =>
 obK (fun x54 =>
 kStore1 x54 (Value.int .u8 (.ofNat 45)) h38 (fun x55 h56 =>
 k39 x53 h56)) (idxArr1 1 65 (natOf x53) x21)))
 (k39 x32 h38)) fun k28 =>
 cnd x26
 (kToU a2 (fun x57 =>
 kCall R 167 [x57] h27 (fun x58 h59 =>
 kToU x58 (fun x60 =>
 kToU a2 (fun x61 =>
 kToU a2 (fun x62 =>
 kU64 .sub x62 (Value.int .u64 (.ofNat 1)) (fun x63 =>
 jn (fun (x65 x66 x67 : Value) (h68 : Hs) =>
 kI64 .sub x67 (Value.int .i64 (.ofNat 1)) (fun x69 =>
 after (fun x70 h71 =>
 obK (fun x72 =>
 kStore1 x72 x70 h71 (fun x73 h74 =>
 k28 x65 x61 x66 x69 x63 x60 dunno dunno dunno h74)) (idxArr1 1 65 (natOf x69) x21)) (oIdxS (.c (Value.string ⟨#[48, 49, 50, 51, 52, 53, 54, 55, 56, 57, 97, 98, 99, 100, 101, 102, 103, 104, 105, 106, 107, 108, 109, 110, 111, 112, 113, 114, 115, 116, 117, 118, 119, 120, 121, 122]⟩)) (.c x65) enE h68))) fun k64 =>
 lpT (T := Value → Value → Value → Hs → An) (fun _ _ _ _ => none) N (fun k75 =>
 fun (x77 x78 x79 : Value) (h80 : Hs) =>
 kU64 .geq x77 x61 (fun x81 =>
 jn (fun (h83 : Hs) =>
 jn (fun (x85 x86 : Value) (h87 : Hs) =>
 k75 x85 x81 x86 h87) fun k84 =>
 kI64 .sub x79 (Value.int .i64 (.ofNat 1)) (fun x88 =>
 kU64 .and x77 x63 (fun x89 =>
 after (fun x90 h91 =>
 obK (fun x92 =>
 kStore1 x92 x90 h91 (fun x93 h94 =>
 kShr x77 x60 (fun x95 =>
 k84 x95 x88 h94))) (idxArr1 1 65 (natOf x88) x21)) (oIdxS (.c (Value.string ⟨#[48, 49, 50, 51, 52, 53, 54, 55, 56, 57, 97, 98, 99, 100, 101, 102, 103, 104, 105, 106, 107, 108, 109, 110, 111, 112, 113, 114, 115, 116, 117, 118, 119, 120, 121, 122]⟩)) (.c x89) enE h83)))) fun k82 =>
 cnd x81
 (k82 h80)
 (k64 x77 x81 x79 h80))) x24 dunno (Value.int .i64 (.ofNat 65)) h59)))))))
 (kToU a2 (fun x96 =>
 jn (fun (x98 x99 x100 x101 : Value) (h102 : Hs) =>
 kI64 .sub x99 (Value.int .i64 (.ofNat 1)) (fun x103 =>
 after (fun x104 h105 =>
 obK (fun x106 =>
 kStore1 x106 x104 h105 (fun x107 h108 =>
 k28 x98 dunno dunno x103 dunno dunno x96 x100 x101 h108)) (idxArr1 1 65 (natOf x103) x21)) (oIdxS (.c (Value.string ⟨#[48, 49, 50, 51, 52, 53, 54, 55, 56, 57, 97, 98, 99, 100, 101, 102, 103, 104, 105, 106, 107, 108, 109, 110, 111, 112, 113, 114, 115, 116, 117, 118, 119, 120, 121, 122]⟩)) (.c x98) enE h102))) fun k97 =>
 lpT (T := Value → Value → Value → Value → Hs → An) (fun _ _ _ _ _ => none) N (fun k109 =>
 fun (x111 x112 x113 x114 : Value) (h115 : Hs) =>
 kU64 .geq x111 x96 (fun x116 =>
 jn (fun (h118 : Hs) =>
 jn (fun (x120 x121 x122 : Value) (h123 : Hs) =>
 k109 x120 x121 x116 x122 h123) fun k119 =>
 kI64 .sub x112 (Value.int .i64 (.ofNat 1)) (fun x124 =>
 kU64 .quo x111 x96 (fun x125 =>
 kU64 .mul x125 x96 (fun x126 =>
 kU64 .sub x111 x126 (fun x127 =>
 after (fun x128 h129 =>
 obK (fun x130 =>
 kStore1 x130 x128 h129 (fun x131 h132 =>
 k119 x125 x124 x125 h132)) (idxArr1 1 65 (natOf x124) x21)) (oIdxS (.c (Value.string ⟨#[48, 49, 50, 51, 52, 53, 54, 55, 56, 57, 97, 98, 99, 100, 101, 102, 103, 104, 105, 106, 107, 108, 109, 110, 111, 112, 113, 114, 115, 116, 117, 118, 119, 120, 121, 122]⟩)) (.c x127) enE h118)))))) fun k117 =>
 cnd x116
 (k117 h115)
 (k97 x111 x112 x116 x114 h115))) x24 (Value.int .i64 (.ofNat 65)) dunno dunno h27)))) fun k23 =>
 cnd a3
 (obK (fun x133 =>
 k23 x133 h22) (un .neg a1))
 (k23 a1 h22)) (oAlloc 219 [(Value.int .u8 (.ofNat 0)), (Value.int .u8 (.ofNat 0)), (Value.int .u8 (.ofNat 0)), (Value.int .u8 (.ofNat 0)), (Value.int .u8 (.ofNat 0)), (Value.int .u8 (.ofNat 0)), (Value.int .u8 (.ofNat 0)), (Value.int .u8 (.ofNat 0)), (Value.int .u8 (.ofNat 0)), (Value.int .u8 (.ofNat 0)), (Value.int .u8 (.ofNat 0)), (Value.int .u8 (.ofNat 0)), (Value.int .u8 (.ofNat 0)), (Value.int .u8 (.ofNat 0)), (Value.int .u8 (.ofNat 0)), (Value.int .u8 (.ofNat 0)), (Value.int .u8 (.ofNat 0)), (Value.int .u8 (.ofNat 0)), (Value.int .u8 (.ofNat 0)), (Value.int .u8 (.ofNat 0)), (Value.int .u8 (.ofNat 0)), (Value.int .u8 (.ofNat 0)), (Value.int .u8 (.ofNat 0)), (Value.int .u8 (.ofNat 0)), (Value.int .u8 (.ofNat 0)), (Value.int .u8 (.ofNat 0)), (Value.int .u8 (.ofNat 0)), (Value.int .u8 (.ofNat 0)), (Value.int .u8 (.ofNat 0)), (Value.int .u8 (.ofNat 0)), (Value.int .u8 (.ofNat 0)), (Value.int .u8 (.ofNat 0)), (Value.int .u8 (.ofNat 0)), (Value.int .u8 (.ofNat 0)), (Value.int .u8 (.ofNat 0)), (Value.int .u8 (.ofNat 0)), (Value.int .u8 (.ofNat 0)), (Value.int .u8 (.ofNat 0)), (Value.int .u8 (.ofNat 0)), (Value.int .u8 (.ofNat 0)), (Value.int .u8 (.ofNat 0)), (Value.int .u8 (.ofNat 0)), (Value.int .u8 (.ofNat 0)), (Value.int .u8 (.ofNat 0)), (Value.int .u8 (.ofNat 0)), (Value.int .u8 (.ofNat 0)), (Value.int .u8 (.ofNat 0)), (Value.int .u8 (.ofNat 0)), (Value.int .u8 (.ofNat 0)), (Value.int .u8 (.ofNat 0)), (Value.int .u8 (.ofNat 0)), (Value.int .u8 (.ofNat 0)), (Value.int .u8 (.ofNat 0)), (Value.int .u8 (.ofNat 0)), (Value.int .u8 (.ofNat 0)), (Value.int .u8 (.ofNat 0)), (Value.int .u8 (.ofNat 0)), (Value.int .u8 (.ofNat 0)), (Value.int .u8 (.ofNat 0)), (Value.int .u8 (.ofNat 0)), (Value.int .u8 (.ofNat 0)), (Value.int .u8 (.ofNat 0)), (Value.int .u8 (.ofNat 0)), (Value.int .u8 (.ofNat 0)), (Value.int .u8 (.ofNat 0))] enE h20)) fun k19 =>
 cnd x17
 (after (fun x134 h135 =>
 none) (oMkface 9 (.c (Value.string ⟨#[115, 116, 114, 99, 111, 110, 118, 58, 32, 105, 108, 108, 101, 103, 97, 108, 32, 65, 112, 112, 101, 110, 100, 73, 110, 116, 47, 70, 111, 114, 109, 97, 116, 73, 110, 116, 32, 98, 97, 115, 101]⟩)) enE h18))
 (k19 h18)) (pickB (.c (Value.bool true)) (.c x15) enE h16 x8)))) (pickB (.c (Value.bool true)) (.c x6) enE h7 x0))))

theorem q157 (R : RnK) (N : Nat) (args : List Value) (h : Hs) : r157 R N args h = callT Tryz.prog N R 157 args h := by kernel_rfl

/-- internal/stringslite.IndexByte -/
noncomputable def r160 (R : RnK) (N : Nat) (args : List Value) (h : Hs) : An := unC args fun a0 sq0 => unC sq0 fun a1 sq1 => enK h fun h0 =>
 after (fun x0 h1 =>
 clrK h x0 h1) (ret1 h0 (idxB1 a0 a1))

theorem q160 (R : RnK) (N : Nat) (args : List Value) (h : Hs) : r160 R N args h = callT Tryz.prog N R 160 args h := by kernel_rfl

/-- internal/bytealg.Cutover -/
noncomputable def r162 (R : RnK) (N : Nat) (args : List Value) (h : Hs) : An := unC args fun a0 sq0 => enK h fun h0 =>
 kI64 .add a0 (Value.int .i64 (.ofNat 16)) (fun x0 =>
 kI64 .quo x0 (Value.int .i64 (.ofNat 8)) (fun x1 =>
 clrK h x1 h0))

theorem q162 (R : RnK) (N : Nat) (args : List Value) (h : Hs) : r162 R N args h = callT Tryz.prog N R 162 args h := by kernel_rfl

/-- internal/bytealg.IndexRabinKarp[string] -/
noncomputable def r163 (R : RnK) (N : Nat) (args : List Value) (h : Hs) : An := unC args fun a0 sq0 => unC sq0 fun a1 sq1 => enK h fun h0 =>
 kCall R 169 [a1] h0 (fun x0 h1 =>
 kExtr x0 0 (fun x2 =>
 kExtr x0 1 (fun x3 =>
 kLenS a1 (fun x4 =>
 jn (fun (x6 x7 x8 : Value) (h9 : Hs) =>
 obK (fun x10 =>
 gdT x10 h9 (fun k11 => k11 a0 h9) (fun x12 h13 =>
 gdT x10 h13 (fun k14 => k14 x4 h13) (fun x15 h16 =>
 gdT x10 h16 (fun k17 => after (k17) (oCutstr (.c x12) none (some (.c x15)) enE h16)) (fun x18 h19 =>
 gdT x10 h19 (fun k20 => k20 a1 h19) (fun x21 h22 =>
 gdT x10 h22 (fun k23 => obK (fun x24 => k23 x24 h22) (s2 .eql x18 x21)) (fun x25 h26 =>
 after (fun x27 h28 =>
 jn (fun (x30 : Value) (h31 : Hs) =>
 jn (fun (x33 x34 x35 x36 x37 : Value) (h38 : Hs) =>
 clrK h (Value.int .i64 (.negSucc 0)) h38) fun k32 =>
 lpT (T := Value → Value → Value → Value → Value → Hs → An) (fun _ _ _ _ _ _ => none) N (fun k39 =>
 fun (x41 x42 x43 x44 x45 : Value) (h46 : Hs) =>
 kLenS a0 (fun x47 =>
 kI64 .lss x42 x47 (fun x48 =>
 jn (fun (h50 : Hs) =>
 jn (fun (x52 x53 x54 x55 : Value) (h56 : Hs) =>
 k39 x52 x53 x48 x54 x55 h56) fun k51 =>
 obK (fun x57 =>
 after (fun x58 h59 =>
 obK (fun x60 =>
 obK (fun x61 =>
 kI64 .sub x42 x4 (fun x62 =>
 after (fun x63 h64 =>
 obK (fun x65 =>
 obK (fun x66 =>
 obK (fun x67 =>
 kI64 .add x42 (Value.int .i64 (.ofNat 1)) (fun x68 =>
 obK (fun x69 =>
 gdT x69 h64 (fun k70 => k70 a0 h64) (fun x71 h72 =>
 gdT x69 h72 (fun k73 => k73 x68 h72) (fun x74 h75 =>
 gdT x69 h75 (fun k76 => k76 x4 h75) (fun x77 h78 =>
 gdT x69 h78 (fun k79 => kI64 .sub x74 x77 (fun x80 => k79 x80 h78)) (fun x81 h82 =>
 gdT x69 h82 (fun k83 => k83 x68 h82) (fun x84 h85 =>
 gdT x69 h85 (fun k86 => after (k86) (oCutstr (.c x71) (some (.c x81)) (some (.c x84)) enE h85)) (fun x87 h88 =>
 gdT x69 h88 (fun k89 => k89 a1 h88) (fun x90 h91 =>
 gdT x69 h91 (fun k92 => obK (fun x93 => k92 x93 h91) (s2 .eql x87 x90)) (fun x94 h95 =>
 after (fun x96 h97 =>
 jn (fun (x99 : Value) (h100 : Hs) =>
 k51 x67 x68 x96 x99 h100) fun k98 =>
 cnd x96
 (kI64 .sub x68 x4 (fun x101 =>
 clrK h x101 h97))
 (k98 x45 h97)) (pickB (.c x94) (.c (Value.bool false)) enE h95 x69)))))))))) (i2 (fOf .eql) x67 x2))) (i2 (fOf .sub) x61 x66)) (i2 (fOf .mul) x3 x65)) (convI1 .u32 x63)) (oIdxS (.c a0) (.c x62) enE h59))) (i2 (fOf .add) x57 x60)) (convI1 .u32 x58)) (oIdxS (.c a0) (.c x42) enE h50)) (i2 (fOf .mul) x41 (Value.int .u32 (.ofNat 16777619)))) fun k49 =>
 cnd x48
 (k49 h46)
 (k32 x41 x42 x48 x44 x45 h46)))) x8 x4 dunno dunno x30 h31) fun k29 =>
 cnd x27
 (clrK h (Value.int .i64 (.ofNat 0)) h28)
 (k29 (Value.int .i64 (.ofNat 0)) h28)) (pickB (.c x25) (.c (Value.bool false)) enE h26 x10))))))) (i2 (fOf .eql) x8 x2)) fun k5 =>
 lpT (T := Value → Value → Value → Hs → An) (fun _ _ _ _ => none) N (fun k102 =>
 fun (x104 x105 x106 : Value) (h107 : Hs) =>
 kI64 .lss x104 x4 (fun x108 =>
 jn (fun (h110 : Hs) =>
 jn (fun (x112 : Value) (h113 : Hs) =>
 kI64 .add x104 (Value.int .i64 (.ofNat 1)) (fun x114 =>
 k102 x114 x108 x112 h113)) fun k111 =>
 obK (fun x115 =>
 after (fun x116 h117 =>
 obK (fun x118 =>
 obK (fun x119 =>
 k111 x119 h117) (i2 (fOf .add) x115 x118)) (convI1 .u32 x116)) (oIdxS (.c a0) (.c x104) enE h110)) (i2 (fOf .mul) x106 (Value.int .u32 (.ofNat 16777619)))) fun k109 =>
 cnd x108
 (k109 h107)
 (k5 x104 x108 x106 h107))) (Value.int .i64 (.ofNat 0)) dunno (Value.int .u32 (.ofNat 0)) h1))))

theorem q163 (R : RnK) (N : Nat) (args : List Value) (h : Hs) : r163 R N args h = callT Tryz.prog N R 163 args h := by kernel_rfl

/-- internal/strconv.log10Pow2 -/
noncomputable def r164 (R : RnK) (N : Nat) (args : List Value) (h : Hs) : An := unC args fun a0 sq0 => enK h fun h0 =>
 kI64 .mul a0 (Value.int .i64 (.ofNat 78913)) (fun x0 =>
 kShr x0 (Value.int .u64 (.ofNat 18)) (fun x1 =>
 clrK h x1 h0))

theorem q164 (R : RnK) (N : Nat) (args : List Value) (h : Hs) : r164 R N args h = callT Tryz.prog N R 164 args h := by kernel_rfl

/-- internal/strconv.bool2[int] -/
noncomputable def r165 (R : RnK) (N : Nat) (args : List Value) (h : Hs) : An := unC args fun a0 sq0 => enK h fun h0 =>
 jn (fun (x1 : Value) (h2 : Hs) =>
 clrK h (Value.int .i64 (.ofNat 0)) h2) fun k0 =>
 cnd a0
 (clrK h (Value.int .i64 (.ofNat 1)) h0)
 (k0 (Value.int .i64 (.ofNat 0)) h0)

theorem q165 (R : RnK) (N : Nat) (args : List Value) (h : Hs) : r165 R N args h = callT Tryz.prog N R 165 args h := by kernel_rfl

/-- internal/strconv.isPowerOfTwo -/
noncomputable def r166 (R : RnK) (N : Nat) (args : List Value) (h : Hs) : An := unC args fun a0 sq0 => enK h fun h0 =>
 kI64 .sub a0 (Value.int .i64 (.ofNat 1)) (fun x0 =>
 kI64 .and a0 x0 (fun x1 =>
 kI64 .eql x1 (Value.int .i64 (.ofNat 0)) (fun x2 =>
 clrK h x2 h0)))

theorem q166 (R : RnK) (N : Nat) (args : List Value) (h : Hs) : r166 R N args h = callT Tryz.prog N R 166 args h := by kernel_rfl

/-- math/bits.TrailingZeros -/
noncomputable def r167 (R : RnK) (N : Nat) (args : List Value) (h : Hs) : An := unC args fun a0 sq0 => enK h fun h0 =>
 jn (fun (x1 : Value) (h2 : Hs) =>
 kCall R 171 [a0] h2 (fun x3 h4 =>
 clrK h x3 h4)) fun k0 =>
 cnd (Value.bool false)
 (obK (fun x5 =>
 kCall R 170 [x5] h0 (fun x6 h7 =>
 clrK h x6 h7)) (convI1 .u32 a0))
 (k0 (Value.int .i64 (.ofNat 0)) h0)

theorem q167 (R : RnK) (N : Nat) (args : List Value) (h : Hs) : r167 R N args h = callT Tryz.prog N R 167 args h := by kernel_rfl

/-- internal/bytealg.hashStr[string] -/
noncomputable def r169 (R : RnK) (N : Nat) (args : List Value) (h : Hs) : An := unC args fun a0 sq0 => enK h fun h0 =>
 jn (fun (x1 x2 x3 : Value) (h4 : Hs) =>
 kLenS a0 (fun x5 =>
 jn (fun (x7 x8 x9 x10 x11 : Value) (h12 : Hs) =>
 clrK h (Value.tuple #[x3, x10]) h12) fun k6 =>
 lpT (T := Value → Value → Value → Value → Value → Hs → An) (fun _ _ _ _ _ _ => none) N (fun k13 =>
 fun (x15 x16 x17 x18 x19 : Value) (h20 : Hs) =>
 kI64 .gtr x15 (Value.int .i64 (.ofNat 0)) (fun x21 =>
 jn (fun (h23 : Hs) =>
 jn (fun (x25 x26 x27 : Value) (h28 : Hs) =>
 kShr x15 (Value.int .u64 (.ofNat 1)) (fun x29 =>
 k13 x29 x21 x25 x26 x27 h28)) fun k24 =>
 kI64 .and x15 (Value.int .i64 (.ofNat 1)) (fun x30 =>
 kI64 .neq x30 (Value.int .i64 (.ofNat 0)) (fun x31 =>
 jn (fun (x33 : Value) (h34 : Hs) =>
 obK (fun x35 =>
 k24 x31 x33 x35 h34) (i2 (fOf .mul) x19 x19)) fun k32 =>
 cnd x31
 (obK (fun x36 =>
 k32 x36 h23) (i2 (fOf .mul) x18 x19))
 (k32 x18 h23)))) fun k22 =>
 cnd x21
 (k22 h20)
 (k6 x15 x21 x17 x18 x19 h20))) x5 dunno dunno (Value.int .u32 (.ofNat 1)) (Value.int .u32 (.ofNat 16777619)) h4)) fun k0 =>
 lpT (T := Value → Value → Value → Hs → An) (fun _ _ _ _ => none) N (fun k37 =>
 fun (x39 x40 x41 : Value) (h42 : Hs) =>
 kLenS a0 (fun x43 =>
 kI64 .lss x39 x43 (fun x44 =>
 jn (fun (h46 : Hs) =>
 jn (fun (x48 : Value) (h49 : Hs) =>
 kI64 .add x39 (Value.int .i64 (.ofNat 1)) (fun x50 =>
 k37 x50 x44 x48 h49)) fun k47 =>
 obK (fun x51 =>
 after (fun x52 h53 =>
 obK (fun x54 =>
 obK (fun x55 =>
 k47 x55 h53) (i2 (fOf .add) x51 x54)) (convI1 .u32 x52)) (oIdxS (.c a0) (.c x39) enE h46)) (i2 (fOf .mul) x41 (Value.int .u32 (.ofNat 16777619)))) fun k45 =>
 cnd x44
 (k45 h42)
 (k0 x39 x44 x41 h42)))) (Value.int .i64 (.ofNat 0)) dunno (Value.int .u32 (.ofNat 0)) h0

theorem q169 (R : RnK) (N : Nat) (args : List Value) (h : Hs) : r169 R N args h = callT Tryz.prog N R 169 args h := by kernel_rfl

/-- math/bits.TrailingZeros32 -/
noncomputable def r170 (R : RnK) (N : Nat) (args : List Value) (h : Hs) : An := unC args fun a0 sq0 => enK h fun h0 =>
 obK (fun x0 =>
 jn (fun (x2 : Value) (h3 : Hs) =>
 obK (fun x4 =>
 obK (fun x5 =>
 obK (fun x6 =>
 kShr x6 (Value.int .u64 (.ofNat 27)) (fun x7 =>
 none)) (i2 (fOf .mul) x5 (Value.int .u32 (.ofNat 125613361)))) (i2 (fOf .and) a0 x4)) (un .neg a0)) fun k1 =>
 cnd x0
 (clrK h (Value.int .i64 (.ofNat 32)) h0)
 (k1 (Value.int .i64 (.ofNat 0)) h0)) (i2 (fOf .eql) a0 (Value.int .u32 (.ofNat 0)))

theorem q170 (R : RnK) (N : Nat) (args : List Value) (h : Hs) : r170 R N args h = callT Tryz.prog N R 170 args h := by kernel_rfl

/-- math/bits.TrailingZeros64 -/
noncomputable def r171 (R : RnK) (N : Nat) (args : List Value) (h : Hs) : An := unC args fun a0 sq0 => enK h fun h0 =>
 kU64 .eql a0 (Value.int .u64 (.ofNat 0)) (fun x0 =>
 jn (fun (x2 : Value) (h3 : Hs) =>
 obK (fun x4 =>
 kU64 .and a0 x4 (fun x5 =>
 kU64 .mul x5 (Value.int .u64 (.ofNat 285870213051353865)) (fun x6 =>
 kShr x6 (Value.int .u64 (.ofNat 58)) (fun x7 =>
 none)))) (un .neg a0)) fun k1 =>
 cnd x0
 (clrK h (Value.int .i64 (.ofNat 64)) h0)
 (k1 (Value.int .i64 (.ofNat 0)) h0))

theorem q171 (R : RnK) (N : Nat) (args : List Value) (h : Hs) : r171 R N args h = callT Tryz.prog N R 171 args h := by kernel_rfl

noncomputable def entries : List (Nat × FnK) := [(3, r3), (6, r6), (7, r7), (8, r8), (9, r9), (10, r10), (11, r11), (16, r16), (19, r19), (20, r20), (21, r21), (22, r22), (23, r23), (24, r24), (25, r25), (26, r26), (27, r27), (28, r28), (29, r29), (30, r30), (31, r31), (32, r32), (33, r33), (34, r34), (44, r44), (45, r45), (46, r46), (53, r53), (54, r54), (56, r56), (57, r57), (58, r58), (59, r59), (60, r60), (61, r61), (72, r72), (73, r73), (74, r74), (75, r75), (77, r77), (78, r78), (86, r86), (87, r87), (88, r88), (89, r89), (90, r90), (91, r91), (94, r94), (95, r95), (96, r96), (97, r97), (98, r98), (99, r99), (100, r100), (102, r102), (103, r103), (104, r104), (105, r105), (108, r108), (111, r111), (112, r112), (114, r114), (116, r116), (117, r117), (118, r118), (128, r128), (129, r129), (140, r140), (141, r141), (142, r142), (144, r144), (145, r145), (148, r148), (152, r152), (153, r153), (154, r154), (155, r155), (156, r156), (157, r157), (160, r160), (162, r162), (163, r163), (164, r164), (165, r165), (166, r166), (167, r167), (169, r169), (170, r170), (171, r171)]
theorem entries_ok : AllOk Tryz.prog entries := ⟨q3, q6, q7, q8, q9, q10, q11, q16, q19, q20, q21, q22, q23, q24, q25, q26, q27, q28, q29, q30, q31, q32, q33, q34, q44, q45, q46, q53, q54, q56, q57, q58, q59, q60, q61, q72, q73, q74, q75, q77, q78, q86, q87, q88, q89, q90, q91, q94, q95, q96, q97, q98, q99, q100, q102, q103, q104, q105, q108, q111, q112, q114, q116, q117, q118, q128, q129, q140, q141, q142, q144, q145, q148, q152, q153, q154, q155, q156, q157, q160, q162, q163, q164, q165, q166, q167, q169, q170, q171, trivial⟩
end Go.Proofs.YtkmdcgfgfinmjaaGreatDoor.imageOpens
