/- The functions that 'CureKnown' reaches, in the fast evaluator's form, each held against the program's own text by the kernel. Written by a program. -/
import Derived.Test.YtedgkbmfdniibaaGreatDoorGevKM
import Derived.Test.YtedgkbmfdniibaaGreatDoorProg
import Derived.KernelRfl
namespace Go.Proofs.YtedgkbmfdniibaaGreatDoor.cureKnown
open Go.Gev
set_option linter.unusedVariables false
/-- lintel/image.Make -/
noncomputable def r5 (R : RnK) (N : Nat) (args : List Value) (h : Hs) : An := unC args fun a0 sq0 => enK h fun h0 =>
 after (fun x0 h1 =>
 kLoads 4 x0 h1 (fun x2 =>
 kCall R 18 [x2] h1 (fun x3 h4 =>
 kNot x3 (fun x5 =>
 jn (fun (x7 x8 : Value) (h9 : Hs) =>
 kFieldA 0 x0 (fun x10 =>
 kLoad x10 h9 (fun x11 =>
 kI64 .mul (Value.int .i64 (.ofNat 8)) x11 (fun x12 =>
 after (fun x13 h14 =>
 after (fun x15 h16 =>
 kStore1 x15 x13 h16 (fun x17 h18 =>
 after (fun x19 h20 =>
 kLoads 4 x0 h20 (fun x21 =>
 kCall R 20 [x21] h20 (fun x22 h23 =>
 kExtr x22 0 (fun x24 =>
 kExtr x22 1 (fun x25 =>
 kLoads 4 x0 h23 (fun x26 =>
 after (fun x27 h28 =>
 kCall R 21 [x27] h28 (fun x29 h30 =>
 kCallV R x19 [(Value.int .i64 (.ofNat 0)), x29] h30 (fun x31 h32 =>
 kLoads 4 x0 (Hs.mk h32.hp h32.nx h32.nx) (fun x33 =>
 kCall R 22 [x33] (Hs.mk h32.hp h32.nx h32.nx) (fun v146 u147 => dPut (fun x34 h35 =>
 kLoads 4 x0 (dHidS .light [false, false, false] [some (h32.nx, h35.nx), none, none] h35) (fun x36 =>
 after (fun v144 u145 => dPut (fun x37 h38 =>
 kCall R 21 [x37] h38 (fun v142 u143 => dPut (fun x39 h40 =>
 isVal (fun v140 u141 => dPut (fun x41 h42 =>
 kLoads 4 x0 h42 (fun x43 =>
 kCall R 23 [x43, (Value.int .i64 (.ofNat 1))] h42 (fun x44 h45 =>
 after (fun x46 h47 =>
 kCall R 9 [x46] h47 (fun x48 h49 =>
 kCallV R x19 [x44, x48] h49 (fun x50 h51 =>
 kLoads 4 x0 h51 (fun x52 =>
 kCall R 23 [x52, (Value.int .i64 (.ofNat 2))] h51 (fun x53 h54 =>
 after (fun x55 h56 =>
 after (fun x57 h58 =>
 after (fun x59 h60 =>
 kCall R 9 [x59] h60 (fun x61 h62 =>
 kCallV R x19 [x53, x61] h62 (fun x63 h64 =>
 kLoads 4 x0 h64 (fun x65 =>
 kCall R 24 [x65] h64 (fun x66 h67 =>
 kExtr x66 0 (fun x68 =>
 kExtr x66 1 (fun x69 =>
 kFieldA 0 x0 (fun x70 =>
 kLoad x70 h67 (fun x71 =>
 kCall R 25 [x71] h67 (fun x72 h73 =>
 after (fun x74 h75 =>
 kStore1 x74 x72 h75 (fun x76 h77 =>
 kFieldA 0 x0 (fun x78 =>
 kLoad x78 h77 (fun x79 =>
 jn (fun (x81 x82 x83 x84 : Value) (h85 : Hs) =>
 kLoads 4 x0 h85 (fun x86 =>
 kCall R 27 [x86] h85 (fun x87 h88 =>
 kExtr x87 0 (fun x89 =>
 kExtr x87 1 (fun x90 =>
 kFieldA 0 x74 (fun x91 =>
 kLoad x91 h88 (fun x92 =>
 kCallV R x19 [x89, x92] h88 (fun x93 h94 =>
 kLoad x15 h94 (fun x95 =>
 clrK h (Value.tuple #[x95, (Value.int .i64 (.ofNat 0))]) h94))))))))) fun k80 =>
 lpT (T := Value → Value → Value → Value → Hs → An) (fun _ _ _ _ _ => none) N (fun k96 =>
 fun (x98 x99 x100 x101 : Value) (h102 : Hs) =>
 kI64 .lss x98 x79 (fun x103 =>
 jn (fun (h105 : Hs) =>
 jn (fun (x107 x108 : Value) (h109 : Hs) =>
 kI64 .add x98 (Value.int .i64 (.ofNat 1)) (fun x110 =>
 k96 x110 x103 x107 x108 h109)) fun k106 =>
 kI64 .lss x98 x68 (fun x111 =>
 gdF x111 h105 (fun k112 => k112 x98 h105) (fun x113 h114 =>
 gdF x111 h114 (fun k115 => k115 x68 h114) (fun x116 h117 =>
 gdF x111 h117 (fun k118 => k118 x69 h117) (fun x119 h120 =>
 gdF x111 h120 (fun k121 => kI64 .add x116 x119 (fun x122 => k121 x122 h120)) (fun x123 h124 =>
 gdF x111 h124 (fun k125 => kI64 .geq x113 x123 (fun x126 => k125 x126 h124)) (fun x127 h128 =>
 after (fun x129 h130 =>
 jn (fun (h132 : Hs) =>
 k106 x98 x129 h132) fun k131 =>
 cnd x129
 (kLoads 1 x74 h130 (fun x133 =>
 after (fun x134 h135 =>
 kCall R 26 [x133, (Value.bool true), x134] h135 (fun x136 h137 =>
 kStore1 x74 x136 h137 (fun x138 h139 =>
 k131 h139))) (oMkrow 3 1 1 [(Value.int .i64 (.ofNat 0))] [(0, 1, .c x98)] enE h130)))
 (k131 h130)) (pickB (.c (Value.bool true)) (.c x127) enE h128 x111)))))))) fun k104 =>
 cnd x103
 (k104 h102)
 (k80 x98 x103 x100 x101 h102))) (Value.int .i64 (.ofNat 0)) dunno dunno dunno h77)))) (oAlloc 71 [(Value.slice none 0 0)] enE h73))))))))))) (oBuild [(Value.int .i64 (.ofNat 0)), (Value.int .i64 (.ofNat 0)), (Value.int .i64 (.ofNat 0)), (Value.slice none 0 0)] [(0, 1, .c (Value.int .i64 (.ofNat 2))), (1, 1, .c (Value.int .i64 (.ofNat 1))), (2, 1, .c x25), (3, 1, .c x57)] enE h58)) (oMkrow 38 2 1 [(Value.int .i64 (.ofNat 0)), (Value.int .i64 (.ofNat 0))] [(0, 2, .c x55)] enE h56)) (oBuild [(Value.int .i64 (.ofNat 0)), (Value.int .i64 (.ofNat 0))] [(0, 1, .c x24), (1, 1, .c x25)] enE h54)))))) (oBuild [(Value.int .i64 (.ofNat 0)), (Value.int .i64 (.ofNat 0)), (Value.int .i64 (.ofNat 0)), (Value.slice none 0 0)] [(0, 1, .c (Value.int .i64 (.ofNat 2))), (1, 1, .c (Value.int .i64 (.ofNat 1)))] enE h45)))) v140 (dNext h40 u141 .bar) (andB (dFit h40 u141 .bar) (Nat.ble 0 u141.lo))) (callV (toRn R) [x34, x39] h40 x19)) v142 (dNext h38 u143 .bar) (andB (dFit h38 u143 .bar) (Nat.ble 0 u143.lo)))) v144 (dNext h35 u145 .blind) (andB (dFit h35 u145 .blind) (Nat.ble 0 u145.lo))) (oBuild [(Value.int .i64 (.ofNat 0)), (Value.int .i64 (.ofNat 0)), (Value.int .i64 (.ofNat 0)), (Value.int .i64 (.ofNat 0)), (Value.int .u64 (.ofNat 0))] [(0, 4, .c x36)] enE (Hs.mk .e h35.nx h35.nx)))) v146 (dNext h32 u147 .light) (andB (dFit h32 u147 .light) (Nat.ble 0 u147.lo))))))) (oBuild [(Value.int .i64 (.ofNat 0)), (Value.int .i64 (.ofNat 0)), (Value.int .i64 (.ofNat 0)), (Value.int .i64 (.ofNat 0)), (Value.int .u64 (.ofNat 0))] [(0, 4, .c x26)] enE h23))))))) (oMkfunc (.func 19) [] [.c x15] enE h18))) (oAlloc 23 [(Value.slice none 0 0)] enE h14)) (mkslice1 32 1 8 [(Value.int .u64 (.ofNat 0))] h9 (natOf x12) (natOf x12)))))) fun k6 =>
 cnd x5
 (clrK h (Value.tuple #[(Value.slice none 0 0), (Value.int .i64 (.ofNat 1))]) h4)
 (k6 (Value.slice none 0 0) (Value.int .i64 (.ofNat 0)) h4))))) (oBox 28 (.c a0) enE h0)

theorem q5 (R : RnK) (N : Nat) (args : List Value) (h : Hs) : r5 R N args h = callT Tryz.prog N R 5 args h := by kernel_rfl

/-- (lintel/image.Image).Node -/
noncomputable def r11 (R : RnK) (N : Nat) (args : List Value) (h : Hs) : An := unC args fun a0 sq0 => unC sq0 fun a1 sq1 => enK h fun h0 =>
 after (fun x0 h1 =>
 after (fun x2 h3 =>
 kFieldA 0 x0 (fun x4 =>
 kLoads 4 x4 h3 (fun x5 =>
 kCall R 23 [x5, a1] h3 (fun x6 h7 =>
 kI64 .eql x6 (Value.int .i64 (.ofNat 0)) (fun x8 =>
 jn (fun (x10 : Value) (h11 : Hs) =>
 kLoads 5 x0 h11 (fun x12 =>
 kCall R 34 [x12, x6] h11 (fun x13 h14 =>
 kCall R 33 [x13] h14 (fun x15 h16 =>
 kExtr x15 0 (fun x17 =>
 kExtr x15 1 (fun x18 =>
 after (fun x19 h20 =>
 after (fun x21 h22 =>
 kNot x18 (fun x23 =>
 gdF x23 h22 (fun k24 => kFieldA 0 x0 (fun x25 => k24 x25 h22)) (fun x26 h27 =>
 gdF x23 h27 (fun k28 => kLoads 4 x26 h27 (fun x29 => k28 x29 h27)) (fun x30 h31 =>
 gdF x23 h31 (fun k32 => kLoads 4 x19 h31 (fun x33 => k32 x33 h31)) (fun x34 h35 =>
 gdF x23 h35 (fun k36 => kCall R 35 [x30, x34] h35 (k36)) (fun x37 h38 =>
 gdF x23 h38 (fun k39 => kNot x37 (fun x40 => k39 x40 h38)) (fun x41 h42 =>
 after (fun x43 h44 =>
 jn (fun (x46 : Value) (h47 : Hs) =>
 kLoads 4 x19 h47 (fun x48 =>
 after (fun x49 h50 =>
 clearUp h (packR h50 (resV enE h50 [.cell (.c x2) 4 true, .t (.c (Value.bool true))]))) (store1 4 h47 (cellsL x48) (addrOf x2)))) fun k45 =>
 cnd x43
 (after (fun x51 h52 =>
 after (fun x53 h54 =>
 clearUp h (packR h54 (resV enE h54 [.cell (.c x2) 4 true, .t (.c (Value.bool false))]))) (store1 4 h52 (cellsL x51) (addrOf x2))) (oBuild [(Value.int .i64 (.ofNat 0)), (Value.int .i64 (.ofNat 0)), (Value.int .i64 (.ofNat 0)), (Value.slice none 0 0)] [] enE h44))
 (k45 x10 h44)) (pickB (.c (Value.bool true)) (.c x41) enE h42 x23)))))))) (store1 4 h20 (cellsL x17) (addrOf x19))) (oAlloc 41 [(Value.int .i64 (.ofNat 0)), (Value.int .i64 (.ofNat 0)), (Value.int .i64 (.ofNat 0)), (Value.slice none 0 0)] enE h16))))))) fun k9 =>
 cnd x8
 (after (fun x55 h56 =>
 after (fun x57 h58 =>
 clearUp h (packR h58 (resV enE h58 [.cell (.c x2) 4 true, .t (.c (Value.bool false))]))) (store1 4 h56 (cellsL x55) (addrOf x2))) (oBuild [(Value.int .i64 (.ofNat 0)), (Value.int .i64 (.ofNat 0)), (Value.int .i64 (.ofNat 0)), (Value.slice none 0 0)] [] enE h7))
 (k9 (Value.bool false) h7)))))) (oAlloc 41 [(Value.int .i64 (.ofNat 0)), (Value.int .i64 (.ofNat 0)), (Value.int .i64 (.ofNat 0)), (Value.slice none 0 0)] enE h1)) (oBox 43 (.c a0) enE h0)

theorem q11 (R : RnK) (N : Nat) (args : List Value) (h : Hs) : r11 R N args h = callT Tryz.prog N R 11 args h := by kernel_rfl

/-- (lintel/image.Image).Slots -/
noncomputable def r12 (R : RnK) (N : Nat) (args : List Value) (h : Hs) : An := unC args fun a0 sq0 => unC sq0 fun a1 sq1 => enK h fun h0 =>
 after (fun x0 h1 =>
 kLoads 5 x0 h1 (fun x2 =>
 kCall R 11 [x2, a1] h1 (fun x3 h4 =>
 kExtr x3 0 (fun x5 =>
 kExtr x3 1 (fun x6 =>
 after (fun x7 h8 =>
 after (fun x9 h10 =>
 kNot x6 (fun x11 =>
 gdF x11 h10 (fun k12 => kFieldA 0 x7 (fun x13 => k12 x13 h10)) (fun x14 h15 =>
 gdF x11 h15 (fun k16 => kLoad x14 h15 (fun x17 => k16 x17 h15)) (fun x18 h19 =>
 gdF x11 h19 (fun k20 => kI64 .neq x18 (Value.int .i64 (.ofNat 2)) (fun x21 => k20 x21 h19)) (fun x22 h23 =>
 after (fun x24 h25 =>
 jn (fun (x27 : Value) (h28 : Hs) =>
 kFieldA 2 x7 (fun x29 =>
 kLoad x29 h28 (fun x30 =>
 jn (fun (x32 x33 x34 x35 x36 x37 : Value) (h38 : Hs) =>
 clrK h x36 h38) fun k31 =>
 lpT (T := Value → Value → Value → Value → Value → Value → Hs → An) (fun _ _ _ _ _ _ _ => none) N (fun k39 =>
 fun (x41 x42 x43 x44 x45 x46 : Value) (h47 : Hs) =>
 kI64 .lss x41 x30 (fun x48 =>
 jn (fun (h50 : Hs) =>
 jn (fun (x52 x53 x54 x55 : Value) (h56 : Hs) =>
 kI64 .add x41 (Value.int .i64 (.ofNat 1)) (fun x57 =>
 k39 x57 x48 x52 x53 x54 x55 h56)) fun k51 =>
 kFieldA 3 x7 (fun x58 =>
 kLoad x58 h50 (fun x59 =>
 kCall R 36 [x59, x41] h50 (fun x60 h61 =>
 kExtr x60 0 (fun x62 =>
 kExtr x60 1 (fun x63 =>
 kLoads 5 x0 h61 (fun x64 =>
 kCall R 34 [x64, x62] h61 (fun x65 h66 =>
 kCall R 37 [x65] h66 (fun x67 h68 =>
 kExtr x67 0 (fun x69 =>
 kExtr x67 1 (fun x70 =>
 after (fun x71 h72 =>
 after (fun x73 h74 =>
 kLoads 2 x71 h74 (fun x75 =>
 after (fun x76 h77 =>
 after (fun x78 h79 =>
 k51 x41 x62 x78 x71 h79) (app0 57 2 24 h77 x45 x76)) (oMkrow 57 2 1 [(Value.int .i64 (.ofNat 0)), (Value.string ⟨#[]⟩)] [(0, 2, .c x75)] enE h74))) (store1 2 h72 (cellsL x69) (addrOf x71))) (oAlloc 57 [(Value.int .i64 (.ofNat 0)), (Value.string ⟨#[]⟩)] enE h68)))))))))))) fun k49 =>
 cnd x48
 (k49 h47)
 (k31 x41 x48 x43 x44 x45 x46 h47))) (Value.int .i64 (.ofNat 0)) dunno dunno dunno (Value.slice none 0 0) dunno h28))) fun k26 =>
 cnd x24
 (clrK h (Value.slice none 0 0) h25)
 (k26 (Value.slice none 0 0) h25)) (pickB (.c (Value.bool true)) (.c x22) enE h23 x11)))))) (store1 4 h8 (cellsL x5) (addrOf x7))) (oAlloc 41 [(Value.int .i64 (.ofNat 0)), (Value.int .i64 (.ofNat 0)), (Value.int .i64 (.ofNat 0)), (Value.slice none 0 0)] enE h4)))))) (oBox 43 (.c a0) enE h0)

theorem q12 (R : RnK) (N : Nat) (args : List Value) (h : Hs) : r12 R N args h = callT Tryz.prog N R 12 args h := by kernel_rfl

/-- lintel/lintellaw25.same -/
noncomputable def r14 (R : RnK) (N : Nat) (args : List Value) (h : Hs) : An := unC args fun a0 sq0 => unC sq0 fun a1 sq1 => enK h fun h0 =>
 kLenV a0 (fun x0 =>
 kLenV a1 (fun x1 =>
 kI64 .neq x0 x1 (fun x2 =>
 jn (fun (x4 : Value) (h5 : Hs) =>
 jn (fun (x7 x8 x9 x10 : Value) (h11 : Hs) =>
 clrK h (Value.bool true) h11) fun k6 =>
 lpT (T := Value → Value → Value → Value → Hs → An) (fun _ _ _ _ _ => none) N (fun k12 =>
 fun (x14 x15 x16 x17 : Value) (h18 : Hs) =>
 kLenV a0 (fun x19 =>
 kI64 .lss x14 x19 (fun x20 =>
 jn (fun (h22 : Hs) =>
 jn (fun (x24 x25 : Value) (h26 : Hs) =>
 kI64 .add x14 (Value.int .i64 (.ofNat 1)) (fun x27 =>
 k12 x27 x20 x24 x25 h26)) fun k23 =>
 kIdxA 1 a0 x14 (fun x28 =>
 kLoad x28 (Hs.mk h22.hp h22.nx h22.nx) (fun x29 =>
 kIdxA 1 a1 x14 (fun x30 =>
 kLoad x30 (Hs.mk h22.hp h22.nx h22.nx) (fun x31 =>
 kU64 .neq x29 x31 (fun x32 =>
 jn (fun (x34 : Value) (h35 : Hs) =>
 k23 x32 x34 h35) fun k33 =>
 cnd x32
 (clrK h (Value.bool false) h22)
 (k33 x17 h22))))))) fun k21 =>
 cnd x20
 (k21 h18)
 (k6 x14 x20 x16 x17 h18)))) (Value.int .i64 (.ofNat 0)) dunno dunno x4 h5) fun k3 =>
 cnd x2
 (clrK h (Value.bool false) h0)
 (k3 (Value.bool false) h0))))

theorem q14 (R : RnK) (N : Nat) (args : List Value) (h : Hs) : r14 R N args h = callT Tryz.prog N R 14 args h := by kernel_rfl

/-- lintel/geom.Good -/
noncomputable def r18 (R : RnK) (N : Nat) (args : List Value) (h : Hs) : An := unC args fun a0 sq0 => enK h fun h0 =>
 after (fun x0 h1 =>
 kFieldA 0 x0 (fun x2 =>
 kLoad x2 h1 (fun x3 =>
 kCall R 45 [x3, (Value.int .i64 (.ofNat 64)), (Value.int .i64 (.ofNat 1024))] h1 (fun x4 h5 =>
 kNot x4 (fun x6 =>
 gdF x6 h5 (fun k7 => kFieldA 1 x0 (fun x8 => k7 x8 h5)) (fun x9 h10 =>
 gdF x6 h10 (fun k11 => kLoad x9 h10 (fun x12 => k11 x12 h10)) (fun x13 h14 =>
 gdF x6 h14 (fun k15 => kCall R 45 [x13, (Value.int .i64 (.ofNat 4)), (Value.int .i64 (.ofNat 64))] h14 (k15)) (fun x16 h17 =>
 gdF x6 h17 (fun k18 => kNot x16 (fun x19 => k18 x19 h17)) (fun x20 h21 =>
 after (fun x22 h23 =>
 gdF x22 h23 (fun k24 => kFieldA 2 x0 (fun x25 => k24 x25 h23)) (fun x26 h27 =>
 gdF x22 h27 (fun k28 => kLoad x26 h27 (fun x29 => k28 x29 h27)) (fun x30 h31 =>
 gdF x22 h31 (fun k32 => kCall R 45 [x30, (Value.int .i64 (.ofNat 1)), (Value.int .i64 (.ofNat 8))] h31 (k32)) (fun x33 h34 =>
 gdF x22 h34 (fun k35 => kNot x33 (fun x36 => k35 x36 h34)) (fun x37 h38 =>
 after (fun x39 h40 =>
 gdF x39 h40 (fun k41 => kFieldA 3 x0 (fun x42 => k41 x42 h40)) (fun x43 h44 =>
 gdF x39 h44 (fun k45 => kLoad x43 h44 (fun x46 => k45 x46 h44)) (fun x47 h48 =>
 gdF x39 h48 (fun k49 => kCall R 45 [x47, (Value.int .i64 (.ofNat 16)), (Value.int .i64 (.ofNat 110))] h48 (k49)) (fun x50 h51 =>
 gdF x39 h51 (fun k52 => kNot x50 (fun x53 => k52 x53 h51)) (fun x54 h55 =>
 after (fun x56 h57 =>
 jn (fun (x59 : Value) (h60 : Hs) =>
 kLoads 4 x0 h60 (fun x61 =>
 kCall R 46 [x61] h60 (fun x62 h63 =>
 kExtr x62 0 (fun x64 =>
 kExtr x62 1 (fun x65 =>
 kI64 .geq x65 (Value.int .i64 (.ofNat 1)) (fun x66 =>
 clrK h x66 h63)))))) fun k58 =>
 cnd x56
 (clrK h (Value.bool false) h57)
 (k58 (Value.bool false) h57)) (pickB (.c (Value.bool true)) (.c x54) enE h55 x39)))))) (pickB (.c (Value.bool true)) (.c x37) enE h38 x22)))))) (pickB (.c (Value.bool true)) (.c x20) enE h21 x6)))))))))) (oBox 28 (.c a0) enE h0)

theorem q18 (R : RnK) (N : Nat) (args : List Value) (h : Hs) : r18 R N args h = callT Tryz.prog N R 18 args h := by kernel_rfl

/-- lintel/geom.Lost -/
noncomputable def r20 (R : RnK) (N : Nat) (args : List Value) (h : Hs) : An := unC args fun a0 sq0 => enK h fun h0 =>
 after (fun x0 h1 =>
 kLoads 4 x0 h1 (fun x2 =>
 kCall R 18 [x2] h1 (fun x3 h4 =>
 kNot x3 (fun x5 =>
 jn (fun (x7 x8 : Value) (h9 : Hs) =>
 kLoads 4 x0 (Hs.mk h9.hp h9.nx h9.nx) (fun x10 =>
 kFieldA 1 x0 (fun x11 =>
 kLoad x11 (Hs.mk h9.hp h9.nx h9.nx) (fun x12 =>
 kCall R 23 [x10, x12] (Hs.mk h9.hp h9.nx h9.nx) (fun v18 u19 => dPut (fun x13 h14 =>
 kI64 .add x13 (Value.int .i64 (.ofNat 1)) (fun x15 =>
 kFieldA 1 x0 (fun x16 =>
 kLoad x16 (dHidS .light [true, false, false, false, false, false] [none, none, some (h9.nx, h14.nx), none, none, none] h14) (fun x17 =>
 clrK h (Value.tuple #[x15, x17]) h14)))) v18 (dNext h9 u19 .light) (andB (dFit h9 u19 .light) (Nat.ble 0 u19.lo))))))) fun k6 =>
 cnd x5
 (clrK h (Value.tuple #[(Value.int .i64 (.ofNat 0)), (Value.int .i64 (.ofNat 0))]) h4)
 (k6 (Value.int .i64 (.ofNat 0)) (Value.int .i64 (.ofNat 0)) h4))))) (oBox 28 (.c a0) enE h0)

theorem q20 (R : RnK) (N : Nat) (args : List Value) (h : Hs) : r20 R N args h = callT Tryz.prog N R 20 args h := by kernel_rfl

/-- lintel/head.Put -/
noncomputable def r21 (R : RnK) (N : Nat) (args : List Value) (h : Hs) : An := unC args fun a0 sq0 => enK h fun h0 =>
 after (fun x0 h1 =>
 kFieldA 0 x0 (fun x2 =>
 kLoads 4 x2 h1 (fun x3 =>
 kCall R 18 [x3] h1 (fun x4 h5 =>
 kNot x4 (fun x6 =>
 jn (fun (x8 : Value) (h9 : Hs) =>
 kFieldA 0 x0 (fun x10 =>
 kFieldA 0 x10 (fun x11 =>
 kLoad x11 h9 (fun x12 =>
 kToU x12 (fun x13 =>
 kFieldA 0 x0 (fun x14 =>
 kFieldA 1 x14 (fun x15 =>
 kLoad x15 h9 (fun x16 =>
 kToU x16 (fun x17 =>
 kFieldA 0 x0 (fun x18 =>
 kFieldA 2 x18 (fun x19 =>
 kLoad x19 h9 (fun x20 =>
 kToU x20 (fun x21 =>
 kFieldA 0 x0 (fun x22 =>
 kFieldA 3 x22 (fun x23 =>
 kLoad x23 h9 (fun x24 =>
 kToU x24 (fun x25 =>
 after (fun x26 h27 =>
 kFieldA 4 x0 (fun x28 =>
 kLoad x28 (Hs.mk h27.hp h27.nx h27.nx) (fun x29 =>
 kCall R 30 [x26] (Hs.mk h27.hp h27.nx h27.nx) (fun v40 u41 => dPut (fun x30 h31 =>
 after (fun v38 u39 => dPut (fun x32 h33 =>
 after (fun v36 u37 => dPut (fun x34 h35 =>
 clrK h x34 h35) v36 (dNext h33 u37 .bar) (andB (dFit h33 u37 .bar) (Nat.ble 0 u37.lo))) (app0 32 1 8 h33 x26 x32)) v38 (dNext h31 u39 .bar) (andB (dFit h31 u39 .bar) (Nat.ble 0 u39.lo))) (oMkrow 32 1 2 [(Value.int .u64 (.ofNat 0))] [(0, 1, .c x29), (1, 1, .c x30)] enE h31)) v40 (dNext h27 u41 .light) (andB (dFit h27 u41 .light) (Nat.ble 0 u41.lo)))))) (oMkrow 32 1 6 [(Value.int .u64 (.ofNat 0))] [(0, 1, .c (Value.int .u64 (.ofNat 5497010944029229057))), (1, 1, .c x13), (2, 1, .c x17), (3, 1, .c x21), (4, 1, .c x25), (5, 1, .c (Value.int .u64 (.ofNat 0)))] enE h9)))))))))))))))))) fun k7 =>
 cnd x6
 (clrK h (Value.slice none 0 0) h5)
 (k7 (Value.slice none 0 0) h5)))))) (oBox 67 (.c a0) enE h0)

theorem q21 (R : RnK) (N : Nat) (args : List Value) (h : Hs) : r21 R N args h = callT Tryz.prog N R 21 args h := by kernel_rfl

/-- lintel/geom.Node -/
noncomputable def r23 (R : RnK) (N : Nat) (args : List Value) (h : Hs) : An := unC args fun a0 sq0 => unC sq0 fun a1 sq1 => enK h fun h0 =>
 after (fun x0 h1 =>
 kLoads 4 x0 h1 (fun x2 =>
 kCall R 18 [x2] h1 (fun x3 h4 =>
 kNot x3 (fun x5 =>
 gdF x5 h4 (fun k6 => k6 a1 h4) (fun x7 h8 =>
 gdF x5 h8 (fun k9 => kFieldA 1 x0 (fun x10 => k9 x10 h8)) (fun x11 h12 =>
 gdF x5 h12 (fun k13 => kLoad x11 h12 (fun x14 => k13 x14 h12)) (fun x15 h16 =>
 gdF x5 h16 (fun k17 => kCall R 45 [x7, (Value.int .i64 (.ofNat 1)), x15] h16 (k17)) (fun x18 h19 =>
 gdF x5 h19 (fun k20 => kNot x18 (fun x21 => k20 x21 h19)) (fun x22 h23 =>
 after (fun x24 h25 =>
 jn (fun (x27 : Value) (h28 : Hs) =>
 kLoads 4 x0 h28 (fun x29 =>
 kCall R 47 [x29] h28 (fun x30 h31 =>
 kExtr x30 0 (fun x32 =>
 kExtr x30 1 (fun x33 =>
 kI64 .add x32 x33 (fun x34 =>
 kI64 .add x34 a1 (fun x35 =>
 kI64 .sub x35 (Value.int .i64 (.ofNat 1)) (fun x36 =>
 clrK h x36 h31)))))))) fun k26 =>
 cnd x24
 (clrK h (Value.int .i64 (.ofNat 0)) h25)
 (k26 (Value.int .i64 (.ofNat 0)) h25)) (pickB (.c (Value.bool true)) (.c x22) enE h23 x5)))))))))) (oBox 28 (.c a0) enE h0)

theorem q23 (R : RnK) (N : Nat) (args : List Value) (h : Hs) : r23 R N args h = callT Tryz.prog N R 23 args h := by kernel_rfl

/-- lintel/bits.Set -/
noncomputable def r26 (R : RnK) (N : Nat) (args : List Value) (h : Hs) : An := unC args fun a0 sq0 => unC sq0 fun a1 sq1 => unC sq1 fun a2 sq2 => enK h fun h0 =>
 after (fun x0 h1 =>
 after (fun x2 h3 =>
 kFieldA 0 x0 (fun x4 =>
 kLoad x4 h3 (fun x5 =>
 kCall R 32 [x5] h3 (fun x6 h7 =>
 after (fun x8 h9 =>
 after (fun x10 h11 =>
 kStore1 x10 x8 h11 (fun x12 h13 =>
 kLenV a2 (fun x14 =>
 jn (fun (x16 x17 x18 x19 x20 : Value) (h21 : Hs) =>
 kLoads 1 x10 h21 (fun x22 =>
 kStore1 x2 x22 h21 (fun x23 h24 =>
 clearUp h (packR h24 (resV enE h24 [.cell (.c x2) 1 true]))))) fun k15 =>
 lpT (T := Value → Value → Value → Value → Value → Hs → An) (fun _ _ _ _ _ _ => none) N (fun k25 =>
 fun (x27 x28 x29 x30 x31 : Value) (h32 : Hs) =>
 kI64 .lss x27 x14 (fun x33 =>
 jn (fun (h35 : Hs) =>
 jn (fun (x37 x38 x39 : Value) (h40 : Hs) =>
 kI64 .add x27 (Value.int .i64 (.ofNat 1)) (fun x41 =>
 k25 x41 x33 x37 x38 x39 h40)) fun k36 =>
 kIdxA 1 a2 x27 (fun x42 =>
 kLoad x42 h35 (fun x43 =>
 kLoads 1 x0 h35 (fun x44 =>
 kCall R 48 [x44, x43] h35 (fun x45 h46 =>
 kNot x45 (fun x47 =>
 jn (fun (h49 : Hs) =>
 kFieldA 0 x10 (fun x50 =>
 kLoad x50 h49 (fun x51 =>
 kI64 .quo x43 (Value.int .i64 (.ofNat 64)) (fun x52 =>
 kIdxA 1 x51 x52 (fun x53 =>
 kLoad x53 h49 (fun x54 =>
 kI64 .rem x43 (Value.int .i64 (.ofNat 64)) (fun x55 =>
 kShl (Value.int .u64 (.ofNat 1)) x55 (fun x56 =>
 kU64 .andNot x54 x56 (fun x57 =>
 kIdxA 1 x51 x52 (fun x58 =>
 kStore1 x58 x57 h49 (fun v76 u77 => dPut (fun x59 h60 =>
 jn (fun (h62 : Hs) =>
 k36 x43 x47 a1 h62) fun k61 =>
 cnd a1
 (kFieldA 0 x10 (fun x63 =>
 kLoad x63 h60 (fun x64 =>
 kI64 .quo x43 (Value.int .i64 (.ofNat 64)) (fun x65 =>
 kIdxA 1 x64 x65 (fun x66 =>
 kLoad x66 h60 (fun x67 =>
 kI64 .rem x43 (Value.int .i64 (.ofNat 64)) (fun x68 =>
 kShl (Value.int .u64 (.ofNat 1)) x68 (fun x69 =>
 kU64 .or x67 x69 (fun x70 =>
 kIdxA 1 x64 x65 (fun x71 =>
 kStore1 x71 x70 h60 (fun v74 u75 => dPut (fun x72 h73 =>
 k61 h73) v74 (dNext h60 u75 .bar) (andB (dFit h60 u75 .bar) (Nat.ble 0 u75.lo)))))))))))))
 (k61 h60)) v76 (dNext h49 u77 .bar) (andB (dFit h49 u77 .bar) (Nat.ble 0 u77.lo))))))))))))) fun k48 =>
 cnd x47
 (k36 x43 x47 x31 h46)
 (k48 h46))))))) fun k34 =>
 cnd x33
 (k34 h32)
 (k15 x27 x33 x29 x30 x31 h32))) (Value.int .i64 (.ofNat 0)) dunno dunno dunno dunno h13))) (oAlloc 71 [(Value.slice none 0 0)] enE h9)) (oBuild [(Value.slice none 0 0)] [(0, 1, .c x6)] enE h7))))) (oAlloc 71 [(Value.slice none 0 0)] enE h1)) (oBox 71 (.c a0) enE h0)

theorem q26 (R : RnK) (N : Nat) (args : List Value) (h : Hs) : r26 R N args h = callT Tryz.prog N R 26 args h := by kernel_rfl

/-- lintel/node.fits -/
noncomputable def r29 (R : RnK) (N : Nat) (args : List Value) (h : Hs) : An := unC args fun a0 sq0 => enK h fun h0 =>
 after (fun x0 h1 =>
 kFieldA 0 x0 (fun x2 =>
 kLoad x2 h1 (fun x3 =>
 kI64 .eql x3 (Value.int .i64 (.ofNat 0)) (fun x4 =>
 jn (fun (x6 : Value) (h7 : Hs) =>
 kFieldA 0 x0 (fun x8 =>
 kLoad x8 h7 (fun x9 =>
 kCall R 57 [x9, (Value.int .i64 (.ofNat 1)), (Value.int .i64 (.ofNat 3))] h7 (fun x10 h11 =>
 kNot x10 (fun x12 =>
 gdF x12 h11 (fun k13 => kFieldA 1 x0 (fun x14 => k13 x14 h11)) (fun x15 h16 =>
 gdF x12 h16 (fun k17 => kLoad x15 h16 (fun x18 => k17 x18 h16)) (fun x19 h20 =>
 gdF x12 h20 (fun k21 => kCall R 57 [x19, (Value.int .i64 (.ofNat 0)), (Value.int .i64 (.ofNat 16777215))] h20 (k21)) (fun x22 h23 =>
 gdF x12 h23 (fun k24 => kNot x22 (fun x25 => k24 x25 h23)) (fun x26 h27 =>
 after (fun x28 h29 =>
 gdF x28 h29 (fun k30 => kFieldA 2 x0 (fun x31 => k30 x31 h29)) (fun x32 h33 =>
 gdF x28 h33 (fun k34 => kLoad x32 h33 (fun x35 => k34 x35 h33)) (fun x36 h37 =>
 gdF x28 h37 (fun k38 => kCall R 57 [x36, (Value.int .i64 (.ofNat 0)), (Value.int .i64 (.ofNat 1099511627776))] h37 (k38)) (fun x39 h40 =>
 gdF x28 h40 (fun k41 => kNot x39 (fun x42 => k41 x42 h40)) (fun x43 h44 =>
 after (fun x45 h46 =>
 gdF x45 h46 (fun k47 => kFieldA 3 x0 (fun x48 => k47 x48 h46)) (fun x49 h50 =>
 gdF x45 h50 (fun k51 => kLoad x49 h50 (fun x52 => k51 x52 h50)) (fun x53 h54 =>
 gdF x45 h54 (fun k55 => kLenV x53 (fun x56 => k55 x56 h54)) (fun x57 h58 =>
 gdF x45 h58 (fun k59 => kI64 .gtr x57 (Value.int .i64 (.ofNat 4)) (fun x60 => k59 x60 h58)) (fun x61 h62 =>
 after (fun x63 h64 =>
 jn (fun (x66 : Value) (h67 : Hs) =>
 kFieldA 3 x0 (fun x68 =>
 kLoad x68 h67 (fun x69 =>
 kCall R 58 [x69, (Value.func (.func 59) #[] #[])] h67 (fun x70 h71 =>
 kNot x70 (fun x72 =>
 clrK h x72 h71))))) fun k65 =>
 cnd x63
 (clrK h (Value.bool false) h64)
 (k65 x6 h64)) (pickB (.c (Value.bool true)) (.c x61) enE h62 x45)))))) (pickB (.c (Value.bool true)) (.c x43) enE h44 x28)))))) (pickB (.c (Value.bool true)) (.c x26) enE h27 x12)))))))))) fun k5 =>
 cnd x4
 (kLoads 4 x0 h1 (fun x73 =>
 kCall R 56 [x73] h1 (fun x74 h75 =>
 clrK h x74 h75)))
 (k5 (Value.bool false) h1))))) (oBox 41 (.c a0) enE h0)

theorem q29 (R : RnK) (N : Nat) (args : List Value) (h : Hs) : r29 R N args h = callT Tryz.prog N R 29 args h := by kernel_rfl

/-- slices.Clone[[]uint64,uint64] -/
noncomputable def r32 (R : RnK) (N : Nat) (args : List Value) (h : Hs) : An := unC args fun a0 sq0 => enK h fun h0 =>
 obK (fun x0 =>
 jn (fun (x2 : Value) (h3 : Hs) =>
 after (fun x4 h5 =>
 after (fun x6 h7 =>
 clrK h x6 h7) (app0 32 1 8 h5 x4 a0)) (oMkrow 32 1 0 [(Value.int .u64 (.ofNat 0))] [] enE h3)) fun k1 =>
 cnd x0
 (clrK h (Value.slice none 0 0) h0)
 (k1 (Value.slice none 0 0) h0)) (e2 false qS a0 (Value.slice none 0 0))

theorem q32 (R : RnK) (N : Nat) (args : List Value) (h : Hs) : r32 R N args h = callT Tryz.prog N R 32 args h := by kernel_rfl

/-- lintel/node.Get -/
noncomputable def r33 (R : RnK) (N : Nat) (args : List Value) (h : Hs) : An := unC args fun a0 sq0 => enK h fun h0 =>
 after (fun x0 h1 =>
 kLenV a0 (fun x2 =>
 kI64 .neq x2 (Value.int .i64 (.ofNat 8)) (fun x3 =>
 gdF x3 h1 (fun k4 => k4 a0 h1) (fun x5 h6 =>
 gdF x3 h6 (fun k7 => kIdxA 1 x5 (Value.int .i64 (.ofNat 0)) (fun x8 => k7 x8 h6)) (fun x9 h10 =>
 gdF x3 h10 (fun k11 => kLoad x9 h10 (fun x12 => k11 x12 h10)) (fun x13 h14 =>
 gdF x3 h14 (fun k15 => kShr x13 (Value.int .u64 (.ofNat 32)) (fun x16 => k15 x16 h14)) (fun x17 h18 =>
 gdF x3 h18 (fun k19 => kU64 .neq x17 (Value.int .u64 (.ofNat 0)) (fun x20 => k19 x20 h18)) (fun x21 h22 =>
 after (fun x23 h24 =>
 gdF x23 h24 (fun k25 => k25 a0 h24) (fun x26 h27 =>
 gdF x23 h27 (fun k28 => kIdxA 1 x26 (Value.int .i64 (.ofNat 1)) (fun x29 => k28 x29 h27)) (fun x30 h31 =>
 gdF x23 h31 (fun k32 => kLoad x30 h31 (fun x33 => k32 x33 h31)) (fun x34 h35 =>
 gdF x23 h35 (fun k36 => kU64 .gtr x34 (Value.int .u64 (.ofNat 1099511627776)) (fun x37 => k36 x37 h35)) (fun x38 h39 =>
 after (fun x40 h41 =>
 jn (fun (x43 : Value) (h44 : Hs) =>
 kIdxA 1 a0 (Value.int .i64 (.ofNat 0)) (fun x45 =>
 kLoad x45 (Hs.mk h44.hp h44.nx h44.nx) (fun x46 =>
 kU64 .and x46 (Value.int .u64 (.ofNat 255)) (fun x47 =>
 kTo64 x47 (fun x48 =>
 kIdxA 1 a0 (Value.int .i64 (.ofNat 0)) (fun x49 =>
 kLoad x49 (Hs.mk h44.hp h44.nx h44.nx) (fun x50 =>
 kShr x50 (Value.int .u64 (.ofNat 8)) (fun x51 =>
 kTo64 x51 (fun x52 =>
 kIdxA 1 a0 (Value.int .i64 (.ofNat 1)) (fun x53 =>
 kLoad x53 (Hs.mk h44.hp h44.nx h44.nx) (fun x54 =>
 kTo64 x54 (fun x55 =>
 after (fun v126 u127 => dPut (fun x56 h57 =>
 after (fun v124 u125 => dPut (fun x58 h59 =>
 after (fun v122 u123 => dPut (fun x60 h61 =>
 after (fun x62 h63 =>
 kLenV x62 (fun x64 =>
 jn (fun (x66 x67 x68 x69 : Value) (h70 : Hs) =>
 kLoads 4 x58 h70 (fun x71 =>
 kCall R 9 [x71] h70 (fun x72 h73 =>
 kCall R 62 [x72, a0] h73 (fun x74 h75 =>
 kNot x74 (fun x76 =>
 jn (fun (x78 : Value) (h79 : Hs) =>
 kLoads 4 x58 h79 (fun x80 =>
 after (fun x81 h82 =>
 clearUp h (packR h82 (resV enE h82 [.cell (.c x0) 4 true, .t (.c (Value.bool true))]))) (store1 4 h79 (cellsL x80) (addrOf x0)))) fun k77 =>
 cnd x76
 (after (fun x83 h84 =>
 after (fun x85 h86 =>
 clearUp h (packR h86 (resV enE h86 [.cell (.c x0) 4 true, .t (.c (Value.bool false))]))) (store1 4 h84 (cellsL x83) (addrOf x0))) (oBuild [(Value.int .i64 (.ofNat 0)), (Value.int .i64 (.ofNat 0)), (Value.int .i64 (.ofNat 0)), (Value.slice none 0 0)] [] enE h75))
 (k77 x43 h75)))))) fun k65 =>
 lpT (T := Value → Value → Value → Value → Hs → An) (fun _ _ _ _ _ => none) N (fun k87 =>
 fun (x89 x90 x91 x92 : Value) (h93 : Hs) =>
 kI64 .lss x89 x64 (fun x94 =>
 jn (fun (h96 : Hs) =>
 jn (fun (x98 x99 : Value) (h100 : Hs) =>
 kI64 .add x89 (Value.int .i64 (.ofNat 1)) (fun x101 =>
 k87 x101 x94 x98 x99 h100)) fun k97 =>
 kIdxA 1 x62 x89 (fun x102 =>
 kLoad x102 h96 (fun x103 =>
 kU64 .eql x103 (Value.int .u64 (.ofNat 0)) (fun x104 =>
 jn (fun (h106 : Hs) =>
 kFieldA 3 x58 (fun x107 =>
 kLoad x107 h106 (fun x108 =>
 kU64 .and x103 (Value.int .u64 (.ofNat 4294967295)) (fun x109 =>
 kTo64 x109 (fun x110 =>
 kShr x103 (Value.int .u64 (.ofNat 32)) (fun x111 =>
 kTo64 x111 (fun x112 =>
 after (fun x113 h114 =>
 after (fun x115 h116 =>
 after (fun x117 h118 =>
 kFieldA 3 x58 (fun x119 =>
 kStore1 x119 x117 h118 (fun x120 h121 =>
 k97 x103 x104 h121))) (app0 38 2 16 h116 x108 x115)) (oMkrow 38 2 1 [(Value.int .i64 (.ofNat 0)), (Value.int .i64 (.ofNat 0))] [(0, 2, .c x113)] enE h114)) (oBuild [(Value.int .i64 (.ofNat 0)), (Value.int .i64 (.ofNat 0))] [(0, 1, .c x110), (1, 1, .c x112)] enE h106)))))))) fun k105 =>
 cnd x104
 (k65 x89 x94 x103 x104 h96)
 (k105 h96))))) fun k95 =>
 cnd x94
 (k95 h93)
 (k65 x89 x94 x91 x92 h93))) (Value.int .i64 (.ofNat 0)) dunno dunno dunno h63)) (oSlice 1 (.c a0) (some (.c (Value.int .i64 (.ofNat 2)))) (some (.c (Value.int .i64 (.ofNat 6)))) none enE h61)) v122 (dNext h59 u123 .bar) (andB (dFit h59 u123 .bar) (Nat.ble 0 u123.lo))) (store1 4 h59 (cellsL x56) (addrOf x58))) v124 (dNext h57 u125 .make) (andB (dFit h57 u125 .make) (Nat.ble 0 u125.lo))) (oAlloc 41 [(Value.int .i64 (.ofNat 0)), (Value.int .i64 (.ofNat 0)), (Value.int .i64 (.ofNat 0)), (Value.slice none 0 0)] enE (Hs.mk .e h57.nx h57.nx))) v126 (dNext h44 u127 .blind) (andB (dFit h44 u127 .blind) (Nat.ble 0 u127.lo))) (oBuild [(Value.int .i64 (.ofNat 0)), (Value.int .i64 (.ofNat 0)), (Value.int .i64 (.ofNat 0)), (Value.slice none 0 0)] [(0, 1, .c x48), (1, 1, .c x52), (2, 1, .c x55)] enE (Hs.mk .e h44.nx h44.nx)))))))))))))) fun k42 =>
 cnd x40
 (after (fun x128 h129 =>
 after (fun x130 h131 =>
 clearUp h (packR h131 (resV enE h131 [.cell (.c x0) 4 true, .t (.c (Value.bool false))]))) (store1 4 h129 (cellsL x128) (addrOf x0))) (oBuild [(Value.int .i64 (.ofNat 0)), (Value.int .i64 (.ofNat 0)), (Value.int .i64 (.ofNat 0)), (Value.slice none 0 0)] [] enE h41))
 (k42 (Value.bool false) h41)) (pickB (.c (Value.bool true)) (.c x38) enE h39 x23)))))) (pickB (.c (Value.bool true)) (.c x21) enE h22 x3))))))))) (oAlloc 41 [(Value.int .i64 (.ofNat 0)), (Value.int .i64 (.ofNat 0)), (Value.int .i64 (.ofNat 0)), (Value.slice none 0 0)] enE h0)

theorem q33 (R : RnK) (N : Nat) (args : List Value) (h : Hs) : r33 R N args h = callT Tryz.prog N R 33 args h := by kernel_rfl

/-- (lintel/image.Image).Block -/
noncomputable def r34 (R : RnK) (N : Nat) (args : List Value) (h : Hs) : An := unC args fun a0 sq0 => unC sq0 fun a1 sq1 => enK h fun h0 =>
 after (fun x0 h1 =>
 kI64 .lss a1 (Value.int .i64 (.ofNat 0)) (fun x2 =>
 gdF x2 h1 (fun k3 => k3 a1 h1) (fun x4 h5 =>
 gdF x2 h5 (fun k6 => kFieldA 4 x0 (fun x7 => k6 x7 h5)) (fun x8 h9 =>
 gdF x2 h9 (fun k10 => kLoad x8 h9 (fun x11 => k10 x11 h9)) (fun x12 h13 =>
 gdF x2 h13 (fun k14 => kLenV x12 (fun x15 => k14 x15 h13)) (fun x16 h17 =>
 gdF x2 h17 (fun k18 => kI64 .quo x16 (Value.int .i64 (.ofNat 8)) (fun x19 => k18 x19 h17)) (fun x20 h21 =>
 gdF x2 h21 (fun k22 => kI64 .geq x4 x20 (fun x23 => k22 x23 h21)) (fun x24 h25 =>
 after (fun x26 h27 =>
 jn (fun (x29 : Value) (h30 : Hs) =>
 kFieldA 4 x0 (fun x31 =>
 kLoad x31 h30 (fun x32 =>
 kI64 .mul (Value.int .i64 (.ofNat 8)) a1 (fun x33 =>
 kI64 .add a1 (Value.int .i64 (.ofNat 1)) (fun x34 =>
 kI64 .mul (Value.int .i64 (.ofNat 8)) x34 (fun x35 =>
 after (fun x36 h37 =>
 kCall R 32 [x36] h37 (fun x38 h39 =>
 clrK h x38 h39)) (oSlice 1 (.c x32) (some (.c x33)) (some (.c x35)) none enE h30))))))) fun k28 =>
 cnd x26
 (clrK h (Value.slice none 0 0) h27)
 (k28 (Value.slice none 0 0) h27)) (pickB (.c (Value.bool true)) (.c x24) enE h25 x2))))))))) (oBox 43 (.c a0) enE h0)

theorem q34 (R : RnK) (N : Nat) (args : List Value) (h : Hs) : r34 R N args h = callT Tryz.prog N R 34 args h := by kernel_rfl

/-- lintel/node.Good -/
noncomputable def r35 (R : RnK) (N : Nat) (args : List Value) (h : Hs) : An := unC args fun a0 sq0 => unC sq0 fun a1 sq1 => enK h fun h0 =>
 after (fun x0 h1 =>
 after (fun x2 h3 =>
 kLoads 4 x0 h3 (fun x4 =>
 kCall R 18 [x4] h3 (fun x5 h6 =>
 kNot x5 (fun x7 =>
 jn (fun (x9 : Value) (h10 : Hs) =>
 kFieldA 0 x2 (fun x11 =>
 kLoad x11 h10 (fun x12 =>
 kI64 .eql x12 (Value.int .i64 (.ofNat 0)) (fun x13 =>
 jn (fun (x15 : Value) (h16 : Hs) =>
 kFieldA 0 x2 (fun x17 =>
 kLoad x17 h16 (fun x18 =>
 kCall R 57 [x18, (Value.int .i64 (.ofNat 1)), (Value.int .i64 (.ofNat 3))] h16 (fun x19 h20 =>
 kNot x19 (fun x21 =>
 gdF x21 h20 (fun k22 => kFieldA 1 x2 (fun x23 => k22 x23 h20)) (fun x24 h25 =>
 gdF x21 h25 (fun k26 => kLoad x24 h25 (fun x27 => k26 x27 h25)) (fun x28 h29 =>
 gdF x21 h29 (fun k30 => kCall R 57 [x28, (Value.int .i64 (.ofNat 1)), (Value.int .i64 (.ofNat 200))] h29 (k30)) (fun x31 h32 =>
 gdF x21 h32 (fun k33 => kNot x31 (fun x34 => k33 x34 h32)) (fun x35 h36 =>
 after (fun x37 h38 =>
 gdF x37 h38 (fun k39 => kLoads 4 x0 h38 (fun x40 => k39 x40 h38)) (fun x41 h42 =>
 gdF x37 h42 (fun k43 => kLoads 4 x2 h42 (fun x44 => k43 x44 h42)) (fun x45 h46 =>
 gdF x37 h46 (fun k47 => kCall R 63 [x41, x45] h46 (k47)) (fun x48 h49 =>
 gdF x37 h49 (fun k50 => kNot x48 (fun x51 => k50 x51 h49)) (fun x52 h53 =>
 after (fun x54 h55 =>
 jn (fun (x57 : Value) (h58 : Hs) =>
 kFieldA 3 x2 (fun x59 =>
 kLoad x59 h58 (fun x60 =>
 kLenV x60 (fun x61 =>
 kI64 .leq x61 (Value.int .i64 (.ofNat 4)) (fun x62 =>
 gdT x62 h58 (fun k63 => kLoads 4 x0 (Hs.mk h58.hp h58.nx h58.nx) (fun x64 => k63 x64 h58)) (fun x65 _ =>
 gdT x62 h58 (fun k67 => kLoads 4 x2 (Hs.mk h58.hp h58.nx h58.nx) (fun x68 => k67 x68 h58)) (fun x69 _ =>
 gdT x62 h58 (fun k71 => kCall R 64 [x65, x69] h58 (fun v72 u73 => dPut k71 v72 (dNext h58 u73 .bar) (andB (dFit h58 u73 .bar) (Nat.ble 0 u73.lo)))) (fun x74 h75 =>
 after (fun v104 u105 => dPut (fun x76 h77 =>
 gdT x76 h77 (fun k78 => kLoads 4 x2 (dHidS .light [true, true, true, true, true, true, true, true, true, true] [none, some (h75.nx, h77.nx), some (h58.nx, h75.nx), none, none, none, none, none, none, none] h77) (fun x79 => k78 x79 h77)) (fun x80 _ =>
 gdT x76 h77 (fun k82 => kCall R 65 [x80] (dHidS .light [true, true, true, true, true, true, true, true, true, true, true] [none, none, some (h75.nx, h77.nx), some (h58.nx, h75.nx), none, none, none, none, none, none, none] h77) (fun v83 u84 => dPut k82 v83 (dNext h77 u84 .light) (andB (dFit h77 u84 .light) (Nat.ble 0 u84.lo)))) (fun x85 h86 =>
 gdT x76 h86 (fun k87 => kLoads 4 x2 (dHidS .light [false, false, true, true, true, true, true, true, true, true, true, true] [some (h77.nx, h86.nx), none, none, some (h75.nx, h77.nx), some (h58.nx, h75.nx), none, none, none, none, none, none, none] h86) (fun x88 => k87 x88 h86)) (fun x89 _ =>
 gdT x76 h86 (fun k91 => kCall R 66 [x89] h86 (fun v92 u93 => dPut k91 v92 (dNext h86 u93 .bar) (andB (dFit h86 u93 .bar) (Nat.ble 0 u93.lo)))) (fun x94 h95 =>
 gdT x76 h95 (fun k96 => kI64 .eql x85 x94 (fun x97 => k96 x97 h95)) (fun x98 _ =>
 after (fun v102 u103 => dPut (fun x100 h101 =>
 clrK h x100 h101) v102 (dNext h95 u103 .blind) (andB (dFit h95 u103 .blind) (Nat.ble 0 u103.lo))) (pickB (.c x98) (.c (Value.bool false)) enE (Hs.mk .e h95.nx h95.nx) x76))))))) v104 (dNext h75 u105 .blind) (andB (dFit h75 u105 .blind) (Nat.ble 0 u105.lo))) (pickB (.c x74) (.c (Value.bool false)) enE (Hs.mk .e h75.nx h75.nx) x62))))))))) fun k56 =>
 cnd x54
 (clrK h (Value.bool false) h55)
 (k56 x15 h55)) (pickB (.c (Value.bool true)) (.c x52) enE h53 x37)))))) (pickB (.c (Value.bool true)) (.c x35) enE h36 x21)))))))))) fun k14 =>
 cnd x13
 (kLoads 4 x2 h10 (fun x106 =>
 kCall R 56 [x106] h10 (fun x107 h108 =>
 clrK h x107 h108)))
 (k14 x9 h10))))) fun k8 =>
 cnd x7
 (clrK h (Value.bool false) h6)
 (k8 (Value.bool false) h6))))) (oBox 41 (.c a1) enE h1)) (oBox 28 (.c a0) enE h0)

theorem q35 (R : RnK) (N : Nat) (args : List Value) (h : Hs) : r35 R N args h = callT Tryz.prog N R 35 args h := by kernel_rfl

/-- lintel/runs.At -/
noncomputable def r36 (R : RnK) (N : Nat) (args : List Value) (h : Hs) : An := unC args fun a0 sq0 => unC sq0 fun a1 sq1 => enK h fun h0 =>
 kI64 .lss a1 (Value.int .i64 (.ofNat 0)) (fun x0 =>
 jn (fun (x2 x3 : Value) (h4 : Hs) =>
 kCall R 67 [a0] h4 (fun x5 h6 =>
 kLenV x5 (fun x7 =>
 jn (fun (x9 x10 x11 x12 x13 x14 x15 : Value) (h16 : Hs) =>
 clrK h (Value.tuple #[(Value.int .i64 (.ofNat 0)), (Value.bool false)]) h16) fun k8 =>
 lpT (T := Value → Value → Value → Value → Value → Value → Value → Hs → An) (fun _ _ _ _ _ _ _ _ => none) N (fun k17 =>
 fun (x19 x20 x21 x22 x23 x24 x25 : Value) (h26 : Hs) =>
 kI64 .lss x20 x7 (fun x27 =>
 jn (fun (h29 : Hs) =>
 jn (fun (x31 x32 x33 x34 x35 : Value) (h36 : Hs) =>
 kI64 .add x20 (Value.int .i64 (.ofNat 1)) (fun x37 =>
 k17 x31 x37 x27 x32 x33 x34 x35 h36)) fun k30 =>
 kIdxA 2 x5 x20 (fun x38 =>
 kLoads 2 x38 h29 (fun x39 =>
 after (fun x40 h41 =>
 after (fun x42 h43 =>
 kFieldA 1 x40 (fun x44 =>
 kLoad x44 h43 (fun x45 =>
 kI64 .lss x19 x45 (fun x46 =>
 jn (fun (x48 x49 : Value) (h50 : Hs) =>
 kFieldA 1 x40 (fun x51 =>
 kLoad x51 h50 (fun x52 =>
 kI64 .sub x19 x52 (fun x53 =>
 k30 x53 x40 x46 x48 x49 h50)))) fun k47 =>
 cnd x46
 (kFieldA 0 x40 (fun x54 =>
 kLoad x54 h43 (fun x55 =>
 kI64 .add x55 x19 (fun x56 =>
 clrK h (Value.tuple #[x56, (Value.bool true)]) h43))))
 (k47 x24 x25 h43))))) (store1 2 h41 (cellsL x39) (addrOf x40))) (oAlloc 38 [(Value.int .i64 (.ofNat 0)), (Value.int .i64 (.ofNat 0))] enE h29)))) fun k28 =>
 cnd x27
 (k28 h26)
 (k8 x19 x20 x27 x22 x23 x24 x25 h26))) a1 (Value.int .i64 (.ofNat 0)) dunno dunno dunno x2 x3 h6))) fun k1 =>
 cnd x0
 (clrK h (Value.tuple #[(Value.int .i64 (.ofNat 0)), (Value.bool false)]) h0)
 (k1 (Value.int .i64 (.ofNat 0)) (Value.bool false) h0))

theorem q36 (R : RnK) (N : Nat) (args : List Value) (h : Hs) : r36 R N args h = callT Tryz.prog N R 36 args h := by kernel_rfl

/-- lintel/cure.blocks -/
noncomputable def r39 (R : RnK) (N : Nat) (args : List Value) (h : Hs) : An := unC args fun a0 sq0 => unC sq0 fun a1 sq1 => enK h fun h0 =>
 after (fun x0 h1 =>
 kLoads 5 x0 h1 (fun x2 =>
 kCall R 11 [x2, a1] h1 (fun x3 h4 =>
 kExtr x3 0 (fun x5 =>
 kExtr x3 1 (fun x6 =>
 after (fun x7 h8 =>
 after (fun x9 h10 =>
 kFieldA 3 x7 (fun x11 =>
 kLoad x11 h10 (fun x12 =>
 kLenV x12 (fun x13 =>
 jn (fun (x15 x16 x17 x18 x19 x20 x21 x22 : Value) (h23 : Hs) =>
 clrK h x21 h23) fun k14 =>
 lpT (T := Value → Value → Value → Value → Value → Value → Value → Value → Hs → An) (fun _ _ _ _ _ _ _ _ _ => none) N (fun k24 =>
 fun (x26 x27 x28 x29 x30 x31 x32 x33 : Value) (h34 : Hs) =>
 kI64 .lss x26 x13 (fun x35 =>
 jn (fun (h37 : Hs) =>
 jn (fun (x39 x40 x41 x42 x43 x44 : Value) (h45 : Hs) =>
 kI64 .add x26 (Value.int .i64 (.ofNat 1)) (fun x46 =>
 k24 x46 x35 x39 x40 x41 x42 x43 x44 h45)) fun k38 =>
 kIdxA 2 x12 x26 (fun x47 =>
 kLoads 2 x47 h37 (fun x48 =>
 after (fun x49 h50 =>
 after (fun x51 h52 =>
 kFieldA 1 x49 (fun x53 =>
 kLoad x53 h52 (fun x54 =>
 jn (fun (x56 x57 x58 x59 : Value) (h60 : Hs) =>
 k38 x49 x56 x54 x57 x58 x59 h60) fun k55 =>
 lpT (T := Value → Value → Value → Value → Hs → An) (fun _ _ _ _ _ => none) N (fun k61 =>
 fun (x63 x64 x65 x66 : Value) (h67 : Hs) =>
 kI64 .lss x63 x54 (fun x68 =>
 jn (fun (h70 : Hs) =>
 jn (fun (x72 x73 : Value) (h74 : Hs) =>
 kI64 .add x63 (Value.int .i64 (.ofNat 1)) (fun x75 =>
 k61 x75 x68 x72 x73 h74)) fun k71 =>
 kFieldA 0 x49 (fun x76 =>
 kLoad x76 h70 (fun x77 =>
 kI64 .add x77 x63 (fun x78 =>
 after (fun x79 h80 =>
 after (fun x81 h82 =>
 k71 x81 x63 h82) (app0 3 1 8 h80 x65 x79)) (oMkrow 3 1 1 [(Value.int .i64 (.ofNat 0))] [(0, 1, .c x78)] enE h70))))) fun k69 =>
 cnd x68
 (k69 h67)
 (k55 x63 x68 x65 x66 h67))) (Value.int .i64 (.ofNat 0)) x31 x32 x33 h52))) (store1 2 h50 (cellsL x48) (addrOf x49))) (oAlloc 38 [(Value.int .i64 (.ofNat 0)), (Value.int .i64 (.ofNat 0))] enE h37)))) fun k36 =>
 cnd x35
 (k36 h34)
 (k14 x26 x35 x28 x29 x30 x31 x32 x33 h34))) (Value.int .i64 (.ofNat 0)) dunno dunno dunno dunno dunno (Value.slice none 0 0) dunno h10)))) (store1 4 h8 (cellsL x5) (addrOf x7))) (oAlloc 41 [(Value.int .i64 (.ofNat 0)), (Value.int .i64 (.ofNat 0)), (Value.int .i64 (.ofNat 0)), (Value.slice none 0 0)] enE h4)))))) (oBox 43 (.c a0) enE h0)

theorem q39 (R : RnK) (N : Nat) (args : List Value) (h : Hs) : r39 R N args h = callT Tryz.prog N R 39 args h := by kernel_rfl

/-- lintel/check.Run -/
noncomputable def r42 (R : RnK) (N : Nat) (args : List Value) (h : Hs) : An := unC args fun a0 sq0 => enK h fun h0 =>
 kLenV a0 (fun x0 =>
 kI64 .quo x0 (Value.int .i64 (.ofNat 8)) (fun x1 =>
 kLenV a0 (fun x2 =>
 kI64 .rem x2 (Value.int .i64 (.ofNat 8)) (fun x3 =>
 kI64 .neq x3 (Value.int .i64 (.ofNat 0)) (fun x4 =>
 gdF x4 h0 (fun k5 => k5 x1 h0) (fun x6 h7 =>
 gdF x4 h7 (fun k8 => kI64 .lss x6 (Value.int .i64 (.ofNat 64)) (fun x9 => k8 x9 h7)) (fun x10 h11 =>
 after (fun x12 h13 =>
 gdF x12 h13 (fun k14 => k14 x1 h13) (fun x15 h16 =>
 gdF x12 h16 (fun k17 => kI64 .gtr x15 (Value.int .i64 (.ofNat 1024)) (fun x18 => k17 x18 h16)) (fun x19 h20 =>
 after (fun x21 h22 =>
 jn (fun (x24 : Value) (h25 : Hs) =>
 kCall R 10 [a0] h25 (fun x26 h27 =>
 kExtr x26 0 (fun x28 =>
 kExtr x26 1 (fun x29 =>
 after (fun x30 h31 =>
 after (fun x32 h33 =>
 kI64 .neq x29 (Value.int .i64 (.ofNat 0)) (fun x34 =>
 jn (fun (x36 : Value) (h37 : Hs) =>
 kLoads 5 x30 (Hs.mk h37.hp h37.nx h37.nx) (fun x38 =>
 kFieldA 0 x30 (fun x39 =>
 kFieldA 1 x39 (fun x40 =>
 kLoad x40 (Hs.mk h37.hp h37.nx h37.nx) (fun x41 =>
 kI64 .add x41 (Value.int .i64 (.ofNat 1)) (fun x42 =>
 after (fun v103 u104 => dPut (fun x43 h44 =>
 kFieldA 0 x30 (fun x45 =>
 kFieldA 1 x45 (fun x46 =>
 kLoad x46 (dHidS .light [true, true, false, false, false, false, false, false] [none, none, some (h37.nx, h44.nx), none, none, none, none, none] h44) (fun x47 =>
 kI64 .add x47 (Value.int .i64 (.ofNat 1)) (fun x48 =>
 after (fun v101 u102 => dPut (fun x49 h50 =>
 after (fun v99 u100 => dPut (fun x51 h52 =>
 after (fun v97 u98 => dPut (fun x53 h54 =>
 kCall R 72 [x53] h54 (fun x55 h56 =>
 kCall R 73 [x53] h56 (fun x57 h58 =>
 jn (fun (x60 x61 : Value) (h62 : Hs) =>
 kCall R 75 [x53] h62 (fun x63 h64 =>
 kCall R 76 [x53] h64 (fun x65 h66 =>
 kCall R 77 [x53] h66 (fun x67 h68 =>
 kCall R 78 [x53] h68 (fun x69 h70 =>
 kCall R 79 [x53] h70 (fun x71 h72 =>
 kNil x53 (fun x73 =>
 kFieldA 8 x73 (fun x74 =>
 kLoad x74 h72 (fun x75 =>
 kCall R 80 [x75, (Value.func (.func 81) #[] #[])] h72 (fun x76 h77 =>
 kNil x53 (fun x78 =>
 kFieldA 8 x78 (fun x79 =>
 kLoad x79 h77 (fun x80 =>
 clrK h x80 h77))))))))))))) fun k59 =>
 lpT (T := Value → Value → Hs → An) (fun _ _ _ => none) N (fun k81 =>
 fun (x83 x84 : Value) (h85 : Hs) =>
 kFieldA 0 x30 (fun x86 =>
 kFieldA 1 x86 (fun x87 =>
 kLoad x87 h85 (fun x88 =>
 kI64 .leq x83 x88 (fun x89 =>
 jn (fun (h91 : Hs) =>
 jn (fun (h93 : Hs) =>
 kI64 .add x83 (Value.int .i64 (.ofNat 1)) (fun x94 =>
 k81 x94 x89 h93)) fun k92 =>
 kCall R 74 [x53, x83] h91 (fun x95 h96 =>
 k92 h96)) fun k90 =>
 cnd x89
 (k90 h85)
 (k59 x83 x89 h85)))))) (Value.int .i64 (.ofNat 1)) dunno h58))) v97 (dNext h52 u98 .make) (andB (dFit h52 u98 .make) (Nat.ble 0 u98.lo))) (oBox 130 (.c x51) enE (Hs.mk .e h52.nx h52.nx))) v99 (dNext h50 u100 .blind) (andB (dFit h50 u100 .blind) (Nat.ble 0 u100.lo))) (oBuild [(Value.int .i64 (.ofNat 0)), (Value.int .i64 (.ofNat 0)), (Value.int .i64 (.ofNat 0)), (Value.int .i64 (.ofNat 0)), (Value.slice none 0 0), (Value.slice none 0 0), (Value.slice none 0 0), (Value.slice none 0 0), (Value.slice none 0 0)] [(0, 5, .c x38), (5, 1, .c x43), (6, 1, .c x49)] enE (Hs.mk .e h50.nx h50.nx))) v101 (dNext h44 u102 .make) (andB (dFit h44 u102 .make) (Nat.ble 0 u102.lo))) (mkslice1 4 1 1 [(Value.bool false)] (Hs.mk .e h44.nx h44.nx) (natOf x48) (natOf x48))))))) v103 (dNext h37 u104 .make) (andB (dFit h37 u104 .make) (Nat.ble 0 u104.lo))) (mkslice1 41 4 48 [(Value.int .i64 (.ofNat 0)), (Value.int .i64 (.ofNat 0)), (Value.int .i64 (.ofNat 0)), (Value.slice none 0 0)] (Hs.mk .e h37.nx h37.nx) (natOf x42) (natOf x42)))))))) fun k35 =>
 cnd x34
 (after (fun x105 h106 =>
 after (fun x107 h108 =>
 clrK h x107 h108) (oMkrow 123 4 1 [(Value.int .i64 (.ofNat 0)), (Value.int .i64 (.ofNat 0)), (Value.int .i64 (.ofNat 0)), (Value.int .i64 (.ofNat 0))] [(0, 4, .c x105)] enE h106)) (oBuild [(Value.int .i64 (.ofNat 0)), (Value.int .i64 (.ofNat 0)), (Value.int .i64 (.ofNat 0)), (Value.int .i64 (.ofNat 0))] [(0, 1, .c (Value.int .i64 (.ofNat 0))), (1, 1, .c (Value.int .i64 (.ofNat 2))), (2, 1, .c (Value.int .i64 (.ofNat 0))), (3, 1, .c (Value.int .i64 (.ofNat 0)))] enE h33))
 (k35 x24 h33))) (store1 5 h31 (cellsL x28) (addrOf x30))) (oAlloc 43 [(Value.int .i64 (.ofNat 0)), (Value.int .i64 (.ofNat 0)), (Value.int .i64 (.ofNat 0)), (Value.int .i64 (.ofNat 0)), (Value.slice none 0 0)] enE h27))))) fun k23 =>
 cnd x21
 (after (fun x109 h110 =>
 after (fun x111 h112 =>
 clrK h x111 h112) (oMkrow 123 4 1 [(Value.int .i64 (.ofNat 0)), (Value.int .i64 (.ofNat 0)), (Value.int .i64 (.ofNat 0)), (Value.int .i64 (.ofNat 0))] [(0, 4, .c x109)] enE h110)) (oBuild [(Value.int .i64 (.ofNat 0)), (Value.int .i64 (.ofNat 0)), (Value.int .i64 (.ofNat 0)), (Value.int .i64 (.ofNat 0))] [(0, 1, .c (Value.int .i64 (.ofNat 0))), (1, 1, .c (Value.int .i64 (.ofNat 1))), (2, 1, .c (Value.int .i64 (.ofNat 0))), (3, 1, .c (Value.int .i64 (.ofNat 0)))] enE h22))
 (k23 (Value.slice none 0 0) h22)) (pickB (.c (Value.bool true)) (.c x19) enE h20 x12)))) (pickB (.c (Value.bool true)) (.c x10) enE h11 x4))))))))

theorem q42 (R : RnK) (N : Nat) (args : List Value) (h : Hs) : r42 R N args h = callT Tryz.prog N R 42 args h := by kernel_rfl

/-- lintel/cure.steps -/
noncomputable def r44 (R : RnK) (N : Nat) (args : List Value) (h : Hs) : An := unC args fun a0 sq0 => unC sq0 fun a1 sq1 => unC sq1 fun a2 sq2 => enK h fun h0 =>
 kLenV a2 (fun x0 =>
 jn (fun (x2 x3 x4 x5 x6 x7 x8 x9 : Value) (h10 : Hs) =>
 clrK h x7 h10) fun k1 =>
 lpT (T := Value → Value → Value → Value → Value → Value → Value → Value → Hs → An) (fun _ _ _ _ _ _ _ _ _ => none) N (fun k11 =>
 fun (x13 x14 x15 x16 x17 x18 x19 x20 : Value) (h21 : Hs) =>
 kI64 .lss x13 x0 (fun x22 =>
 jn (fun (h24 : Hs) =>
 jn (fun (x26 x27 x28 x29 x30 x31 : Value) (h32 : Hs) =>
 kI64 .add x13 (Value.int .i64 (.ofNat 1)) (fun x33 =>
 k11 x33 x22 x26 x27 x28 x29 x30 x31 h32)) fun k25 =>
 kIdxA 1 a2 x13 (fun x34 =>
 kLoad x34 h24 (fun x35 =>
 kIdxA 1 a1 x13 (fun x36 =>
 kLoad x36 h24 (fun x37 =>
 kU64 .eql x37 x35 (fun x38 =>
 jn (fun (h40 : Hs) =>
 kLenV x18 (fun x41 =>
 kI64 .sub x41 (Value.int .i64 (.ofNat 1)) (fun x42 =>
 kI64 .lss x42 (Value.int .i64 (.ofNat 0)) (fun x43 =>
 gdF x43 h40 (fun k44 => k44 a0 h40) (fun x45 h46 =>
 gdF x43 h46 (fun k47 => kI64 .eql x45 (Value.int .i64 (.ofNat 1)) (fun x48 => k47 x48 h46)) (fun x49 h50 =>
 after (fun x51 h52 =>
 gdF x51 h52 (fun k53 => k53 x18 h52) (fun x54 h55 =>
 gdF x51 h55 (fun k56 => k56 x42 h55) (fun x57 h58 =>
 gdF x51 h58 (fun k59 => kIdxA 2 x54 x57 (fun x60 => k59 x60 h58)) (fun x61 h62 =>
 gdF x51 h62 (fun k63 => kFieldA 1 x61 (fun x64 => k63 x64 h62)) (fun x65 h66 =>
 gdF x51 h66 (fun k67 => kLoad x65 h66 (fun x68 => k67 x68 h66)) (fun x69 h70 =>
 gdF x51 h70 (fun k71 => kIdxA 2 x69 (Value.int .i64 (.ofNat 0)) (fun x72 => k71 x72 h70)) (fun x73 h74 =>
 gdF x51 h74 (fun k75 => kFieldA 0 x73 (fun x76 => k75 x76 h74)) (fun x77 h78 =>
 gdF x51 h78 (fun k79 => kLoad x77 h78 (fun x80 => k79 x80 h78)) (fun x81 h82 =>
 gdF x51 h82 (fun k83 => kI64 .quo x81 (Value.int .i64 (.ofNat 8)) (fun x84 => k83 x84 h82)) (fun x85 h86 =>
 gdF x51 h86 (fun k87 => k87 x13 h86) (fun x88 h89 =>
 gdF x51 h89 (fun k90 => kI64 .quo x88 (Value.int .i64 (.ofNat 8)) (fun x91 => k90 x91 h89)) (fun x92 h93 =>
 gdF x51 h93 (fun k94 => kI64 .neq x85 x92 (fun x95 => k94 x95 h93)) (fun x96 h97 =>
 after (fun x98 h99 =>
 jn (fun (x101 x102 : Value) (h103 : Hs) =>
 kIdxA 2 x101 x102 (fun x104 =>
 kFieldA 1 x104 (fun x105 =>
 kLoad x105 h103 (fun x106 =>
 after (fun x107 h108 =>
 after (fun x109 h110 =>
 after (fun x111 h112 =>
 kIdxA 2 x101 x102 (fun x113 =>
 kFieldA 1 x113 (fun x114 =>
 kStore1 x114 x111 h112 (fun x115 h116 =>
 k25 x13 x35 x38 x101 x102 x98 h116)))) (app0 135 2 16 h110 x106 x109)) (oMkrow 135 2 1 [(Value.int .i64 (.ofNat 0)), (Value.int .u64 (.ofNat 0))] [(0, 2, .c x107)] enE h108)) (oBuild [(Value.int .i64 (.ofNat 0)), (Value.int .u64 (.ofNat 0))] [(0, 1, .c x13), (1, 1, .c x35)] enE h103))))) fun k100 =>
 cnd x98
 (after (fun x117 h118 =>
 after (fun x119 h120 =>
 after (fun x121 h122 =>
 kI64 .add x42 (Value.int .i64 (.ofNat 1)) (fun x123 =>
 k100 x121 x123 h122)) (app0 138 2 32 h120 x18 x119)) (oMkrow 138 2 1 [(Value.int .i64 (.ofNat 0)), (Value.slice none 0 0)] [(0, 2, .c x117)] enE h118)) (oBuild [(Value.int .i64 (.ofNat 0)), (Value.slice none 0 0)] [(0, 1, .c a0)] enE h99))
 (k100 x18 x42 h99)) (pickB (.c (Value.bool true)) (.c x96) enE h97 x51)))))))))))))) (pickB (.c (Value.bool true)) (.c x49) enE h50 x43))))))) fun k39 =>
 cnd x38
 (k25 x13 x35 x38 x18 x19 x20 h24)
 (k39 h24))))))) fun k23 =>
 cnd x22
 (k23 h21)
 (k1 x13 x22 x15 x16 x17 x18 x19 x20 h21))) (Value.int .i64 (.ofNat 0)) dunno dunno dunno dunno (Value.slice none 0 0) dunno dunno h0)

theorem q44 (R : RnK) (N : Nat) (args : List Value) (h : Hs) : r44 R N args h = callT Tryz.prog N R 44 args h := by kernel_rfl

/-- lintel/geom.in -/
noncomputable def r45 (R : RnK) (N : Nat) (args : List Value) (h : Hs) : An := unC args fun a0 sq0 => unC sq0 fun a1 sq1 => unC sq1 fun a2 sq2 => enK h fun h0 =>
 kI64 .geq a0 a1 (fun x0 =>
 gdT x0 h0 (fun k1 => k1 a0 h0) (fun x2 h3 =>
 gdT x0 h3 (fun k4 => k4 a2 h3) (fun x5 h6 =>
 gdT x0 h6 (fun k7 => kI64 .leq x2 x5 (fun x8 => k7 x8 h6)) (fun x9 h10 =>
 after (fun x11 h12 =>
 clrK h x11 h12) (pickB (.c x9) (.c (Value.bool false)) enE h10 x0)))))

theorem q45 (R : RnK) (N : Nat) (args : List Value) (h : Hs) : r45 R N args h = callT Tryz.prog N R 45 args h := by kernel_rfl

/-- (lintel/geom.Geom).data -/
noncomputable def r46 (R : RnK) (N : Nat) (args : List Value) (h : Hs) : An := unC args fun a0 sq0 => enK h fun h0 =>
 after (fun x0 h1 =>
 kLoads 4 x0 h1 (fun x2 =>
 kCall R 47 [x2] h1 (fun x3 h4 =>
 kExtr x3 0 (fun x5 =>
 kExtr x3 1 (fun x6 =>
 kI64 .add x5 x6 (fun x7 =>
 kFieldA 1 x0 (fun x8 =>
 kLoad x8 h4 (fun x9 =>
 kI64 .mul (Value.int .i64 (.ofNat 2)) x9 (fun x10 =>
 kI64 .add x7 x10 (fun x11 =>
 kFieldA 0 x0 (fun x12 =>
 kLoad x12 h4 (fun x13 =>
 kI64 .sub x13 (Value.int .i64 (.ofNat 1)) (fun x14 =>
 kI64 .sub x14 x11 (fun x15 =>
 clrK h (Value.tuple #[x11, x15]) h4)))))))))))))) (oBox 28 (.c a0) enE h0)

theorem q46 (R : RnK) (N : Nat) (args : List Value) (h : Hs) : r46 R N args h = callT Tryz.prog N R 46 args h := by kernel_rfl

/-- (lintel/geom.Geom).bits -/
noncomputable def r47 (R : RnK) (N : Nat) (args : List Value) (h : Hs) : An := unC args fun a0 sq0 => enK h fun h0 =>
 after (fun x0 h1 =>
 kFieldA 2 x0 (fun x2 =>
 kLoad x2 (Hs.mk h1.hp h1.nx h1.nx) (fun x3 =>
 kFieldA 3 x0 (fun x4 =>
 kLoad x4 (Hs.mk h1.hp h1.nx h1.nx) (fun x5 =>
 kI64 .mul x3 x5 (fun x6 =>
 kI64 .add (Value.int .i64 (.ofNat 1)) x6 (fun x7 =>
 kFieldA 0 x0 (fun x8 =>
 kLoad x8 (Hs.mk h1.hp h1.nx h1.nx) (fun x9 =>
 kI64 .add x9 (Value.int .i64 (.ofNat 512)) (fun x10 =>
 kI64 .sub x10 (Value.int .i64 (.ofNat 1)) (fun x11 =>
 kI64 .quo x11 (Value.int .i64 (.ofNat 512)) (fun x12 =>
 clrK h (Value.tuple #[x7, x12]) h1)))))))))))) (oBox 28 (.c a0) enE h0)

theorem q47 (R : RnK) (N : Nat) (args : List Value) (h : Hs) : r47 R N args h = callT Tryz.prog N R 47 args h := by kernel_rfl

/-- (lintel/bits.Bits).there -/
noncomputable def r48 (R : RnK) (N : Nat) (args : List Value) (h : Hs) : An := unC args fun a0 sq0 => unC sq0 fun a1 sq1 => enK h fun h0 =>
 after (fun x0 h1 =>
 kI64 .geq a1 (Value.int .i64 (.ofNat 0)) (fun x2 =>
 gdT x2 h1 (fun k3 => k3 a1 h1) (fun x4 h5 =>
 gdT x2 h5 (fun k6 => kI64 .quo x4 (Value.int .i64 (.ofNat 64)) (fun x7 => k6 x7 h5)) (fun x8 h9 =>
 gdT x2 h9 (fun k10 => kFieldA 0 x0 (fun x11 => k10 x11 h9)) (fun x12 h13 =>
 gdT x2 h13 (fun k14 => kLoad x12 h13 (fun x15 => k14 x15 h13)) (fun x16 h17 =>
 gdT x2 h17 (fun k18 => kLenV x16 (fun x19 => k18 x19 h17)) (fun x20 h21 =>
 gdT x2 h21 (fun k22 => kI64 .lss x8 x20 (fun x23 => k22 x23 h21)) (fun x24 h25 =>
 after (fun x26 h27 =>
 clrK h x26 h27) (pickB (.c x24) (.c (Value.bool false)) enE h25 x2))))))))) (oBox 71 (.c a0) enE h0)

theorem q48 (R : RnK) (N : Nat) (args : List Value) (h : Hs) : r48 R N args h = callT Tryz.prog N R 48 args h := by kernel_rfl

/-- (*lintel/cure.doctor).bits -/
noncomputable def r55 (R : RnK) (N : Nat) (args : List Value) (h : Hs) : An := unC args fun a0 sq0 => enK h fun h0 =>
 kNil a0 (fun x0 =>
 kFieldA 0 x0 (fun x1 =>
 kFieldA 0 x1 (fun x2 =>
 kLoads 4 x2 h0 (fun x3 =>
 kCall R 24 [x3] h0 (fun x4 h5 =>
 kExtr x4 0 (fun x6 =>
 kExtr x4 1 (fun x7 =>
 kNil a0 (fun x8 =>
 kFieldA 0 x8 (fun x9 =>
 kFieldA 0 x9 (fun x10 =>
 kFieldA 0 x10 (fun x11 =>
 kLoad x11 h5 (fun x12 =>
 kCall R 25 [x12] h5 (fun x13 h14 =>
 after (fun x15 h16 =>
 kStore1 x15 x13 h16 (fun x17 h18 =>
 kNil a0 (fun x19 =>
 kFieldA 0 x19 (fun x20 =>
 kFieldA 0 x20 (fun x21 =>
 kFieldA 0 x21 (fun x22 =>
 kLoad x22 h18 (fun x23 =>
 jn (fun (x25 x26 x27 : Value) (h28 : Hs) =>
 jn (fun (x30 x31 : Value) (h32 : Hs) =>
 kNil a0 (fun x33 =>
 kFieldA 0 x33 (fun x34 =>
 kFieldA 0 x34 (fun x35 =>
 kLoads 4 x35 h32 (fun x36 =>
 kCall R 27 [x36] h32 (fun x37 h38 =>
 kExtr x37 0 (fun x39 =>
 kExtr x37 1 (fun x40 =>
 kI64 .mul (Value.int .i64 (.ofNat 8)) x40 (fun x41 =>
 after (fun x42 h43 =>
 kFieldA 0 x15 (fun x44 =>
 kLoad x44 h43 (fun x45 =>
 after (fun x46 h47 =>
 jn (fun (x49 x50 x51 : Value) (h52 : Hs) =>
 clrK h (Value.tuple #[]) h52) fun k48 =>
 lpT (T := Value → Value → Value → Hs → An) (fun _ _ _ _ => none) N (fun k53 =>
 fun (x55 x56 x57 : Value) (h58 : Hs) =>
 kI64 .lss x55 x40 (fun x59 =>
 jn (fun (h61 : Hs) =>
 jn (fun (x63 : Value) (h64 : Hs) =>
 kI64 .add x55 (Value.int .i64 (.ofNat 1)) (fun x65 =>
 k53 x65 x59 x63 h64)) fun k62 =>
 kI64 .add x39 x55 (fun x66 =>
 kI64 .mul (Value.int .i64 (.ofNat 8)) x55 (fun x67 =>
 kI64 .add x55 (Value.int .i64 (.ofNat 1)) (fun x68 =>
 kI64 .mul (Value.int .i64 (.ofNat 8)) x68 (fun x69 =>
 after (fun x70 h71 =>
 kCall R 83 [a0, (Value.int .i64 (.ofNat 7)), x66, x70] h71 (fun x72 h73 =>
 k62 x55 h73)) (oSlice 1 (.c x42) (some (.c x67)) (some (.c x69)) none enE h61)))))) fun k60 =>
 cnd x59
 (k60 h58)
 (k48 x55 x59 x57 h58))) (Value.int .i64 (.ofNat 0)) dunno dunno h47) (copy0 1 h43 x42 x45)))) (mkslice1 32 1 8 [(Value.int .u64 (.ofNat 0))] h38 (natOf x41) (natOf x41))))))))))) fun k29 =>
 lpT (T := Value → Value → Hs → An) (fun _ _ _ => none) N (fun k74 =>
 fun (x76 x77 : Value) (h78 : Hs) =>
 kNil a0 (fun x79 =>
 kFieldA 0 x79 (fun x80 =>
 kFieldA 0 x80 (fun x81 =>
 kFieldA 1 x81 (fun x82 =>
 kLoad x82 h78 (fun x83 =>
 kI64 .leq x76 x83 (fun x84 =>
 jn (fun (h86 : Hs) =>
 jn (fun (h88 : Hs) =>
 kI64 .add x76 (Value.int .i64 (.ofNat 1)) (fun x89 =>
 k74 x89 x84 h88)) fun k87 =>
 kLoads 1 x15 (Hs.mk h86.hp h86.nx h86.nx) (fun x90 =>
 kNil a0 (fun x91 =>
 kFieldA 0 x91 (fun x92 =>
 kLoads 5 x92 (Hs.mk h86.hp h86.nx h86.nx) (fun x93 =>
 kCall R 39 [x93, x76] (Hs.mk h86.hp h86.nx h86.nx) (fun v104 u105 => dPut (fun x94 h95 =>
 kCall R 26 [x90, (Value.bool true), x94] h95 (fun v102 u103 => dPut (fun x96 h97 =>
 kStore1 x15 x96 h97 (fun v100 u101 => dPut (fun x98 h99 =>
 k87 h99) v100 (dNext h97 u101 .bar) (andB (dFit h97 u101 .bar) (Nat.ble 0 u101.lo)))) v102 (dNext h95 u103 .bar) (andB (dFit h95 u103 .bar) (Nat.ble 0 u103.lo)))) v104 (dNext h86 u105 .light) (andB (dFit h86 u105 .light) (Nat.ble 0 u105.lo)))))))) fun k85 =>
 cnd x84
 (k85 h78)
 (k29 x76 x84 h78)))))))) (Value.int .i64 (.ofNat 1)) dunno h28) fun k24 =>
 lpT (T := Value → Value → Value → Hs → An) (fun _ _ _ _ => none) N (fun k106 =>
 fun (x108 x109 x110 : Value) (h111 : Hs) =>
 kI64 .lss x108 x23 (fun x112 =>
 jn (fun (h114 : Hs) =>
 jn (fun (x116 : Value) (h117 : Hs) =>
 kI64 .add x108 (Value.int .i64 (.ofNat 1)) (fun x118 =>
 k106 x118 x112 x116 h117)) fun k115 =>
 kLoads 1 x15 h114 (fun x119 =>
 kI64 .lss x108 x6 (fun x120 =>
 gdF x120 h114 (fun k121 => k121 x108 h114) (fun x122 h123 =>
 gdF x120 h123 (fun k124 => k124 x6 h123) (fun x125 h126 =>
 gdF x120 h126 (fun k127 => k127 x7 h126) (fun x128 h129 =>
 gdF x120 h129 (fun k130 => kI64 .add x125 x128 (fun x131 => k130 x131 h129)) (fun x132 h133 =>
 gdF x120 h133 (fun k134 => kI64 .geq x122 x132 (fun x135 => k134 x135 h133)) (fun x136 h137 =>
 after (fun x138 h139 =>
 after (fun x140 h141 =>
 kCall R 26 [x119, x138, x140] h141 (fun x142 h143 =>
 kStore1 x15 x142 h143 (fun x144 h145 =>
 k115 x108 h145))) (oMkrow 3 1 1 [(Value.int .i64 (.ofNat 0))] [(0, 1, .c x108)] enE h139)) (pickB (.c (Value.bool true)) (.c x136) enE h137 x120))))))))) fun k113 =>
 cnd x112
 (k113 h111)
 (k24 x108 x112 x110 h111))) (Value.int .i64 (.ofNat 0)) dunno dunno h18))))))) (oAlloc 71 [(Value.slice none 0 0)] enE h14))))))))))))))

theorem q55 (R : RnK) (N : Nat) (args : List Value) (h : Hs) : r55 R N args h = callT Tryz.prog N R 55 args h := by kernel_rfl

/-- lintel/node.free -/
noncomputable def r56 (R : RnK) (N : Nat) (args : List Value) (h : Hs) : An := unC args fun a0 sq0 => enK h fun h0 =>
 after (fun x0 h1 =>
 kFieldA 0 x0 (fun x2 =>
 kLoad x2 h1 (fun x3 =>
 kI64 .eql x3 (Value.int .i64 (.ofNat 0)) (fun x4 =>
 gdT x4 h1 (fun k5 => kFieldA 1 x0 (fun x6 => k5 x6 h1)) (fun x7 h8 =>
 gdT x4 h8 (fun k9 => kLoad x7 h8 (fun x10 => k9 x10 h8)) (fun x11 h12 =>
 gdT x4 h12 (fun k13 => kI64 .eql x11 (Value.int .i64 (.ofNat 0)) (fun x14 => k13 x14 h12)) (fun x15 h16 =>
 after (fun x17 h18 =>
 gdT x17 h18 (fun k19 => kFieldA 2 x0 (fun x20 => k19 x20 h18)) (fun x21 h22 =>
 gdT x17 h22 (fun k23 => kLoad x21 h22 (fun x24 => k23 x24 h22)) (fun x25 h26 =>
 gdT x17 h26 (fun k27 => kI64 .eql x25 (Value.int .i64 (.ofNat 0)) (fun x28 => k27 x28 h26)) (fun x29 h30 =>
 after (fun x31 h32 =>
 gdT x31 h32 (fun k33 => kFieldA 3 x0 (fun x34 => k33 x34 h32)) (fun x35 h36 =>
 gdT x31 h36 (fun k37 => kLoad x35 h36 (fun x38 => k37 x38 h36)) (fun x39 h40 =>
 gdT x31 h40 (fun k41 => kLenV x39 (fun x42 => k41 x42 h40)) (fun x43 h44 =>
 gdT x31 h44 (fun k45 => kI64 .eql x43 (Value.int .i64 (.ofNat 0)) (fun x46 => k45 x46 h44)) (fun x47 h48 =>
 after (fun x49 h50 =>
 clrK h x49 h50) (pickB (.c x47) (.c (Value.bool false)) enE h48 x31)))))) (pickB (.c x29) (.c (Value.bool false)) enE h30 x17))))) (pickB (.c x15) (.c (Value.bool false)) enE h16 x4)))))))) (oBox 41 (.c a0) enE h0)

theorem q56 (R : RnK) (N : Nat) (args : List Value) (h : Hs) : r56 R N args h = callT Tryz.prog N R 56 args h := by kernel_rfl

/-- lintel/node.in -/
noncomputable def r57 (R : RnK) (N : Nat) (args : List Value) (h : Hs) : An := unC args fun a0 sq0 => unC sq0 fun a1 sq1 => unC sq1 fun a2 sq2 => enK h fun h0 =>
 kI64 .geq a0 a1 (fun x0 =>
 gdT x0 h0 (fun k1 => k1 a0 h0) (fun x2 h3 =>
 gdT x0 h3 (fun k4 => k4 a2 h3) (fun x5 h6 =>
 gdT x0 h6 (fun k7 => kI64 .leq x2 x5 (fun x8 => k7 x8 h6)) (fun x9 h10 =>
 after (fun x11 h12 =>
 clrK h x11 h12) (pickB (.c x9) (.c (Value.bool false)) enE h10 x0)))))

theorem q57 (R : RnK) (N : Nat) (args : List Value) (h : Hs) : r57 R N args h = callT Tryz.prog N R 57 args h := by kernel_rfl

/-- lintel/seal.On -/
noncomputable def r60 (R : RnK) (N : Nat) (args : List Value) (h : Hs) : An := unC args fun a0 sq0 => unC sq0 fun a1 sq1 => enK h fun h0 =>
 kLenV a1 (fun x0 =>
 jn (fun (x2 x3 x4 x5 : Value) (h6 : Hs) =>
 clrK h x4 h6) fun k1 =>
 lpT (T := Value → Value → Value → Value → Hs → An) (fun _ _ _ _ _ => none) N (fun k7 =>
 fun (x9 x10 x11 x12 : Value) (h13 : Hs) =>
 kI64 .lss x9 x0 (fun x14 =>
 jn (fun (h16 : Hs) =>
 jn (fun (x18 x19 : Value) (h20 : Hs) =>
 kI64 .add x9 (Value.int .i64 (.ofNat 1)) (fun x21 =>
 k7 x21 x14 x18 x19 h20)) fun k17 =>
 kIdxA 1 a1 x9 (fun x22 =>
 kLoad x22 h16 (fun x23 =>
 kCall R 90 [x11, (Value.int .i64 (.ofNat 9))] h16 (fun x24 h25 =>
 kU64 .xor x24 x23 (fun x26 =>
 k17 x26 x23 h25))))) fun k15 =>
 cnd x14
 (k15 h13)
 (k1 x9 x14 x11 x12 h13))) (Value.int .i64 (.ofNat 0)) dunno a0 dunno h0)

theorem q60 (R : RnK) (N : Nat) (args : List Value) (h : Hs) : r60 R N args h = callT Tryz.prog N R 60 args h := by kernel_rfl

/-- lintel/head.Get -/
noncomputable def r61 (R : RnK) (N : Nat) (args : List Value) (h : Hs) : An := unC args fun a0 sq0 => enK h fun h0 =>
 after (fun x0 h1 =>
 kLenV a0 (fun x2 =>
 kI64 .neq x2 (Value.int .i64 (.ofNat 8)) (fun x3 =>
 jn (fun (x5 : Value) (h6 : Hs) =>
 after (fun x7 h8 =>
 kLenV x7 (fun x9 =>
 jn (fun (x11 x12 x13 x14 x15 : Value) (h16 : Hs) =>
 kIdxA 1 a0 (Value.int .i64 (.ofNat 1)) (fun x17 =>
 kLoad x17 (Hs.mk h16.hp h16.nx h16.nx) (fun x18 =>
 kTo64 x18 (fun x19 =>
 kIdxA 1 a0 (Value.int .i64 (.ofNat 2)) (fun x20 =>
 kLoad x20 (Hs.mk h16.hp h16.nx h16.nx) (fun x21 =>
 kTo64 x21 (fun x22 =>
 kIdxA 1 a0 (Value.int .i64 (.ofNat 3)) (fun x23 =>
 kLoad x23 (Hs.mk h16.hp h16.nx h16.nx) (fun x24 =>
 kTo64 x24 (fun x25 =>
 kIdxA 1 a0 (Value.int .i64 (.ofNat 4)) (fun x26 =>
 kLoad x26 (Hs.mk h16.hp h16.nx h16.nx) (fun x27 =>
 kTo64 x27 (fun x28 =>
 after (fun v70 u71 => dPut (fun x29 h30 =>
 after (fun v68 u69 => dPut (fun x31 h32 =>
 after (fun v66 u67 => dPut (fun x33 h34 =>
 kLoads 4 x31 (Hs.mk h34.hp h34.nx h34.nx) (fun x35 =>
 kIdxA 1 a0 (Value.int .i64 (.ofNat 6)) (fun x36 =>
 kLoad x36 (Hs.mk h34.hp h34.nx h34.nx) (fun x37 =>
 after (fun v64 u65 => dPut (fun x38 h39 =>
 after (fun v62 u63 => dPut (fun x40 h41 =>
 after (fun v60 u61 => dPut (fun x42 h43 =>
 kLoads 5 x40 h43 (fun x44 =>
 kCall R 21 [x44] h43 (fun x45 h46 =>
 kCall R 62 [x45, a0] h46 (fun x47 h48 =>
 kNot x47 (fun x49 =>
 jn (fun (x51 : Value) (h52 : Hs) =>
 kLoads 5 x40 h52 (fun x53 =>
 after (fun x54 h55 =>
 clearUp h (packR h55 (resV enE h55 [.cell (.c x0) 5 true, .t (.c (Value.bool true))]))) (store1 5 h52 (cellsL x53) (addrOf x0)))) fun k50 =>
 cnd x49
 (after (fun x56 h57 =>
 after (fun x58 h59 =>
 clearUp h (packR h59 (resV enE h59 [.cell (.c x0) 5 true, .t (.c (Value.bool false))]))) (store1 5 h57 (cellsL x56) (addrOf x0))) (oBuild [(Value.int .i64 (.ofNat 0)), (Value.int .i64 (.ofNat 0)), (Value.int .i64 (.ofNat 0)), (Value.int .i64 (.ofNat 0)), (Value.int .u64 (.ofNat 0))] [] enE h48))
 (k50 x15 h48)))))) v60 (dNext h41 u61 .bar) (andB (dFit h41 u61 .bar) (Nat.ble 0 u61.lo))) (store1 5 h41 (cellsL x38) (addrOf x40))) v62 (dNext h39 u63 .make) (andB (dFit h39 u63 .make) (Nat.ble 0 u63.lo))) (oAlloc 67 [(Value.int .i64 (.ofNat 0)), (Value.int .i64 (.ofNat 0)), (Value.int .i64 (.ofNat 0)), (Value.int .i64 (.ofNat 0)), (Value.int .u64 (.ofNat 0))] enE (Hs.mk .e h39.nx h39.nx))) v64 (dNext h34 u65 .blind) (andB (dFit h34 u65 .blind) (Nat.ble 0 u65.lo))) (oBuild [(Value.int .i64 (.ofNat 0)), (Value.int .i64 (.ofNat 0)), (Value.int .i64 (.ofNat 0)), (Value.int .i64 (.ofNat 0)), (Value.int .u64 (.ofNat 0))] [(0, 4, .c x35), (4, 1, .c x37)] enE (Hs.mk .e h34.nx h34.nx)))))) v66 (dNext h32 u67 .bar) (andB (dFit h32 u67 .bar) (Nat.ble 0 u67.lo))) (store1 4 h32 (cellsL x29) (addrOf x31))) v68 (dNext h30 u69 .make) (andB (dFit h30 u69 .make) (Nat.ble 0 u69.lo))) (oAlloc 28 [(Value.int .i64 (.ofNat 0)), (Value.int .i64 (.ofNat 0)), (Value.int .i64 (.ofNat 0)), (Value.int .i64 (.ofNat 0))] enE (Hs.mk .e h30.nx h30.nx))) v70 (dNext h16 u71 .blind) (andB (dFit h16 u71 .blind) (Nat.ble 0 u71.lo))) (oBuild [(Value.int .i64 (.ofNat 0)), (Value.int .i64 (.ofNat 0)), (Value.int .i64 (.ofNat 0)), (Value.int .i64 (.ofNat 0))] [(0, 1, .c x19), (1, 1, .c x22), (2, 1, .c x25), (3, 1, .c x28)] enE (Hs.mk .e h16.nx h16.nx))))))))))))))) fun k10 =>
 lpT (T := Value → Value → Value → Value → Value → Hs → An) (fun _ _ _ _ _ _ => none) N (fun k72 =>
 fun (x74 x75 x76 x77 x78 : Value) (h79 : Hs) =>
 kI64 .lss x74 x9 (fun x80 =>
 jn (fun (h82 : Hs) =>
 jn (fun (x84 x85 x86 : Value) (h87 : Hs) =>
 kI64 .add x74 (Value.int .i64 (.ofNat 1)) (fun x88 =>
 k72 x88 x80 x84 x85 x86 h87)) fun k83 =>
 kIdxA 1 x7 x74 (fun x89 =>
 kLoad x89 h82 (fun x90 =>
 kU64 .gtr x90 (Value.int .u64 (.ofNat 1024)) (fun x91 =>
 jn (fun (x93 : Value) (h94 : Hs) =>
 k83 x90 x91 x93 h94) fun k92 =>
 cnd x91
 (after (fun x95 h96 =>
 after (fun x97 h98 =>
 clearUp h (packR h98 (resV enE h98 [.cell (.c x0) 5 true, .t (.c (Value.bool false))]))) (store1 5 h96 (cellsL x95) (addrOf x0))) (oBuild [(Value.int .i64 (.ofNat 0)), (Value.int .i64 (.ofNat 0)), (Value.int .i64 (.ofNat 0)), (Value.int .i64 (.ofNat 0)), (Value.int .u64 (.ofNat 0))] [] enE h82))
 (k92 x78 h82))))) fun k81 =>
 cnd x80
 (k81 h79)
 (k10 x74 x80 x76 x77 x78 h79))) (Value.int .i64 (.ofNat 0)) dunno dunno dunno x5 h8)) (oSlice 1 (.c a0) (some (.c (Value.int .i64 (.ofNat 1)))) (some (.c (Value.int .i64 (.ofNat 6)))) none enE h6)) fun k4 =>
 cnd x3
 (after (fun x99 h100 =>
 after (fun x101 h102 =>
 clearUp h (packR h102 (resV enE h102 [.cell (.c x0) 5 true, .t (.c (Value.bool false))]))) (store1 5 h100 (cellsL x99) (addrOf x0))) (oBuild [(Value.int .i64 (.ofNat 0)), (Value.int .i64 (.ofNat 0)), (Value.int .i64 (.ofNat 0)), (Value.int .i64 (.ofNat 0)), (Value.int .u64 (.ofNat 0))] [] enE h1))
 (k4 (Value.bool false) h1)))) (oAlloc 67 [(Value.int .i64 (.ofNat 0)), (Value.int .i64 (.ofNat 0)), (Value.int .i64 (.ofNat 0)), (Value.int .i64 (.ofNat 0)), (Value.int .u64 (.ofNat 0))] enE h0)

theorem q61 (R : RnK) (N : Nat) (args : List Value) (h : Hs) : r61 R N args h = callT Tryz.prog N R 61 args h := by kernel_rfl

/-- slices.Equal[[]uint64,uint64] -/
noncomputable def r62 (R : RnK) (N : Nat) (args : List Value) (h : Hs) : An := unC args fun a0 sq0 => unC sq0 fun a1 sq1 => enK h fun h0 =>
 kLenV a0 (fun x0 =>
 kLenV a1 (fun x1 =>
 kI64 .neq x0 x1 (fun x2 =>
 jn (fun (x4 : Value) (h5 : Hs) =>
 kLenV a0 (fun x6 =>
 jn (fun (x8 x9 x10 x11 x12 : Value) (h13 : Hs) =>
 clrK h (Value.bool true) h13) fun k7 =>
 lpT (T := Value → Value → Value → Value → Value → Hs → An) (fun _ _ _ _ _ _ => none) N (fun k14 =>
 fun (x16 x17 x18 x19 x20 : Value) (h21 : Hs) =>
 kI64 .lss x16 x6 (fun x22 =>
 jn (fun (h24 : Hs) =>
 jn (fun (x26 x27 x28 : Value) (h29 : Hs) =>
 kI64 .add x16 (Value.int .i64 (.ofNat 1)) (fun x30 =>
 k14 x30 x22 x26 x27 x28 h29)) fun k25 =>
 kIdxA 1 a0 x16 (fun x31 =>
 kLoad x31 (Hs.mk h24.hp h24.nx h24.nx) (fun x32 =>
 kIdxA 1 a1 x16 (fun x33 =>
 kLoad x33 (Hs.mk h24.hp h24.nx h24.nx) (fun x34 =>
 kU64 .neq x32 x34 (fun x35 =>
 jn (fun (x37 : Value) (h38 : Hs) =>
 k25 x16 x35 x37 h38) fun k36 =>
 cnd x35
 (clrK h (Value.bool false) h24)
 (k36 x20 h24))))))) fun k23 =>
 cnd x22
 (k23 h21)
 (k7 x16 x22 x18 x19 x20 h21))) (Value.int .i64 (.ofNat 0)) dunno dunno dunno x4 h5)) fun k3 =>
 cnd x2
 (clrK h (Value.bool false) h0)
 (k3 (Value.bool false) h0))))

theorem q62 (R : RnK) (N : Nat) (args : List Value) (h : Hs) : r62 R N args h = callT Tryz.prog N R 62 args h := by kernel_rfl

/-- lintel/node.placed -/
noncomputable def r64 (R : RnK) (N : Nat) (args : List Value) (h : Hs) : An := unC args fun a0 sq0 => unC sq0 fun a1 sq1 => enK h fun h0 =>
 after (fun x0 h1 =>
 after (fun x2 h3 =>
 kLoads 4 x0 h3 (fun x4 =>
 kCall R 20 [x4] h3 (fun x5 h6 =>
 kExtr x5 0 (fun x7 =>
 kExtr x5 1 (fun x8 =>
 kFieldA 0 x2 (fun x9 =>
 kLoad x9 h6 (fun x10 =>
 kI64 .eql x10 (Value.int .i64 (.ofNat 2)) (fun x11 =>
 gdT x11 h6 (fun k12 => kFieldA 3 x2 (fun x13 => k12 x13 h6)) (fun x14 h15 =>
 gdT x11 h15 (fun k16 => kLoad x14 h15 (fun x17 => k16 x17 h15)) (fun x18 h19 =>
 gdT x11 h19 (fun k20 => k20 x7 h19) (fun x21 h22 =>
 gdT x11 h22 (fun k23 => k23 x8 h22) (fun x24 h25 =>
 gdT x11 h25 (fun k26 => after (k26) (oBuild [(Value.int .i64 (.ofNat 0)), (Value.int .i64 (.ofNat 0))] [(0, 1, .c x21), (1, 1, .c x24)] enE h25)) (fun x27 h28 =>
 gdT x11 h28 (fun k29 => after (k29) (oMkrow 38 2 1 [(Value.int .i64 (.ofNat 0)), (Value.int .i64 (.ofNat 0))] [(0, 2, .c x27)] enE h28)) (fun x30 h31 =>
 gdT x11 h31 (fun k32 => kCall R 91 [x18, x30] h31 (k32)) (fun x33 h34 =>
 after (fun x35 h36 =>
 jn (fun (x38 : Value) (h39 : Hs) =>
 kLoads 4 x0 h39 (fun x40 =>
 kCall R 24 [x40] h39 (fun x41 h42 =>
 kExtr x41 0 (fun x43 =>
 kExtr x41 1 (fun x44 =>
 kFieldA 3 x2 (fun x45 =>
 kLoad x45 h42 (fun x46 =>
 kLenV x46 (fun x47 =>
 jn (fun (x49 x50 x51 x52 x53 x54 x55 x56 x57 x58 x59 x60 : Value) (h61 : Hs) =>
 clrK h (Value.bool true) h61) fun k48 =>
 lpT (T := Value → Value → Value → Value → Value → Value → Value → Value → Value → Value → Value → Value → Hs → An) (fun _ _ _ _ _ _ _ _ _ _ _ _ _ => none) N (fun k62 =>
 fun (x64 x65 x66 x67 x68 x69 x70 x71 x72 x73 x74 x75 : Value) (h76 : Hs) =>
 kI64 .lss x64 x47 (fun x77 =>
 jn (fun (h79 : Hs) =>
 jn (fun (x81 x82 x83 x84 x85 x86 x87 x88 x89 x90 : Value) (h91 : Hs) =>
 kI64 .add x64 (Value.int .i64 (.ofNat 1)) (fun x92 =>
 k62 x92 x77 x81 x82 x83 x84 x85 x86 x87 x88 x89 x90 h91)) fun k80 =>
 kIdxA 2 x46 x64 (fun x93 =>
 kLoads 2 x93 h79 (fun x94 =>
 after (fun x95 h96 =>
 after (fun x97 h98 =>
 kFieldA 1 x95 (fun x99 =>
 kLoad x99 h98 (fun x100 =>
 kI64 .lss x100 (Value.int .i64 (.ofNat 1)) (fun x101 =>
 gdF x101 h98 (fun k102 => kFieldA 0 x95 (fun x103 => k102 x103 h98)) (fun x104 h105 =>
 gdF x101 h105 (fun k106 => kLoad x104 h105 (fun x107 => k106 x107 h105)) (fun x108 h109 =>
 gdF x101 h109 (fun k110 => k110 x43 h109) (fun x111 h112 =>
 gdF x101 h112 (fun k113 => kI64 .lss x108 x111 (fun x114 => k113 x114 h112)) (fun x115 h116 =>
 after (fun x117 h118 =>
 gdF x117 h118 (fun k119 => kFieldA 0 x95 (fun x120 => k119 x120 h118)) (fun x121 h122 =>
 gdF x117 h122 (fun k123 => kLoad x121 h122 (fun x124 => k123 x124 h122)) (fun x125 h126 =>
 gdF x117 h126 (fun k127 => k127 x43 h126) (fun x128 h129 =>
 gdF x117 h129 (fun k130 => kI64 .sub x125 x128 (fun x131 => k130 x131 h129)) (fun x132 h133 =>
 gdF x117 h133 (fun k134 => k134 x44 h133) (fun x135 h136 =>
 gdF x117 h136 (fun k137 => kI64 .geq x132 x135 (fun x138 => k137 x138 h136)) (fun x139 h140 =>
 after (fun x141 h142 =>
 gdF x141 h142 (fun k143 => kFieldA 1 x95 (fun x144 => k143 x144 h142)) (fun x145 h146 =>
 gdF x141 h146 (fun k147 => kLoad x145 h146 (fun x148 => k147 x148 h146)) (fun x149 h150 =>
 gdF x141 h150 (fun k151 => k151 x44 h150) (fun x152 h153 =>
 gdF x141 h153 (fun k154 => kFieldA 0 x95 (fun x155 => k154 x155 h153)) (fun x156 h157 =>
 gdF x141 h157 (fun k158 => kLoad x156 h157 (fun x159 => k158 x159 h157)) (fun x160 h161 =>
 gdF x141 h161 (fun k162 => k162 x43 h161) (fun x163 h164 =>
 gdF x141 h164 (fun k165 => kI64 .sub x160 x163 (fun x166 => k165 x166 h164)) (fun x167 h168 =>
 gdF x141 h168 (fun k169 => kI64 .sub x152 x167 (fun x170 => k169 x170 h168)) (fun x171 h172 =>
 gdF x141 h172 (fun k173 => kI64 .gtr x149 x171 (fun x174 => k173 x174 h172)) (fun x175 h176 =>
 after (fun x177 h178 =>
 jn (fun (x180 : Value) (h181 : Hs) =>
 kFieldA 3 x2 (fun x182 =>
 kLoad x182 h181 (fun x183 =>
 after (fun x184 h185 =>
 kLenV x184 (fun x186 =>
 jn (fun (x188 x189 x190 x191 x192 : Value) (h193 : Hs) =>
 k80 x95 x177 x64 x188 x186 x189 x184 x190 x191 x192 h193) fun k187 =>
 lpT (T := Value → Value → Value → Value → Value → Hs → An) (fun _ _ _ _ _ _ => none) N (fun k194 =>
 fun (x196 x197 x198 x199 x200 : Value) (h201 : Hs) =>
 kI64 .lss x196 x186 (fun x202 =>
 jn (fun (h204 : Hs) =>
 jn (fun (x206 x207 x208 : Value) (h209 : Hs) =>
 kI64 .add x196 (Value.int .i64 (.ofNat 1)) (fun x210 =>
 k194 x210 x202 x206 x207 x208 h209)) fun k205 =>
 kIdxA 2 x184 x196 (fun x211 =>
 kLoads 2 x211 h204 (fun x212 =>
 after (fun x213 h214 =>
 after (fun x215 h216 =>
 kFieldA 0 x95 (fun x217 =>
 kLoad x217 h216 (fun x218 =>
 kFieldA 0 x213 (fun x219 =>
 kLoad x219 h216 (fun x220 =>
 kFieldA 1 x213 (fun x221 =>
 kLoad x221 h216 (fun x222 =>
 kI64 .add x220 x222 (fun x223 =>
 kI64 .lss x218 x223 (fun x224 =>
 gdT x224 h216 (fun k225 => kFieldA 0 x213 (fun x226 => k225 x226 h216)) (fun x227 h228 =>
 gdT x224 h228 (fun k229 => kLoad x227 h228 (fun x230 => k229 x230 h228)) (fun x231 h232 =>
 gdT x224 h232 (fun k233 => kFieldA 0 x95 (fun x234 => k233 x234 h232)) (fun x235 h236 =>
 gdT x224 h236 (fun k237 => kLoad x235 h236 (fun x238 => k237 x238 h236)) (fun x239 h240 =>
 gdT x224 h240 (fun k241 => kFieldA 1 x95 (fun x242 => k241 x242 h240)) (fun x243 h244 =>
 gdT x224 h244 (fun k245 => kLoad x243 h244 (fun x246 => k245 x246 h244)) (fun x247 h248 =>
 gdT x224 h248 (fun k249 => kI64 .add x239 x247 (fun x250 => k249 x250 h248)) (fun x251 h252 =>
 gdT x224 h252 (fun k253 => kI64 .lss x231 x251 (fun x254 => k253 x254 h252)) (fun x255 h256 =>
 after (fun x257 h258 =>
 jn (fun (x260 : Value) (h261 : Hs) =>
 k205 x213 x257 x260 h261) fun k259 =>
 cnd x257
 (clrK h (Value.bool false) h258)
 (k259 x200 h258)) (pickB (.c x255) (.c (Value.bool false)) enE h256 x224)))))))))))))))))) (store1 2 h214 (cellsL x212) (addrOf x213))) (oAlloc 38 [(Value.int .i64 (.ofNat 0)), (Value.int .i64 (.ofNat 0))] enE h204)))) fun k203 =>
 cnd x202
 (k203 h201)
 (k187 x196 x202 x198 x199 x200 h201))) (Value.int .i64 (.ofNat 0)) x71 x73 x74 x180 h185)) (oSlice 2 (.c x183) none (some (.c x64)) none enE h181)))) fun k179 =>
 cnd x177
 (clrK h (Value.bool false) h178)
 (k179 x75 h178)) (pickB (.c (Value.bool true)) (.c x175) enE h176 x141))))))))))) (pickB (.c (Value.bool true)) (.c x139) enE h140 x117)))))))) (pickB (.c (Value.bool true)) (.c x115) enE h116 x101))))))))) (store1 2 h96 (cellsL x94) (addrOf x95))) (oAlloc 38 [(Value.int .i64 (.ofNat 0)), (Value.int .i64 (.ofNat 0))] enE h79)))) fun k78 =>
 cnd x77
 (k78 h76)
 (k48 x64 x77 x66 x67 x68 x69 x70 x71 x72 x73 x74 x75 h76))) (Value.int .i64 (.ofNat 0)) dunno dunno dunno dunno dunno dunno dunno dunno dunno dunno x38 h42)))))))) fun k37 =>
 cnd x35
 (clrK h (Value.bool true) h36)
 (k37 (Value.bool false) h36)) (pickB (.c x33) (.c (Value.bool false)) enE h34 x11)))))))))))))))) (oBox 41 (.c a1) enE h1)) (oBox 28 (.c a0) enE h0)

theorem q64 (R : RnK) (N : Nat) (args : List Value) (h : Hs) : r64 R N args h = callT Tryz.prog N R 64 args h := by kernel_rfl

/-- lintel/runs.counts -/
noncomputable def r67 (R : RnK) (N : Nat) (args : List Value) (h : Hs) : An := unC args fun a0 sq0 => enK h fun h0 =>
 kLenV a0 (fun x0 =>
 jn (fun (x2 x3 x4 x5 x6 : Value) (h7 : Hs) =>
 clrK h x6 h7) fun k1 =>
 lpT (T := Value → Value → Value → Value → Value → Hs → An) (fun _ _ _ _ _ _ => none) N (fun k8 =>
 fun (x10 x11 x12 x13 x14 : Value) (h15 : Hs) =>
 kI64 .lss x10 x0 (fun x16 =>
 jn (fun (h18 : Hs) =>
 jn (fun (x20 x21 x22 : Value) (h23 : Hs) =>
 kI64 .add x10 (Value.int .i64 (.ofNat 1)) (fun x24 =>
 k8 x24 x16 x20 x21 x22 h23)) fun k19 =>
 kIdxA 2 a0 x10 (fun x25 =>
 kLoads 2 x25 h18 (fun x26 =>
 after (fun x27 h28 =>
 after (fun x29 h30 =>
 kFieldA 1 x27 (fun x31 =>
 kLoad x31 h30 (fun x32 =>
 kI64 .geq x32 (Value.int .i64 (.ofNat 1)) (fun x33 =>
 gdT x33 h30 (fun k34 => kFieldA 1 x27 (fun x35 => k34 x35 h30)) (fun x36 h37 =>
 gdT x33 h37 (fun k38 => kLoad x36 h37 (fun x39 => k38 x39 h37)) (fun x40 h41 =>
 gdT x33 h41 (fun k42 => kI64 .leq x40 (Value.int .i64 (.ofNat 1073741824)) (fun x43 => k42 x43 h41)) (fun x44 h45 =>
 after (fun x46 h47 =>
 gdT x46 h47 (fun k48 => kFieldA 0 x27 (fun x49 => k48 x49 h47)) (fun x50 h51 =>
 gdT x46 h51 (fun k52 => kLoad x50 h51 (fun x53 => k52 x53 h51)) (fun x54 h55 =>
 gdT x46 h55 (fun k56 => kI64 .geq x54 (Value.int .i64 (.ofNat 0)) (fun x57 => k56 x57 h55)) (fun x58 h59 =>
 after (fun x60 h61 =>
 gdT x60 h61 (fun k62 => kFieldA 0 x27 (fun x63 => k62 x63 h61)) (fun x64 h65 =>
 gdT x60 h65 (fun k66 => kLoad x64 h65 (fun x67 => k66 x67 h65)) (fun x68 h69 =>
 gdT x60 h69 (fun k70 => kI64 .leq x68 (Value.int .i64 (.ofNat 1073741824)) (fun x71 => k70 x71 h69)) (fun x72 h73 =>
 after (fun x74 h75 =>
 jn (fun (x77 : Value) (h78 : Hs) =>
 k19 x27 x74 x77 h78) fun k76 =>
 cnd x74
 (kLoads 2 x27 h75 (fun x79 =>
 after (fun x80 h81 =>
 after (fun x82 h83 =>
 k76 x82 h83) (app0 38 2 16 h81 x14 x80)) (oMkrow 38 2 1 [(Value.int .i64 (.ofNat 0)), (Value.int .i64 (.ofNat 0))] [(0, 2, .c x79)] enE h75)))
 (k76 x14 h75)) (pickB (.c x72) (.c (Value.bool false)) enE h73 x60))))) (pickB (.c x58) (.c (Value.bool false)) enE h59 x46))))) (pickB (.c x44) (.c (Value.bool false)) enE h45 x33)))))))) (store1 2 h28 (cellsL x26) (addrOf x27))) (oAlloc 38 [(Value.int .i64 (.ofNat 0)), (Value.int .i64 (.ofNat 0))] enE h18)))) fun k17 =>
 cnd x16
 (k17 h15)
 (k1 x10 x16 x12 x13 x14 h15))) (Value.int .i64 (.ofNat 0)) dunno dunno dunno (Value.slice none 0 0) h0)

theorem q67 (R : RnK) (N : Nat) (args : List Value) (h : Hs) : r67 R N args h = callT Tryz.prog N R 67 args h := by kernel_rfl

/-- (*strings.Builder).String -/
noncomputable def r69 (R : RnK) (N : Nat) (args : List Value) (h : Hs) : An := unC args fun a0 sq0 => enK h fun h0 =>
 kNil a0 (fun x0 =>
 kFieldA 1 x0 (fun x1 =>
 kLoad x1 (Hs.mk h0.hp h0.nx h0.nx) (fun x2 =>
 after (fun v13 u14 => dPut (fun x3 h4 =>
 kNil a0 (fun x5 =>
 kFieldA 1 x5 (fun x6 =>
 kLoad x6 (dHidS .light [true, true, true, false, false, false, false, false] [none, none, none, some (h0.nx, h4.nx), none, none, none, none] h4) (fun x7 =>
 kLenV x7 (fun x8 =>
 after (fun v11 u12 => dPut (fun x9 h10 =>
 clrK h x9 h10) v11 (dNext h4 u12 .bar) (andB (dFit h4 u12 .bar) (Nat.ble 0 u12.lo))) (ustr1 5 h4 x3 (nat64 x8))))))) v13 (dNext h0 u14 .light) (andB (dFit h0 u14 .light) (Nat.ble 0 u14.lo))) (ret1 (Hs.mk h0.hp h0.nx h0.nx) (sdata1 x2)))))

theorem q69 (R : RnK) (N : Nat) (args : List Value) (h : Hs) : r69 R N args h = callT Tryz.prog N R 69 args h := by kernel_rfl

/-- (*lintel/check.looker).shared -/
noncomputable def r75 (R : RnK) (N : Nat) (args : List Value) (h : Hs) : An := unC args fun a0 sq0 => enK h fun h0 =>
 after (fun x0 h1 =>
 kNil a0 (fun x2 =>
 kFieldA 6 x2 (fun x3 =>
 kLoad x3 h1 (fun x4 =>
 kLenV x4 (fun x5 =>
 jn (fun (x7 x8 x9 x10 x11 x12 x13 x14 x15 x16 x17 x18 x19 : Value) (h20 : Hs) =>
 clrK h (Value.tuple #[]) h20) fun k6 =>
 lpT (T := Value → Value → Value → Value → Value → Value → Value → Value → Value → Value → Value → Value → Value → Hs → An) (fun _ _ _ _ _ _ _ _ _ _ _ _ _ _ => none) N (fun k21 =>
 fun (x23 x24 x25 x26 x27 x28 x29 x30 x31 x32 x33 x34 x35 : Value) (h36 : Hs) =>
 kI64 .lss x23 x5 (fun x37 =>
 jn (fun (h39 : Hs) =>
 jn (fun (x41 x42 x43 x44 x45 x46 x47 x48 x49 x50 x51 : Value) (h52 : Hs) =>
 kI64 .add x23 (Value.int .i64 (.ofNat 1)) (fun x53 =>
 k21 x53 x37 x41 x42 x43 x44 x45 x46 x47 x48 x49 x50 x51 h52)) fun k40 =>
 kCall R 96 [a0, x23] h39 (fun x54 h55 =>
 kLenV x54 (fun x56 =>
 jn (fun (x58 x59 x60 x61 x62 x63 x64 : Value) (h65 : Hs) =>
 kI64 .neq x63 (Value.int .i64 (.ofNat 0)) (fun x66 =>
 jn (fun (h68 : Hs) =>
 k40 x23 x58 x56 x59 x54 x60 x61 x62 x63 x64 x66 h68) fun k67 =>
 cnd x66
 (kCall R 94 [a0, (Value.int .i64 (.ofNat 3)), (Value.int .i64 (.ofNat 1)), x23, x63] h65 (fun x69 h70 =>
 k67 h70))
 (k67 h65))) fun k57 =>
 lpT (T := Value → Value → Value → Value → Value → Value → Value → Hs → An) (fun _ _ _ _ _ _ _ _ => none) N (fun k71 =>
 fun (x73 x74 x75 x76 x77 x78 x79 : Value) (h80 : Hs) =>
 kI64 .lss x73 x56 (fun x81 =>
 jn (fun (h83 : Hs) =>
 jn (fun (x85 x86 x87 x88 x89 : Value) (h90 : Hs) =>
 kI64 .add x73 (Value.int .i64 (.ofNat 1)) (fun x91 =>
 k71 x91 x81 x85 x86 x87 x88 x89 h90)) fun k84 =>
 kIdxA 1 x54 x73 (fun x92 =>
 kLoad x92 h83 (fun x93 =>
 after (fun x94 h95 =>
 kI64 .eql x94 (Value.int .i64 (.ofNat 0)) (fun x96 =>
 jn (fun (x98 x99 : Value) (h100 : Hs) =>
 k84 x93 x94 x96 x98 x99 h100) fun k97 =>
 cnd x96
 (after (fun x101 h102 =>
 k97 x78 x79 h102) (mapup1 true h95 x93 x23 x0))
 (kI64 .eql x78 (Value.int .i64 (.ofNat 0)) (fun x103 =>
 gdF x103 h95 (fun k104 => k104 x94 h95) (fun x105 h106 =>
 gdF x103 h106 (fun k107 => k107 x78 h106) (fun x108 h109 =>
 gdF x103 h109 (fun k110 => kI64 .lss x105 x108 (fun x111 => k110 x111 h109)) (fun x112 h113 =>
 after (fun x114 h115 =>
 jn (fun (x117 : Value) (h118 : Hs) =>
 k97 x117 x114 h118) fun k116 =>
 cnd x114
 (k116 x94 h115)
 (k116 x78 h115)) (pickB (.c (Value.bool true)) (.c x112) enE h113 x103)))))))) (ret1 h83 (lk1 true h83 (Value.int .i64 (.ofNat 0)) false x93 x0))))) fun k82 =>
 cnd x81
 (k82 h80)
 (k57 x73 x81 x75 x76 x77 x78 x79 h80))) (Value.int .i64 (.ofNat 0)) x28 x30 x31 x32 (Value.int .i64 (.ofNat 0)) x34 h55))) fun k38 =>
 cnd x37
 (k38 h36)
 (k6 x23 x37 x25 x26 x27 x28 x29 x30 x31 x32 x33 x34 x35 h36))) (Value.int .i64 (.ofNat 0)) dunno dunno dunno dunno dunno dunno dunno dunno dunno dunno dunno dunno h1))))) (mkmap1 h0 (Value.int .i64 0))

theorem q75 (R : RnK) (N : Nat) (args : List Value) (h : Hs) : r75 R N args h = callT Tryz.prog N R 75 args h := by kernel_rfl

/-- (*lintel/check.looker).slots -/
noncomputable def r76 (R : RnK) (N : Nat) (args : List Value) (h : Hs) : An := unC args fun a0 sq0 => enK h fun h0 =>
 after (fun x0 h1 =>
 kNil a0 (fun x2 =>
 kFieldA 6 x2 (fun x3 =>
 kLoad x3 h1 (fun x4 =>
 kLenV x4 (fun x5 =>
 jn (fun (x7 x8 x9 x10 x11 x12 x13 x14 x15 x16 x17 x18 x19 x20 x21 x22 x23 x24 x25 : Value) (h26 : Hs) =>
 clrK h (Value.tuple #[]) h26) fun k6 =>
 lpT (T := Value → Value → Value → Value → Value → Value → Value → Value → Value → Value → Value → Value → Value → Value → Value → Value → Value → Value → Value → Hs → An) (fun _ _ _ _ _ _ _ _ _ _ _ _ _ _ _ _ _ _ _ _ => none) N (fun k27 =>
 fun (x29 x30 x31 x32 x33 x34 x35 x36 x37 x38 x39 x40 x41 x42 x43 x44 x45 x46 x47 : Value) (h48 : Hs) =>
 kI64 .lss x29 x5 (fun x49 =>
 jn (fun (h51 : Hs) =>
 jn (fun (x53 x54 x55 x56 x57 x58 x59 x60 x61 x62 x63 x64 x65 x66 x67 x68 x69 : Value) (h70 : Hs) =>
 kI64 .add x29 (Value.int .i64 (.ofNat 1)) (fun x71 =>
 k27 x71 x49 x53 x54 x55 x56 x57 x58 x59 x60 x61 x62 x63 x64 x65 x66 x67 x68 x69 h70)) fun k52 =>
 kNil a0 (fun x72 =>
 kFieldA 6 x72 (fun x73 =>
 kLoad x73 h51 (fun x74 =>
 kIdxA 1 x74 x29 (fun x75 =>
 kLoad x75 h51 (fun x76 =>
 kNot x76 (fun x77 =>
 gdF x77 h51 (fun k78 => k78 a0 h51) (fun x79 h80 =>
 gdF x77 h80 (fun k81 => kNil x79 (fun x82 => k81 x82 h80)) (fun x83 h84 =>
 gdF x77 h84 (fun k85 => kFieldA 5 x83 (fun x86 => k85 x86 h84)) (fun x87 h88 =>
 gdF x77 h88 (fun k89 => kLoad x87 h88 (fun x90 => k89 x90 h88)) (fun x91 h92 =>
 gdF x77 h92 (fun k93 => k93 x29 h92) (fun x94 h95 =>
 gdF x77 h95 (fun k96 => kIdxA 4 x91 x94 (fun x97 => k96 x97 h95)) (fun x98 h99 =>
 gdF x77 h99 (fun k100 => kFieldA 0 x98 (fun x101 => k100 x101 h99)) (fun x102 h103 =>
 gdF x77 h103 (fun k104 => kLoad x102 h103 (fun x105 => k104 x105 h103)) (fun x106 h107 =>
 gdF x77 h107 (fun k108 => kI64 .neq x106 (Value.int .i64 (.ofNat 2)) (fun x109 => k108 x109 h107)) (fun x110 h111 =>
 after (fun x112 h113 =>
 jn (fun (h115 : Hs) =>
 after (fun x116 h117 =>
 kCall R 96 [a0, x29] h117 (fun x118 h119 =>
 kLenV x118 (fun x120 =>
 jn (fun (x122 x123 x124 x125 x126 x127 x128 x129 x130 x131 x132 x133 : Value) (h134 : Hs) =>
 k52 x29 x112 x122 x120 x123 x118 x124 x125 x126 x127 x128 x129 x116 x130 x131 x132 x133 h134) fun k121 =>
 lpT (T := Value → Value → Value → Value → Value → Value → Value → Value → Value → Value → Value → Value → Hs → An) (fun _ _ _ _ _ _ _ _ _ _ _ _ _ => none) N (fun k135 =>
 fun (x137 x138 x139 x140 x141 x142 x143 x144 x145 x146 x147 x148 : Value) (h149 : Hs) =>
 kI64 .lss x137 x120 (fun x150 =>
 jn (fun (h152 : Hs) =>
 jn (fun (x154 x155 x156 x157 x158 x159 x160 x161 x162 x163 : Value) (h164 : Hs) =>
 kI64 .add x137 (Value.int .i64 (.ofNat 1)) (fun x165 =>
 k135 x165 x150 x154 x155 x156 x157 x158 x159 x160 x161 x162 x163 h164)) fun k153 =>
 kIdxA 1 x118 x137 (fun x166 =>
 kLoad x166 h152 (fun x167 =>
 kNil a0 (fun x168 =>
 kFieldA 0 x168 (fun x169 =>
 kLoads 5 x169 h152 (fun x170 =>
 kCall R 34 [x170, x167] h152 (fun x171 h172 =>
 kCall R 37 [x171] h172 (fun x173 h174 =>
 kExtr x173 0 (fun x175 =>
 kExtr x173 1 (fun x176 =>
 after (fun x177 h178 =>
 after (fun x179 h180 =>
 kNot x176 (fun x181 =>
 jn (fun (h183 : Hs) =>
 kFieldA 0 x177 (fun x184 =>
 kLoad x184 h183 (fun x185 =>
 kI64 .eql x185 (Value.int .i64 (.ofNat 0)) (fun x186 =>
 jn (fun (h188 : Hs) =>
 kLoads 2 x177 h188 (fun x189 =>
 after (fun x190 h191 =>
 kFieldA 1 x177 (fun x192 =>
 kLoad x192 h191 (fun x193 =>
 after (fun x194 h195 =>
 kCall R 97 [a0, x190, x194] h195 (fun x196 h197 =>
 kFieldA 1 x177 (fun x198 =>
 kLoad x198 h197 (fun x199 =>
 after (fun x200 h201 =>
 kI64 .eql x196 (Value.int .i64 (.ofNat 0)) (fun x202 =>
 gdT x202 h201 (fun k203 => k203 a0 h201) (fun x204 _ =>
 gdT x202 h201 (fun k206 => kNil x204 (fun x207 => k206 x207 h201)) (fun x208 _ =>
 gdT x202 h201 (fun k210 => kFieldA 5 x208 (fun x211 => k210 x211 h201)) (fun x212 _ =>
 gdT x202 h201 (fun k214 => kLoad x212 (Hs.mk h201.hp h201.nx h201.nx) (fun x215 => k214 x215 h201)) (fun x216 _ =>
 gdT x202 h201 (fun k218 => kFieldA 0 x177 (fun x219 => k218 x219 h201)) (fun x220 _ =>
 gdT x202 h201 (fun k222 => kLoad x220 (Hs.mk h201.hp h201.nx h201.nx) (fun x223 => k222 x223 h201)) (fun x224 _ =>
 gdT x202 h201 (fun k226 => kIdxA 4 x216 x224 (fun x227 => k226 x227 h201)) (fun x228 _ =>
 gdT x202 h201 (fun k230 => kFieldA 0 x228 (fun x231 => k230 x231 h201)) (fun x232 _ =>
 gdT x202 h201 (fun k234 => kLoad x232 h201 (fun x235 => k234 x235 h201)) (fun x236 _ =>
 gdT x202 h201 (fun k238 => kI64 .eql x236 (Value.int .i64 (.ofNat 2)) (fun x239 => k238 x239 h201)) (fun x240 _ =>
 after (fun v286 u287 => dPut (fun x242 h243 =>
 jn (fun (x245 x246 : Value) (h247 : Hs) =>
 kI64 .neq x245 (Value.int .i64 (.ofNat 0)) (fun x248 =>
 jn (fun (h250 : Hs) =>
 k153 x167 x176 x181 x137 x177 x186 x245 x242 x246 x248 h250) fun k249 =>
 cnd x248
 (kCall R 94 [a0, (Value.int .i64 (.ofNat 4)), x245, x29, x137] h247 (fun x251 h252 =>
 k249 h252))
 (kNil a0 (fun x253 =>
 kFieldA 7 x253 (fun x254 =>
 kLoad x254 (Hs.mk h247.hp h247.nx h247.nx) (fun x255 =>
 kLoads 2 x177 (Hs.mk h247.hp h247.nx h247.nx) (fun x256 =>
 after (fun v273 u274 => dPut (fun x257 h258 =>
 after (fun v271 u272 => dPut (fun x259 h260 =>
 after (fun v269 u270 => dPut (fun x261 h262 =>
 kNil a0 (fun x263 =>
 kFieldA 7 x263 (fun x264 =>
 kStore1 x264 x261 h262 (fun v267 u268 => dPut (fun x265 h266 =>
 k249 h266) v267 (dNext h262 u268 .bar) (andB (dFit h262 u268 .bar) (Nat.ble 0 u268.lo)))))) v269 (dNext h260 u270 .bar) (andB (dFit h260 u270 .bar) (Nat.ble 0 u270.lo))) (app0 157 4 40 h260 x255 x259)) v271 (dNext h258 u272 .light) (andB (dFit h258 u272 .light) (Nat.ble 0 u272.lo))) (oMkrow 157 4 1 [(Value.int .i64 (.ofNat 0)), (Value.int .i64 (.ofNat 0)), (Value.int .i64 (.ofNat 0)), (Value.string ⟨#[]⟩)] [(0, 4, .c x257)] enE (dHidS .light [true, true, true, true, false, false, false, false, false] [some (h247.nx, h258.nx), none, none, none, none, none, none, none, none] h258))) v273 (dNext h247 u274 .blind) (andB (dFit h247 u274 .blind) (Nat.ble 0 u274.lo))) (oBuild [(Value.int .i64 (.ofNat 0)), (Value.int .i64 (.ofNat 0)), (Value.int .i64 (.ofNat 0)), (Value.string ⟨#[]⟩)] [(0, 1, .c x29), (1, 1, .c x137), (2, 2, .c x256)] enE (Hs.mk .e h247.nx h247.nx))))))))) fun k244 =>
 cnd x242
 (kFieldA 0 x177 (fun x275 =>
 kLoad x275 h243 (fun x276 =>
 after (fun x277 h278 =>
 jn (fun (x280 : Value) (h281 : Hs) =>
 kFieldA 0 x177 (fun x282 =>
 kLoad x282 h281 (fun x283 =>
 after (fun x284 h285 =>
 k244 x280 x277 h285) (mapup1 true h281 x283 (Value.bool true) x0)))) fun k279 =>
 cnd x277
 (k279 (Value.int .i64 (.ofNat 6)) h278)
 (k279 x196 h278)) (ret1 h243 (lk1 true h243 (Value.bool false) false x276 x0)))))
 (k244 x196 x147 h243)) v286 (dNext h201 u287 .blind) (andB (dFit h201 u287 .blind) (Nat.ble 0 u287.lo))) (pickB (.c x240) (.c (Value.bool false)) enE (Hs.mk .e h201.nx h201.nx) x202))))))))))))) (mapup1 false h197 x199 (Value.bool true) x116))))) (ret1 h191 (lk1 false h191 (Value.bool false) false x193 x116))))) (oBuild [(Value.int .i64 (.ofNat 0)), (Value.int .i64 (.ofNat 0)), (Value.int .i64 (.ofNat 0)), (Value.string ⟨#[]⟩)] [(0, 1, .c x29), (1, 1, .c x137), (2, 2, .c x189)] enE h188))) fun k187 =>
 cnd x186
 (k153 x167 x176 x181 x137 x177 x186 x145 x146 x147 x148 h183)
 (k187 h183))))) fun k182 =>
 cnd x181
 (kCall R 94 [a0, (Value.int .i64 (.ofNat 4)), (Value.int .i64 (.ofNat 1)), x29, x137] h180 (fun x288 h289 =>
 k153 x167 x176 x181 x137 x177 x144 x145 x146 x147 x148 h289))
 (k182 h180))) (store1 2 h178 (cellsL x175) (addrOf x177))) (oAlloc 57 [(Value.int .i64 (.ofNat 0)), (Value.string ⟨#[]⟩)] enE h174))))))))))) fun k151 =>
 cnd x150
 (k151 h149)
 (k121 x137 x150 x139 x140 x141 x142 x143 x144 x145 x146 x147 x148 h149))) (Value.int .i64 (.ofNat 0)) x35 x37 x38 x39 x40 x41 x42 x44 x45 x46 x47 h119))) (mkmap1 h115 (Value.int .i64 0))) fun k114 =>
 cnd x112
 (k52 x29 x112 x33 x34 x35 x36 x37 x38 x39 x40 x41 x42 x43 x44 x45 x46 x47 h113)
 (k114 h113)) (pickB (.c (Value.bool true)) (.c x110) enE h111 x77))))))))))))))))) fun k50 =>
 cnd x49
 (k50 h48)
 (k6 x29 x49 x31 x32 x33 x34 x35 x36 x37 x38 x39 x40 x41 x42 x43 x44 x45 x46 x47 h48))) (Value.int .i64 (.ofNat 0)) dunno dunno dunno dunno dunno dunno dunno dunno dunno dunno dunno dunno dunno dunno dunno dunno dunno dunno h1))))) (mkmap1 h0 (Value.int .i64 0))

theorem q76 (R : RnK) (N : Nat) (args : List Value) (h : Hs) : r76 R N args h = callT Tryz.prog N R 76 args h := by kernel_rfl

/-- (*lintel/check.looker).reach -/
noncomputable def r77 (R : RnK) (N : Nat) (args : List Value) (h : Hs) : An := unC args fun a0 sq0 => enK h fun h0 =>
 after (fun x0 h1 =>
 after (fun x2 h3 =>
 after (fun x4 h5 =>
 jn (fun (x7 x8 x9 x10 x11 x12 x13 x14 : Value) (h15 : Hs) =>
 kNil a0 (fun x16 =>
 kFieldA 6 x16 (fun x17 =>
 kLoad x17 h15 (fun x18 =>
 kLenV x18 (fun x19 =>
 jn (fun (x21 x22 x23 x24 x25 : Value) (h26 : Hs) =>
 clrK h (Value.tuple #[]) h26) fun k20 =>
 lpT (T := Value → Value → Value → Value → Value → Hs → An) (fun _ _ _ _ _ _ => none) N (fun k27 =>
 fun (x29 x30 x31 x32 x33 : Value) (h34 : Hs) =>
 kI64 .lss x29 x19 (fun x35 =>
 jn (fun (h37 : Hs) =>
 jn (fun (x39 x40 x41 : Value) (h42 : Hs) =>
 kI64 .add x29 (Value.int .i64 (.ofNat 1)) (fun x43 =>
 k27 x43 x35 x39 x40 x41 h42)) fun k38 =>
 kIdxA 1 x18 x29 (fun x44 =>
 kLoad x44 h37 (fun x45 =>
 gdT x45 h37 (fun k46 => k46 x0 h37) (fun x47 h48 =>
 gdT x45 h48 (fun k49 => k49 x29 h48) (fun x50 h51 =>
 gdT x45 h51 (fun k52 => after (k52) (ret1 h51 (lk1 true h51 (Value.bool false) false x50 x47))) (fun x53 h54 =>
 gdT x45 h54 (fun k55 => kNot x53 (fun x56 => k55 x56 h54)) (fun x57 h58 =>
 after (fun x59 h60 =>
 jn (fun (h62 : Hs) =>
 k38 x45 x29 x59 h62) fun k61 =>
 cnd x59
 (kCall R 94 [a0, (Value.int .i64 (.ofNat 5)), (Value.int .i64 (.ofNat 1)), x29, (Value.int .i64 (.ofNat 0))] h60 (fun x63 h64 =>
 k61 h64))
 (k61 h60)) (pickB (.c x57) (.c (Value.bool false)) enE h58 x45)))))))) fun k36 =>
 cnd x35
 (k36 h34)
 (k20 x29 x35 x31 x32 x33 h34))) (Value.int .i64 (.ofNat 0)) dunno dunno dunno dunno h15))))) fun k6 =>
 lpT (T := Value → Value → Value → Value → Value → Value → Value → Value → Hs → An) (fun _ _ _ _ _ _ _ _ _ => none) N (fun k65 =>
 fun (x67 x68 x69 x70 x71 x72 x73 x74 : Value) (h75 : Hs) =>
 jn (fun (h77 : Hs) =>
 jn (fun (x79 x80 x81 x82 x83 x84 x85 : Value) (h86 : Hs) =>
 k65 x79 x67 x80 x81 x82 x83 x84 x85 h86) fun k78 =>
 kNil a0 (fun x87 =>
 kFieldA 7 x87 (fun x88 =>
 kLoad x88 h77 (fun x89 =>
 kLenV x89 (fun x90 =>
 jn (fun (x92 x93 x94 x95 x96 : Value) (h97 : Hs) =>
 k78 x92 x93 x90 x94 x89 x95 x96 h97) fun k91 =>
 lpT (T := Value → Value → Value → Value → Value → Hs → An) (fun _ _ _ _ _ _ => none) N (fun k98 =>
 fun (x100 x101 x102 x103 x104 : Value) (h105 : Hs) =>
 kI64 .lss x101 x90 (fun x106 =>
 jn (fun (h108 : Hs) =>
 jn (fun (x110 x111 x112 : Value) (h113 : Hs) =>
 kI64 .add x101 (Value.int .i64 (.ofNat 1)) (fun x114 =>
 k98 x110 x114 x106 x111 x112 h113)) fun k109 =>
 kIdxA 4 x89 x101 (fun x115 =>
 kLoads 4 x115 h108 (fun x116 =>
 after (fun x117 h118 =>
 after (fun x119 h120 =>
 kFieldA 0 x117 (fun x121 =>
 kLoad x121 h120 (fun x122 =>
 after (fun v196 u197 => dPut (fun x123 h124 =>
 gdT x123 h124 (fun k125 => k125 a0 h124) (fun x126 _ =>
 gdT x123 h124 (fun k128 => kNil x126 (fun x129 => k128 x129 h124)) (fun x130 _ =>
 gdT x123 h124 (fun k132 => kFieldA 6 x130 (fun x133 => k132 x133 h124)) (fun x134 _ =>
 gdT x123 h124 (fun k136 => kLoad x134 (dHidS .light [true, true, true, true, true, true, true, true] [none, none, none, none, some (h120.nx, h124.nx), none, none, none] h124) (fun x137 => k136 x137 h124)) (fun x138 _ =>
 gdT x123 h124 (fun k140 => kFieldA 0 x117 (fun x141 => k140 x141 h124)) (fun x142 _ =>
 gdT x123 h124 (fun k144 => kLoad x142 (dHidS .light [true, false, false, false, false, true, true, true, true, true] [none, none, none, none, none, none, some (h120.nx, h124.nx), none, none, none] h124) (fun x145 => k144 x145 h124)) (fun x146 _ =>
 gdT x123 h124 (fun k148 => kIdxA 1 x138 x146 (fun x149 => k148 x149 h124)) (fun x150 _ =>
 gdT x123 h124 (fun k152 => kLoad x150 h124 (fun x153 => k152 x153 h124)) (fun x154 _ =>
 after (fun v194 u195 => dPut (fun x156 h157 =>
 gdT x156 h157 (fun k158 => k158 x0 h157) (fun x159 _ =>
 gdT x156 h157 (fun k161 => kFieldA 2 x117 (fun x162 => k161 x162 h157)) (fun x163 _ =>
 gdT x156 h157 (fun k165 => kFieldA 0 x163 (fun x166 => k165 x166 h157)) (fun x167 _ =>
 gdT x156 h157 (fun k169 => kLoad x167 h157 (fun x170 => k169 x170 h157)) (fun x171 _ =>
 gdT x156 h157 (fun k173 => after (fun v174 u175 => dPut k173 v174 (dNext h157 u175 .bar) (andB (dFit h157 u175 .bar) (Nat.ble 0 u175.lo))) (ret1 h157 (lk1 true h157 (Value.bool false) false x171 x159))) (fun x176 h177 =>
 gdT x156 h177 (fun k178 => kNot x176 (fun x179 => k178 x179 h177)) (fun x180 _ =>
 after (fun v192 u193 => dPut (fun x182 h183 =>
 jn (fun (x185 : Value) (h186 : Hs) =>
 k109 x185 x117 x182 h186) fun k184 =>
 cnd x182
 (kFieldA 2 x117 (fun x187 =>
 kFieldA 0 x187 (fun x188 =>
 kLoad x188 h183 (fun x189 =>
 after (fun x190 h191 =>
 k184 (Value.bool true) h191) (mapup1 true h183 x189 (Value.bool true) x0)))))
 (k184 x100 h183)) v192 (dNext h177 u193 .blind) (andB (dFit h177 u193 .blind) (Nat.ble 0 u193.lo))) (pickB (.c x180) (.c (Value.bool false)) enE (Hs.mk .e h177.nx h177.nx) x156)))))))) v194 (dNext h124 u195 .blind) (andB (dFit h124 u195 .blind) (Nat.ble 0 u195.lo))) (pickB (.c x154) (.c (Value.bool false)) enE (Hs.mk .e h124.nx h124.nx) x123)))))))))) v196 (dNext h120 u197 .bar) (andB (dFit h120 u197 .bar) (Nat.ble 0 u197.lo))) (ret1 h120 (lk1 true h120 (Value.bool false) false x122 x0))))) (store1 4 h118 (cellsL x116) (addrOf x117))) (oAlloc 157 [(Value.int .i64 (.ofNat 0)), (Value.int .i64 (.ofNat 0)), (Value.int .i64 (.ofNat 0)), (Value.string ⟨#[]⟩)] enE h108)))) fun k107 =>
 cnd x106
 (k107 h105)
 (k91 x100 x101 x106 x103 x104 h105))) (Value.bool false) (Value.int .i64 (.ofNat 0)) x71 x73 x74 h77))))) fun k76 =>
 cnd x67
 (k76 h75)
 (k6 x67 x67 x69 x70 x71 x72 x73 x74 h75)) (Value.bool true) dunno dunno dunno dunno dunno dunno dunno h5) (mapup1 true h3 (Value.int .i64 (.ofNat 2)) (Value.bool true) x0)) (mapup1 true h1 (Value.int .i64 (.ofNat 1)) (Value.bool true) x0)) (mkmap1 h0 (Value.int .i64 0))

theorem q77 (R : RnK) (N : Nat) (args : List Value) (h : Hs) : r77 R N args h = callT Tryz.prog N R 77 args h := by kernel_rfl

/-- (*lintel/check.looker).links -/
noncomputable def r78 (R : RnK) (N : Nat) (args : List Value) (h : Hs) : An := unC args fun a0 sq0 => enK h fun h0 =>
 after (fun x0 h1 =>
 kNil a0 (fun x2 =>
 kFieldA 7 x2 (fun x3 =>
 kLoad x3 h1 (fun x4 =>
 kLenV x4 (fun x5 =>
 jn (fun (x7 x8 x9 : Value) (h10 : Hs) =>
 kNil a0 (fun x11 =>
 kFieldA 6 x11 (fun x12 =>
 kLoad x12 h10 (fun x13 =>
 kLenV x13 (fun x14 =>
 jn (fun (x16 x17 x18 x19 x20 : Value) (h21 : Hs) =>
 clrK h (Value.tuple #[]) h21) fun k15 =>
 lpT (T := Value → Value → Value → Value → Value → Hs → An) (fun _ _ _ _ _ _ => none) N (fun k22 =>
 fun (x24 x25 x26 x27 x28 : Value) (h29 : Hs) =>
 kI64 .lss x24 x14 (fun x30 =>
 jn (fun (h32 : Hs) =>
 jn (fun (x34 x35 x36 : Value) (h37 : Hs) =>
 kI64 .add x24 (Value.int .i64 (.ofNat 1)) (fun x38 =>
 k22 x38 x30 x34 x35 x36 h37)) fun k33 =>
 kIdxA 1 x13 x24 (fun x39 =>
 kLoad x39 h32 (fun x40 =>
 gdT x40 h32 (fun k41 => k41 a0 h32) (fun x42 _ =>
 gdT x40 h32 (fun k44 => kNil x42 (fun x45 => k44 x45 h32)) (fun x46 _ =>
 gdT x40 h32 (fun k48 => kFieldA 5 x46 (fun x49 => k48 x49 h32)) (fun x50 _ =>
 gdT x40 h32 (fun k52 => kLoad x50 h32 (fun x53 => k52 x53 h32)) (fun x54 _ =>
 gdT x40 h32 (fun k56 => k56 x24 h32) (fun x57 _ =>
 gdT x40 h32 (fun k59 => kIdxA 4 x54 x57 (fun x60 => k59 x60 h32)) (fun x61 _ =>
 gdT x40 h32 (fun k63 => kFieldA 0 x61 (fun x64 => k63 x64 h32)) (fun x65 _ =>
 gdT x40 h32 (fun k67 => kLoad x65 h32 (fun x68 => k67 x68 h32)) (fun x69 _ =>
 gdT x40 h32 (fun k71 => kI64 .neq x69 (Value.int .i64 (.ofNat 2)) (fun x72 => k71 x72 h32)) (fun x73 _ =>
 after (fun v132 u133 => dPut (fun x75 h76 =>
 gdT x75 h76 (fun k77 => k77 x0 h76) (fun x78 _ =>
 gdT x75 h76 (fun k80 => k80 x24 h76) (fun x81 _ =>
 gdT x75 h76 (fun k83 => after (fun v84 u85 => dPut k83 v84 (dNext h76 u85 .light) (andB (dFit h76 u85 .light) (Nat.ble 0 u85.lo))) (ret1 (dHidS .light [true, true, true, true, true, true, true, true, true, true, true, true, true, true, true] [none, none, none, some (h32.nx, h76.nx), none, none, none, none, none, none, none, none, none, none, none] h76) (lk1 true (dHidS .light [true, true, true, true, true, true, true, true, true, true, true, true, true, true, true] [none, none, none, some (h32.nx, h76.nx), none, none, none, none, none, none, none, none, none, none, none] h76) (Value.int .i64 (.ofNat 0)) false x81 x78))) (fun x86 h87 =>
 gdT x75 h87 (fun k88 => k88 a0 h87) (fun x89 _ =>
 gdT x75 h87 (fun k91 => kNil x89 (fun x92 => k91 x92 h87)) (fun x93 _ =>
 gdT x75 h87 (fun k95 => kFieldA 5 x93 (fun x96 => k95 x96 h87)) (fun x97 _ =>
 gdT x75 h87 (fun k99 => kLoad x97 (dHidS .light [true, true, true, false, false, false, true, true, true, true, true, true, true, true, true, true, true, true, true] [none, none, none, some (h76.nx, h87.nx), none, none, none, some (h32.nx, h76.nx), none, none, none, none, none, none, none, none, none, none, none] h87) (fun x100 => k99 x100 h87)) (fun x101 _ =>
 gdT x75 h87 (fun k103 => k103 x24 h87) (fun x104 _ =>
 gdT x75 h87 (fun k106 => kIdxA 4 x101 x104 (fun x107 => k106 x107 h87)) (fun x108 _ =>
 gdT x75 h87 (fun k110 => kFieldA 1 x108 (fun x111 => k110 x111 h87)) (fun x112 _ =>
 gdT x75 h87 (fun k114 => kLoad x112 (dHidS .light [true, true, true, true, true, true, true, false, false, false, true, true, true, true, true, true, true, true, true, true, true, true, true] [none, none, none, none, none, none, none, some (h76.nx, h87.nx), none, none, none, some (h32.nx, h76.nx), none, none, none, none, none, none, none, none, none, none, none] h87) (fun x115 => k114 x115 h87)) (fun x116 _ =>
 gdT x75 h87 (fun k118 => kI64 .neq x86 x116 (fun x119 => k118 x119 h87)) (fun x120 _ =>
 after (fun v130 u131 => dPut (fun x122 h123 =>
 jn (fun (h125 : Hs) =>
 k33 x40 x24 x122 h125) fun k124 =>
 cnd x122
 (after (fun x126 h127 =>
 kCall R 94 [a0, (Value.int .i64 (.ofNat 6)), (Value.int .i64 (.ofNat 1)), x24, x126] h127 (fun x128 h129 =>
 k124 h129)) (ret1 h123 (lk1 true h123 (Value.int .i64 (.ofNat 0)) false x24 x0)))
 (k124 h123)) v130 (dNext h87 u131 .blind) (andB (dFit h87 u131 .blind) (Nat.ble 0 u131.lo))) (pickB (.c x120) (.c (Value.bool false)) enE (Hs.mk .e h87.nx h87.nx) x75)))))))))))))) v132 (dNext h32 u133 .blind) (andB (dFit h32 u133 .blind) (Nat.ble 0 u133.lo))) (pickB (.c x73) (.c (Value.bool false)) enE (Hs.mk .e h32.nx h32.nx) x40))))))))))))) fun k31 =>
 cnd x30
 (k31 h29)
 (k15 x24 x30 x26 x27 x28 h29))) (Value.int .i64 (.ofNat 0)) dunno dunno dunno dunno h10))))) fun k6 =>
 lpT (T := Value → Value → Value → Hs → An) (fun _ _ _ _ => none) N (fun k134 =>
 fun (x136 x137 x138 : Value) (h139 : Hs) =>
 kI64 .lss x136 x5 (fun x140 =>
 jn (fun (h142 : Hs) =>
 jn (fun (x144 : Value) (h145 : Hs) =>
 kI64 .add x136 (Value.int .i64 (.ofNat 1)) (fun x146 =>
 k134 x146 x140 x144 h145)) fun k143 =>
 kIdxA 4 x4 x136 (fun x147 =>
 kLoads 4 x147 h142 (fun x148 =>
 after (fun x149 h150 =>
 after (fun x151 h152 =>
 kFieldA 2 x149 (fun x153 =>
 kFieldA 0 x153 (fun x154 =>
 kLoad x154 h152 (fun x155 =>
 after (fun x156 h157 =>
 kI64 .add x156 (Value.int .i64 (.ofNat 1)) (fun x158 =>
 after (fun x159 h160 =>
 k143 x149 h160) (mapup1 true h157 x155 x158 x0))) (ret1 h152 (lk1 true h152 (Value.int .i64 (.ofNat 0)) false x155 x0)))))) (store1 4 h150 (cellsL x148) (addrOf x149))) (oAlloc 157 [(Value.int .i64 (.ofNat 0)), (Value.int .i64 (.ofNat 0)), (Value.int .i64 (.ofNat 0)), (Value.string ⟨#[]⟩)] enE h142)))) fun k141 =>
 cnd x140
 (k141 h139)
 (k6 x136 x140 x138 h139))) (Value.int .i64 (.ofNat 0)) dunno dunno h1))))) (mkmap1 h0 (Value.int .i64 0))

theorem q78 (R : RnK) (N : Nat) (args : List Value) (h : Hs) : r78 R N args h = callT Tryz.prog N R 78 args h := by kernel_rfl

/-- (*lintel/check.looker).taken -/
noncomputable def r79 (R : RnK) (N : Nat) (args : List Value) (h : Hs) : An := unC args fun a0 sq0 => enK h fun h0 =>
 kNil a0 (fun x0 =>
 kFieldA 0 x0 (fun x1 =>
 kFieldA 0 x1 (fun x2 =>
 kLoads 4 x2 h0 (fun x3 =>
 kCall R 24 [x3] h0 (fun x4 h5 =>
 kExtr x4 0 (fun x6 =>
 kExtr x4 1 (fun x7 =>
 after (fun x8 h9 =>
 kNil a0 (fun x10 =>
 kFieldA 6 x10 (fun x11 =>
 kLoad x11 h9 (fun x12 =>
 kLenV x12 (fun x13 =>
 jn (fun (x15 x16 x17 x18 x19 x20 x21 x22 : Value) (h23 : Hs) =>
 kNil a0 (fun x24 =>
 kFieldA 0 x24 (fun x25 =>
 kLoads 5 x25 h23 (fun x26 =>
 kCall R 98 [x26] h23 (fun x27 h28 =>
 after (fun x29 h30 =>
 kStore1 x29 x27 h30 (fun x31 h32 =>
 kFieldA 0 x29 (fun x33 =>
 kLoad x33 h32 (fun x34 =>
 kLenV x34 (fun x35 =>
 kI64 .mul (Value.int .i64 (.ofNat 64)) x35 (fun x36 =>
 jn (fun (x38 x39 x40 x41 x42 x43 x44 x45 : Value) (h46 : Hs) =>
 clrK h (Value.tuple #[]) h46) fun k37 =>
 lpT (T := Value → Value → Value → Value → Value → Value → Value → Value → Hs → An) (fun _ _ _ _ _ _ _ _ _ => none) N (fun k47 =>
 fun (x49 x50 x51 x52 x53 x54 x55 x56 : Value) (h57 : Hs) =>
 kI64 .lss x49 x36 (fun x58 =>
 jn (fun (h60 : Hs) =>
 jn (fun (x62 x63 x64 x65 x66 x67 : Value) (h68 : Hs) =>
 kI64 .add x49 (Value.int .i64 (.ofNat 1)) (fun x69 =>
 k47 x69 x58 x62 x63 x64 x65 x66 x67 h68)) fun k61 =>
 kI64 .lss x49 x6 (fun x70 =>
 gdF x70 h60 (fun k71 => k71 x49 h60) (fun x72 h73 =>
 gdF x70 h73 (fun k74 => k74 x6 h73) (fun x75 h76 =>
 gdF x70 h76 (fun k77 => k77 x7 h76) (fun x78 h79 =>
 gdF x70 h79 (fun k80 => kI64 .add x75 x78 (fun x81 => k80 x81 h79)) (fun x82 h83 =>
 gdF x70 h83 (fun k84 => kI64 .geq x72 x82 (fun x85 => k84 x85 h83)) (fun x86 h87 =>
 after (fun x88 h89 =>
 gdF x88 h89 (fun k90 => k90 x8 h89) (fun x91 h92 =>
 gdF x88 h92 (fun k93 => k93 x49 h92) (fun x94 h95 =>
 gdF x88 h95 (fun k96 => after (k96) (ret1 h95 (lk1 true h95 (Value.bool false) false x94 x91))) (fun x97 h98 =>
 after (fun x99 h100 =>
 jn (fun (x102 x103 x104 x105 : Value) (h106 : Hs) =>
 k61 x49 x102 x103 x99 x104 x105 h106) fun k101 =>
 kNil a0 (fun x107 =>
 kFieldA 0 x107 (fun x108 =>
 kFieldA 0 x108 (fun x109 =>
 kFieldA 0 x109 (fun x110 =>
 kLoad x110 h100 (fun x111 =>
 kI64 .geq x49 x111 (fun x112 =>
 jn (fun (x114 x115 x116 : Value) (h117 : Hs) =>
 k101 x112 x114 x115 x116 h117) fun k113 =>
 cnd x112
 (kLoads 1 x29 h100 (fun x118 =>
 kCall R 99 [x118, x49] h100 (fun x119 h120 =>
 jn (fun (h122 : Hs) =>
 k113 x119 x55 x56 h122) fun k121 =>
 cnd x119
 (kCall R 94 [a0, (Value.int .i64 (.ofNat 7)), (Value.int .i64 (.ofNat 2)), x49, (Value.int .i64 (.ofNat 0))] h120 (fun x123 h124 =>
 k121 h124))
 (k121 h120))))
 (kLoads 1 x29 h100 (fun x125 =>
 kCall R 99 [x125, x49] h100 (fun x126 h127 =>
 obK (fun x128 =>
 gdT x128 h127 (fun k129 => k129 x99 h127) (fun x130 h131 =>
 after (fun x132 h133 =>
 jn (fun (x135 : Value) (h136 : Hs) =>
 k113 x53 x132 x135 h136) fun k134 =>
 cnd x132
 (kCall R 94 [a0, (Value.int .i64 (.ofNat 7)), (Value.int .i64 (.ofNat 1)), x49, (Value.int .i64 (.ofNat 1))] h133 (fun x137 h138 =>
 k134 x56 h138))
 (kLoads 1 x29 h133 (fun x139 =>
 kCall R 99 [x139, x49] h133 (fun x140 h141 =>
 obK (fun x142 =>
 jn (fun (h144 : Hs) =>
 k134 x142 h144) fun k143 =>
 cnd x142
 (kCall R 94 [a0, (Value.int .i64 (.ofNat 7)), (Value.int .i64 (.ofNat 1)), x49, (Value.int .i64 (.ofNat 0))] h141 (fun x145 h146 =>
 k143 h146))
 (k143 h141)) (e2 true qB x140 x99))))) (pickB (.c x130) (.c (Value.bool false)) enE h131 x128))) (e2 true qB x126 x99))))))))))) (pickB (.c (Value.bool true)) (.c x97) enE h98 x88))))) (pickB (.c (Value.bool true)) (.c x86) enE h87 x70)))))))) fun k59 =>
 cnd x58
 (k59 h57)
 (k37 x49 x58 x51 x52 x53 x54 x55 x56 h57))) (Value.int .i64 (.ofNat 0)) dunno dunno dunno dunno dunno dunno dunno h32)))))) (oAlloc 71 [(Value.slice none 0 0)] enE h28)))))) fun k14 =>
 lpT (T := Value → Value → Value → Value → Value → Value → Value → Value → Hs → An) (fun _ _ _ _ _ _ _ _ _ => none) N (fun k147 =>
 fun (x149 x150 x151 x152 x153 x154 x155 x156 : Value) (h157 : Hs) =>
 kI64 .lss x149 x13 (fun x158 =>
 jn (fun (h160 : Hs) =>
 jn (fun (x162 x163 x164 x165 x166 x167 : Value) (h168 : Hs) =>
 kI64 .add x149 (Value.int .i64 (.ofNat 1)) (fun x169 =>
 k147 x169 x158 x162 x163 x164 x165 x166 x167 h168)) fun k161 =>
 kCall R 96 [a0, x149] h160 (fun x170 h171 =>
 kLenV x170 (fun x172 =>
 jn (fun (x174 x175 x176 : Value) (h177 : Hs) =>
 k161 x149 x174 x172 x175 x170 x176 h177) fun k173 =>
 lpT (T := Value → Value → Value → Hs → An) (fun _ _ _ _ => none) N (fun k178 =>
 fun (x180 x181 x182 : Value) (h183 : Hs) =>
 kI64 .lss x180 x172 (fun x184 =>
 jn (fun (h186 : Hs) =>
 jn (fun (x188 : Value) (h189 : Hs) =>
 kI64 .add x180 (Value.int .i64 (.ofNat 1)) (fun x190 =>
 k178 x190 x184 x188 h189)) fun k187 =>
 kIdxA 1 x170 x180 (fun x191 =>
 kLoad x191 h186 (fun x192 =>
 after (fun x193 h194 =>
 k187 x192 h194) (mapup1 true h186 x192 (Value.bool true) x8)))) fun k185 =>
 cnd x184
 (k185 h183)
 (k173 x180 x184 x182 h183))) (Value.int .i64 (.ofNat 0)) x154 x156 h171))) fun k159 =>
 cnd x158
 (k159 h157)
 (k14 x149 x158 x151 x152 x153 x154 x155 x156 h157))) (Value.int .i64 (.ofNat 0)) dunno dunno dunno dunno dunno dunno dunno h9))))) (mkmap1 h5 (Value.int .i64 0)))))))))

theorem q79 (R : RnK) (N : Nat) (args : List Value) (h : Hs) : r79 R N args h = callT Tryz.prog N R 79 args h := by kernel_rfl

/-- math/bits.RotateLeft64 -/
noncomputable def r90 (R : RnK) (N : Nat) (args : List Value) (h : Hs) : An := unC args fun a0 sq0 => unC sq0 fun a1 sq1 => enK h fun h0 =>
 kToU a1 (fun x0 =>
 kU64 .and x0 (Value.int .u64 (.ofNat 63)) (fun x1 =>
 kShl a0 x1 (fun x2 =>
 kU64 .sub (Value.int .u64 (.ofNat 64)) x1 (fun x3 =>
 kShr a0 x3 (fun x4 =>
 kU64 .or x2 x4 (fun x5 =>
 clrK h x5 h0))))))

theorem q90 (R : RnK) (N : Nat) (args : List Value) (h : Hs) : r90 R N args h = callT Tryz.prog N R 90 args h := by kernel_rfl

/-- slices.Equal[[]lintel/node.Run,lintel/node.Run] -/
noncomputable def r91 (R : RnK) (N : Nat) (args : List Value) (h : Hs) : An := unC args fun a0 sq0 => unC sq0 fun a1 sq1 => enK h fun h0 =>
 kLenV a0 (fun x0 =>
 kLenV a1 (fun x1 =>
 kI64 .neq x0 x1 (fun x2 =>
 jn (fun (x4 : Value) (h5 : Hs) =>
 kLenV a0 (fun x6 =>
 jn (fun (x8 x9 x10 x11 x12 : Value) (h13 : Hs) =>
 clrK h (Value.bool true) h13) fun k7 =>
 lpT (T := Value → Value → Value → Value → Value → Hs → An) (fun _ _ _ _ _ _ => none) N (fun k14 =>
 fun (x16 x17 x18 x19 x20 : Value) (h21 : Hs) =>
 kI64 .lss x16 x6 (fun x22 =>
 jn (fun (h24 : Hs) =>
 jn (fun (x26 x27 x28 : Value) (h29 : Hs) =>
 kI64 .add x16 (Value.int .i64 (.ofNat 1)) (fun x30 =>
 k14 x30 x22 x26 x27 x28 h29)) fun k25 =>
 kIdxA 2 a0 x16 (fun x31 =>
 kLoads 2 x31 (Hs.mk h24.hp h24.nx h24.nx) (fun x32 =>
 kIdxA 2 a1 x16 (fun x33 =>
 kLoads 2 x33 (Hs.mk h24.hp h24.nx h24.nx) (fun x34 =>
 obK (fun x35 =>
 jn (fun (x37 : Value) (h38 : Hs) =>
 k25 x16 x35 x37 h38) fun k36 =>
 cnd x35
 (clrK h (Value.bool false) h24)
 (k36 x20 h24)) (e2 true (qA [.i, .i]) x32 x34)))))) fun k23 =>
 cnd x22
 (k23 h21)
 (k7 x16 x22 x18 x19 x20 h21))) (Value.int .i64 (.ofNat 0)) dunno dunno dunno x4 h5)) fun k3 =>
 cnd x2
 (clrK h (Value.bool false) h0)
 (k3 (Value.bool false) h0))))

theorem q91 (R : RnK) (N : Nat) (args : List Value) (h : Hs) : r91 R N args h = callT Tryz.prog N R 91 args h := by kernel_rfl

/-- lintel/slot.Good -/
noncomputable def r93 (R : RnK) (N : Nat) (args : List Value) (h : Hs) : An := unC args fun a0 sq0 => enK h fun h0 =>
 after (fun x0 h1 =>
 kFieldA 0 x0 (fun x2 =>
 kLoad x2 h1 (fun x3 =>
 kI64 .eql x3 (Value.int .i64 (.ofNat 0)) (fun x4 =>
 jn (fun (x6 : Value) (h7 : Hs) =>
 kFieldA 0 x0 (fun x8 =>
 kLoad x8 h7 (fun x9 =>
 kI64 .geq x9 (Value.int .i64 (.ofNat 1)) (fun x10 =>
 gdT x10 h7 (fun k11 => kFieldA 0 x0 (fun x12 => k11 x12 h7)) (fun x13 h14 =>
 gdT x10 h14 (fun k15 => kLoad x13 h14 (fun x16 => k15 x16 h14)) (fun x17 h18 =>
 gdT x10 h18 (fun k19 => kI64 .leq x17 (Value.int .i64 (.ofNat 64)) (fun x20 => k19 x20 h18)) (fun x21 h22 =>
 after (fun x23 h24 =>
 gdT x23 h24 (fun k25 => kFieldA 1 x0 (fun x26 => k25 x26 h24)) (fun x27 h28 =>
 gdT x23 h28 (fun k29 => kLoad x27 h28 (fun x30 => k29 x30 h28)) (fun x31 h32 =>
 gdT x23 h32 (fun k33 => kCall R 105 [x31] h32 (k33)) (fun x34 h35 =>
 after (fun x36 h37 =>
 clrK h x36 h37) (pickB (.c x34) (.c (Value.bool false)) enE h35 x23))))) (pickB (.c x21) (.c (Value.bool false)) enE h22 x10)))))))) fun k5 =>
 cnd x4
 (kFieldA 1 x0 (fun x38 =>
 kLoad x38 h1 (fun x39 =>
 obK (fun x40 =>
 clrK h x40 h1) (s2 .eql x39 (Value.string ⟨#[]⟩)))))
 (k5 (Value.bool false) h1))))) (oBox 57 (.c a0) enE h0)

theorem q93 (R : RnK) (N : Nat) (args : List Value) (h : Hs) : r93 R N args h = callT Tryz.prog N R 93 args h := by kernel_rfl

/-- (*lintel/check.looker).lostArea -/
noncomputable def r95 (R : RnK) (N : Nat) (args : List Value) (h : Hs) : An := unC args fun a0 sq0 => unC sq0 fun a1 sq1 => enK h fun h0 =>
 after (fun x0 h1 =>
 kNil a0 (fun x2 =>
 kFieldA 0 x2 (fun x3 =>
 kFieldA 0 x3 (fun x4 =>
 kLoads 4 x4 h1 (fun x5 =>
 kCall R 20 [x5] h1 (fun x6 h7 =>
 kExtr x6 0 (fun x8 =>
 kExtr x6 1 (fun x9 =>
 kFieldA 3 x0 (fun x10 =>
 kLoad x10 h7 (fun x11 =>
 after (fun x12 h13 =>
 after (fun x14 h15 =>
 kCall R 91 [x11, x14] h15 (fun x16 h17 =>
 clrK h x16 h17)) (oMkrow 38 2 1 [(Value.int .i64 (.ofNat 0)), (Value.int .i64 (.ofNat 0))] [(0, 2, .c x12)] enE h13)) (oBuild [(Value.int .i64 (.ofNat 0)), (Value.int .i64 (.ofNat 0))] [(0, 1, .c x8), (1, 1, .c x9)] enE h7))))))))))) (oBox 41 (.c a1) enE h0)

theorem q95 (R : RnK) (N : Nat) (args : List Value) (h : Hs) : r95 R N args h = callT Tryz.prog N R 95 args h := by kernel_rfl

/-- (*lintel/check.looker).blocks -/
noncomputable def r96 (R : RnK) (N : Nat) (args : List Value) (h : Hs) : An := unC args fun a0 sq0 => unC sq0 fun a1 sq1 => enK h fun h0 =>
 kNil a0 (fun x0 =>
 kFieldA 6 x0 (fun x1 =>
 kLoad x1 h0 (fun x2 =>
 kIdxA 1 x2 a1 (fun x3 =>
 kLoad x3 h0 (fun x4 =>
 jn (fun (x6 x7 x8 x9 x10 x11 x12 x13 x14 x15 : Value) (h16 : Hs) =>
 clrK h x14 h16) fun k5 =>
 cnd x4
 (kNil a0 (fun x17 =>
 kFieldA 5 x17 (fun x18 =>
 kLoad x18 h0 (fun x19 =>
 kIdxA 4 x19 a1 (fun x20 =>
 kFieldA 3 x20 (fun x21 =>
 kLoad x21 h0 (fun x22 =>
 kLenV x22 (fun x23 =>
 jn (fun (x25 x26 x27 x28 x29 x30 x31 x32 : Value) (h33 : Hs) =>
 k5 x25 x23 x26 x22 x27 x28 x29 x30 x31 x32 h33) fun k24 =>
 lpT (T := Value → Value → Value → Value → Value → Value → Value → Value → Hs → An) (fun _ _ _ _ _ _ _ _ _ => none) N (fun k34 =>
 fun (x36 x37 x38 x39 x40 x41 x42 x43 : Value) (h44 : Hs) =>
 kI64 .lss x36 x23 (fun x45 =>
 jn (fun (h47 : Hs) =>
 jn (fun (x49 x50 x51 x52 x53 x54 : Value) (h55 : Hs) =>
 kI64 .add x36 (Value.int .i64 (.ofNat 1)) (fun x56 =>
 k34 x56 x45 x49 x50 x51 x52 x53 x54 h55)) fun k48 =>
 kIdxA 2 x22 x36 (fun x57 =>
 kLoads 2 x57 h47 (fun x58 =>
 after (fun x59 h60 =>
 after (fun x61 h62 =>
 kFieldA 1 x59 (fun x63 =>
 kLoad x63 h62 (fun x64 =>
 jn (fun (x66 x67 x68 x69 : Value) (h70 : Hs) =>
 k48 x59 x66 x64 x67 x68 x69 h70) fun k65 =>
 lpT (T := Value → Value → Value → Value → Hs → An) (fun _ _ _ _ _ => none) N (fun k71 =>
 fun (x73 x74 x75 x76 : Value) (h77 : Hs) =>
 kI64 .lss x73 x64 (fun x78 =>
 jn (fun (h80 : Hs) =>
 jn (fun (x82 x83 : Value) (h84 : Hs) =>
 kI64 .add x73 (Value.int .i64 (.ofNat 1)) (fun x85 =>
 k71 x85 x78 x82 x83 h84)) fun k81 =>
 kFieldA 0 x59 (fun x86 =>
 kLoad x86 h80 (fun x87 =>
 kI64 .add x87 x73 (fun x88 =>
 after (fun x89 h90 =>
 after (fun x91 h92 =>
 k81 x91 x73 h92) (app0 3 1 8 h90 x75 x89)) (oMkrow 3 1 1 [(Value.int .i64 (.ofNat 0))] [(0, 1, .c x88)] enE h80))))) fun k79 =>
 cnd x78
 (k79 h77)
 (k65 x73 x78 x75 x76 h77))) (Value.int .i64 (.ofNat 0)) x41 x42 x43 h62))) (store1 2 h60 (cellsL x58) (addrOf x59))) (oAlloc 38 [(Value.int .i64 (.ofNat 0)), (Value.int .i64 (.ofNat 0))] enE h47)))) fun k46 =>
 cnd x45
 (k46 h44)
 (k24 x36 x45 x38 x39 x40 x41 x42 x43 h44))) (Value.int .i64 (.ofNat 0)) dunno dunno dunno dunno dunno (Value.slice none 0 0) dunno h0))))))))
 (k5 dunno dunno dunno dunno dunno dunno dunno dunno (Value.slice none 0 0) dunno h0))))))

theorem q96 (R : RnK) (N : Nat) (args : List Value) (h : Hs) : r96 R N args h = callT Tryz.prog N R 96 args h := by kernel_rfl

/-- lintel/bits.Has -/
noncomputable def r99 (R : RnK) (N : Nat) (args : List Value) (h : Hs) : An := unC args fun a0 sq0 => unC sq0 fun a1 sq1 => enK h fun h0 =>
 after (fun x0 h1 =>
 kLoads 1 x0 h1 (fun x2 =>
 kCall R 48 [x2, a1] h1 (fun x3 h4 =>
 gdT x3 h4 (fun k5 => kFieldA 0 x0 (fun x6 => k5 x6 h4)) (fun x7 h8 =>
 gdT x3 h8 (fun k9 => kLoad x7 h8 (fun x10 => k9 x10 h8)) (fun x11 h12 =>
 gdT x3 h12 (fun k13 => k13 a1 h12) (fun x14 h15 =>
 gdT x3 h15 (fun k16 => kI64 .quo x14 (Value.int .i64 (.ofNat 64)) (fun x17 => k16 x17 h15)) (fun x18 h19 =>
 gdT x3 h19 (fun k20 => kIdxA 1 x11 x18 (fun x21 => k20 x21 h19)) (fun x22 h23 =>
 gdT x3 h23 (fun k24 => kLoad x22 h23 (fun x25 => k24 x25 h23)) (fun x26 h27 =>
 gdT x3 h27 (fun k28 => k28 a1 h27) (fun x29 h30 =>
 gdT x3 h30 (fun k31 => kI64 .rem x29 (Value.int .i64 (.ofNat 64)) (fun x32 => k31 x32 h30)) (fun x33 h34 =>
 gdT x3 h34 (fun k35 => kShr x26 x33 (fun x36 => k35 x36 h34)) (fun x37 h38 =>
 gdT x3 h38 (fun k39 => kU64 .and x37 (Value.int .u64 (.ofNat 1)) (fun x40 => k39 x40 h38)) (fun x41 h42 =>
 gdT x3 h42 (fun k43 => kU64 .eql x41 (Value.int .u64 (.ofNat 1)) (fun x44 => k43 x44 h42)) (fun x45 h46 =>
 after (fun x47 h48 =>
 clrK h x47 h48) (pickB (.c x45) (.c (Value.bool false)) enE h46 x3))))))))))))))) (oBox 71 (.c a0) enE h0)

theorem q99 (R : RnK) (N : Nat) (args : List Value) (h : Hs) : r99 R N args h = callT Tryz.prog N R 99 args h := by kernel_rfl

noncomputable def entries : List (Nat × FnK) := [(5, r5), (11, r11), (12, r12), (14, r14), (18, r18), (20, r20), (21, r21), (23, r23), (26, r26), (29, r29), (32, r32), (33, r33), (34, r34), (35, r35), (36, r36), (39, r39), (42, r42), (44, r44), (45, r45), (46, r46), (47, r47), (48, r48), (55, r55), (56, r56), (57, r57), (60, r60), (61, r61), (62, r62), (64, r64), (67, r67), (69, r69), (75, r75), (76, r76), (77, r77), (78, r78), (79, r79), (90, r90), (91, r91), (93, r93), (95, r95), (96, r96), (99, r99)]
theorem entries_ok : AllOk Tryz.prog entries := ⟨q5, q11, q12, q14, q18, q20, q21, q23, q26, q29, q32, q33, q34, q35, q36, q39, q42, q44, q45, q46, q47, q48, q55, q56, q57, q60, q61, q62, q64, q67, q69, q75, q76, q77, q78, q79, q90, q91, q93, q95, q96, q99, trivial⟩
end Go.Proofs.YtedgkbmfdniibaaGreatDoor.cureKnown
