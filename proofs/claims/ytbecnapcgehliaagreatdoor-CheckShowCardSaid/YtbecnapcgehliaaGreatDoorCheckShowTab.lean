/- The functions that 'CheckShow' reaches, in the fast evaluator's form, each held against the program's own text by the kernel. Written by a program. -/
import Derived.Test.YtbecnapcgehliaaGreatDoorGevKM
import Derived.Test.YtbecnapcgehliaaGreatDoorProg
import Derived.KernelRfl
namespace Go.Proofs.YtbecnapcgehliaaGreatDoor.checkShow
open Go.Gev
set_option linter.unusedVariables false
/-- lintel/image.Make -/
noncomputable def r6 (R : RnK) (N : Nat) (args : List Value) (h : Hs) : An := unC args fun a0 sq0 => enK h fun h0 =>
 after (fun x0 h1 =>
 kLoads 4 x0 h1 (fun x2 =>
 kCall R 13 [x2] h1 (fun x3 h4 =>
 kNot x3 (fun x5 =>
 jn (fun (x7 x8 : Value) (h9 : Hs) =>
 kFieldA 0 x0 (fun x10 =>
 kLoad x10 h9 (fun x11 =>
 kI64 .mul (Value.int .i64 (.ofNat 8)) x11 (fun x12 =>
 after (fun x13 h14 =>
 after (fun x15 h16 =>
 kStore1 x15 x13 h16 (fun x17 h18 =>
 after (fun x19 h20 =>
 kLoads 4 x0 h20 (fun x21 =>
 kCall R 15 [x21] h20 (fun x22 h23 =>
 kExtr x22 0 (fun x24 =>
 kExtr x22 1 (fun x25 =>
 kLoads 4 x0 h23 (fun x26 =>
 after (fun x27 h28 =>
 kCall R 16 [x27] h28 (fun x29 h30 =>
 kCallV R x19 [(Value.int .i64 (.ofNat 0)), x29] h30 (fun x31 h32 =>
 kLoads 4 x0 (Hs.mk h32.hp h32.nx h32.nx) (fun x33 =>
 kCall R 17 [x33] (Hs.mk h32.hp h32.nx h32.nx) (fun v146 u147 => dPut (fun x34 h35 =>
 kLoads 4 x0 (dHidS .light [false, false, false] [some (h32.nx, h35.nx), none, none] h35) (fun x36 =>
 after (fun v144 u145 => dPut (fun x37 h38 =>
 kCall R 16 [x37] h38 (fun v142 u143 => dPut (fun x39 h40 =>
 isVal (fun v140 u141 => dPut (fun x41 h42 =>
 kLoads 4 x0 h42 (fun x43 =>
 kCall R 18 [x43, (Value.int .i64 (.ofNat 1))] h42 (fun x44 h45 =>
 after (fun x46 h47 =>
 kCall R 19 [x46] h47 (fun x48 h49 =>
 kCallV R x19 [x44, x48] h49 (fun x50 h51 =>
 kLoads 4 x0 h51 (fun x52 =>
 kCall R 18 [x52, (Value.int .i64 (.ofNat 2))] h51 (fun x53 h54 =>
 after (fun x55 h56 =>
 after (fun x57 h58 =>
 after (fun x59 h60 =>
 kCall R 19 [x59] h60 (fun x61 h62 =>
 kCallV R x19 [x53, x61] h62 (fun x63 h64 =>
 kLoads 4 x0 h64 (fun x65 =>
 kCall R 20 [x65] h64 (fun x66 h67 =>
 kExtr x66 0 (fun x68 =>
 kExtr x66 1 (fun x69 =>
 kFieldA 0 x0 (fun x70 =>
 kLoad x70 h67 (fun x71 =>
 kCall R 21 [x71] h67 (fun x72 h73 =>
 after (fun x74 h75 =>
 kStore1 x74 x72 h75 (fun x76 h77 =>
 kFieldA 0 x0 (fun x78 =>
 kLoad x78 h77 (fun x79 =>
 jn (fun (x81 x82 x83 x84 : Value) (h85 : Hs) =>
 kLoads 4 x0 h85 (fun x86 =>
 kCall R 23 [x86] h85 (fun x87 h88 =>
 kExtr x87 0 (fun x89 =>
 kExtr x87 1 (fun x90 =>
 kFieldA 0 x74 (fun x91 =>
 kLoad x91 h88 (fun x92 =>
 kCallV R x19 [x89, x92] h88 (fun x93 h94 =>
 kLoad x15 h94 (fun x95 =>
 clrK h (Value.tuple #[x95, (Value.int .i64 (.ofNat 0))]) h94))))))))) fun k80 =>
 lpT (T := Value → Value → Value → Value → Hs → An) (fun _ _ _ _ _ => none) N (fun k96 =>
 fun (x98 x99 x100 x101 : Value) (h102 : Hs) =>
 kI64 .lss x98 x79 (fun x103 =>
 jn (fun (h105 : Hs) =>
 jn (fun (x107 x108 : Value) (h109 : Hs) =>
 kI64 .add x98 (Value.int .i64 (.ofNat 1)) (fun x110 =>
 k96 x110 x103 x107 x108 h109)) fun k106 =>
 kI64 .lss x98 x68 (fun x111 =>
 gdF x111 h105 (fun k112 => k112 x98 h105) (fun x113 h114 =>
 gdF x111 h114 (fun k115 => k115 x68 h114) (fun x116 h117 =>
 gdF x111 h117 (fun k118 => k118 x69 h117) (fun x119 h120 =>
 gdF x111 h120 (fun k121 => kI64 .add x116 x119 (fun x122 => k121 x122 h120)) (fun x123 h124 =>
 gdF x111 h124 (fun k125 => kI64 .geq x113 x123 (fun x126 => k125 x126 h124)) (fun x127 h128 =>
 after (fun x129 h130 =>
 jn (fun (h132 : Hs) =>
 k106 x98 x129 h132) fun k131 =>
 cnd x129
 (kLoads 1 x74 h130 (fun x133 =>
 after (fun x134 h135 =>
 kCall R 22 [x133, (Value.bool true), x134] h135 (fun x136 h137 =>
 kStore1 x74 x136 h137 (fun x138 h139 =>
 k131 h139))) (oMkrow 3 1 1 [(Value.int .i64 (.ofNat 0))] [(0, 1, .c x98)] enE h130)))
 (k131 h130)) (pickB (.c (Value.bool true)) (.c x127) enE h128 x111)))))))) fun k104 =>
 cnd x103
 (k104 h102)
 (k80 x98 x103 x100 x101 h102))) (Value.int .i64 (.ofNat 0)) dunno dunno dunno h77)))) (oAlloc 61 [(Value.slice none 0 0)] enE h73))))))))))) (oBuild [(Value.int .i64 (.ofNat 0)), (Value.int .i64 (.ofNat 0)), (Value.int .i64 (.ofNat 0)), (Value.slice none 0 0)] [(0, 1, .c (Value.int .i64 (.ofNat 2))), (1, 1, .c (Value.int .i64 (.ofNat 1))), (2, 1, .c x25), (3, 1, .c x57)] enE h58)) (oMkrow 59 2 1 [(Value.int .i64 (.ofNat 0)), (Value.int .i64 (.ofNat 0))] [(0, 2, .c x55)] enE h56)) (oBuild [(Value.int .i64 (.ofNat 0)), (Value.int .i64 (.ofNat 0))] [(0, 1, .c x24), (1, 1, .c x25)] enE h54)))))) (oBuild [(Value.int .i64 (.ofNat 0)), (Value.int .i64 (.ofNat 0)), (Value.int .i64 (.ofNat 0)), (Value.slice none 0 0)] [(0, 1, .c (Value.int .i64 (.ofNat 2))), (1, 1, .c (Value.int .i64 (.ofNat 1)))] enE h45)))) v140 (dNext h40 u141 .bar) (andB (dFit h40 u141 .bar) (Nat.ble 0 u141.lo))) (callV (toRn R) [x34, x39] h40 x19)) v142 (dNext h38 u143 .bar) (andB (dFit h38 u143 .bar) (Nat.ble 0 u143.lo)))) v144 (dNext h35 u145 .blind) (andB (dFit h35 u145 .blind) (Nat.ble 0 u145.lo))) (oBuild [(Value.int .i64 (.ofNat 0)), (Value.int .i64 (.ofNat 0)), (Value.int .i64 (.ofNat 0)), (Value.int .i64 (.ofNat 0)), (Value.int .u64 (.ofNat 0))] [(0, 4, .c x36)] enE (Hs.mk .e h35.nx h35.nx)))) v146 (dNext h32 u147 .light) (andB (dFit h32 u147 .light) (Nat.ble 0 u147.lo))))))) (oBuild [(Value.int .i64 (.ofNat 0)), (Value.int .i64 (.ofNat 0)), (Value.int .i64 (.ofNat 0)), (Value.int .i64 (.ofNat 0)), (Value.int .u64 (.ofNat 0))] [(0, 4, .c x26)] enE h23))))))) (oMkfunc (.func 14) [] [.c x15] enE h18))) (oAlloc 27 [(Value.slice none 0 0)] enE h14)) (mkslice1 49 1 8 [(Value.int .u64 (.ofNat 0))] h9 (natOf x12) (natOf x12)))))) fun k6 =>
 cnd x5
 (clrK h (Value.tuple #[(Value.slice none 0 0), (Value.int .i64 (.ofNat 1))]) h4)
 (k6 (Value.slice none 0 0) (Value.int .i64 (.ofNat 0)) h4))))) (oBox 32 (.c a0) enE h0)

theorem q6 (R : RnK) (N : Nat) (args : List Value) (h : Hs) : r6 R N args h = callT Tryz.prog N R 6 args h := by kernel_rfl

/-- lintel/geom.Good -/
noncomputable def r13 (R : RnK) (N : Nat) (args : List Value) (h : Hs) : An := unC args fun a0 sq0 => enK h fun h0 =>
 after (fun x0 h1 =>
 kFieldA 0 x0 (fun x2 =>
 kLoad x2 h1 (fun x3 =>
 kCall R 40 [x3, (Value.int .i64 (.ofNat 64)), (Value.int .i64 (.ofNat 1024))] h1 (fun x4 h5 =>
 kNot x4 (fun x6 =>
 gdF x6 h5 (fun k7 => kFieldA 1 x0 (fun x8 => k7 x8 h5)) (fun x9 h10 =>
 gdF x6 h10 (fun k11 => kLoad x9 h10 (fun x12 => k11 x12 h10)) (fun x13 h14 =>
 gdF x6 h14 (fun k15 => kCall R 40 [x13, (Value.int .i64 (.ofNat 4)), (Value.int .i64 (.ofNat 64))] h14 (k15)) (fun x16 h17 =>
 gdF x6 h17 (fun k18 => kNot x16 (fun x19 => k18 x19 h17)) (fun x20 h21 =>
 after (fun x22 h23 =>
 gdF x22 h23 (fun k24 => kFieldA 2 x0 (fun x25 => k24 x25 h23)) (fun x26 h27 =>
 gdF x22 h27 (fun k28 => kLoad x26 h27 (fun x29 => k28 x29 h27)) (fun x30 h31 =>
 gdF x22 h31 (fun k32 => kCall R 40 [x30, (Value.int .i64 (.ofNat 1)), (Value.int .i64 (.ofNat 8))] h31 (k32)) (fun x33 h34 =>
 gdF x22 h34 (fun k35 => kNot x33 (fun x36 => k35 x36 h34)) (fun x37 h38 =>
 after (fun x39 h40 =>
 gdF x39 h40 (fun k41 => kFieldA 3 x0 (fun x42 => k41 x42 h40)) (fun x43 h44 =>
 gdF x39 h44 (fun k45 => kLoad x43 h44 (fun x46 => k45 x46 h44)) (fun x47 h48 =>
 gdF x39 h48 (fun k49 => kCall R 40 [x47, (Value.int .i64 (.ofNat 16)), (Value.int .i64 (.ofNat 110))] h48 (k49)) (fun x50 h51 =>
 gdF x39 h51 (fun k52 => kNot x50 (fun x53 => k52 x53 h51)) (fun x54 h55 =>
 after (fun x56 h57 =>
 jn (fun (x59 : Value) (h60 : Hs) =>
 kLoads 4 x0 h60 (fun x61 =>
 kCall R 41 [x61] h60 (fun x62 h63 =>
 kExtr x62 0 (fun x64 =>
 kExtr x62 1 (fun x65 =>
 kI64 .geq x65 (Value.int .i64 (.ofNat 1)) (fun x66 =>
 clrK h x66 h63)))))) fun k58 =>
 cnd x56
 (clrK h (Value.bool false) h57)
 (k58 (Value.bool false) h57)) (pickB (.c (Value.bool true)) (.c x54) enE h55 x39)))))) (pickB (.c (Value.bool true)) (.c x37) enE h38 x22)))))) (pickB (.c (Value.bool true)) (.c x20) enE h21 x6)))))))))) (oBox 32 (.c a0) enE h0)

theorem q13 (R : RnK) (N : Nat) (args : List Value) (h : Hs) : r13 R N args h = callT Tryz.prog N R 13 args h := by kernel_rfl

/-- lintel/geom.Node -/
noncomputable def r18 (R : RnK) (N : Nat) (args : List Value) (h : Hs) : An := unC args fun a0 sq0 => unC sq0 fun a1 sq1 => enK h fun h0 =>
 after (fun x0 h1 =>
 kLoads 4 x0 h1 (fun x2 =>
 kCall R 13 [x2] h1 (fun x3 h4 =>
 kNot x3 (fun x5 =>
 gdF x5 h4 (fun k6 => k6 a1 h4) (fun x7 h8 =>
 gdF x5 h8 (fun k9 => kFieldA 1 x0 (fun x10 => k9 x10 h8)) (fun x11 h12 =>
 gdF x5 h12 (fun k13 => kLoad x11 h12 (fun x14 => k13 x14 h12)) (fun x15 h16 =>
 gdF x5 h16 (fun k17 => kCall R 40 [x7, (Value.int .i64 (.ofNat 1)), x15] h16 (k17)) (fun x18 h19 =>
 gdF x5 h19 (fun k20 => kNot x18 (fun x21 => k20 x21 h19)) (fun x22 h23 =>
 after (fun x24 h25 =>
 jn (fun (x27 : Value) (h28 : Hs) =>
 kLoads 4 x0 h28 (fun x29 =>
 kCall R 43 [x29] h28 (fun x30 h31 =>
 kExtr x30 0 (fun x32 =>
 kExtr x30 1 (fun x33 =>
 kI64 .add x32 x33 (fun x34 =>
 kI64 .add x34 a1 (fun x35 =>
 kI64 .sub x35 (Value.int .i64 (.ofNat 1)) (fun x36 =>
 clrK h x36 h31)))))))) fun k26 =>
 cnd x24
 (clrK h (Value.int .i64 (.ofNat 0)) h25)
 (k26 (Value.int .i64 (.ofNat 0)) h25)) (pickB (.c (Value.bool true)) (.c x22) enE h23 x5)))))))))) (oBox 32 (.c a0) enE h0)

theorem q18 (R : RnK) (N : Nat) (args : List Value) (h : Hs) : r18 R N args h = callT Tryz.prog N R 18 args h := by kernel_rfl

/-- lintel/bits.Set -/
noncomputable def r22 (R : RnK) (N : Nat) (args : List Value) (h : Hs) : An := unC args fun a0 sq0 => unC sq0 fun a1 sq1 => unC sq1 fun a2 sq2 => enK h fun h0 =>
 after (fun x0 h1 =>
 after (fun x2 h3 =>
 kFieldA 0 x0 (fun x4 =>
 kLoad x4 h3 (fun x5 =>
 kCall R 45 [x5] h3 (fun x6 h7 =>
 after (fun x8 h9 =>
 after (fun x10 h11 =>
 kStore1 x10 x8 h11 (fun x12 h13 =>
 kLenV a2 (fun x14 =>
 jn (fun (x16 x17 x18 x19 x20 : Value) (h21 : Hs) =>
 kLoads 1 x10 h21 (fun x22 =>
 kStore1 x2 x22 h21 (fun x23 h24 =>
 clearUp h (packR h24 (resV enE h24 [.cell (.c x2) 1 true]))))) fun k15 =>
 lpT (T := Value → Value → Value → Value → Value → Hs → An) (fun _ _ _ _ _ _ => none) N (fun k25 =>
 fun (x27 x28 x29 x30 x31 : Value) (h32 : Hs) =>
 kI64 .lss x27 x14 (fun x33 =>
 jn (fun (h35 : Hs) =>
 jn (fun (x37 x38 x39 : Value) (h40 : Hs) =>
 kI64 .add x27 (Value.int .i64 (.ofNat 1)) (fun x41 =>
 k25 x41 x33 x37 x38 x39 h40)) fun k36 =>
 kIdxA 1 a2 x27 (fun x42 =>
 kLoad x42 h35 (fun x43 =>
 kLoads 1 x0 h35 (fun x44 =>
 kCall R 46 [x44, x43] h35 (fun x45 h46 =>
 kNot x45 (fun x47 =>
 jn (fun (h49 : Hs) =>
 kFieldA 0 x10 (fun x50 =>
 kLoad x50 h49 (fun x51 =>
 kI64 .quo x43 (Value.int .i64 (.ofNat 64)) (fun x52 =>
 kIdxA 1 x51 x52 (fun x53 =>
 kLoad x53 h49 (fun x54 =>
 kI64 .rem x43 (Value.int .i64 (.ofNat 64)) (fun x55 =>
 kShl (Value.int .u64 (.ofNat 1)) x55 (fun x56 =>
 kU64 .andNot x54 x56 (fun x57 =>
 kIdxA 1 x51 x52 (fun x58 =>
 kStore1 x58 x57 h49 (fun v76 u77 => dPut (fun x59 h60 =>
 jn (fun (h62 : Hs) =>
 k36 x43 x47 a1 h62) fun k61 =>
 cnd a1
 (kFieldA 0 x10 (fun x63 =>
 kLoad x63 h60 (fun x64 =>
 kI64 .quo x43 (Value.int .i64 (.ofNat 64)) (fun x65 =>
 kIdxA 1 x64 x65 (fun x66 =>
 kLoad x66 h60 (fun x67 =>
 kI64 .rem x43 (Value.int .i64 (.ofNat 64)) (fun x68 =>
 kShl (Value.int .u64 (.ofNat 1)) x68 (fun x69 =>
 kU64 .or x67 x69 (fun x70 =>
 kIdxA 1 x64 x65 (fun x71 =>
 kStore1 x71 x70 h60 (fun v74 u75 => dPut (fun x72 h73 =>
 k61 h73) v74 (dNext h60 u75 .bar) (andB (dFit h60 u75 .bar) (Nat.ble 0 u75.lo)))))))))))))
 (k61 h60)) v76 (dNext h49 u77 .bar) (andB (dFit h49 u77 .bar) (Nat.ble 0 u77.lo))))))))))))) fun k48 =>
 cnd x47
 (k36 x43 x47 x31 h46)
 (k48 h46))))))) fun k34 =>
 cnd x33
 (k34 h32)
 (k15 x27 x33 x29 x30 x31 h32))) (Value.int .i64 (.ofNat 0)) dunno dunno dunno dunno h13))) (oAlloc 61 [(Value.slice none 0 0)] enE h9)) (oBuild [(Value.slice none 0 0)] [(0, 1, .c x6)] enE h7))))) (oAlloc 61 [(Value.slice none 0 0)] enE h1)) (oBox 61 (.c a0) enE h0)

theorem q22 (R : RnK) (N : Nat) (args : List Value) (h : Hs) : r22 R N args h = callT Tryz.prog N R 22 args h := by kernel_rfl

/-- (*lintel/check.looker).slots -/
noncomputable def r29 (R : RnK) (N : Nat) (args : List Value) (h : Hs) : An := unC args fun a0 sq0 => enK h fun h0 =>
 after (fun x0 h1 =>
 kNil a0 (fun x2 =>
 kFieldA 6 x2 (fun x3 =>
 kLoad x3 h1 (fun x4 =>
 kLenV x4 (fun x5 =>
 jn (fun (x7 x8 x9 x10 x11 x12 x13 x14 x15 x16 x17 x18 x19 x20 x21 x22 x23 x24 x25 : Value) (h26 : Hs) =>
 clrK h (Value.tuple #[]) h26) fun k6 =>
 lpT (T := Value → Value → Value → Value → Value → Value → Value → Value → Value → Value → Value → Value → Value → Value → Value → Value → Value → Value → Value → Hs → An) (fun _ _ _ _ _ _ _ _ _ _ _ _ _ _ _ _ _ _ _ _ => none) N (fun k27 =>
 fun (x29 x30 x31 x32 x33 x34 x35 x36 x37 x38 x39 x40 x41 x42 x43 x44 x45 x46 x47 : Value) (h48 : Hs) =>
 kI64 .lss x29 x5 (fun x49 =>
 jn (fun (h51 : Hs) =>
 jn (fun (x53 x54 x55 x56 x57 x58 x59 x60 x61 x62 x63 x64 x65 x66 x67 x68 x69 : Value) (h70 : Hs) =>
 kI64 .add x29 (Value.int .i64 (.ofNat 1)) (fun x71 =>
 k27 x71 x49 x53 x54 x55 x56 x57 x58 x59 x60 x61 x62 x63 x64 x65 x66 x67 x68 x69 h70)) fun k52 =>
 kNil a0 (fun x72 =>
 kFieldA 6 x72 (fun x73 =>
 kLoad x73 h51 (fun x74 =>
 kIdxA 1 x74 x29 (fun x75 =>
 kLoad x75 h51 (fun x76 =>
 kNot x76 (fun x77 =>
 gdF x77 h51 (fun k78 => k78 a0 h51) (fun x79 h80 =>
 gdF x77 h80 (fun k81 => kNil x79 (fun x82 => k81 x82 h80)) (fun x83 h84 =>
 gdF x77 h84 (fun k85 => kFieldA 5 x83 (fun x86 => k85 x86 h84)) (fun x87 h88 =>
 gdF x77 h88 (fun k89 => kLoad x87 h88 (fun x90 => k89 x90 h88)) (fun x91 h92 =>
 gdF x77 h92 (fun k93 => k93 x29 h92) (fun x94 h95 =>
 gdF x77 h95 (fun k96 => kIdxA 4 x91 x94 (fun x97 => k96 x97 h95)) (fun x98 h99 =>
 gdF x77 h99 (fun k100 => kFieldA 0 x98 (fun x101 => k100 x101 h99)) (fun x102 h103 =>
 gdF x77 h103 (fun k104 => kLoad x102 h103 (fun x105 => k104 x105 h103)) (fun x106 h107 =>
 gdF x77 h107 (fun k108 => kI64 .neq x106 (Value.int .i64 (.ofNat 2)) (fun x109 => k108 x109 h107)) (fun x110 h111 =>
 after (fun x112 h113 =>
 jn (fun (h115 : Hs) =>
 after (fun x116 h117 =>
 kCall R 55 [a0, x29] h117 (fun x118 h119 =>
 kLenV x118 (fun x120 =>
 jn (fun (x122 x123 x124 x125 x126 x127 x128 x129 x130 x131 x132 x133 : Value) (h134 : Hs) =>
 k52 x29 x112 x122 x120 x123 x118 x124 x125 x126 x127 x128 x129 x116 x130 x131 x132 x133 h134) fun k121 =>
 lpT (T := Value → Value → Value → Value → Value → Value → Value → Value → Value → Value → Value → Value → Hs → An) (fun _ _ _ _ _ _ _ _ _ _ _ _ _ => none) N (fun k135 =>
 fun (x137 x138 x139 x140 x141 x142 x143 x144 x145 x146 x147 x148 : Value) (h149 : Hs) =>
 kI64 .lss x137 x120 (fun x150 =>
 jn (fun (h152 : Hs) =>
 jn (fun (x154 x155 x156 x157 x158 x159 x160 x161 x162 x163 : Value) (h164 : Hs) =>
 kI64 .add x137 (Value.int .i64 (.ofNat 1)) (fun x165 =>
 k135 x165 x150 x154 x155 x156 x157 x158 x159 x160 x161 x162 x163 h164)) fun k153 =>
 kIdxA 1 x118 x137 (fun x166 =>
 kLoad x166 h152 (fun x167 =>
 kNil a0 (fun x168 =>
 kFieldA 0 x168 (fun x169 =>
 kLoads 5 x169 h152 (fun x170 =>
 kCall R 49 [x170, x167] h152 (fun x171 h172 =>
 kCall R 56 [x171] h172 (fun x173 h174 =>
 kExtr x173 0 (fun x175 =>
 kExtr x173 1 (fun x176 =>
 after (fun x177 h178 =>
 after (fun x179 h180 =>
 kNot x176 (fun x181 =>
 jn (fun (h183 : Hs) =>
 kFieldA 0 x177 (fun x184 =>
 kLoad x184 h183 (fun x185 =>
 kI64 .eql x185 (Value.int .i64 (.ofNat 0)) (fun x186 =>
 jn (fun (h188 : Hs) =>
 kLoads 2 x177 h188 (fun x189 =>
 after (fun x190 h191 =>
 kFieldA 1 x177 (fun x192 =>
 kLoad x192 h191 (fun x193 =>
 after (fun x194 h195 =>
 kCall R 57 [a0, x190, x194] h195 (fun x196 h197 =>
 kFieldA 1 x177 (fun x198 =>
 kLoad x198 h197 (fun x199 =>
 after (fun x200 h201 =>
 kI64 .eql x196 (Value.int .i64 (.ofNat 0)) (fun x202 =>
 gdT x202 h201 (fun k203 => k203 a0 h201) (fun x204 _ =>
 gdT x202 h201 (fun k206 => kNil x204 (fun x207 => k206 x207 h201)) (fun x208 _ =>
 gdT x202 h201 (fun k210 => kFieldA 5 x208 (fun x211 => k210 x211 h201)) (fun x212 _ =>
 gdT x202 h201 (fun k214 => kLoad x212 (Hs.mk h201.hp h201.nx h201.nx) (fun x215 => k214 x215 h201)) (fun x216 _ =>
 gdT x202 h201 (fun k218 => kFieldA 0 x177 (fun x219 => k218 x219 h201)) (fun x220 _ =>
 gdT x202 h201 (fun k222 => kLoad x220 (Hs.mk h201.hp h201.nx h201.nx) (fun x223 => k222 x223 h201)) (fun x224 _ =>
 gdT x202 h201 (fun k226 => kIdxA 4 x216 x224 (fun x227 => k226 x227 h201)) (fun x228 _ =>
 gdT x202 h201 (fun k230 => kFieldA 0 x228 (fun x231 => k230 x231 h201)) (fun x232 _ =>
 gdT x202 h201 (fun k234 => kLoad x232 h201 (fun x235 => k234 x235 h201)) (fun x236 _ =>
 gdT x202 h201 (fun k238 => kI64 .eql x236 (Value.int .i64 (.ofNat 2)) (fun x239 => k238 x239 h201)) (fun x240 _ =>
 after (fun v286 u287 => dPut (fun x242 h243 =>
 jn (fun (x245 x246 : Value) (h247 : Hs) =>
 kI64 .neq x245 (Value.int .i64 (.ofNat 0)) (fun x248 =>
 jn (fun (h250 : Hs) =>
 k153 x167 x176 x181 x137 x177 x186 x245 x242 x246 x248 h250) fun k249 =>
 cnd x248
 (kCall R 50 [a0, (Value.int .i64 (.ofNat 4)), x245, x29, x137] h247 (fun x251 h252 =>
 k249 h252))
 (kNil a0 (fun x253 =>
 kFieldA 7 x253 (fun x254 =>
 kLoad x254 (Hs.mk h247.hp h247.nx h247.nx) (fun x255 =>
 kLoads 2 x177 (Hs.mk h247.hp h247.nx h247.nx) (fun x256 =>
 after (fun v273 u274 => dPut (fun x257 h258 =>
 after (fun v271 u272 => dPut (fun x259 h260 =>
 after (fun v269 u270 => dPut (fun x261 h262 =>
 kNil a0 (fun x263 =>
 kFieldA 7 x263 (fun x264 =>
 kStore1 x264 x261 h262 (fun v267 u268 => dPut (fun x265 h266 =>
 k249 h266) v267 (dNext h262 u268 .bar) (andB (dFit h262 u268 .bar) (Nat.ble 0 u268.lo)))))) v269 (dNext h260 u270 .bar) (andB (dFit h260 u270 .bar) (Nat.ble 0 u270.lo))) (app0 114 4 40 h260 x255 x259)) v271 (dNext h258 u272 .light) (andB (dFit h258 u272 .light) (Nat.ble 0 u272.lo))) (oMkrow 114 4 1 [(Value.int .i64 (.ofNat 0)), (Value.int .i64 (.ofNat 0)), (Value.int .i64 (.ofNat 0)), (Value.string ⟨#[]⟩)] [(0, 4, .c x257)] enE (dHidS .light [true, true, true, true, false, false, false, false, false] [some (h247.nx, h258.nx), none, none, none, none, none, none, none, none] h258))) v273 (dNext h247 u274 .blind) (andB (dFit h247 u274 .blind) (Nat.ble 0 u274.lo))) (oBuild [(Value.int .i64 (.ofNat 0)), (Value.int .i64 (.ofNat 0)), (Value.int .i64 (.ofNat 0)), (Value.string ⟨#[]⟩)] [(0, 1, .c x29), (1, 1, .c x137), (2, 2, .c x256)] enE (Hs.mk .e h247.nx h247.nx))))))))) fun k244 =>
 cnd x242
 (kFieldA 0 x177 (fun x275 =>
 kLoad x275 h243 (fun x276 =>
 after (fun x277 h278 =>
 jn (fun (x280 : Value) (h281 : Hs) =>
 kFieldA 0 x177 (fun x282 =>
 kLoad x282 h281 (fun x283 =>
 after (fun x284 h285 =>
 k244 x280 x277 h285) (mapup1 true h281 x283 (Value.bool true) x0)))) fun k279 =>
 cnd x277
 (k279 (Value.int .i64 (.ofNat 6)) h278)
 (k279 x196 h278)) (ret1 h243 (lk1 true h243 (Value.bool false) false x276 x0)))))
 (k244 x196 x147 h243)) v286 (dNext h201 u287 .blind) (andB (dFit h201 u287 .blind) (Nat.ble 0 u287.lo))) (pickB (.c x240) (.c (Value.bool false)) enE (Hs.mk .e h201.nx h201.nx) x202))))))))))))) (mapup1 false h197 x199 (Value.bool true) x116))))) (ret1 h191 (lk1 false h191 (Value.bool false) false x193 x116))))) (oBuild [(Value.int .i64 (.ofNat 0)), (Value.int .i64 (.ofNat 0)), (Value.int .i64 (.ofNat 0)), (Value.string ⟨#[]⟩)] [(0, 1, .c x29), (1, 1, .c x137), (2, 2, .c x189)] enE h188))) fun k187 =>
 cnd x186
 (k153 x167 x176 x181 x137 x177 x186 x145 x146 x147 x148 h183)
 (k187 h183))))) fun k182 =>
 cnd x181
 (kCall R 50 [a0, (Value.int .i64 (.ofNat 4)), (Value.int .i64 (.ofNat 1)), x29, x137] h180 (fun x288 h289 =>
 k153 x167 x176 x181 x137 x177 x144 x145 x146 x147 x148 h289))
 (k182 h180))) (store1 2 h178 (cellsL x175) (addrOf x177))) (oAlloc 109 [(Value.int .i64 (.ofNat 0)), (Value.string ⟨#[]⟩)] enE h174))))))))))) fun k151 =>
 cnd x150
 (k151 h149)
 (k121 x137 x150 x139 x140 x141 x142 x143 x144 x145 x146 x147 x148 h149))) (Value.int .i64 (.ofNat 0)) x35 x37 x38 x39 x40 x41 x42 x44 x45 x46 x47 h119))) (mkmap1 h115 (Value.int .i64 0))) fun k114 =>
 cnd x112
 (k52 x29 x112 x33 x34 x35 x36 x37 x38 x39 x40 x41 x42 x43 x44 x45 x46 x47 h113)
 (k114 h113)) (pickB (.c (Value.bool true)) (.c x110) enE h111 x77))))))))))))))))) fun k50 =>
 cnd x49
 (k50 h48)
 (k6 x29 x49 x31 x32 x33 x34 x35 x36 x37 x38 x39 x40 x41 x42 x43 x44 x45 x46 x47 h48))) (Value.int .i64 (.ofNat 0)) dunno dunno dunno dunno dunno dunno dunno dunno dunno dunno dunno dunno dunno dunno dunno dunno dunno dunno h1))))) (mkmap1 h0 (Value.int .i64 0))

theorem q29 (R : RnK) (N : Nat) (args : List Value) (h : Hs) : r29 R N args h = callT Tryz.prog N R 29 args h := by kernel_rfl

/-- (*lintel/check.looker).taken -/
noncomputable def r32 (R : RnK) (N : Nat) (args : List Value) (h : Hs) : An := unC args fun a0 sq0 => enK h fun h0 =>
 kNil a0 (fun x0 =>
 kFieldA 0 x0 (fun x1 =>
 kFieldA 0 x1 (fun x2 =>
 kLoads 4 x2 h0 (fun x3 =>
 kCall R 20 [x3] h0 (fun x4 h5 =>
 kExtr x4 0 (fun x6 =>
 kExtr x4 1 (fun x7 =>
 after (fun x8 h9 =>
 kNil a0 (fun x10 =>
 kFieldA 6 x10 (fun x11 =>
 kLoad x11 h9 (fun x12 =>
 kLenV x12 (fun x13 =>
 jn (fun (x15 x16 x17 x18 x19 x20 x21 x22 : Value) (h23 : Hs) =>
 kNil a0 (fun x24 =>
 kFieldA 0 x24 (fun x25 =>
 kLoads 5 x25 h23 (fun x26 =>
 kCall R 58 [x26] h23 (fun x27 h28 =>
 after (fun x29 h30 =>
 kStore1 x29 x27 h30 (fun x31 h32 =>
 kFieldA 0 x29 (fun x33 =>
 kLoad x33 h32 (fun x34 =>
 kLenV x34 (fun x35 =>
 kI64 .mul (Value.int .i64 (.ofNat 64)) x35 (fun x36 =>
 jn (fun (x38 x39 x40 x41 x42 x43 x44 x45 : Value) (h46 : Hs) =>
 clrK h (Value.tuple #[]) h46) fun k37 =>
 lpT (T := Value → Value → Value → Value → Value → Value → Value → Value → Hs → An) (fun _ _ _ _ _ _ _ _ _ => none) N (fun k47 =>
 fun (x49 x50 x51 x52 x53 x54 x55 x56 : Value) (h57 : Hs) =>
 kI64 .lss x49 x36 (fun x58 =>
 jn (fun (h60 : Hs) =>
 jn (fun (x62 x63 x64 x65 x66 x67 : Value) (h68 : Hs) =>
 kI64 .add x49 (Value.int .i64 (.ofNat 1)) (fun x69 =>
 k47 x69 x58 x62 x63 x64 x65 x66 x67 h68)) fun k61 =>
 kI64 .lss x49 x6 (fun x70 =>
 gdF x70 h60 (fun k71 => k71 x49 h60) (fun x72 h73 =>
 gdF x70 h73 (fun k74 => k74 x6 h73) (fun x75 h76 =>
 gdF x70 h76 (fun k77 => k77 x7 h76) (fun x78 h79 =>
 gdF x70 h79 (fun k80 => kI64 .add x75 x78 (fun x81 => k80 x81 h79)) (fun x82 h83 =>
 gdF x70 h83 (fun k84 => kI64 .geq x72 x82 (fun x85 => k84 x85 h83)) (fun x86 h87 =>
 after (fun x88 h89 =>
 gdF x88 h89 (fun k90 => k90 x8 h89) (fun x91 h92 =>
 gdF x88 h92 (fun k93 => k93 x49 h92) (fun x94 h95 =>
 gdF x88 h95 (fun k96 => after (k96) (ret1 h95 (lk1 true h95 (Value.bool false) false x94 x91))) (fun x97 h98 =>
 after (fun x99 h100 =>
 jn (fun (x102 x103 x104 x105 : Value) (h106 : Hs) =>
 k61 x49 x102 x103 x99 x104 x105 h106) fun k101 =>
 kNil a0 (fun x107 =>
 kFieldA 0 x107 (fun x108 =>
 kFieldA 0 x108 (fun x109 =>
 kFieldA 0 x109 (fun x110 =>
 kLoad x110 h100 (fun x111 =>
 kI64 .geq x49 x111 (fun x112 =>
 jn (fun (x114 x115 x116 : Value) (h117 : Hs) =>
 k101 x112 x114 x115 x116 h117) fun k113 =>
 cnd x112
 (kLoads 1 x29 h100 (fun x118 =>
 kCall R 59 [x118, x49] h100 (fun x119 h120 =>
 jn (fun (h122 : Hs) =>
 k113 x119 x55 x56 h122) fun k121 =>
 cnd x119
 (kCall R 50 [a0, (Value.int .i64 (.ofNat 7)), (Value.int .i64 (.ofNat 2)), x49, (Value.int .i64 (.ofNat 0))] h120 (fun x123 h124 =>
 k121 h124))
 (k121 h120))))
 (kLoads 1 x29 h100 (fun x125 =>
 kCall R 59 [x125, x49] h100 (fun x126 h127 =>
 obK (fun x128 =>
 gdT x128 h127 (fun k129 => k129 x99 h127) (fun x130 h131 =>
 after (fun x132 h133 =>
 jn (fun (x135 : Value) (h136 : Hs) =>
 k113 x53 x132 x135 h136) fun k134 =>
 cnd x132
 (kCall R 50 [a0, (Value.int .i64 (.ofNat 7)), (Value.int .i64 (.ofNat 1)), x49, (Value.int .i64 (.ofNat 1))] h133 (fun x137 h138 =>
 k134 x56 h138))
 (kLoads 1 x29 h133 (fun x139 =>
 kCall R 59 [x139, x49] h133 (fun x140 h141 =>
 obK (fun x142 =>
 jn (fun (h144 : Hs) =>
 k134 x142 h144) fun k143 =>
 cnd x142
 (kCall R 50 [a0, (Value.int .i64 (.ofNat 7)), (Value.int .i64 (.ofNat 1)), x49, (Value.int .i64 (.ofNat 0))] h141 (fun x145 h146 =>
 k143 h146))
 (k143 h141)) (e2 true qB x140 x99))))) (pickB (.c x130) (.c (Value.bool false)) enE h131 x128))) (e2 true qB x126 x99))))))))))) (pickB (.c (Value.bool true)) (.c x97) enE h98 x88))))) (pickB (.c (Value.bool true)) (.c x86) enE h87 x70)))))))) fun k59 =>
 cnd x58
 (k59 h57)
 (k37 x49 x58 x51 x52 x53 x54 x55 x56 h57))) (Value.int .i64 (.ofNat 0)) dunno dunno dunno dunno dunno dunno dunno h32)))))) (oAlloc 61 [(Value.slice none 0 0)] enE h28)))))) fun k14 =>
 lpT (T := Value → Value → Value → Value → Value → Value → Value → Value → Hs → An) (fun _ _ _ _ _ _ _ _ _ => none) N (fun k147 =>
 fun (x149 x150 x151 x152 x153 x154 x155 x156 : Value) (h157 : Hs) =>
 kI64 .lss x149 x13 (fun x158 =>
 jn (fun (h160 : Hs) =>
 jn (fun (x162 x163 x164 x165 x166 x167 : Value) (h168 : Hs) =>
 kI64 .add x149 (Value.int .i64 (.ofNat 1)) (fun x169 =>
 k147 x169 x158 x162 x163 x164 x165 x166 x167 h168)) fun k161 =>
 kCall R 55 [a0, x149] h160 (fun x170 h171 =>
 kLenV x170 (fun x172 =>
 jn (fun (x174 x175 x176 : Value) (h177 : Hs) =>
 k161 x149 x174 x172 x175 x170 x176 h177) fun k173 =>
 lpT (T := Value → Value → Value → Hs → An) (fun _ _ _ _ => none) N (fun k178 =>
 fun (x180 x181 x182 : Value) (h183 : Hs) =>
 kI64 .lss x180 x172 (fun x184 =>
 jn (fun (h186 : Hs) =>
 jn (fun (x188 : Value) (h189 : Hs) =>
 kI64 .add x180 (Value.int .i64 (.ofNat 1)) (fun x190 =>
 k178 x190 x184 x188 h189)) fun k187 =>
 kIdxA 1 x170 x180 (fun x191 =>
 kLoad x191 h186 (fun x192 =>
 after (fun x193 h194 =>
 k187 x192 h194) (mapup1 true h186 x192 (Value.bool true) x8)))) fun k185 =>
 cnd x184
 (k185 h183)
 (k173 x180 x184 x182 h183))) (Value.int .i64 (.ofNat 0)) x154 x156 h171))) fun k159 =>
 cnd x158
 (k159 h157)
 (k14 x149 x158 x151 x152 x153 x154 x155 x156 h157))) (Value.int .i64 (.ofNat 0)) dunno dunno dunno dunno dunno dunno dunno h9))))) (mkmap1 h5 (Value.int .i64 0)))))))))

theorem q32 (R : RnK) (N : Nat) (args : List Value) (h : Hs) : r32 R N args h = callT Tryz.prog N R 32 args h := by kernel_rfl

/-- lintel/geom.in -/
noncomputable def r40 (R : RnK) (N : Nat) (args : List Value) (h : Hs) : An := unC args fun a0 sq0 => unC sq0 fun a1 sq1 => unC sq1 fun a2 sq2 => enK h fun h0 =>
 kI64 .geq a0 a1 (fun x0 =>
 gdT x0 h0 (fun k1 => k1 a0 h0) (fun x2 h3 =>
 gdT x0 h3 (fun k4 => k4 a2 h3) (fun x5 h6 =>
 gdT x0 h6 (fun k7 => kI64 .leq x2 x5 (fun x8 => k7 x8 h6)) (fun x9 h10 =>
 after (fun x11 h12 =>
 clrK h x11 h12) (pickB (.c x9) (.c (Value.bool false)) enE h10 x0)))))

theorem q40 (R : RnK) (N : Nat) (args : List Value) (h : Hs) : r40 R N args h = callT Tryz.prog N R 40 args h := by kernel_rfl

/-- (lintel/geom.Geom).data -/
noncomputable def r41 (R : RnK) (N : Nat) (args : List Value) (h : Hs) : An := unC args fun a0 sq0 => enK h fun h0 =>
 after (fun x0 h1 =>
 kLoads 4 x0 h1 (fun x2 =>
 kCall R 43 [x2] h1 (fun x3 h4 =>
 kExtr x3 0 (fun x5 =>
 kExtr x3 1 (fun x6 =>
 kI64 .add x5 x6 (fun x7 =>
 kFieldA 1 x0 (fun x8 =>
 kLoad x8 h4 (fun x9 =>
 kI64 .mul (Value.int .i64 (.ofNat 2)) x9 (fun x10 =>
 kI64 .add x7 x10 (fun x11 =>
 kFieldA 0 x0 (fun x12 =>
 kLoad x12 h4 (fun x13 =>
 kI64 .sub x13 (Value.int .i64 (.ofNat 1)) (fun x14 =>
 kI64 .sub x14 x11 (fun x15 =>
 clrK h (Value.tuple #[x11, x15]) h4)))))))))))))) (oBox 32 (.c a0) enE h0)

theorem q41 (R : RnK) (N : Nat) (args : List Value) (h : Hs) : r41 R N args h = callT Tryz.prog N R 41 args h := by kernel_rfl

/-- (lintel/geom.Geom).bits -/
noncomputable def r43 (R : RnK) (N : Nat) (args : List Value) (h : Hs) : An := unC args fun a0 sq0 => enK h fun h0 =>
 after (fun x0 h1 =>
 kFieldA 2 x0 (fun x2 =>
 kLoad x2 (Hs.mk h1.hp h1.nx h1.nx) (fun x3 =>
 kFieldA 3 x0 (fun x4 =>
 kLoad x4 (Hs.mk h1.hp h1.nx h1.nx) (fun x5 =>
 kI64 .mul x3 x5 (fun x6 =>
 kI64 .add (Value.int .i64 (.ofNat 1)) x6 (fun x7 =>
 kFieldA 0 x0 (fun x8 =>
 kLoad x8 (Hs.mk h1.hp h1.nx h1.nx) (fun x9 =>
 kI64 .add x9 (Value.int .i64 (.ofNat 512)) (fun x10 =>
 kI64 .sub x10 (Value.int .i64 (.ofNat 1)) (fun x11 =>
 kI64 .quo x11 (Value.int .i64 (.ofNat 512)) (fun x12 =>
 clrK h (Value.tuple #[x7, x12]) h1)))))))))))) (oBox 32 (.c a0) enE h0)

theorem q43 (R : RnK) (N : Nat) (args : List Value) (h : Hs) : r43 R N args h = callT Tryz.prog N R 43 args h := by kernel_rfl

/-- (lintel/bits.Bits).there -/
noncomputable def r46 (R : RnK) (N : Nat) (args : List Value) (h : Hs) : An := unC args fun a0 sq0 => unC sq0 fun a1 sq1 => enK h fun h0 =>
 after (fun x0 h1 =>
 kI64 .geq a1 (Value.int .i64 (.ofNat 0)) (fun x2 =>
 gdT x2 h1 (fun k3 => k3 a1 h1) (fun x4 h5 =>
 gdT x2 h5 (fun k6 => kI64 .quo x4 (Value.int .i64 (.ofNat 64)) (fun x7 => k6 x7 h5)) (fun x8 h9 =>
 gdT x2 h9 (fun k10 => kFieldA 0 x0 (fun x11 => k10 x11 h9)) (fun x12 h13 =>
 gdT x2 h13 (fun k14 => kLoad x12 h13 (fun x15 => k14 x15 h13)) (fun x16 h17 =>
 gdT x2 h17 (fun k18 => kLenV x16 (fun x19 => k18 x19 h17)) (fun x20 h21 =>
 gdT x2 h21 (fun k22 => kI64 .lss x8 x20 (fun x23 => k22 x23 h21)) (fun x24 h25 =>
 after (fun x26 h27 =>
 clrK h x26 h27) (pickB (.c x24) (.c (Value.bool false)) enE h25 x2))))))))) (oBox 61 (.c a0) enE h0)

theorem q46 (R : RnK) (N : Nat) (args : List Value) (h : Hs) : r46 R N args h = callT Tryz.prog N R 46 args h := by kernel_rfl

/-- (lintel/image.Image).Block -/
noncomputable def r49 (R : RnK) (N : Nat) (args : List Value) (h : Hs) : An := unC args fun a0 sq0 => unC sq0 fun a1 sq1 => enK h fun h0 =>
 after (fun x0 h1 =>
 kI64 .lss a1 (Value.int .i64 (.ofNat 0)) (fun x2 =>
 gdF x2 h1 (fun k3 => k3 a1 h1) (fun x4 h5 =>
 gdF x2 h5 (fun k6 => kFieldA 4 x0 (fun x7 => k6 x7 h5)) (fun x8 h9 =>
 gdF x2 h9 (fun k10 => kLoad x8 h9 (fun x11 => k10 x11 h9)) (fun x12 h13 =>
 gdF x2 h13 (fun k14 => kLenV x12 (fun x15 => k14 x15 h13)) (fun x16 h17 =>
 gdF x2 h17 (fun k18 => kI64 .quo x16 (Value.int .i64 (.ofNat 8)) (fun x19 => k18 x19 h17)) (fun x20 h21 =>
 gdF x2 h21 (fun k22 => kI64 .geq x4 x20 (fun x23 => k22 x23 h21)) (fun x24 h25 =>
 after (fun x26 h27 =>
 jn (fun (x29 : Value) (h30 : Hs) =>
 kFieldA 4 x0 (fun x31 =>
 kLoad x31 h30 (fun x32 =>
 kI64 .mul (Value.int .i64 (.ofNat 8)) a1 (fun x33 =>
 kI64 .add a1 (Value.int .i64 (.ofNat 1)) (fun x34 =>
 kI64 .mul (Value.int .i64 (.ofNat 8)) x34 (fun x35 =>
 after (fun x36 h37 =>
 kCall R 45 [x36] h37 (fun x38 h39 =>
 clrK h x38 h39)) (oSlice 1 (.c x32) (some (.c x33)) (some (.c x35)) none enE h30))))))) fun k28 =>
 cnd x26
 (clrK h (Value.slice none 0 0) h27)
 (k28 (Value.slice none 0 0) h27)) (pickB (.c (Value.bool true)) (.c x24) enE h25 x2))))))))) (oBox 65 (.c a0) enE h0)

theorem q49 (R : RnK) (N : Nat) (args : List Value) (h : Hs) : r49 R N args h = callT Tryz.prog N R 49 args h := by kernel_rfl

/-- lintel/node.Get -/
noncomputable def r52 (R : RnK) (N : Nat) (args : List Value) (h : Hs) : An := unC args fun a0 sq0 => enK h fun h0 =>
 after (fun x0 h1 =>
 kLenV a0 (fun x2 =>
 kI64 .neq x2 (Value.int .i64 (.ofNat 8)) (fun x3 =>
 gdF x3 h1 (fun k4 => k4 a0 h1) (fun x5 h6 =>
 gdF x3 h6 (fun k7 => kIdxA 1 x5 (Value.int .i64 (.ofNat 0)) (fun x8 => k7 x8 h6)) (fun x9 h10 =>
 gdF x3 h10 (fun k11 => kLoad x9 h10 (fun x12 => k11 x12 h10)) (fun x13 h14 =>
 gdF x3 h14 (fun k15 => kShr x13 (Value.int .u64 (.ofNat 32)) (fun x16 => k15 x16 h14)) (fun x17 h18 =>
 gdF x3 h18 (fun k19 => kU64 .neq x17 (Value.int .u64 (.ofNat 0)) (fun x20 => k19 x20 h18)) (fun x21 h22 =>
 after (fun x23 h24 =>
 gdF x23 h24 (fun k25 => k25 a0 h24) (fun x26 h27 =>
 gdF x23 h27 (fun k28 => kIdxA 1 x26 (Value.int .i64 (.ofNat 1)) (fun x29 => k28 x29 h27)) (fun x30 h31 =>
 gdF x23 h31 (fun k32 => kLoad x30 h31 (fun x33 => k32 x33 h31)) (fun x34 h35 =>
 gdF x23 h35 (fun k36 => kU64 .gtr x34 (Value.int .u64 (.ofNat 1099511627776)) (fun x37 => k36 x37 h35)) (fun x38 h39 =>
 after (fun x40 h41 =>
 jn (fun (x43 : Value) (h44 : Hs) =>
 kIdxA 1 a0 (Value.int .i64 (.ofNat 0)) (fun x45 =>
 kLoad x45 (Hs.mk h44.hp h44.nx h44.nx) (fun x46 =>
 kU64 .and x46 (Value.int .u64 (.ofNat 255)) (fun x47 =>
 kTo64 x47 (fun x48 =>
 kIdxA 1 a0 (Value.int .i64 (.ofNat 0)) (fun x49 =>
 kLoad x49 (Hs.mk h44.hp h44.nx h44.nx) (fun x50 =>
 kShr x50 (Value.int .u64 (.ofNat 8)) (fun x51 =>
 kTo64 x51 (fun x52 =>
 kIdxA 1 a0 (Value.int .i64 (.ofNat 1)) (fun x53 =>
 kLoad x53 (Hs.mk h44.hp h44.nx h44.nx) (fun x54 =>
 kTo64 x54 (fun x55 =>
 after (fun v126 u127 => dPut (fun x56 h57 =>
 after (fun v124 u125 => dPut (fun x58 h59 =>
 after (fun v122 u123 => dPut (fun x60 h61 =>
 after (fun x62 h63 =>
 kLenV x62 (fun x64 =>
 jn (fun (x66 x67 x68 x69 : Value) (h70 : Hs) =>
 kLoads 4 x58 h70 (fun x71 =>
 kCall R 19 [x71] h70 (fun x72 h73 =>
 kCall R 70 [x72, a0] h73 (fun x74 h75 =>
 kNot x74 (fun x76 =>
 jn (fun (x78 : Value) (h79 : Hs) =>
 kLoads 4 x58 h79 (fun x80 =>
 after (fun x81 h82 =>
 clearUp h (packR h82 (resV enE h82 [.cell (.c x0) 4 true, .t (.c (Value.bool true))]))) (store1 4 h79 (cellsL x80) (addrOf x0)))) fun k77 =>
 cnd x76
 (after (fun x83 h84 =>
 after (fun x85 h86 =>
 clearUp h (packR h86 (resV enE h86 [.cell (.c x0) 4 true, .t (.c (Value.bool false))]))) (store1 4 h84 (cellsL x83) (addrOf x0))) (oBuild [(Value.int .i64 (.ofNat 0)), (Value.int .i64 (.ofNat 0)), (Value.int .i64 (.ofNat 0)), (Value.slice none 0 0)] [] enE h75))
 (k77 x43 h75)))))) fun k65 =>
 lpT (T := Value → Value → Value → Value → Hs → An) (fun _ _ _ _ _ => none) N (fun k87 =>
 fun (x89 x90 x91 x92 : Value) (h93 : Hs) =>
 kI64 .lss x89 x64 (fun x94 =>
 jn (fun (h96 : Hs) =>
 jn (fun (x98 x99 : Value) (h100 : Hs) =>
 kI64 .add x89 (Value.int .i64 (.ofNat 1)) (fun x101 =>
 k87 x101 x94 x98 x99 h100)) fun k97 =>
 kIdxA 1 x62 x89 (fun x102 =>
 kLoad x102 h96 (fun x103 =>
 kU64 .eql x103 (Value.int .u64 (.ofNat 0)) (fun x104 =>
 jn (fun (h106 : Hs) =>
 kFieldA 3 x58 (fun x107 =>
 kLoad x107 h106 (fun x108 =>
 kU64 .and x103 (Value.int .u64 (.ofNat 4294967295)) (fun x109 =>
 kTo64 x109 (fun x110 =>
 kShr x103 (Value.int .u64 (.ofNat 32)) (fun x111 =>
 kTo64 x111 (fun x112 =>
 after (fun x113 h114 =>
 after (fun x115 h116 =>
 after (fun x117 h118 =>
 kFieldA 3 x58 (fun x119 =>
 kStore1 x119 x117 h118 (fun x120 h121 =>
 k97 x103 x104 h121))) (app0 59 2 16 h116 x108 x115)) (oMkrow 59 2 1 [(Value.int .i64 (.ofNat 0)), (Value.int .i64 (.ofNat 0))] [(0, 2, .c x113)] enE h114)) (oBuild [(Value.int .i64 (.ofNat 0)), (Value.int .i64 (.ofNat 0))] [(0, 1, .c x110), (1, 1, .c x112)] enE h106)))))))) fun k105 =>
 cnd x104
 (k65 x89 x94 x103 x104 h96)
 (k105 h96))))) fun k95 =>
 cnd x94
 (k95 h93)
 (k65 x89 x94 x91 x92 h93))) (Value.int .i64 (.ofNat 0)) dunno dunno dunno h63)) (oSlice 1 (.c a0) (some (.c (Value.int .i64 (.ofNat 2)))) (some (.c (Value.int .i64 (.ofNat 6)))) none enE h61)) v122 (dNext h59 u123 .bar) (andB (dFit h59 u123 .bar) (Nat.ble 0 u123.lo))) (store1 4 h59 (cellsL x56) (addrOf x58))) v124 (dNext h57 u125 .make) (andB (dFit h57 u125 .make) (Nat.ble 0 u125.lo))) (oAlloc 57 [(Value.int .i64 (.ofNat 0)), (Value.int .i64 (.ofNat 0)), (Value.int .i64 (.ofNat 0)), (Value.slice none 0 0)] enE (Hs.mk .e h57.nx h57.nx))) v126 (dNext h44 u127 .blind) (andB (dFit h44 u127 .blind) (Nat.ble 0 u127.lo))) (oBuild [(Value.int .i64 (.ofNat 0)), (Value.int .i64 (.ofNat 0)), (Value.int .i64 (.ofNat 0)), (Value.slice none 0 0)] [(0, 1, .c x48), (1, 1, .c x52), (2, 1, .c x55)] enE (Hs.mk .e h44.nx h44.nx)))))))))))))) fun k42 =>
 cnd x40
 (after (fun x128 h129 =>
 after (fun x130 h131 =>
 clearUp h (packR h131 (resV enE h131 [.cell (.c x0) 4 true, .t (.c (Value.bool false))]))) (store1 4 h129 (cellsL x128) (addrOf x0))) (oBuild [(Value.int .i64 (.ofNat 0)), (Value.int .i64 (.ofNat 0)), (Value.int .i64 (.ofNat 0)), (Value.slice none 0 0)] [] enE h41))
 (k42 (Value.bool false) h41)) (pickB (.c (Value.bool true)) (.c x38) enE h39 x23)))))) (pickB (.c (Value.bool true)) (.c x21) enE h22 x3))))))))) (oAlloc 57 [(Value.int .i64 (.ofNat 0)), (Value.int .i64 (.ofNat 0)), (Value.int .i64 (.ofNat 0)), (Value.slice none 0 0)] enE h0)

theorem q52 (R : RnK) (N : Nat) (args : List Value) (h : Hs) : r52 R N args h = callT Tryz.prog N R 52 args h := by kernel_rfl

/-- (*lintel/check.looker).blocks -/
noncomputable def r55 (R : RnK) (N : Nat) (args : List Value) (h : Hs) : An := unC args fun a0 sq0 => unC sq0 fun a1 sq1 => enK h fun h0 =>
 kNil a0 (fun x0 =>
 kFieldA 6 x0 (fun x1 =>
 kLoad x1 h0 (fun x2 =>
 kIdxA 1 x2 a1 (fun x3 =>
 kLoad x3 h0 (fun x4 =>
 jn (fun (x6 x7 x8 x9 x10 x11 x12 x13 x14 x15 : Value) (h16 : Hs) =>
 clrK h x14 h16) fun k5 =>
 cnd x4
 (kNil a0 (fun x17 =>
 kFieldA 5 x17 (fun x18 =>
 kLoad x18 h0 (fun x19 =>
 kIdxA 4 x19 a1 (fun x20 =>
 kFieldA 3 x20 (fun x21 =>
 kLoad x21 h0 (fun x22 =>
 kLenV x22 (fun x23 =>
 jn (fun (x25 x26 x27 x28 x29 x30 x31 x32 : Value) (h33 : Hs) =>
 k5 x25 x23 x26 x22 x27 x28 x29 x30 x31 x32 h33) fun k24 =>
 lpT (T := Value → Value → Value → Value → Value → Value → Value → Value → Hs → An) (fun _ _ _ _ _ _ _ _ _ => none) N (fun k34 =>
 fun (x36 x37 x38 x39 x40 x41 x42 x43 : Value) (h44 : Hs) =>
 kI64 .lss x36 x23 (fun x45 =>
 jn (fun (h47 : Hs) =>
 jn (fun (x49 x50 x51 x52 x53 x54 : Value) (h55 : Hs) =>
 kI64 .add x36 (Value.int .i64 (.ofNat 1)) (fun x56 =>
 k34 x56 x45 x49 x50 x51 x52 x53 x54 h55)) fun k48 =>
 kIdxA 2 x22 x36 (fun x57 =>
 kLoads 2 x57 h47 (fun x58 =>
 after (fun x59 h60 =>
 after (fun x61 h62 =>
 kFieldA 1 x59 (fun x63 =>
 kLoad x63 h62 (fun x64 =>
 jn (fun (x66 x67 x68 x69 : Value) (h70 : Hs) =>
 k48 x59 x66 x64 x67 x68 x69 h70) fun k65 =>
 lpT (T := Value → Value → Value → Value → Hs → An) (fun _ _ _ _ _ => none) N (fun k71 =>
 fun (x73 x74 x75 x76 : Value) (h77 : Hs) =>
 kI64 .lss x73 x64 (fun x78 =>
 jn (fun (h80 : Hs) =>
 jn (fun (x82 x83 : Value) (h84 : Hs) =>
 kI64 .add x73 (Value.int .i64 (.ofNat 1)) (fun x85 =>
 k71 x85 x78 x82 x83 h84)) fun k81 =>
 kFieldA 0 x59 (fun x86 =>
 kLoad x86 h80 (fun x87 =>
 kI64 .add x87 x73 (fun x88 =>
 after (fun x89 h90 =>
 after (fun x91 h92 =>
 k81 x91 x73 h92) (app0 3 1 8 h90 x75 x89)) (oMkrow 3 1 1 [(Value.int .i64 (.ofNat 0))] [(0, 1, .c x88)] enE h80))))) fun k79 =>
 cnd x78
 (k79 h77)
 (k65 x73 x78 x75 x76 h77))) (Value.int .i64 (.ofNat 0)) x41 x42 x43 h62))) (store1 2 h60 (cellsL x58) (addrOf x59))) (oAlloc 59 [(Value.int .i64 (.ofNat 0)), (Value.int .i64 (.ofNat 0))] enE h47)))) fun k46 =>
 cnd x45
 (k46 h44)
 (k24 x36 x45 x38 x39 x40 x41 x42 x43 h44))) (Value.int .i64 (.ofNat 0)) dunno dunno dunno dunno dunno (Value.slice none 0 0) dunno h0))))))))
 (k5 dunno dunno dunno dunno dunno dunno dunno dunno (Value.slice none 0 0) dunno h0))))))

theorem q55 (R : RnK) (N : Nat) (args : List Value) (h : Hs) : r55 R N args h = callT Tryz.prog N R 55 args h := by kernel_rfl

/-- lintel/bits.Has -/
noncomputable def r59 (R : RnK) (N : Nat) (args : List Value) (h : Hs) : An := unC args fun a0 sq0 => unC sq0 fun a1 sq1 => enK h fun h0 =>
 after (fun x0 h1 =>
 kLoads 1 x0 h1 (fun x2 =>
 kCall R 46 [x2, a1] h1 (fun x3 h4 =>
 gdT x3 h4 (fun k5 => kFieldA 0 x0 (fun x6 => k5 x6 h4)) (fun x7 h8 =>
 gdT x3 h8 (fun k9 => kLoad x7 h8 (fun x10 => k9 x10 h8)) (fun x11 h12 =>
 gdT x3 h12 (fun k13 => k13 a1 h12) (fun x14 h15 =>
 gdT x3 h15 (fun k16 => kI64 .quo x14 (Value.int .i64 (.ofNat 64)) (fun x17 => k16 x17 h15)) (fun x18 h19 =>
 gdT x3 h19 (fun k20 => kIdxA 1 x11 x18 (fun x21 => k20 x21 h19)) (fun x22 h23 =>
 gdT x3 h23 (fun k24 => kLoad x22 h23 (fun x25 => k24 x25 h23)) (fun x26 h27 =>
 gdT x3 h27 (fun k28 => k28 a1 h27) (fun x29 h30 =>
 gdT x3 h30 (fun k31 => kI64 .rem x29 (Value.int .i64 (.ofNat 64)) (fun x32 => k31 x32 h30)) (fun x33 h34 =>
 gdT x3 h34 (fun k35 => kShr x26 x33 (fun x36 => k35 x36 h34)) (fun x37 h38 =>
 gdT x3 h38 (fun k39 => kU64 .and x37 (Value.int .u64 (.ofNat 1)) (fun x40 => k39 x40 h38)) (fun x41 h42 =>
 gdT x3 h42 (fun k43 => kU64 .eql x41 (Value.int .u64 (.ofNat 1)) (fun x44 => k43 x44 h42)) (fun x45 h46 =>
 after (fun x47 h48 =>
 clrK h x47 h48) (pickB (.c x45) (.c (Value.bool false)) enE h46 x3))))))))))))))) (oBox 61 (.c a0) enE h0)

theorem q59 (R : RnK) (N : Nat) (args : List Value) (h : Hs) : r59 R N args h = callT Tryz.prog N R 59 args h := by kernel_rfl

/-- lintel/seal.On -/
noncomputable def r65 (R : RnK) (N : Nat) (args : List Value) (h : Hs) : An := unC args fun a0 sq0 => unC sq0 fun a1 sq1 => enK h fun h0 =>
 kLenV a1 (fun x0 =>
 jn (fun (x2 x3 x4 x5 : Value) (h6 : Hs) =>
 clrK h x4 h6) fun k1 =>
 lpT (T := Value → Value → Value → Value → Hs → An) (fun _ _ _ _ _ => none) N (fun k7 =>
 fun (x9 x10 x11 x12 : Value) (h13 : Hs) =>
 kI64 .lss x9 x0 (fun x14 =>
 jn (fun (h16 : Hs) =>
 jn (fun (x18 x19 : Value) (h20 : Hs) =>
 kI64 .add x9 (Value.int .i64 (.ofNat 1)) (fun x21 =>
 k7 x21 x14 x18 x19 h20)) fun k17 =>
 kIdxA 1 a1 x9 (fun x22 =>
 kLoad x22 h16 (fun x23 =>
 kCall R 94 [x11, (Value.int .i64 (.ofNat 9))] h16 (fun x24 h25 =>
 kU64 .xor x24 x23 (fun x26 =>
 k17 x26 x23 h25))))) fun k15 =>
 cnd x14
 (k15 h13)
 (k1 x9 x14 x11 x12 h13))) (Value.int .i64 (.ofNat 0)) dunno a0 dunno h0)

theorem q65 (R : RnK) (N : Nat) (args : List Value) (h : Hs) : r65 R N args h = callT Tryz.prog N R 65 args h := by kernel_rfl

/-- slices.Equal[[]uint64,uint64] -/
noncomputable def r70 (R : RnK) (N : Nat) (args : List Value) (h : Hs) : An := unC args fun a0 sq0 => unC sq0 fun a1 sq1 => enK h fun h0 =>
 kLenV a0 (fun x0 =>
 kLenV a1 (fun x1 =>
 kI64 .neq x0 x1 (fun x2 =>
 jn (fun (x4 : Value) (h5 : Hs) =>
 kLenV a0 (fun x6 =>
 jn (fun (x8 x9 x10 x11 x12 : Value) (h13 : Hs) =>
 clrK h (Value.bool true) h13) fun k7 =>
 lpT (T := Value → Value → Value → Value → Value → Hs → An) (fun _ _ _ _ _ _ => none) N (fun k14 =>
 fun (x16 x17 x18 x19 x20 : Value) (h21 : Hs) =>
 kI64 .lss x16 x6 (fun x22 =>
 jn (fun (h24 : Hs) =>
 jn (fun (x26 x27 x28 : Value) (h29 : Hs) =>
 kI64 .add x16 (Value.int .i64 (.ofNat 1)) (fun x30 =>
 k14 x30 x22 x26 x27 x28 h29)) fun k25 =>
 kIdxA 1 a0 x16 (fun x31 =>
 kLoad x31 (Hs.mk h24.hp h24.nx h24.nx) (fun x32 =>
 kIdxA 1 a1 x16 (fun x33 =>
 kLoad x33 (Hs.mk h24.hp h24.nx h24.nx) (fun x34 =>
 kU64 .neq x32 x34 (fun x35 =>
 jn (fun (x37 : Value) (h38 : Hs) =>
 k25 x16 x35 x37 h38) fun k36 =>
 cnd x35
 (clrK h (Value.bool false) h24)
 (k36 x20 h24))))))) fun k23 =>
 cnd x22
 (k23 h21)
 (k7 x16 x22 x18 x19 x20 h21))) (Value.int .i64 (.ofNat 0)) dunno dunno dunno x4 h5)) fun k3 =>
 cnd x2
 (clrK h (Value.bool false) h0)
 (k3 (Value.bool false) h0))))

theorem q70 (R : RnK) (N : Nat) (args : List Value) (h : Hs) : r70 R N args h = callT Tryz.prog N R 70 args h := by kernel_rfl

/-- math/bits.RotateLeft64 -/
noncomputable def r94 (R : RnK) (N : Nat) (args : List Value) (h : Hs) : An := unC args fun a0 sq0 => unC sq0 fun a1 sq1 => enK h fun h0 =>
 kToU a1 (fun x0 =>
 kU64 .and x0 (Value.int .u64 (.ofNat 63)) (fun x1 =>
 kShl a0 x1 (fun x2 =>
 kU64 .sub (Value.int .u64 (.ofNat 64)) x1 (fun x3 =>
 kShr a0 x3 (fun x4 =>
 kU64 .or x2 x4 (fun x5 =>
 clrK h x5 h0))))))

theorem q94 (R : RnK) (N : Nat) (args : List Value) (h : Hs) : r94 R N args h = callT Tryz.prog N R 94 args h := by kernel_rfl

noncomputable def entries : List (Nat × FnK) := [(6, r6), (13, r13), (18, r18), (22, r22), (29, r29), (32, r32), (40, r40), (41, r41), (43, r43), (46, r46), (49, r49), (52, r52), (55, r55), (59, r59), (65, r65), (70, r70), (94, r94)]
theorem entries_ok : AllOk Tryz.prog entries := ⟨q6, q13, q18, q22, q29, q32, q40, q41, q43, q46, q49, q52, q55, q59, q65, q70, q94, trivial⟩
end Go.Proofs.YtbecnapcgehliaaGreatDoor.checkShow
