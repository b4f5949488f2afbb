/- The functions that 'CrewKnown' reaches, in the fast evaluator's form, each held against the program's own text by the kernel. Written by a program. -/
import Derived.Test.YtimbaniomdimcaaGreatDoorGevKM
import Derived.Test.YtimbaniomdimcaaGreatDoorProg
import Derived.KernelRfl
namespace Go.Proofs.YtimbaniomdimcaaGreatDoor.crewKnown
open Go.Gev
set_option linter.unusedVariables false
/-- (*lintel/pmem.Mem).Crash -/
noncomputable def r10 (R : RnK) (N : Nat) (args : List Value) (h : Hs) : An := unC args fun a0 sq0 => unC sq0 fun a1 sq1 => enK h fun h0 =>
 kNil a0 (fun x0 =>
 kFieldA 1 x0 (fun x1 =>
 kLoad x1 h0 (fun x2 =>
 jn (fun (h4 : Hs) =>
 kNil a0 (fun x5 =>
 kFieldA 1 x5 (fun x6 =>
 kStore1 x6 (Value.bool true) h4 (fun x7 h8 =>
 kNil a0 (fun x9 =>
 kFieldA 2 x9 (fun x10 =>
 kStore1 x10 (Value.int .i64 (.ofNat 0)) h8 (fun x11 h12 =>
 kNil a0 (fun x13 =>
 kFieldA 0 x13 (fun x14 =>
 kLoad x14 h12 (fun x15 =>
 kLenV x15 (fun x16 =>
 jn (fun (x18 x19 x20 x21 x22 x23 x24 : Value) (h25 : Hs) =>
 clrK h (Value.tuple #[]) h25) fun k17 =>
 lpT (T := Value → Value → Value → Value → Value → Value → Value → Hs → An) (fun _ _ _ _ _ _ _ _ => none) N (fun k26 =>
 fun (x28 x29 x30 x31 x32 x33 x34 : Value) (h35 : Hs) =>
 kI64 .lss x28 x16 (fun x36 =>
 jn (fun (h38 : Hs) =>
 jn (fun (x40 x41 x42 x43 x44 : Value) (h45 : Hs) =>
 kI64 .add x28 (Value.int .i64 (.ofNat 1)) (fun x46 =>
 k26 x46 x36 x40 x41 x42 x43 x44 h45)) fun k39 =>
 kIdxA 1 x15 x28 (fun x47 =>
 kLoad x47 h38 (fun x48 =>
 kCall R 25 [x48] h38 (fun x49 h50 =>
 kI64 .eql x49 (Value.int .i64 (.ofNat 0)) (fun x51 =>
 jn (fun (h53 : Hs) =>
 kLenV x32 (fun x54 =>
 kI64 .gtr x54 (Value.int .i64 (.ofNat 0)) (fun x55 =>
 jn (fun (x57 x58 : Value) (h59 : Hs) =>
 kCall R 26 [x48, x58] h59 (fun x60 h61 =>
 k39 x48 x51 x57 x55 x58 h61)) fun k56 =>
 cnd x55
 (kIdxA 1 x32 (Value.int .i64 (.ofNat 0)) (fun x62 =>
 kLoad x62 (Hs.mk h53.hp h53.nx h53.nx) (fun x63 =>
 after (fun v66 u67 => dPut (fun x64 h65 =>
 k56 x64 x63 h65) v66 (dNext h53 u67 .light) (andB (dFit h53 u67 .light) (Nat.ble 0 u67.lo))) (oSlice 1 (.c x32) (some (.c (Value.int .i64 (.ofNat 1)))) none none enE (Hs.mk h53.hp h53.nx h53.nx)))))
 (k56 x32 (Value.int .i64 (.ofNat 0)) h53)))) fun k52 =>
 cnd x51
 (k39 x48 x51 x32 x33 x34 h50)
 (k52 h50)))))) fun k37 =>
 cnd x36
 (k37 h35)
 (k17 x28 x36 x30 x31 x32 x33 x34 h35))) (Value.int .i64 (.ofNat 0)) dunno dunno dunno a1 dunno dunno h12))))))))))) fun k3 =>
 cnd x2
 (clrK h (Value.tuple #[]) h0)
 (k3 h0))))

theorem q10 (R : RnK) (N : Nat) (args : List Value) (h : Hs) : r10 R N args h = callT Tryz.prog N R 10 args h := by kernel_rfl

/-- (*lintel/line.Line).Open -/
noncomputable def r25 (R : RnK) (N : Nat) (args : List Value) (h : Hs) : An := unC args fun a0 sq0 => enK h fun h0 =>
 kNil a0 (fun x0 =>
 kFieldA 8 x0 (fun x1 =>
 kLoad x1 h0 (fun x2 =>
 kLenV x2 (fun x3 =>
 clrK h x3 h0))))

theorem q25 (R : RnK) (N : Nat) (args : List Value) (h : Hs) : r25 R N args h = callT Tryz.prog N R 25 args h := by kernel_rfl

/-- lintel/image.Make -/
noncomputable def r32 (R : RnK) (N : Nat) (args : List Value) (h : Hs) : An := unC args fun a0 sq0 => enK h fun h0 =>
 after (fun x0 h1 =>
 kLoads 4 x0 h1 (fun x2 =>
 kCall R 50 [x2] h1 (fun x3 h4 =>
 kNot x3 (fun x5 =>
 jn (fun (x7 x8 : Value) (h9 : Hs) =>
 kFieldA 0 x0 (fun x10 =>
 kLoad x10 h9 (fun x11 =>
 kI64 .mul (Value.int .i64 (.ofNat 8)) x11 (fun x12 =>
 after (fun x13 h14 =>
 after (fun x15 h16 =>
 kStore1 x15 x13 h16 (fun x17 h18 =>
 after (fun x19 h20 =>
 kLoads 4 x0 h20 (fun x21 =>
 kCall R 52 [x21] h20 (fun x22 h23 =>
 kExtr x22 0 (fun x24 =>
 kExtr x22 1 (fun x25 =>
 kLoads 4 x0 h23 (fun x26 =>
 after (fun x27 h28 =>
 kCall R 53 [x27] h28 (fun x29 h30 =>
 kCallV R x19 [(Value.int .i64 (.ofNat 0)), x29] h30 (fun x31 h32 =>
 kLoads 4 x0 (Hs.mk h32.hp h32.nx h32.nx) (fun x33 =>
 kCall R 54 [x33] (Hs.mk h32.hp h32.nx h32.nx) (fun v146 u147 => dPut (fun x34 h35 =>
 kLoads 4 x0 (dHidS .light [false, false, false] [some (h32.nx, h35.nx), none, none] h35) (fun x36 =>
 after (fun v144 u145 => dPut (fun x37 h38 =>
 kCall R 53 [x37] h38 (fun v142 u143 => dPut (fun x39 h40 =>
 isVal (fun v140 u141 => dPut (fun x41 h42 =>
 kLoads 4 x0 h42 (fun x43 =>
 kCall R 55 [x43, (Value.int .i64 (.ofNat 1))] h42 (fun x44 h45 =>
 after (fun x46 h47 =>
 kCall R 56 [x46] h47 (fun x48 h49 =>
 kCallV R x19 [x44, x48] h49 (fun x50 h51 =>
 kLoads 4 x0 h51 (fun x52 =>
 kCall R 55 [x52, (Value.int .i64 (.ofNat 2))] h51 (fun x53 h54 =>
 after (fun x55 h56 =>
 after (fun x57 h58 =>
 after (fun x59 h60 =>
 kCall R 56 [x59] h60 (fun x61 h62 =>
 kCallV R x19 [x53, x61] h62 (fun x63 h64 =>
 kLoads 4 x0 h64 (fun x65 =>
 kCall R 57 [x65] h64 (fun x66 h67 =>
 kExtr x66 0 (fun x68 =>
 kExtr x66 1 (fun x69 =>
 kFieldA 0 x0 (fun x70 =>
 kLoad x70 h67 (fun x71 =>
 kCall R 58 [x71] h67 (fun x72 h73 =>
 after (fun x74 h75 =>
 kStore1 x74 x72 h75 (fun x76 h77 =>
 kFieldA 0 x0 (fun x78 =>
 kLoad x78 h77 (fun x79 =>
 jn (fun (x81 x82 x83 x84 : Value) (h85 : Hs) =>
 kLoads 4 x0 h85 (fun x86 =>
 kCall R 60 [x86] h85 (fun x87 h88 =>
 kExtr x87 0 (fun x89 =>
 kExtr x87 1 (fun x90 =>
 kFieldA 0 x74 (fun x91 =>
 kLoad x91 h88 (fun x92 =>
 kCallV R x19 [x89, x92] h88 (fun x93 h94 =>
 kLoad x15 h94 (fun x95 =>
 clrK h (Value.tuple #[x95, (Value.int .i64 (.ofNat 0))]) h94))))))))) fun k80 =>
 lpT (T := Value → Value → Value → Value → Hs → An) (fun _ _ _ _ _ => none) N (fun k96 =>
 fun (x98 x99 x100 x101 : Value) (h102 : Hs) =>
 kI64 .lss x98 x79 (fun x103 =>
 jn (fun (h105 : Hs) =>
 jn (fun (x107 x108 : Value) (h109 : Hs) =>
 kI64 .add x98 (Value.int .i64 (.ofNat 1)) (fun x110 =>
 k96 x110 x103 x107 x108 h109)) fun k106 =>
 kI64 .lss x98 x68 (fun x111 =>
 gdF x111 h105 (fun k112 => k112 x98 h105) (fun x113 h114 =>
 gdF x111 h114 (fun k115 => k115 x68 h114) (fun x116 h117 =>
 gdF x111 h117 (fun k118 => k118 x69 h117) (fun x119 h120 =>
 gdF x111 h120 (fun k121 => kI64 .add x116 x119 (fun x122 => k121 x122 h120)) (fun x123 h124 =>
 gdF x111 h124 (fun k125 => kI64 .geq x113 x123 (fun x126 => k125 x126 h124)) (fun x127 h128 =>
 after (fun x129 h130 =>
 jn (fun (h132 : Hs) =>
 k106 x98 x129 h132) fun k131 =>
 cnd x129
 (kLoads 1 x74 h130 (fun x133 =>
 after (fun x134 h135 =>
 kCall R 59 [x133, (Value.bool true), x134] h135 (fun x136 h137 =>
 kStore1 x74 x136 h137 (fun x138 h139 =>
 k131 h139))) (oMkrow 3 1 1 [(Value.int .i64 (.ofNat 0))] [(0, 1, .c x98)] enE h130)))
 (k131 h130)) (pickB (.c (Value.bool true)) (.c x127) enE h128 x111)))))))) fun k104 =>
 cnd x103
 (k104 h102)
 (k80 x98 x103 x100 x101 h102))) (Value.int .i64 (.ofNat 0)) dunno dunno dunno h77)))) (oAlloc 132 [(Value.slice none 0 0)] enE h73))))))))))) (oBuild [(Value.int .i64 (.ofNat 0)), (Value.int .i64 (.ofNat 0)), (Value.int .i64 (.ofNat 0)), (Value.slice none 0 0)] [(0, 1, .c (Value.int .i64 (.ofNat 2))), (1, 1, .c (Value.int .i64 (.ofNat 1))), (2, 1, .c x25), (3, 1, .c x57)] enE h58)) (oMkrow 130 2 1 [(Value.int .i64 (.ofNat 0)), (Value.int .i64 (.ofNat 0))] [(0, 2, .c x55)] enE h56)) (oBuild [(Value.int .i64 (.ofNat 0)), (Value.int .i64 (.ofNat 0))] [(0, 1, .c x24), (1, 1, .c x25)] enE h54)))))) (oBuild [(Value.int .i64 (.ofNat 0)), (Value.int .i64 (.ofNat 0)), (Value.int .i64 (.ofNat 0)), (Value.slice none 0 0)] [(0, 1, .c (Value.int .i64 (.ofNat 2))), (1, 1, .c (Value.int .i64 (.ofNat 1)))] enE h45)))) v140 (dNext h40 u141 .bar) (andB (dFit h40 u141 .bar) (Nat.ble 0 u141.lo))) (callV (toRn R) [x34, x39] h40 x19)) v142 (dNext h38 u143 .bar) (andB (dFit h38 u143 .bar) (Nat.ble 0 u143.lo)))) v144 (dNext h35 u145 .blind) (andB (dFit h35 u145 .blind) (Nat.ble 0 u145.lo))) (oBuild [(Value.int .i64 (.ofNat 0)), (Value.int .i64 (.ofNat 0)), (Value.int .i64 (.ofNat 0)), (Value.int .i64 (.ofNat 0)), (Value.int .u64 (.ofNat 0))] [(0, 4, .c x36)] enE (Hs.mk .e h35.nx h35.nx)))) v146 (dNext h32 u147 .light) (andB (dFit h32 u147 .light) (Nat.ble 0 u147.lo))))))) (oBuild [(Value.int .i64 (.ofNat 0)), (Value.int .i64 (.ofNat 0)), (Value.int .i64 (.ofNat 0)), (Value.int .i64 (.ofNat 0)), (Value.int .u64 (.ofNat 0))] [(0, 4, .c x26)] enE h23))))))) (oMkfunc (.func 51) [] [.c x15] enE h18))) (oAlloc 91 [(Value.slice none 0 0)] enE h14)) (mkslice1 109 1 8 [(Value.int .u64 (.ofNat 0))] h9 (natOf x12) (natOf x12)))))) fun k6 =>
 cnd x5
 (clrK h (Value.tuple #[(Value.slice none 0 0), (Value.int .i64 (.ofNat 1))]) h4)
 (k6 (Value.slice none 0 0) (Value.int .i64 (.ofNat 0)) h4))))) (oBox 44 (.c a0) enE h0)

theorem q32 (R : RnK) (N : Nat) (args : List Value) (h : Hs) : r32 R N args h = callT Tryz.prog N R 32 args h := by kernel_rfl

/-- (*lintel/pmem.Mem).Words -/
noncomputable def r35 (R : RnK) (N : Nat) (args : List Value) (h : Hs) : An := unC args fun a0 sq0 => enK h fun h0 =>
 kNil a0 (fun x0 =>
 kFieldA 0 x0 (fun x1 =>
 kLoad x1 h0 (fun x2 =>
 kLenV x2 (fun x3 =>
 jn (fun (x5 x6 x7 x8 x9 x10 x11 : Value) (h12 : Hs) =>
 clrK h x9 h12) fun k4 =>
 lpT (T := Value → Value → Value → Value → Value → Value → Value → Hs → An) (fun _ _ _ _ _ _ _ _ => none) N (fun k13 =>
 fun (x15 x16 x17 x18 x19 x20 x21 : Value) (h22 : Hs) =>
 kI64 .lss x15 x3 (fun x23 =>
 jn (fun (h25 : Hs) =>
 jn (fun (x27 x28 x29 x30 x31 : Value) (h32 : Hs) =>
 kI64 .add x15 (Value.int .i64 (.ofNat 1)) (fun x33 =>
 k13 x33 x23 x27 x28 x29 x30 x31 h32)) fun k26 =>
 kIdxA 1 x2 x15 (fun x34 =>
 kLoad x34 h25 (fun x35 =>
 jn (fun (x37 x38 x39 x40 : Value) (h41 : Hs) =>
 k26 x37 x38 x39 x35 x40 h41) fun k36 =>
 lpT (T := Value → Value → Value → Value → Hs → An) (fun _ _ _ _ _ => none) N (fun k42 =>
 fun (x44 x45 x46 x47 : Value) (h48 : Hs) =>
 kI64 .lss x44 (Value.int .i64 (.ofNat 8)) (fun x49 =>
 jn (fun (h51 : Hs) =>
 jn (fun (x53 x54 : Value) (h55 : Hs) =>
 kI64 .add x44 (Value.int .i64 (.ofNat 1)) (fun x56 =>
 k42 x56 x49 x53 x54 h55)) fun k52 =>
 kCall R 64 [x35, x44] h51 (fun x57 h58 =>
 after (fun x59 h60 =>
 after (fun x61 h62 =>
 k52 x61 x44 h62) (app0 109 1 8 h60 x46 x59)) (oMkrow 109 1 1 [(Value.int .u64 (.ofNat 0))] [(0, 1, .c x57)] enE h58))) fun k50 =>
 cnd x49
 (k50 h48)
 (k36 x44 x49 x46 x47 h48))) (Value.int .i64 (.ofNat 0)) x18 x19 x21 h25))) fun k24 =>
 cnd x23
 (k24 h22)
 (k4 x15 x23 x17 x18 x19 x20 x21 h22))) (Value.int .i64 (.ofNat 0)) dunno dunno dunno (Value.slice none 0 0) dunno dunno h0))))

theorem q35 (R : RnK) (N : Nat) (args : List Value) (h : Hs) : r35 R N args h = callT Tryz.prog N R 35 args h := by kernel_rfl

/-- (*lintel/line.Line).settle -/
noncomputable def r45 (R : RnK) (N : Nat) (args : List Value) (h : Hs) : An := unC args fun a0 sq0 => unC sq0 fun a1 sq1 => enK h fun h0 =>
 kNil a0 (fun x0 =>
 kFieldA 8 x0 (fun x1 =>
 kLoad x1 h0 (fun x2 =>
 after (fun x3 h4 =>
 kLenV x3 (fun x5 =>
 jn (fun (x7 x8 x9 : Value) (h10 : Hs) =>
 kNil a0 (fun x11 =>
 kFieldA 8 x11 (fun x12 =>
 kLoad x12 h10 (fun x13 =>
 after (fun x14 h15 =>
 after (fun x16 h17 =>
 kNil a0 (fun x18 =>
 kFieldA 8 x18 (fun x19 =>
 kStore1 x19 x16 h17 (fun x20 h21 =>
 kNil a0 (fun x22 =>
 kFieldA 9 x22 (fun x23 =>
 kStore1 x23 (Value.int .i64 (.ofNat 0)) h21 (fun x24 h25 =>
 clrK h (Value.tuple #[]) h25))))))) (app0 174 2 16 h15 (Value.slice none 0 0) x14)) (oSlice 2 (.c x13) (some (.c a1)) none none enE h10))))) fun k6 =>
 lpT (T := Value → Value → Value → Hs → An) (fun _ _ _ _ => none) N (fun k26 =>
 fun (x28 x29 x30 : Value) (h31 : Hs) =>
 kI64 .lss x28 x5 (fun x32 =>
 jn (fun (h34 : Hs) =>
 jn (fun (x36 : Value) (h37 : Hs) =>
 kI64 .add x28 (Value.int .i64 (.ofNat 1)) (fun x38 =>
 k26 x38 x32 x36 h37)) fun k35 =>
 kIdxA 2 x3 x28 (fun x39 =>
 kLoads 2 x39 h34 (fun x40 =>
 after (fun x41 h42 =>
 after (fun x43 h44 =>
 kFieldA 0 x41 (fun x45 =>
 kLoad x45 (Hs.mk h44.hp h44.nx h44.nx) (fun x46 =>
 kFieldA 1 x41 (fun x47 =>
 kLoad x47 (Hs.mk h44.hp h44.nx h44.nx) (fun x48 =>
 kNil a0 (fun x49 =>
 kFieldA 0 x49 (fun x50 =>
 obK (fun x51 =>
 kStore1 x51 x48 h44 (fun v54 u55 => dPut (fun x52 h53 =>
 k35 x41 h53) v54 (dNext h44 u55 .bar) (andB (dFit h44 u55 .bar) (Nat.ble 0 u55.lo)))) (idxArr1 1 8 (natOf x46) x50)))))))) (store1 2 h42 (cellsL x40) (addrOf x41))) (oAlloc 174 [(Value.int .i64 (.ofNat 0)), (Value.int .u64 (.ofNat 0))] enE h34)))) fun k33 =>
 cnd x32
 (k33 h31)
 (k6 x28 x32 x30 h31))) (Value.int .i64 (.ofNat 0)) dunno dunno h4)) (oSlice 2 (.c x2) none (some (.c a1)) none enE h0))))

theorem q45 (R : RnK) (N : Nat) (args : List Value) (h : Hs) : r45 R N args h = callT Tryz.prog N R 45 args h := by kernel_rfl

/-- lintel/geom.Good -/
noncomputable def r50 (R : RnK) (N : Nat) (args : List Value) (h : Hs) : An := unC args fun a0 sq0 => enK h fun h0 =>
 after (fun x0 h1 =>
 kFieldA 0 x0 (fun x2 =>
 kLoad x2 h1 (fun x3 =>
 kCall R 87 [x3, (Value.int .i64 (.ofNat 64)), (Value.int .i64 (.ofNat 1024))] h1 (fun x4 h5 =>
 kNot x4 (fun x6 =>
 gdF x6 h5 (fun k7 => kFieldA 1 x0 (fun x8 => k7 x8 h5)) (fun x9 h10 =>
 gdF x6 h10 (fun k11 => kLoad x9 h10 (fun x12 => k11 x12 h10)) (fun x13 h14 =>
 gdF x6 h14 (fun k15 => kCall R 87 [x13, (Value.int .i64 (.ofNat 4)), (Value.int .i64 (.ofNat 64))] h14 (k15)) (fun x16 h17 =>
 gdF x6 h17 (fun k18 => kNot x16 (fun x19 => k18 x19 h17)) (fun x20 h21 =>
 after (fun x22 h23 =>
 gdF x22 h23 (fun k24 => kFieldA 2 x0 (fun x25 => k24 x25 h23)) (fun x26 h27 =>
 gdF x22 h27 (fun k28 => kLoad x26 h27 (fun x29 => k28 x29 h27)) (fun x30 h31 =>
 gdF x22 h31 (fun k32 => kCall R 87 [x30, (Value.int .i64 (.ofNat 1)), (Value.int .i64 (.ofNat 8))] h31 (k32)) (fun x33 h34 =>
 gdF x22 h34 (fun k35 => kNot x33 (fun x36 => k35 x36 h34)) (fun x37 h38 =>
 after (fun x39 h40 =>
 gdF x39 h40 (fun k41 => kFieldA 3 x0 (fun x42 => k41 x42 h40)) (fun x43 h44 =>
 gdF x39 h44 (fun k45 => kLoad x43 h44 (fun x46 => k45 x46 h44)) (fun x47 h48 =>
 gdF x39 h48 (fun k49 => kCall R 87 [x47, (Value.int .i64 (.ofNat 16)), (Value.int .i64 (.ofNat 110))] h48 (k49)) (fun x50 h51 =>
 gdF x39 h51 (fun k52 => kNot x50 (fun x53 => k52 x53 h51)) (fun x54 h55 =>
 after (fun x56 h57 =>
 jn (fun (x59 : Value) (h60 : Hs) =>
 kLoads 4 x0 h60 (fun x61 =>
 kCall R 88 [x61] h60 (fun x62 h63 =>
 kExtr x62 0 (fun x64 =>
 kExtr x62 1 (fun x65 =>
 kI64 .geq x65 (Value.int .i64 (.ofNat 1)) (fun x66 =>
 clrK h x66 h63)))))) fun k58 =>
 cnd x56
 (clrK h (Value.bool false) h57)
 (k58 (Value.bool false) h57)) (pickB (.c (Value.bool true)) (.c x54) enE h55 x39)))))) (pickB (.c (Value.bool true)) (.c x37) enE h38 x22)))))) (pickB (.c (Value.bool true)) (.c x20) enE h21 x6)))))))))) (oBox 44 (.c a0) enE h0)

theorem q50 (R : RnK) (N : Nat) (args : List Value) (h : Hs) : r50 R N args h = callT Tryz.prog N R 50 args h := by kernel_rfl

/-- lintel/geom.Node -/
noncomputable def r55 (R : RnK) (N : Nat) (args : List Value) (h : Hs) : An := unC args fun a0 sq0 => unC sq0 fun a1 sq1 => enK h fun h0 =>
 after (fun x0 h1 =>
 kLoads 4 x0 h1 (fun x2 =>
 kCall R 50 [x2] h1 (fun x3 h4 =>
 kNot x3 (fun x5 =>
 gdF x5 h4 (fun k6 => k6 a1 h4) (fun x7 h8 =>
 gdF x5 h8 (fun k9 => kFieldA 1 x0 (fun x10 => k9 x10 h8)) (fun x11 h12 =>
 gdF x5 h12 (fun k13 => kLoad x11 h12 (fun x14 => k13 x14 h12)) (fun x15 h16 =>
 gdF x5 h16 (fun k17 => kCall R 87 [x7, (Value.int .i64 (.ofNat 1)), x15] h16 (k17)) (fun x18 h19 =>
 gdF x5 h19 (fun k20 => kNot x18 (fun x21 => k20 x21 h19)) (fun x22 h23 =>
 after (fun x24 h25 =>
 jn (fun (x27 : Value) (h28 : Hs) =>
 kLoads 4 x0 h28 (fun x29 =>
 kCall R 90 [x29] h28 (fun x30 h31 =>
 kExtr x30 0 (fun x32 =>
 kExtr x30 1 (fun x33 =>
 kI64 .add x32 x33 (fun x34 =>
 kI64 .add x34 a1 (fun x35 =>
 kI64 .sub x35 (Value.int .i64 (.ofNat 1)) (fun x36 =>
 clrK h x36 h31)))))))) fun k26 =>
 cnd x24
 (clrK h (Value.int .i64 (.ofNat 0)) h25)
 (k26 (Value.int .i64 (.ofNat 0)) h25)) (pickB (.c (Value.bool true)) (.c x22) enE h23 x5)))))))))) (oBox 44 (.c a0) enE h0)

theorem q55 (R : RnK) (N : Nat) (args : List Value) (h : Hs) : r55 R N args h = callT Tryz.prog N R 55 args h := by kernel_rfl

/-- lintel/bits.Set -/
noncomputable def r59 (R : RnK) (N : Nat) (args : List Value) (h : Hs) : An := unC args fun a0 sq0 => unC sq0 fun a1 sq1 => unC sq1 fun a2 sq2 => enK h fun h0 =>
 after (fun x0 h1 =>
 after (fun x2 h3 =>
 kFieldA 0 x0 (fun x4 =>
 kLoad x4 h3 (fun x5 =>
 kCall R 92 [x5] h3 (fun x6 h7 =>
 after (fun x8 h9 =>
 after (fun x10 h11 =>
 kStore1 x10 x8 h11 (fun x12 h13 =>
 kLenV a2 (fun x14 =>
 jn (fun (x16 x17 x18 x19 x20 : Value) (h21 : Hs) =>
 kLoads 1 x10 h21 (fun x22 =>
 kStore1 x2 x22 h21 (fun x23 h24 =>
 clearUp h (packR h24 (resV enE h24 [.cell (.c x2) 1 true]))))) fun k15 =>
 lpT (T := Value → Value → Value → Value → Value → Hs → An) (fun _ _ _ _ _ _ => none) N (fun k25 =>
 fun (x27 x28 x29 x30 x31 : Value) (h32 : Hs) =>
 kI64 .lss x27 x14 (fun x33 =>
 jn (fun (h35 : Hs) =>
 jn (fun (x37 x38 x39 : Value) (h40 : Hs) =>
 kI64 .add x27 (Value.int .i64 (.ofNat 1)) (fun x41 =>
 k25 x41 x33 x37 x38 x39 h40)) fun k36 =>
 kIdxA 1 a2 x27 (fun x42 =>
 kLoad x42 h35 (fun x43 =>
 kLoads 1 x0 h35 (fun x44 =>
 kCall R 93 [x44, x43] h35 (fun x45 h46 =>
 kNot x45 (fun x47 =>
 jn (fun (h49 : Hs) =>
 kFieldA 0 x10 (fun x50 =>
 kLoad x50 h49 (fun x51 =>
 kI64 .quo x43 (Value.int .i64 (.ofNat 64)) (fun x52 =>
 kIdxA 1 x51 x52 (fun x53 =>
 kLoad x53 h49 (fun x54 =>
 kI64 .rem x43 (Value.int .i64 (.ofNat 64)) (fun x55 =>
 kShl (Value.int .u64 (.ofNat 1)) x55 (fun x56 =>
 kU64 .andNot x54 x56 (fun x57 =>
 kIdxA 1 x51 x52 (fun x58 =>
 kStore1 x58 x57 h49 (fun v76 u77 => dPut (fun x59 h60 =>
 jn (fun (h62 : Hs) =>
 k36 x43 x47 a1 h62) fun k61 =>
 cnd a1
 (kFieldA 0 x10 (fun x63 =>
 kLoad x63 h60 (fun x64 =>
 kI64 .quo x43 (Value.int .i64 (.ofNat 64)) (fun x65 =>
 kIdxA 1 x64 x65 (fun x66 =>
 kLoad x66 h60 (fun x67 =>
 kI64 .rem x43 (Value.int .i64 (.ofNat 64)) (fun x68 =>
 kShl (Value.int .u64 (.ofNat 1)) x68 (fun x69 =>
 kU64 .or x67 x69 (fun x70 =>
 kIdxA 1 x64 x65 (fun x71 =>
 kStore1 x71 x70 h60 (fun v74 u75 => dPut (fun x72 h73 =>
 k61 h73) v74 (dNext h60 u75 .bar) (andB (dFit h60 u75 .bar) (Nat.ble 0 u75.lo)))))))))))))
 (k61 h60)) v76 (dNext h49 u77 .bar) (andB (dFit h49 u77 .bar) (Nat.ble 0 u77.lo))))))))))))) fun k48 =>
 cnd x47
 (k36 x43 x47 x31 h46)
 (k48 h46))))))) fun k34 =>
 cnd x33
 (k34 h32)
 (k15 x27 x33 x29 x30 x31 h32))) (Value.int .i64 (.ofNat 0)) dunno dunno dunno dunno h13))) (oAlloc 132 [(Value.slice none 0 0)] enE h9)) (oBuild [(Value.slice none 0 0)] [(0, 1, .c x6)] enE h7))))) (oAlloc 132 [(Value.slice none 0 0)] enE h1)) (oBox 132 (.c a0) enE h0)

theorem q59 (R : RnK) (N : Nat) (args : List Value) (h : Hs) : r59 R N args h = callT Tryz.prog N R 59 args h := by kernel_rfl

/-- lintel/line.New -/
noncomputable def r62 (R : RnK) (N : Nat) (args : List Value) (h : Hs) : An := unC args fun a0 sq0 => enK h fun h0 =>
 after (fun x0 h1 =>
 after (fun x2 h3 =>
 kNil x2 (fun x4 =>
 kFieldA 0 x4 (fun x5 =>
 after (fun x6 h7 =>
 after (fun x8 h9 =>
 clrK h x2 h9) (copy0 1 h7 x6 a0)) (ret1 h3 (slArr1 8 h3 (addrOf x5)))))) (oBox 113 (.c x0) enE h1)) (oBuild [(Value.int .u64 (.ofNat 0)), (Value.int .u64 (.ofNat 0)), (Value.int .u64 (.ofNat 0)), (Value.int .u64 (.ofNat 0)), (Value.int .u64 (.ofNat 0)), (Value.int .u64 (.ofNat 0)), (Value.int .u64 (.ofNat 0)), (Value.int .u64 (.ofNat 0)), (Value.slice none 0 0), (Value.int .i64 (.ofNat 0))] [] enE h0)

theorem q62 (R : RnK) (N : Nat) (args : List Value) (h : Hs) : r62 R N args h = callT Tryz.prog N R 62 args h := by kernel_rfl

/-- (*lintel/line.Line).Load -/
noncomputable def r64 (R : RnK) (N : Nat) (args : List Value) (h : Hs) : An := unC args fun a0 sq0 => unC sq0 fun a1 sq1 => enK h fun h0 =>
 kI64 .lss a1 (Value.int .i64 (.ofNat 0)) (fun x0 =>
 gdF x0 h0 (fun k1 => k1 a1 h0) (fun x2 h3 =>
 gdF x0 h3 (fun k4 => kI64 .geq x2 (Value.int .i64 (.ofNat 8)) (fun x5 => k4 x5 h3)) (fun x6 h7 =>
 after (fun x8 h9 =>
 jn (fun (x11 : Value) (h12 : Hs) =>
 kNil a0 (fun x13 =>
 kFieldA 0 x13 (fun x14 =>
 obK (fun x15 =>
 kLoad x15 h12 (fun x16 =>
 kNil a0 (fun x17 =>
 kFieldA 8 x17 (fun x18 =>
 kLoad x18 h12 (fun x19 =>
 kLenV x19 (fun x20 =>
 jn (fun (x22 x23 x24 x25 x26 : Value) (h27 : Hs) =>
 clrK h x26 h27) fun k21 =>
 lpT (T := Value → Value → Value → Value → Value → Hs → An) (fun _ _ _ _ _ _ => none) N (fun k28 =>
 fun (x30 x31 x32 x33 x34 : Value) (h35 : Hs) =>
 kI64 .lss x30 x20 (fun x36 =>
 jn (fun (h38 : Hs) =>
 jn (fun (x40 x41 x42 : Value) (h43 : Hs) =>
 kI64 .add x30 (Value.int .i64 (.ofNat 1)) (fun x44 =>
 k28 x44 x36 x40 x41 x42 h43)) fun k39 =>
 kIdxA 2 x19 x30 (fun x45 =>
 kLoads 2 x45 h38 (fun x46 =>
 after (fun x47 h48 =>
 after (fun x49 h50 =>
 kFieldA 0 x47 (fun x51 =>
 kLoad x51 h50 (fun x52 =>
 kI64 .eql x52 a1 (fun x53 =>
 jn (fun (x55 : Value) (h56 : Hs) =>
 k39 x47 x53 x55 h56) fun k54 =>
 cnd x53
 (kFieldA 1 x47 (fun x57 =>
 kLoad x57 h50 (fun x58 =>
 k54 x58 h50)))
 (k54 x34 h50))))) (store1 2 h48 (cellsL x46) (addrOf x47))) (oAlloc 174 [(Value.int .i64 (.ofNat 0)), (Value.int .u64 (.ofNat 0))] enE h38)))) fun k37 =>
 cnd x36
 (k37 h35)
 (k21 x30 x36 x32 x33 x34 h35))) (Value.int .i64 (.ofNat 0)) dunno dunno dunno x16 h12)))))) (idxArr1 1 8 (natOf a1) x14)))) fun k10 =>
 cnd x8
 (clrK h (Value.int .u64 (.ofNat 0)) h9)
 (k10 (Value.int .u64 (.ofNat 0)) h9)) (pickB (.c (Value.bool true)) (.c x6) enE h7 x0))))

theorem q64 (R : RnK) (N : Nat) (args : List Value) (h : Hs) : r64 R N args h = callT Tryz.prog N R 64 args h := by kernel_rfl

/-- (lintel/span.Span).Word -/
noncomputable def r75 (R : RnK) (N : Nat) (args : List Value) (h : Hs) : An := unC args fun a0 sq0 => unC sq0 fun a1 sq1 => enK h fun h0 =>
 after (fun x0 h1 =>
 kLoads 3 x0 h1 (fun x2 =>
 kCall R 108 [x2, a1] h1 (fun x3 h4 =>
 kExtr x3 0 (fun x5 =>
 kExtr x3 1 (fun x6 =>
 kNot x6 (fun x7 =>
 jn (fun (x9 x10 : Value) (h11 : Hs) =>
 kFieldA 0 x0 (fun x12 =>
 kLoad x12 h11 (fun x13 =>
 kCall R 109 [x13, x5] h11 (fun x14 h15 =>
 kExtr x14 0 (fun x16 =>
 kExtr x14 1 (fun x17 =>
 clrK h (Value.tuple #[x16, x17]) h15)))))) fun k8 =>
 cnd x7
 (clrK h (Value.tuple #[(Value.int .u64 (.ofNat 0)), (Value.int .i64 (.ofNat 1))]) h4)
 (k8 (Value.int .u64 (.ofNat 0)) (Value.int .i64 (.ofNat 0)) h4))))))) (oBox 144 (.c a0) enE h0)

theorem q75 (R : RnK) (N : Nat) (args : List Value) (h : Hs) : r75 R N args h = callT Tryz.prog N R 75 args h := by kernel_rfl

/-- lintel/geom.in -/
noncomputable def r87 (R : RnK) (N : Nat) (args : List Value) (h : Hs) : An := unC args fun a0 sq0 => unC sq0 fun a1 sq1 => unC sq1 fun a2 sq2 => enK h fun h0 =>
 kI64 .geq a0 a1 (fun x0 =>
 gdT x0 h0 (fun k1 => k1 a0 h0) (fun x2 h3 =>
 gdT x0 h3 (fun k4 => k4 a2 h3) (fun x5 h6 =>
 gdT x0 h6 (fun k7 => kI64 .leq x2 x5 (fun x8 => k7 x8 h6)) (fun x9 h10 =>
 after (fun x11 h12 =>
 clrK h x11 h12) (pickB (.c x9) (.c (Value.bool false)) enE h10 x0)))))

theorem q87 (R : RnK) (N : Nat) (args : List Value) (h : Hs) : r87 R N args h = callT Tryz.prog N R 87 args h := by kernel_rfl

/-- (lintel/geom.Geom).data -/
noncomputable def r88 (R : RnK) (N : Nat) (args : List Value) (h : Hs) : An := unC args fun a0 sq0 => enK h fun h0 =>
 after (fun x0 h1 =>
 kLoads 4 x0 h1 (fun x2 =>
 kCall R 90 [x2] h1 (fun x3 h4 =>
 kExtr x3 0 (fun x5 =>
 kExtr x3 1 (fun x6 =>
 kI64 .add x5 x6 (fun x7 =>
 kFieldA 1 x0 (fun x8 =>
 kLoad x8 h4 (fun x9 =>
 kI64 .mul (Value.int .i64 (.ofNat 2)) x9 (fun x10 =>
 kI64 .add x7 x10 (fun x11 =>
 kFieldA 0 x0 (fun x12 =>
 kLoad x12 h4 (fun x13 =>
 kI64 .sub x13 (Value.int .i64 (.ofNat 1)) (fun x14 =>
 kI64 .sub x14 x11 (fun x15 =>
 clrK h (Value.tuple #[x11, x15]) h4)))))))))))))) (oBox 44 (.c a0) enE h0)

theorem q88 (R : RnK) (N : Nat) (args : List Value) (h : Hs) : r88 R N args h = callT Tryz.prog N R 88 args h := by kernel_rfl

/-- (lintel/geom.Geom).bits -/
noncomputable def r90 (R : RnK) (N : Nat) (args : List Value) (h : Hs) : An := unC args fun a0 sq0 => enK h fun h0 =>
 after (fun x0 h1 =>
 kFieldA 2 x0 (fun x2 =>
 kLoad x2 (Hs.mk h1.hp h1.nx h1.nx) (fun x3 =>
 kFieldA 3 x0 (fun x4 =>
 kLoad x4 (Hs.mk h1.hp h1.nx h1.nx) (fun x5 =>
 kI64 .mul x3 x5 (fun x6 =>
 kI64 .add (Value.int .i64 (.ofNat 1)) x6 (fun x7 =>
 kFieldA 0 x0 (fun x8 =>
 kLoad x8 (Hs.mk h1.hp h1.nx h1.nx) (fun x9 =>
 kI64 .add x9 (Value.int .i64 (.ofNat 512)) (fun x10 =>
 kI64 .sub x10 (Value.int .i64 (.ofNat 1)) (fun x11 =>
 kI64 .quo x11 (Value.int .i64 (.ofNat 512)) (fun x12 =>
 clrK h (Value.tuple #[x7, x12]) h1)))))))))))) (oBox 44 (.c a0) enE h0)

theorem q90 (R : RnK) (N : Nat) (args : List Value) (h : Hs) : r90 R N args h = callT Tryz.prog N R 90 args h := by kernel_rfl

/-- (lintel/bits.Bits).there -/
noncomputable def r93 (R : RnK) (N : Nat) (args : List Value) (h : Hs) : An := unC args fun a0 sq0 => unC sq0 fun a1 sq1 => enK h fun h0 =>
 after (fun x0 h1 =>
 kI64 .geq a1 (Value.int .i64 (.ofNat 0)) (fun x2 =>
 gdT x2 h1 (fun k3 => k3 a1 h1) (fun x4 h5 =>
 gdT x2 h5 (fun k6 => kI64 .quo x4 (Value.int .i64 (.ofNat 64)) (fun x7 => k6 x7 h5)) (fun x8 h9 =>
 gdT x2 h9 (fun k10 => kFieldA 0 x0 (fun x11 => k10 x11 h9)) (fun x12 h13 =>
 gdT x2 h13 (fun k14 => kLoad x12 h13 (fun x15 => k14 x15 h13)) (fun x16 h17 =>
 gdT x2 h17 (fun k18 => kLenV x16 (fun x19 => k18 x19 h17)) (fun x20 h21 =>
 gdT x2 h21 (fun k22 => kI64 .lss x8 x20 (fun x23 => k22 x23 h21)) (fun x24 h25 =>
 after (fun x26 h27 =>
 clrK h x26 h27) (pickB (.c x24) (.c (Value.bool false)) enE h25 x2))))))))) (oBox 132 (.c a0) enE h0)

theorem q93 (R : RnK) (N : Nat) (args : List Value) (h : Hs) : r93 R N args h = callT Tryz.prog N R 93 args h := by kernel_rfl

/-- (lintel/span.Span).All -/
noncomputable def r96 (R : RnK) (N : Nat) (args : List Value) (h : Hs) : An := unC args fun a0 sq0 => enK h fun h0 =>
 after (fun x0 h1 =>
 jn (fun (x3 x4 x5 x6 x7 x8 x9 x10 : Value) (h11 : Hs) =>
 clrK h (Value.tuple #[x7, (Value.int .i64 (.ofNat 0))]) h11) fun k2 =>
 lpT (T := Value → Value → Value → Value → Value → Value → Value → Value → Hs → An) (fun _ _ _ _ _ _ _ _ _ => none) N (fun k12 =>
 fun (x14 x15 x16 x17 x18 x19 x20 x21 : Value) (h22 : Hs) =>
 kI64 .quo x14 (Value.int .i64 (.ofNat 8)) (fun x23 =>
 kFieldA 2 x0 (fun x24 =>
 kLoad x24 h22 (fun x25 =>
 kI64 .lss x23 x25 (fun x26 =>
 jn (fun (h28 : Hs) =>
 jn (fun (x30 x31 x32 x33 x34 x35 : Value) (h36 : Hs) =>
 kI64 .add x14 (Value.int .i64 (.ofNat 1)) (fun x37 =>
 k12 x37 x26 x30 x31 x32 x33 x34 x35 h36)) fun k29 =>
 kLoads 3 x0 h28 (fun x38 =>
 kCall R 75 [x38, x14] h28 (fun x39 h40 =>
 kExtr x39 0 (fun x41 =>
 kExtr x39 1 (fun x42 =>
 kI64 .neq x42 (Value.int .i64 (.ofNat 0)) (fun x43 =>
 jn (fun (x45 x46 : Value) (h47 : Hs) =>
 after (fun x48 h49 =>
 after (fun x50 h51 =>
 k29 x42 x43 x50 x41 x45 x46 h51) (app0 109 1 8 h49 x18 x48)) (oMkrow 109 1 1 [(Value.int .u64 (.ofNat 0))] [(0, 1, .c x41)] enE h47)) fun k44 =>
 cnd x43
 (clrK h (Value.tuple #[(Value.slice none 0 0), x42]) h40)
 (k44 x20 x21 h40))))))) fun k27 =>
 cnd x26
 (k27 h22)
 (k2 x14 x26 x16 x17 x18 x19 x20 x21 h22)))))) (Value.int .i64 (.ofNat 0)) dunno dunno dunno (Value.slice none 0 0) dunno (Value.slice none 0 0) (Value.int .i64 (.ofNat 0)) h1) (oBox 144 (.c a0) enE h0)

theorem q96 (R : RnK) (N : Nat) (args : List Value) (h : Hs) : r96 R N args h = callT Tryz.prog N R 96 args h := by kernel_rfl

/-- (*lintel/pmem.Mem).Fence -/
noncomputable def r103 (R : RnK) (N : Nat) (args : List Value) (h : Hs) : An := unC args fun a0 sq0 => enK h fun h0 =>
 kNil a0 (fun x0 =>
 kFieldA 1 x0 (fun x1 =>
 kLoad x1 h0 (fun x2 =>
 gdF x2 h0 (fun k3 => k3 a0 h0) (fun x4 h5 =>
 gdF x2 h5 (fun k6 => kCall R 144 [x4] h5 (k6)) (fun x7 h8 =>
 gdF x2 h8 (fun k9 => kNot x7 (fun x10 => k9 x10 h8)) (fun x11 h12 =>
 after (fun x13 h14 =>
 jn (fun (x16 : Value) (h17 : Hs) =>
 kNil a0 (fun x18 =>
 kFieldA 0 x18 (fun x19 =>
 kLoad x19 h17 (fun x20 =>
 kLenV x20 (fun x21 =>
 jn (fun (x23 x24 x25 : Value) (h26 : Hs) =>
 kNil a0 (fun x27 =>
 kFieldA 6 x27 (fun x28 =>
 kLoad x28 h26 (fun x29 =>
 kI64 .add x29 (Value.int .i64 (.ofNat 1)) (fun x30 =>
 kNil a0 (fun x31 =>
 kFieldA 6 x31 (fun x32 =>
 kStore1 x32 x30 h26 (fun x33 h34 =>
 clrK h (Value.int .i64 (.ofNat 0)) h34)))))))) fun k22 =>
 lpT (T := Value → Value → Value → Hs → An) (fun _ _ _ _ => none) N (fun k35 =>
 fun (x37 x38 x39 : Value) (h40 : Hs) =>
 kI64 .lss x37 x21 (fun x41 =>
 jn (fun (h43 : Hs) =>
 jn (fun (x45 : Value) (h46 : Hs) =>
 kI64 .add x37 (Value.int .i64 (.ofNat 1)) (fun x47 =>
 k35 x47 x41 x45 h46)) fun k44 =>
 kIdxA 1 x20 x37 (fun x48 =>
 kLoad x48 h43 (fun x49 =>
 kCall R 149 [x49] h43 (fun x50 h51 =>
 k44 x49 h51)))) fun k42 =>
 cnd x41
 (k42 h40)
 (k22 x37 x41 x39 h40))) (Value.int .i64 (.ofNat 0)) dunno dunno h17))))) fun k15 =>
 cnd x13
 (clrK h (Value.int .i64 (.ofNat 14)) h14)
 (k15 (Value.int .i64 (.ofNat 0)) h14)) (pickB (.c (Value.bool true)) (.c x11) enE h12 x2)))))))

theorem q103 (R : RnK) (N : Nat) (args : List Value) (h : Hs) : r103 R N args h = callT Tryz.prog N R 103 args h := by kernel_rfl

/-- (lintel/span.Span).place -/
noncomputable def r108 (R : RnK) (N : Nat) (args : List Value) (h : Hs) : An := unC args fun a0 sq0 => unC sq0 fun a1 sq1 => enK h fun h0 =>
 after (fun x0 h1 =>
 kFieldA 0 x0 (fun x2 =>
 kLoad x2 h1 (fun x3 =>
 obK (fun x4 =>
 gdF x4 h1 (fun k5 => k5 a1 h1) (fun x6 h7 =>
 gdF x4 h7 (fun k8 => kI64 .lss x6 (Value.int .i64 (.ofNat 0)) (fun x9 => k8 x9 h7)) (fun x10 h11 =>
 after (fun x12 h13 =>
 gdF x12 h13 (fun k14 => k14 a1 h13) (fun x15 h16 =>
 gdF x12 h16 (fun k17 => kI64 .quo x15 (Value.int .i64 (.ofNat 8)) (fun x18 => k17 x18 h16)) (fun x19 h20 =>
 gdF x12 h20 (fun k21 => kFieldA 2 x0 (fun x22 => k21 x22 h20)) (fun x23 h24 =>
 gdF x12 h24 (fun k25 => kLoad x23 h24 (fun x26 => k25 x26 h24)) (fun x27 h28 =>
 gdF x12 h28 (fun k29 => kI64 .geq x19 x27 (fun x30 => k29 x30 h28)) (fun x31 h32 =>
 after (fun x33 h34 =>
 jn (fun (x36 x37 : Value) (h38 : Hs) =>
 kFieldA 1 x0 (fun x39 =>
 kLoad x39 h38 (fun x40 =>
 kI64 .mul x40 (Value.int .i64 (.ofNat 8)) (fun x41 =>
 kI64 .add x41 a1 (fun x42 =>
 clrK h (Value.tuple #[x42, (Value.bool true)]) h38))))) fun k35 =>
 cnd x33
 (clrK h (Value.tuple #[(Value.int .i64 (.ofNat 0)), (Value.bool false)]) h34)
 (k35 (Value.int .i64 (.ofNat 0)) (Value.bool false) h34)) (pickB (.c (Value.bool true)) (.c x31) enE h32 x12))))))) (pickB (.c (Value.bool true)) (.c x10) enE h11 x4)))) (e2 false qP x3 (Value.pointer none))))) (oBox 144 (.c a0) enE h0)

theorem q108 (R : RnK) (N : Nat) (args : List Value) (h : Hs) : r108 R N args h = callT Tryz.prog N R 108 args h := by kernel_rfl

/-- (*lintel/pmem.Mem).Load -/
noncomputable def r109 (R : RnK) (N : Nat) (args : List Value) (h : Hs) : An := unC args fun a0 sq0 => unC sq0 fun a1 sq1 => enK h fun h0 =>
 jn (fun (x1 x2 x3 x4 : Value) (h5 : Hs) =>
 kNil a0 (fun x6 =>
 kFieldA 0 x6 (fun x7 =>
 kLoad x7 h5 (fun x8 =>
 kI64 .quo a1 (Value.int .i64 (.ofNat 8)) (fun x9 =>
 kIdxA 1 x8 x9 (fun x10 =>
 kLoad x10 h5 (fun x11 =>
 kI64 .rem a1 (Value.int .i64 (.ofNat 8)) (fun x12 =>
 kCall R 64 [x11, x12] h5 (fun x13 h14 =>
 clrK h (Value.tuple #[x13, (Value.int .i64 (.ofNat 0))]) h14))))))))) fun k0 =>
 kNil a0 (fun x15 =>
 kFieldA 1 x15 (fun x16 =>
 kLoad x16 h0 (fun x17 =>
 jn (fun (x19 x20 x21 : Value) (h22 : Hs) =>
 k0 x17 x19 x20 x21 h22) fun k18 =>
 cnd x17
 (clrK h (Value.tuple #[(Value.int .u64 (.ofNat 0)), (Value.int .i64 (.ofNat 14))]) h0)
 (kCall R 143 [a0, a1] h0 (fun x23 h24 =>
 kNot x23 (fun x25 =>
 jn (fun (x27 x28 : Value) (h29 : Hs) =>
 k18 x25 x27 x28 h29) fun k26 =>
 cnd x25
 (clrK h (Value.tuple #[(Value.int .u64 (.ofNat 0)), (Value.int .i64 (.ofNat 1))]) h24)
 (k26 (Value.int .u64 (.ofNat 0)) (Value.int .i64 (.ofNat 0)) h24)))))))

theorem q109 (R : RnK) (N : Nat) (args : List Value) (h : Hs) : r109 R N args h = callT Tryz.prog N R 109 args h := by kernel_rfl

/-- (*lintel/edit.Edit).Writes -/
noncomputable def r119 (R : RnK) (N : Nat) (args : List Value) (h : Hs) : An := unC args fun a0 sq0 => enK h fun h0 =>
 kNil a0 (fun x0 =>
 kFieldA 5 x0 (fun x1 =>
 kLoads 5 x1 (Hs.mk h0.hp h0.nx h0.nx) (fun x2 =>
 kCall R 172 [x2] (Hs.mk h0.hp h0.nx h0.nx) (fun v121 u122 => dPut (fun x3 h4 =>
 kNil a0 (fun x5 =>
 kFieldA 0 x5 (fun x6 =>
 kLoads 5 x6 (dHidS .light [true, true, true, false, false, false, false, false] [none, none, none, some (h0.nx, h4.nx), none, none, none, none] h4) (fun x7 =>
 kCall R 172 [x7] h4 (fun v119 u120 => dPut (fun x8 h9 =>
 after (fun v117 u118 => dPut (fun x10 h11 =>
 after (fun v115 u116 => dPut (fun x12 h13 =>
 kStore1 x10 x3 h13 (fun v113 u114 => dPut (fun x14 h15 =>
 kStore1 x12 x8 h15 (fun v111 u112 => dPut (fun x16 h17 =>
 kNil a0 (fun x18 =>
 kFieldA 0 x18 (fun x19 =>
 kFieldA 4 x19 (fun x20 =>
 kLoad x20 h17 (fun x21 =>
 kLenV x21 (fun x22 =>
 jn (fun (x24 x25 x26 x27 x28 x29 x30 x31 x32 : Value) (h33 : Hs) =>
 clrK h (Value.tuple #[x29, x32]) h33) fun k23 =>
 lpT (T := Value → Value → Value → Value → Value → Value → Value → Value → Value → Hs → An) (fun _ _ _ _ _ _ _ _ _ _ => none) N (fun k34 =>
 fun (x36 x37 x38 x39 x40 x41 x42 x43 x44 : Value) (h45 : Hs) =>
 kI64 .lss x36 x22 (fun x46 =>
 jn (fun (h48 : Hs) =>
 jn (fun (x50 x51 x52 x53 x54 x55 x56 : Value) (h57 : Hs) =>
 kI64 .add x36 (Value.int .i64 (.ofNat 1)) (fun x58 =>
 k34 x58 x46 x50 x51 x52 x53 x54 x55 x56 h57)) fun k49 =>
 kIdxA 1 x21 x36 (fun x59 =>
 kLoad x59 h48 (fun x60 =>
 kI64 .quo x36 (Value.int .i64 (.ofNat 8)) (fun x61 =>
 jn (fun (x63 x64 x65 x66 : Value) (h67 : Hs) =>
 k49 x36 x61 x63 x64 x60 x65 x66 h67) fun k62 =>
 kLoads 1 x10 h48 (fun x68 =>
 kCall R 173 [x68, x61] h48 (fun x69 h70 =>
 kNot x69 (fun x71 =>
 gdT x71 h70 (fun k72 => kLoads 1 x12 h70 (fun x73 => k72 x73 h70)) (fun x74 h75 =>
 gdT x71 h75 (fun k76 => k76 x61 h75) (fun x77 h78 =>
 gdT x71 h78 (fun k79 => kCall R 173 [x74, x77] h78 (k79)) (fun x80 h81 =>
 after (fun x82 h83 =>
 jn (fun (x85 x86 x87 : Value) (h88 : Hs) =>
 k62 x82 x85 x86 x87 h88) fun k84 =>
 cnd x82
 (after (fun x89 h90 =>
 after (fun x91 h92 =>
 after (fun x93 h94 =>
 k84 x93 x43 x44 h94) (app0 193 2 16 h92 x41 x91)) (oMkrow 193 2 1 [(Value.int .i64 (.ofNat 0)), (Value.int .u64 (.ofNat 0))] [(0, 2, .c x89)] enE h90)) (oBuild [(Value.int .i64 (.ofNat 0)), (Value.int .u64 (.ofNat 0))] [(0, 1, .c x36), (1, 1, .c x60)] enE h83))
 (kNil a0 (fun x95 =>
 kFieldA 5 x95 (fun x96 =>
 kFieldA 4 x96 (fun x97 =>
 kLoad x97 h83 (fun x98 =>
 kIdxA 1 x98 x36 (fun x99 =>
 kLoad x99 h83 (fun x100 =>
 kU64 .neq x100 x60 (fun x101 =>
 jn (fun (x103 : Value) (h104 : Hs) =>
 k84 x41 x101 x103 h104) fun k102 =>
 cnd x101
 (after (fun x105 h106 =>
 after (fun x107 h108 =>
 after (fun x109 h110 =>
 k102 x109 h110) (app0 193 2 16 h108 x44 x107)) (oMkrow 193 2 1 [(Value.int .i64 (.ofNat 0)), (Value.int .u64 (.ofNat 0))] [(0, 2, .c x105)] enE h106)) (oBuild [(Value.int .i64 (.ofNat 0)), (Value.int .u64 (.ofNat 0))] [(0, 1, .c x36), (1, 1, .c x60)] enE h83))
 (k102 x44 h83)))))))))) (pickB (.c x80) (.c (Value.bool false)) enE h81 x71))))))))))) fun k47 =>
 cnd x46
 (k47 h45)
 (k23 x36 x46 x38 x39 x40 x41 x42 x43 x44 h45))) (Value.int .i64 (.ofNat 0)) dunno dunno dunno dunno (Value.slice none 0 0) dunno dunno (Value.slice none 0 0) h17)))))) v111 (dNext h15 u112 .bar) (andB (dFit h15 u112 .bar) (Nat.ble 0 u112.lo)))) v113 (dNext h13 u114 .bar) (andB (dFit h13 u114 .bar) (Nat.ble 0 u114.lo)))) v115 (dNext h11 u116 .make) (andB (dFit h11 u116 .make) (Nat.ble 0 u116.lo))) (oAlloc 132 [(Value.slice none 0 0)] enE (Hs.mk .e h11.nx h11.nx))) v117 (dNext h9 u118 .make) (andB (dFit h9 u118 .make) (Nat.ble 0 u118.lo))) (oAlloc 132 [(Value.slice none 0 0)] enE (Hs.mk .e h9.nx h9.nx))) v119 (dNext h4 u120 .bar) (andB (dFit h4 u120 .bar) (Nat.ble 0 u120.lo))))))) v121 (dNext h0 u122 .light) (andB (dFit h0 u122 .light) (Nat.ble 0 u122.lo))))))

theorem q119 (R : RnK) (N : Nat) (args : List Value) (h : Hs) : r119 R N args h = callT Tryz.prog N R 119 args h := by kernel_rfl

/-- lintel/seal.On -/
noncomputable def r134 (R : RnK) (N : Nat) (args : List Value) (h : Hs) : An := unC args fun a0 sq0 => unC sq0 fun a1 sq1 => enK h fun h0 =>
 kLenV a1 (fun x0 =>
 jn (fun (x2 x3 x4 x5 : Value) (h6 : Hs) =>
 clrK h x4 h6) fun k1 =>
 lpT (T := Value → Value → Value → Value → Hs → An) (fun _ _ _ _ _ => none) N (fun k7 =>
 fun (x9 x10 x11 x12 : Value) (h13 : Hs) =>
 kI64 .lss x9 x0 (fun x14 =>
 jn (fun (h16 : Hs) =>
 jn (fun (x18 x19 : Value) (h20 : Hs) =>
 kI64 .add x9 (Value.int .i64 (.ofNat 1)) (fun x21 =>
 k7 x21 x14 x18 x19 h20)) fun k17 =>
 kIdxA 1 a1 x9 (fun x22 =>
 kLoad x22 h16 (fun x23 =>
 kCall R 181 [x11, (Value.int .i64 (.ofNat 9))] h16 (fun x24 h25 =>
 kU64 .xor x24 x23 (fun x26 =>
 k17 x26 x23 h25))))) fun k15 =>
 cnd x14
 (k15 h13)
 (k1 x9 x14 x11 x12 h13))) (Value.int .i64 (.ofNat 0)) dunno a0 dunno h0)

theorem q134 (R : RnK) (N : Nat) (args : List Value) (h : Hs) : r134 R N args h = callT Tryz.prog N R 134 args h := by kernel_rfl

/-- slices.Equal[[]uint64,uint64] -/
noncomputable def r139 (R : RnK) (N : Nat) (args : List Value) (h : Hs) : An := unC args fun a0 sq0 => unC sq0 fun a1 sq1 => enK h fun h0 =>
 kLenV a0 (fun x0 =>
 kLenV a1 (fun x1 =>
 kI64 .neq x0 x1 (fun x2 =>
 jn (fun (x4 : Value) (h5 : Hs) =>
 kLenV a0 (fun x6 =>
 jn (fun (x8 x9 x10 x11 x12 : Value) (h13 : Hs) =>
 clrK h (Value.bool true) h13) fun k7 =>
 lpT (T := Value → Value → Value → Value → Value → Hs → An) (fun _ _ _ _ _ _ => none) N (fun k14 =>
 fun (x16 x17 x18 x19 x20 : Value) (h21 : Hs) =>
 kI64 .lss x16 x6 (fun x22 =>
 jn (fun (h24 : Hs) =>
 jn (fun (x26 x27 x28 : Value) (h29 : Hs) =>
 kI64 .add x16 (Value.int .i64 (.ofNat 1)) (fun x30 =>
 k14 x30 x22 x26 x27 x28 h29)) fun k25 =>
 kIdxA 1 a0 x16 (fun x31 =>
 kLoad x31 (Hs.mk h24.hp h24.nx h24.nx) (fun x32 =>
 kIdxA 1 a1 x16 (fun x33 =>
 kLoad x33 (Hs.mk h24.hp h24.nx h24.nx) (fun x34 =>
 kU64 .neq x32 x34 (fun x35 =>
 jn (fun (x37 : Value) (h38 : Hs) =>
 k25 x16 x35 x37 h38) fun k36 =>
 cnd x35
 (clrK h (Value.bool false) h24)
 (k36 x20 h24))))))) fun k23 =>
 cnd x22
 (k23 h21)
 (k7 x16 x22 x18 x19 x20 h21))) (Value.int .i64 (.ofNat 0)) dunno dunno dunno x4 h5)) fun k3 =>
 cnd x2
 (clrK h (Value.bool false) h0)
 (k3 (Value.bool false) h0))))

theorem q139 (R : RnK) (N : Nat) (args : List Value) (h : Hs) : r139 R N args h = callT Tryz.prog N R 139 args h := by kernel_rfl

/-- (*lintel/pmem.Mem).has -/
noncomputable def r143 (R : RnK) (N : Nat) (args : List Value) (h : Hs) : An := unC args fun a0 sq0 => unC sq0 fun a1 sq1 => enK h fun h0 =>
 kI64 .geq a1 (Value.int .i64 (.ofNat 0)) (fun x0 =>
 gdT x0 h0 (fun k1 => k1 a1 h0) (fun x2 h3 =>
 gdT x0 h3 (fun k4 => k4 a0 h3) (fun x5 h6 =>
 gdT x0 h6 (fun k7 => kNil x5 (fun x8 => k7 x8 h6)) (fun x9 h10 =>
 gdT x0 h10 (fun k11 => kFieldA 0 x9 (fun x12 => k11 x12 h10)) (fun x13 h14 =>
 gdT x0 h14 (fun k15 => kLoad x13 h14 (fun x16 => k15 x16 h14)) (fun x17 h18 =>
 gdT x0 h18 (fun k19 => kLenV x17 (fun x20 => k19 x20 h18)) (fun x21 h22 =>
 gdT x0 h22 (fun k23 => kI64 .mul (Value.int .i64 (.ofNat 8)) x21 (fun x24 => k23 x24 h22)) (fun x25 h26 =>
 gdT x0 h26 (fun k27 => kI64 .lss x2 x25 (fun x28 => k27 x28 h26)) (fun x29 h30 =>
 after (fun x31 h32 =>
 clrK h x31 h32) (pickB (.c x29) (.c (Value.bool false)) enE h30 x0))))))))))

theorem q143 (R : RnK) (N : Nat) (args : List Value) (h : Hs) : r143 R N args h = callT Tryz.prog N R 143 args h := by kernel_rfl

/-- (*lintel/line.Line).Fence -/
noncomputable def r149 (R : RnK) (N : Nat) (args : List Value) (h : Hs) : An := unC args fun a0 sq0 => enK h fun h0 =>
 kNil a0 (fun x0 =>
 kFieldA 9 x0 (fun x1 =>
 kLoad x1 h0 (fun x2 =>
 kCall R 45 [a0, x2] h0 (fun x3 h4 =>
 clrK h (Value.tuple #[]) h4))))

theorem q149 (R : RnK) (N : Nat) (args : List Value) (h : Hs) : r149 R N args h = callT Tryz.prog N R 149 args h := by kernel_rfl

/-- lintel/bits.Has -/
noncomputable def r173 (R : RnK) (N : Nat) (args : List Value) (h : Hs) : An := unC args fun a0 sq0 => unC sq0 fun a1 sq1 => enK h fun h0 =>
 after (fun x0 h1 =>
 kLoads 1 x0 h1 (fun x2 =>
 kCall R 93 [x2, a1] h1 (fun x3 h4 =>
 gdT x3 h4 (fun k5 => kFieldA 0 x0 (fun x6 => k5 x6 h4)) (fun x7 h8 =>
 gdT x3 h8 (fun k9 => kLoad x7 h8 (fun x10 => k9 x10 h8)) (fun x11 h12 =>
 gdT x3 h12 (fun k13 => k13 a1 h12) (fun x14 h15 =>
 gdT x3 h15 (fun k16 => kI64 .quo x14 (Value.int .i64 (.ofNat 64)) (fun x17 => k16 x17 h15)) (fun x18 h19 =>
 gdT x3 h19 (fun k20 => kIdxA 1 x11 x18 (fun x21 => k20 x21 h19)) (fun x22 h23 =>
 gdT x3 h23 (fun k24 => kLoad x22 h23 (fun x25 => k24 x25 h23)) (fun x26 h27 =>
 gdT x3 h27 (fun k28 => k28 a1 h27) (fun x29 h30 =>
 gdT x3 h30 (fun k31 => kI64 .rem x29 (Value.int .i64 (.ofNat 64)) (fun x32 => k31 x32 h30)) (fun x33 h34 =>
 gdT x3 h34 (fun k35 => kShr x26 x33 (fun x36 => k35 x36 h34)) (fun x37 h38 =>
 gdT x3 h38 (fun k39 => kU64 .and x37 (Value.int .u64 (.ofNat 1)) (fun x40 => k39 x40 h38)) (fun x41 h42 =>
 gdT x3 h42 (fun k43 => kU64 .eql x41 (Value.int .u64 (.ofNat 1)) (fun x44 => k43 x44 h42)) (fun x45 h46 =>
 after (fun x47 h48 =>
 clrK h x47 h48) (pickB (.c x45) (.c (Value.bool false)) enE h46 x3))))))))))))))) (oBox 132 (.c a0) enE h0)

theorem q173 (R : RnK) (N : Nat) (args : List Value) (h : Hs) : r173 R N args h = callT Tryz.prog N R 173 args h := by kernel_rfl

/-- math/bits.RotateLeft64 -/
noncomputable def r181 (R : RnK) (N : Nat) (args : List Value) (h : Hs) : An := unC args fun a0 sq0 => unC sq0 fun a1 sq1 => enK h fun h0 =>
 kToU a1 (fun x0 =>
 kU64 .and x0 (Value.int .u64 (.ofNat 63)) (fun x1 =>
 kShl a0 x1 (fun x2 =>
 kU64 .sub (Value.int .u64 (.ofNat 64)) x1 (fun x3 =>
 kShr a0 x3 (fun x4 =>
 kU64 .or x2 x4 (fun x5 =>
 clrK h x5 h0))))))

theorem q181 (R : RnK) (N : Nat) (args : List Value) (h : Hs) : r181 R N args h = callT Tryz.prog N R 181 args h := by kernel_rfl

/-- lintel/node.Get -/
noncomputable def r185 (R : RnK) (N : Nat) (args : List Value) (h : Hs) : An := unC args fun a0 sq0 => enK h fun h0 =>
 after (fun x0 h1 =>
 kLenV a0 (fun x2 =>
 kI64 .neq x2 (Value.int .i64 (.ofNat 8)) (fun x3 =>
 gdF x3 h1 (fun k4 => k4 a0 h1) (fun x5 h6 =>
 gdF x3 h6 (fun k7 => kIdxA 1 x5 (Value.int .i64 (.ofNat 0)) (fun x8 => k7 x8 h6)) (fun x9 h10 =>
 gdF x3 h10 (fun k11 => kLoad x9 h10 (fun x12 => k11 x12 h10)) (fun x13 h14 =>
 gdF x3 h14 (fun k15 => kShr x13 (Value.int .u64 (.ofNat 32)) (fun x16 => k15 x16 h14)) (fun x17 h18 =>
 gdF x3 h18 (fun k19 => kU64 .neq x17 (Value.int .u64 (.ofNat 0)) (fun x20 => k19 x20 h18)) (fun x21 h22 =>
 after (fun x23 h24 =>
 gdF x23 h24 (fun k25 => k25 a0 h24) (fun x26 h27 =>
 gdF x23 h27 (fun k28 => kIdxA 1 x26 (Value.int .i64 (.ofNat 1)) (fun x29 => k28 x29 h27)) (fun x30 h31 =>
 gdF x23 h31 (fun k32 => kLoad x30 h31 (fun x33 => k32 x33 h31)) (fun x34 h35 =>
 gdF x23 h35 (fun k36 => kU64 .gtr x34 (Value.int .u64 (.ofNat 1099511627776)) (fun x37 => k36 x37 h35)) (fun x38 h39 =>
 after (fun x40 h41 =>
 jn (fun (x43 : Value) (h44 : Hs) =>
 kIdxA 1 a0 (Value.int .i64 (.ofNat 0)) (fun x45 =>
 kLoad x45 (Hs.mk h44.hp h44.nx h44.nx) (fun x46 =>
 kU64 .and x46 (Value.int .u64 (.ofNat 255)) (fun x47 =>
 kTo64 x47 (fun x48 =>
 kIdxA 1 a0 (Value.int .i64 (.ofNat 0)) (fun x49 =>
 kLoad x49 (Hs.mk h44.hp h44.nx h44.nx) (fun x50 =>
 kShr x50 (Value.int .u64 (.ofNat 8)) (fun x51 =>
 kTo64 x51 (fun x52 =>
 kIdxA 1 a0 (Value.int .i64 (.ofNat 1)) (fun x53 =>
 kLoad x53 (Hs.mk h44.hp h44.nx h44.nx) (fun x54 =>
 kTo64 x54 (fun x55 =>
 after (fun v126 u127 => dPut (fun x56 h57 =>
 after (fun v124 u125 => dPut (fun x58 h59 =>
 after (fun v122 u123 => dPut (fun x60 h61 =>
 after (fun x62 h63 =>
 kLenV x62 (fun x64 =>
 jn (fun (x66 x67 x68 x69 : Value) (h70 : Hs) =>
 kLoads 4 x58 h70 (fun x71 =>
 kCall R 56 [x71] h70 (fun x72 h73 =>
 kCall R 139 [x72, a0] h73 (fun x74 h75 =>
 kNot x74 (fun x76 =>
 jn (fun (x78 : Value) (h79 : Hs) =>
 kLoads 4 x58 h79 (fun x80 =>
 after (fun x81 h82 =>
 clearUp h (packR h82 (resV enE h82 [.cell (.c x0) 4 true, .t (.c (Value.bool true))]))) (store1 4 h79 (cellsL x80) (addrOf x0)))) fun k77 =>
 cnd x76
 (after (fun x83 h84 =>
 after (fun x85 h86 =>
 clearUp h (packR h86 (resV enE h86 [.cell (.c x0) 4 true, .t (.c (Value.bool false))]))) (store1 4 h84 (cellsL x83) (addrOf x0))) (oBuild [(Value.int .i64 (.ofNat 0)), (Value.int .i64 (.ofNat 0)), (Value.int .i64 (.ofNat 0)), (Value.slice none 0 0)] [] enE h75))
 (k77 x43 h75)))))) fun k65 =>
 lpT (T := Value → Value → Value → Value → Hs → An) (fun _ _ _ _ _ => none) N (fun k87 =>
 fun (x89 x90 x91 x92 : Value) (h93 : Hs) =>
 kI64 .lss x89 x64 (fun x94 =>
 jn (fun (h96 : Hs) =>
 jn (fun (x98 x99 : Value) (h100 : Hs) =>
 kI64 .add x89 (Value.int .i64 (.ofNat 1)) (fun x101 =>
 k87 x101 x94 x98 x99 h100)) fun k97 =>
 kIdxA 1 x62 x89 (fun x102 =>
 kLoad x102 h96 (fun x103 =>
 kU64 .eql x103 (Value.int .u64 (.ofNat 0)) (fun x104 =>
 jn (fun (h106 : Hs) =>
 kFieldA 3 x58 (fun x107 =>
 kLoad x107 h106 (fun x108 =>
 kU64 .and x103 (Value.int .u64 (.ofNat 4294967295)) (fun x109 =>
 kTo64 x109 (fun x110 =>
 kShr x103 (Value.int .u64 (.ofNat 32)) (fun x111 =>
 kTo64 x111 (fun x112 =>
 after (fun x113 h114 =>
 after (fun x115 h116 =>
 after (fun x117 h118 =>
 kFieldA 3 x58 (fun x119 =>
 kStore1 x119 x117 h118 (fun x120 h121 =>
 k97 x103 x104 h121))) (app0 130 2 16 h116 x108 x115)) (oMkrow 130 2 1 [(Value.int .i64 (.ofNat 0)), (Value.int .i64 (.ofNat 0))] [(0, 2, .c x113)] enE h114)) (oBuild [(Value.int .i64 (.ofNat 0)), (Value.int .i64 (.ofNat 0))] [(0, 1, .c x110), (1, 1, .c x112)] enE h106)))))))) fun k105 =>
 cnd x104
 (k65 x89 x94 x103 x104 h96)
 (k105 h96))))) fun k95 =>
 cnd x94
 (k95 h93)
 (k65 x89 x94 x91 x92 h93))) (Value.int .i64 (.ofNat 0)) dunno dunno dunno h63)) (oSlice 1 (.c a0) (some (.c (Value.int .i64 (.ofNat 2)))) (some (.c (Value.int .i64 (.ofNat 6)))) none enE h61)) v122 (dNext h59 u123 .bar) (andB (dFit h59 u123 .bar) (Nat.ble 0 u123.lo))) (store1 4 h59 (cellsL x56) (addrOf x58))) v124 (dNext h57 u125 .make) (andB (dFit h57 u125 .make) (Nat.ble 0 u125.lo))) (oAlloc 128 [(Value.int .i64 (.ofNat 0)), (Value.int .i64 (.ofNat 0)), (Value.int .i64 (.ofNat 0)), (Value.slice none 0 0)] enE (Hs.mk .e h57.nx h57.nx))) v126 (dNext h44 u127 .blind) (andB (dFit h44 u127 .blind) (Nat.ble 0 u127.lo))) (oBuild [(Value.int .i64 (.ofNat 0)), (Value.int .i64 (.ofNat 0)), (Value.int .i64 (.ofNat 0)), (Value.slice none 0 0)] [(0, 1, .c x48), (1, 1, .c x52), (2, 1, .c x55)] enE (Hs.mk .e h44.nx h44.nx)))))))))))))) fun k42 =>
 cnd x40
 (after (fun x128 h129 =>
 after (fun x130 h131 =>
 clearUp h (packR h131 (resV enE h131 [.cell (.c x0) 4 true, .t (.c (Value.bool false))]))) (store1 4 h129 (cellsL x128) (addrOf x0))) (oBuild [(Value.int .i64 (.ofNat 0)), (Value.int .i64 (.ofNat 0)), (Value.int .i64 (.ofNat 0)), (Value.slice none 0 0)] [] enE h41))
 (k42 (Value.bool false) h41)) (pickB (.c (Value.bool true)) (.c x38) enE h39 x23)))))) (pickB (.c (Value.bool true)) (.c x21) enE h22 x3))))))))) (oAlloc 128 [(Value.int .i64 (.ofNat 0)), (Value.int .i64 (.ofNat 0)), (Value.int .i64 (.ofNat 0)), (Value.slice none 0 0)] enE h0)

theorem q185 (R : RnK) (N : Nat) (args : List Value) (h : Hs) : r185 R N args h = callT Tryz.prog N R 185 args h := by kernel_rfl

/-- lintel/bits.Next -/
noncomputable def r290 (R : RnK) (N : Nat) (args : List Value) (h : Hs) : An := unC args fun a0 sq0 => unC sq0 fun a1 sq1 => unC sq1 fun a2 sq2 => unC sq2 fun a3 sq3 => enK h fun h0 =>
 after (fun x0 h1 =>
 after (fun x2 h3 =>
 jn (fun (x5 x6 x7 x8 x9 : Value) (h10 : Hs) =>
 clrK h (Value.tuple #[(Value.int .i64 (.ofNat 0)), (Value.bool false)]) h10) fun k4 =>
 lpT (T := Value → Value → Value → Value → Value → Hs → An) (fun _ _ _ _ _ _ => none) N (fun k11 =>
 fun (x13 x14 x15 x16 x17 : Value) (h18 : Hs) =>
 kI64 .lss x13 a3 (fun x19 =>
 gdT x19 h18 (fun k20 => kLoads 1 x0 h18 (fun x21 => k20 x21 h18)) (fun x22 h23 =>
 gdT x19 h23 (fun k24 => k24 x13 h23) (fun x25 h26 =>
 gdT x19 h26 (fun k27 => kCall R 93 [x22, x25] h26 (k27)) (fun x28 h29 =>
 after (fun x30 h31 =>
 jn (fun (h33 : Hs) =>
 jn (fun (x35 x36 x37 : Value) (h38 : Hs) =>
 kI64 .add x13 (Value.int .i64 (.ofNat 1)) (fun x39 =>
 k11 x39 x30 x35 x36 x37 h38)) fun k34 =>
 kLoads 1 x0 h33 (fun x40 =>
 kCall R 173 [x40, x13] h33 (fun x41 h42 =>
 obK (fun x43 =>
 jn (fun (x45 x46 : Value) (h47 : Hs) =>
 k34 x43 x45 x46 h47) fun k44 =>
 cnd x43
 (clrK h (Value.tuple #[x13, (Value.bool true)]) h42)
 (k44 x16 x17 h42)) (e2 false qB x41 a1)))) fun k32 =>
 cnd x30
 (k32 h31)
 (k4 x13 x30 x15 x16 x17 h31)) (pickB (.c x28) (.c (Value.bool false)) enE h29 x19)))))) x2 dunno dunno (Value.int .i64 (.ofNat 0)) (Value.bool false) h3) (oMinmax true [.c a2, .c (Value.int .i64 (.ofNat 0))] enE h1)) (oBox 132 (.c a0) enE h0)

theorem q290 (R : RnK) (N : Nat) (args : List Value) (h : Hs) : r290 R N args h = callT Tryz.prog N R 290 args h := by kernel_rfl

noncomputable def entries : List (Nat × FnK) := [(10, r10), (25, r25), (32, r32), (35, r35), (45, r45), (50, r50), (55, r55), (59, r59), (62, r62), (64, r64), (75, r75), (87, r87), (88, r88), (90, r90), (93, r93), (96, r96), (103, r103), (108, r108), (109, r109), (119, r119), (134, r134), (139, r139), (143, r143), (149, r149), (173, r173), (181, r181), (185, r185), (290, r290)]
theorem entries_ok : AllOk Tryz.prog entries := ⟨q10, q25, q32, q35, q45, q50, q55, q59, q62, q64, q75, q87, q88, q90, q93, q96, q103, q108, q109, q119, q134, q139, q143, q149, q173, q181, q185, q290, trivial⟩
end Go.Proofs.YtimbaniomdimcaaGreatDoor.crewKnown
