/- The functions that 'EditKnown' reaches, in the fast evaluator's form, each held against the program's own text by the kernel. Written by a program. -/
import Derived.Test.YtlkmmfkhaljldaaGreatGevKM
import Derived.Test.YtlkmmfkhaljldaaGreatProg
import Derived.KernelRfl
namespace Go.Proofs.YtlkmmfkhaljldaaGreat.editKnown
open Go.Gev
set_option linter.unusedVariables false
/-- lintel/lintellaw20.awake -/
noncomputable def r4 (R : RnK) (N : Nat) (args : List Value) (h : Hs) : An := enK h fun h0 =>
 kCall R 6 [] h0 (fun x0 h1 =>
 kCall R 5 [x0] h1 (fun x2 h3 =>
 kExtr x2 0 (fun x4 =>
 kExtr x2 1 (fun x5 =>
 kI64 .neq x5 (Value.int .i64 (.ofNat 0)) (fun x6 =>
 gdF x6 h3 (fun k7 => k7 x4 h3) (fun x8 h9 =>
 gdF x6 h9 (fun k10 => obK (fun x11 => k10 x11 h9) (e2 false qP x8 (Value.pointer none))) (fun x12 h13 =>
 after (fun x14 h15 =>
 jn (fun (x17 : Value) (h18 : Hs) =>
 kCall R 11 [x4] h18 (fun x19 h20 =>
 kExtr x19 0 (fun x21 =>
 kExtr x19 1 (fun x22 =>
 after (fun x23 h24 =>
 kCall R 7 [x4, (Value.int .i64 (.ofNat 3)), x23] h24 (fun x25 h26 =>
 kCall R 11 [x4] h26 (fun x27 h28 =>
 kExtr x27 0 (fun x29 =>
 kExtr x27 1 (fun x30 =>
 kNil x4 (fun x31 =>
 kFieldA 0 x31 (fun x32 =>
 kLoads 5 x32 h28 (fun x33 =>
 kCall R 15 [x33, (Value.int .i64 (.ofNat 3))] h28 (fun x34 h35 =>
 kExtr x34 0 (fun x36 =>
 kExtr x34 1 (fun x37 =>
 after (fun x38 h39 =>
 after (fun x40 h41 =>
 kLenV x21 (fun x42 =>
 kI64 .eql x42 (Value.int .i64 (.ofNat 0)) (fun x43 =>
 gdT x43 h41 (fun k44 => k44 x22 h41) (fun x45 h46 =>
 gdT x43 h46 (fun k47 => kLenV x45 (fun x48 => k47 x48 h46)) (fun x49 h50 =>
 gdT x43 h50 (fun k51 => kI64 .eql x49 (Value.int .i64 (.ofNat 0)) (fun x52 => k51 x52 h50)) (fun x53 h54 =>
 after (fun x55 h56 =>
 gdT x55 h56 (fun k57 => k57 x25 h56) (fun x58 h59 =>
 gdT x55 h59 (fun k60 => kI64 .eql x58 (Value.int .i64 (.ofNat 0)) (fun x61 => k60 x61 h59)) (fun x62 h63 =>
 after (fun x64 h65 =>
 gdT x64 h65 (fun k66 => k66 x30 h65) (fun x67 h68 =>
 gdT x64 h68 (fun k69 => kLenV x67 (fun x70 => k69 x70 h68)) (fun x71 h72 =>
 gdT x64 h72 (fun k73 => kI64 .gtr x71 (Value.int .i64 (.ofNat 0)) (fun x74 => k73 x74 h72)) (fun x75 h76 =>
 after (fun x77 h78 =>
 gdT x77 h78 (fun k79 => k79 x37 h78) (fun x80 h81 =>
 after (fun x82 h83 =>
 gdT x82 h83 (fun k84 => kFieldA 0 x38 (fun x85 => k84 x85 h83)) (fun x86 h87 =>
 gdT x82 h87 (fun k88 => kLoad x86 h87 (fun x89 => k88 x89 h87)) (fun x90 h91 =>
 gdT x82 h91 (fun k92 => kI64 .eql x90 (Value.int .i64 (.ofNat 1)) (fun x93 => k92 x93 h91)) (fun x94 h95 =>
 after (fun x96 h97 =>
 gdT x96 h97 (fun k98 => k98 x4 h97) (fun x99 h100 =>
 gdT x96 h100 (fun k101 => kNil x99 (fun x102 => k101 x102 h100)) (fun x103 h104 =>
 gdT x96 h104 (fun k105 => kFieldA 0 x103 (fun x106 => k105 x106 h104)) (fun x107 h108 =>
 gdT x96 h108 (fun k109 => kFieldA 0 x107 (fun x110 => k109 x110 h108)) (fun x111 h112 =>
 gdT x96 h112 (fun k113 => kFieldA 0 x111 (fun x114 => k113 x114 h112)) (fun x115 h116 =>
 gdT x96 h116 (fun k117 => kLoad x115 h116 (fun x118 => k117 x118 h116)) (fun x119 h120 =>
 gdT x96 h120 (fun k121 => kI64 .eql x119 (Value.int .i64 (.ofNat 64)) (fun x122 => k121 x122 h120)) (fun x123 h124 =>
 after (fun x125 h126 =>
 clrK h x125 h126) (pickB (.c x123) (.c (Value.bool false)) enE h124 x96))))))))) (pickB (.c x94) (.c (Value.bool false)) enE h95 x82))))) (pickB (.c x80) (.c (Value.bool false)) enE h81 x77))) (pickB (.c x75) (.c (Value.bool false)) enE h76 x64))))) (pickB (.c x62) (.c (Value.bool false)) enE h63 x55)))) (pickB (.c x53) (.c (Value.bool false)) enE h54 x43))))))) (store1 4 h39 (cellsL x36) (addrOf x38))) (oAlloc 32 [(Value.int .i64 (.ofNat 0)), (Value.int .i64 (.ofNat 0)), (Value.int .i64 (.ofNat 0)), (Value.slice none 0 0)] enE h35)))))))))))) (oBuild [(Value.int .i64 (.ofNat 0)), (Value.int .i64 (.ofNat 0)), (Value.int .i64 (.ofNat 0)), (Value.slice none 0 0)] [(0, 1, .c (Value.int .i64 (.ofNat 1))), (1, 1, .c (Value.int .i64 (.ofNat 1)))] enE h20))))) fun k16 =>
 cnd x14
 (clrK h (Value.bool false) h15)
 (k16 (Value.bool false) h15)) (pickB (.c (Value.bool true)) (.c x12) enE h13 x6))))))))

theorem q4 (R : RnK) (N : Nat) (args : List Value) (h : Hs) : r4 R N args h = callT Tryz.prog N R 4 args h := by kernel_rfl

/-- lintel/edit.New -/
noncomputable def r5 (R : RnK) (N : Nat) (args : List Value) (h : Hs) : An := unC args fun a0 s0 => enK h fun h0 =>
 kCall R 16 [a0] h0 (fun x0 h1 =>
 kExtr x0 0 (fun x2 =>
 kExtr x0 1 (fun x3 =>
 after (fun x4 h5 =>
 after (fun x6 h7 =>
 kI64 .neq x3 (Value.int .i64 (.ofNat 0)) (fun x8 =>
 jn (fun (x10 x11 : Value) (h12 : Hs) =>
 kLoads 5 x4 (Hs.mk h12.hp h12.nx h12.nx) (fun x13 =>
 kFieldA 0 x4 (fun x14 =>
 kLoads 4 x14 (Hs.mk h12.hp h12.nx h12.nx) (fun x15 =>
 kCall R 17 [a0] (Hs.mk h12.hp h12.nx h12.nx) (fun v30 u31 => dPut (fun x16 h17 =>
 after (fun v28 u29 => dPut (fun x18 h19 =>
 after (fun v26 u27 => dPut (fun x20 h21 =>
 after (fun v24 u25 => dPut (fun x22 h23 =>
 clrK h (Value.tuple #[x22, (Value.int .i64 (.ofNat 0))]) h23) v24 (dNext h21 u25 .make) (andB (dFit h21 u25 .make) (Nat.ble 0 u25.lo))) (oBox 49 (.c x20) enE (Hs.mk .e h21.nx h21.nx))) v26 (dNext h19 u27 .blind) (andB (dFit h19 u27 .blind) (Nat.ble 0 u27.lo))) (oBuild [(Value.int .i64 (.ofNat 0)), (Value.int .i64 (.ofNat 0)), (Value.int .i64 (.ofNat 0)), (Value.int .i64 (.ofNat 0)), (Value.slice none 0 0), (Value.int .i64 (.ofNat 0)), (Value.int .i64 (.ofNat 0)), (Value.int .i64 (.ofNat 0)), (Value.int .i64 (.ofNat 0)), (Value.slice none 0 0)] [(0, 5, .c x13), (5, 5, .c x18)] enE (Hs.mk .e h19.nx h19.nx))) v28 (dNext h17 u29 .blind) (andB (dFit h17 u29 .blind) (Nat.ble 0 u29.lo))) (oBuild [(Value.int .i64 (.ofNat 0)), (Value.int .i64 (.ofNat 0)), (Value.int .i64 (.ofNat 0)), (Value.int .i64 (.ofNat 0)), (Value.slice none 0 0)] [(0, 4, .c x15), (4, 1, .c x16)] enE (Hs.mk .e h17.nx h17.nx))) v30 (dNext h12 u31 .light) (andB (dFit h12 u31 .light) (Nat.ble 0 u31.lo))))))) fun k9 =>
 cnd x8
 (clrK h (Value.tuple #[(Value.pointer none), x3]) h7)
 (k9 (Value.pointer none) (Value.int .i64 (.ofNat 0)) h7))) (store1 5 h5 (cellsL x2) (addrOf x4))) (oAlloc 47 [(Value.int .i64 (.ofNat 0)), (Value.int .i64 (.ofNat 0)), (Value.int .i64 (.ofNat 0)), (Value.int .i64 (.ofNat 0)), (Value.slice none 0 0)] enE h1))))

theorem q5 (R : RnK) (N : Nat) (args : List Value) (h : Hs) : r5 R N args h = callT Tryz.prog N R 5 args h := by kernel_rfl

/-- lintel/lintellaw20.made -/
noncomputable def r6 (R : RnK) (N : Nat) (args : List Value) (h : Hs) : An := enK h fun h0 =>
 kCall R 19 [(Value.int .i64 (.ofNat 64))] h0 (fun x0 h1 =>
 kCall R 18 [x0] h1 (fun x2 h3 =>
 kExtr x2 0 (fun x4 =>
 kExtr x2 1 (fun x5 =>
 clrK h x4 h3))))

theorem q6 (R : RnK) (N : Nat) (args : List Value) (h : Hs) : r6 R N args h = callT Tryz.prog N R 6 args h := by kernel_rfl

/-- (*lintel/edit.Edit).SetNode -/
noncomputable def r7 (R : RnK) (N : Nat) (args : List Value) (h : Hs) : An := unC args fun a0 s0 => unC s0 fun a1 s1 => unC s1 fun a2 s2 => enK h fun h0 =>
 after (fun x0 h1 =>
 kNil a0 (fun x2 =>
 kFieldA 0 x2 (fun x3 =>
 kFieldA 0 x3 (fun x4 =>
 kLoads 4 x4 h1 (fun x5 =>
 kCall R 20 [x5, a1] h1 (fun x6 h7 =>
 kI64 .eql x6 (Value.int .i64 (.ofNat 0)) (fun x8 =>
 gdF x8 h7 (fun k9 => k9 a0 h7) (fun x10 _ =>
 gdF x8 h7 (fun k12 => kNil x10 (fun x13 => k12 x13 h7)) (fun x14 _ =>
 gdF x8 h7 (fun k16 => kFieldA 0 x14 (fun x17 => k16 x17 h7)) (fun x18 _ =>
 gdF x8 h7 (fun k20 => kFieldA 0 x18 (fun x21 => k20 x21 h7)) (fun x22 _ =>
 gdF x8 h7 (fun k24 => kLoads 4 x22 (Hs.mk h7.hp h7.nx h7.nx) (fun x25 => k24 x25 h7)) (fun x26 _ =>
 gdF x8 h7 (fun k28 => kLoads 4 x0 (Hs.mk h7.hp h7.nx h7.nx) (fun x29 => k28 x29 h7)) (fun x30 _ =>
 gdF x8 h7 (fun k32 => kCall R 21 [x26, x30] h7 (fun v33 u34 => dPut k32 v33 (dNext h7 u34 .bar) (andB (dFit h7 u34 .bar) (Nat.ble 0 u34.lo)))) (fun x35 h36 =>
 gdF x8 h36 (fun k37 => kNot x35 (fun x38 => k37 x38 h36)) (fun x39 _ =>
 after (fun v70 u71 => dPut (fun x41 h42 =>
 jn (fun (x44 : Value) (h45 : Hs) =>
 kNil a0 (fun x46 =>
 kFieldA 0 x46 (fun x47 =>
 kLoads 5 x47 h45 (fun x48 =>
 kCall R 15 [x48, a1] h45 (fun x49 h50 =>
 kExtr x49 0 (fun x51 =>
 kExtr x49 1 (fun x52 =>
 after (fun x53 h54 =>
 after (fun x55 h56 =>
 kFieldA 3 x53 (fun x57 =>
 kLoad x57 h56 (fun x58 =>
 kCall R 22 [a0, (Value.bool false), x58] h56 (fun x59 h60 =>
 kFieldA 3 x0 (fun x61 =>
 kLoad x61 h60 (fun x62 =>
 kCall R 22 [a0, (Value.bool true), x62] h60 (fun x63 h64 =>
 kLoads 4 x0 h64 (fun x65 =>
 kCall R 24 [x65] h64 (fun x66 h67 =>
 kCall R 23 [a0, x6, x66] h67 (fun x68 h69 =>
 clrK h (Value.int .i64 (.ofNat 0)) h69)))))))))) (store1 4 h54 (cellsL x51) (addrOf x53))) (oAlloc 32 [(Value.int .i64 (.ofNat 0)), (Value.int .i64 (.ofNat 0)), (Value.int .i64 (.ofNat 0)), (Value.slice none 0 0)] enE h50)))))))) fun k43 =>
 cnd x41
 (clrK h (Value.int .i64 (.ofNat 1)) h42)
 (k43 (Value.int .i64 (.ofNat 0)) h42)) v70 (dNext h36 u71 .blind) (andB (dFit h36 u71 .blind) (Nat.ble 0 u71.lo))) (pickB (.c (Value.bool true)) (.c x39) enE (Hs.mk .e h36.nx h36.nx) x8)))))))))))))))) (oBox 32 (.c a2) enE h0)

theorem q7 (R : RnK) (N : Nat) (args : List Value) (h : Hs) : r7 R N args h = callT Tryz.prog N R 7 args h := by kernel_rfl

/-- (*lintel/edit.Edit).SetSlot -/
noncomputable def r8 (R : RnK) (N : Nat) (args : List Value) (h : Hs) : An := unC args fun a0 s0 => unC s0 fun a1 s1 => unC s1 fun a2 s2 => unC s2 fun a3 s3 => enK h fun h0 =>
 after (fun x0 h1 =>
 kNil a0 (fun x2 =>
 kFieldA 0 x2 (fun x3 =>
 kLoads 5 x3 h1 (fun x4 =>
 kCall R 15 [x4, a1] h1 (fun x5 h6 =>
 kExtr x5 0 (fun x7 =>
 kExtr x5 1 (fun x8 =>
 after (fun x9 h10 =>
 after (fun x11 h12 =>
 kNot x8 (fun x13 =>
 gdF x13 h12 (fun k14 => kFieldA 0 x9 (fun x15 => k14 x15 h12)) (fun x16 h17 =>
 gdF x13 h17 (fun k18 => kLoad x16 h17 (fun x19 => k18 x19 h17)) (fun x20 h21 =>
 gdF x13 h21 (fun k22 => kI64 .neq x20 (Value.int .i64 (.ofNat 2)) (fun x23 => k22 x23 h21)) (fun x24 h25 =>
 after (fun x26 h27 =>
 gdF x26 h27 (fun k28 => k28 a2 h27) (fun x29 h30 =>
 gdF x26 h30 (fun k31 => kI64 .lss x29 (Value.int .i64 (.ofNat 0)) (fun x32 => k31 x32 h30)) (fun x33 h34 =>
 after (fun x35 h36 =>
 gdF x35 h36 (fun k37 => k37 a2 h36) (fun x38 h39 =>
 gdF x35 h39 (fun k40 => kFieldA 2 x9 (fun x41 => k40 x41 h39)) (fun x42 h43 =>
 gdF x35 h43 (fun k44 => kLoad x42 h43 (fun x45 => k44 x45 h43)) (fun x46 h47 =>
 gdF x35 h47 (fun k48 => kI64 .geq x38 x46 (fun x49 => k48 x49 h47)) (fun x50 h51 =>
 after (fun x52 h53 =>
 gdF x52 h53 (fun k54 => kLoads 2 x0 h53 (fun x55 => k54 x55 h53)) (fun x56 h57 =>
 gdF x52 h57 (fun k58 => kCall R 25 [x56] h57 (k58)) (fun x59 h60 =>
 gdF x52 h60 (fun k61 => kNot x59 (fun x62 => k61 x62 h60)) (fun x63 h64 =>
 after (fun x65 h66 =>
 jn (fun (x68 : Value) (h69 : Hs) =>
 kFieldA 3 x9 (fun x70 =>
 kLoad x70 h69 (fun x71 =>
 kCall R 26 [x71, a2] h69 (fun x72 h73 =>
 kExtr x72 0 (fun x74 =>
 kExtr x72 1 (fun x75 =>
 kLoads 2 x0 h73 (fun x76 =>
 kCall R 27 [x76] h73 (fun x77 h78 =>
 kCall R 23 [a0, x74, x77] h78 (fun x79 h80 =>
 clrK h (Value.int .i64 (.ofNat 0)) h80))))))))) fun k67 =>
 cnd x65
 (clrK h (Value.int .i64 (.ofNat 1)) h66)
 (k67 (Value.int .i64 (.ofNat 0)) h66)) (pickB (.c (Value.bool true)) (.c x63) enE h64 x52))))) (pickB (.c (Value.bool true)) (.c x50) enE h51 x35)))))) (pickB (.c (Value.bool true)) (.c x33) enE h34 x26)))) (pickB (.c (Value.bool true)) (.c x24) enE h25 x13)))))) (store1 4 h10 (cellsL x7) (addrOf x9))) (oAlloc 32 [(Value.int .i64 (.ofNat 0)), (Value.int .i64 (.ofNat 0)), (Value.int .i64 (.ofNat 0)), (Value.slice none 0 0)] enE h6)))))))) (oBox 35 (.c a3) enE h0)

theorem q8 (R : RnK) (N : Nat) (args : List Value) (h : Hs) : r8 R N args h = callT Tryz.prog N R 8 args h := by kernel_rfl

/-- (*lintel/edit.Edit).Fill -/
noncomputable def r9 (R : RnK) (N : Nat) (args : List Value) (h : Hs) : An := unC args fun a0 s0 => unC s0 fun a1 s1 => unC s1 fun a2 s2 => unC s2 fun a3 s3 => enK h fun h0 =>
 kNil a0 (fun x0 =>
 kFieldA 0 x0 (fun x1 =>
 kLoads 5 x1 h0 (fun x2 =>
 kCall R 15 [x2, a2] h0 (fun x3 h4 =>
 kExtr x3 0 (fun x5 =>
 kExtr x3 1 (fun x6 =>
 after (fun x7 h8 =>
 after (fun x9 h10 =>
 kNot x6 (fun x11 =>
 gdF x11 h10 (fun k12 => kFieldA 0 x7 (fun x13 => k12 x13 h10)) (fun x14 h15 =>
 gdF x11 h15 (fun k16 => kLoad x14 h15 (fun x17 => k16 x17 h15)) (fun x18 h19 =>
 gdF x11 h19 (fun k20 => k20 a3 h19) (fun x21 h22 =>
 gdF x11 h22 (fun k23 => kLenV x21 (fun x24 => k23 x24 h22)) (fun x25 h26 =>
 gdF x11 h26 (fun k27 => kCall R 28 [x18, x25] h26 (k27)) (fun x28 h29 =>
 gdF x11 h29 (fun k30 => kNot x28 (fun x31 => k30 x31 h29)) (fun x32 h33 =>
 after (fun x34 h35 =>
 gdF x34 h35 (fun k36 => k36 a1 h35) (fun x37 h38 =>
 gdF x34 h38 (fun k39 => kI64 .lss x37 (Value.int .i64 (.ofNat 0)) (fun x40 => k39 x40 h38)) (fun x41 h42 =>
 after (fun x43 h44 =>
 gdF x43 h44 (fun k45 => k45 a1 h44) (fun x46 h47 =>
 gdF x43 h47 (fun k48 => k48 a0 h47) (fun x49 h50 =>
 gdF x43 h50 (fun k51 => kNil x49 (fun x52 => k51 x52 h50)) (fun x53 h54 =>
 gdF x43 h54 (fun k55 => kFieldA 0 x53 (fun x56 => k55 x56 h54)) (fun x57 h58 =>
 gdF x43 h58 (fun k59 => kFieldA 0 x57 (fun x60 => k59 x60 h58)) (fun x61 h62 =>
 gdF x43 h62 (fun k63 => kFieldA 2 x61 (fun x64 => k63 x64 h62)) (fun x65 h66 =>
 gdF x43 h66 (fun k67 => kLoad x65 h66 (fun x68 => k67 x68 h66)) (fun x69 h70 =>
 gdF x43 h70 (fun k71 => kI64 .geq x46 x69 (fun x72 => k71 x72 h70)) (fun x73 h74 =>
 after (fun x75 h76 =>
 jn (fun (x78 : Value) (h79 : Hs) =>
 kLenV a3 (fun x80 =>
 kI64 .add x80 (Value.int .i64 (.ofNat 64)) (fun x81 =>
 kI64 .sub x81 (Value.int .i64 (.ofNat 1)) (fun x82 =>
 kI64 .quo x82 (Value.int .i64 (.ofNat 64)) (fun x83 =>
 kFieldA 3 x7 (fun x84 =>
 kLoad x84 h79 (fun x85 =>
 kCall R 29 [a0, a1, x83, (Value.int .i64 (.ofNat 4)), x85] h79 (fun x86 h87 =>
 kExtr x86 0 (fun x88 =>
 kExtr x86 1 (fun x89 =>
 kI64 .neq x89 (Value.int .i64 (.ofNat 0)) (fun x90 =>
 jn (fun (x92 : Value) (h93 : Hs) =>
 kLenV a3 (fun x94 =>
 kFieldA 2 x7 (fun x95 =>
 kStore1 x95 x94 h93 (fun x96 h97 =>
 kFieldA 3 x7 (fun x98 =>
 kStore1 x98 x88 h97 (fun x99 h100 =>
 kLoads 4 x7 h100 (fun x101 =>
 kCall R 7 [a0, a2, x101] h100 (fun x102 h103 =>
 kCall R 30 [x88] h103 (fun x104 h105 =>
 jn (fun (x107 x108 x109 x110 x111 x112 x113 x114 x115 x116 x117 : Value) (h118 : Hs) =>
 clrK h (Value.int .i64 (.ofNat 0)) h118) fun k106 =>
 lpT (T := Value → Value → Value → Value → Value → Value → Value → Value → Value → Value → Value → Hs → An) (fun _ _ _ _ _ _ _ _ _ _ _ _ => none) N (fun k119 =>
 fun (x121 x122 x123 x124 x125 x126 x127 x128 x129 x130 x131 : Value) (h132 : Hs) =>
 kI64 .lss x121 x104 (fun x133 =>
 jn (fun (h135 : Hs) =>
 jn (fun (x137 x138 x139 x140 x141 x142 x143 x144 x145 : Value) (h146 : Hs) =>
 kI64 .add x121 (Value.int .i64 (.ofNat 1)) (fun x147 =>
 k119 x147 x133 x137 x138 x139 x140 x141 x142 x143 x144 x145 h146)) fun k136 =>
 after (fun x148 h149 =>
 kI64 .mul (Value.int .i64 (.ofNat 64)) x121 (fun x150 =>
 kI64 .add x121 (Value.int .i64 (.ofNat 1)) (fun x151 =>
 kI64 .mul (Value.int .i64 (.ofNat 64)) x151 (fun x152 =>
 kLenV a3 (fun x153 =>
 after (fun x154 h155 =>
 after (fun x156 h157 =>
 kLenV x156 (fun x158 =>
 jn (fun (x160 x161 x162 x163 : Value) (h164 : Hs) =>
 kCall R 26 [x88, x121] h164 (fun x165 h166 =>
 kExtr x165 0 (fun x167 =>
 kExtr x165 1 (fun x168 =>
 kCall R 23 [a0, x167, x148] h166 (fun x169 h170 =>
 k136 x121 x160 x158 x161 x156 x148 x162 x163 x167 h170))))) fun k159 =>
 lpT (T := Value → Value → Value → Value → Hs → An) (fun _ _ _ _ _ => none) N (fun k171 =>
 fun (x173 x174 x175 x176 : Value) (h177 : Hs) =>
 kI64 .lss x173 x158 (fun x178 =>
 jn (fun (h180 : Hs) =>
 jn (fun (x182 x183 : Value) (h184 : Hs) =>
 kI64 .add x173 (Value.int .i64 (.ofNat 1)) (fun x185 =>
 k171 x185 x178 x182 x183 h184)) fun k181 =>
 kIdxA 1 x156 x173 (fun x186 =>
 kLoad x186 h180 (fun x187 =>
 kI64 .quo x173 (Value.int .i64 (.ofNat 8)) (fun x188 =>
 kIdxA 1 x148 x188 (fun x189 =>
 kLoad x189 (Hs.mk h180.hp h180.nx h180.nx) (fun x190 =>
 kToU x187 (fun x191 =>
 kI64 .rem x173 (Value.int .i64 (.ofNat 8)) (fun x192 =>
 kI64 .mul (Value.int .i64 (.ofNat 8)) x192 (fun x193 =>
 kShl x191 x193 (fun x194 =>
 kU64 .or x190 x194 (fun x195 =>
 kIdxA 1 x148 x188 (fun x196 =>
 kStore1 x196 x195 h180 (fun v199 u200 => dPut (fun x197 h198 =>
 k181 x173 x187 h198) v199 (dNext h180 u200 .bar) (andB (dFit h180 u200 .bar) (Nat.ble 0 u200.lo))))))))))))))) fun k179 =>
 cnd x178
 (k179 h177)
 (k159 x173 x178 x175 x176 h177))) (Value.int .i64 (.ofNat 0)) x126 x129 x130 h157)) (oSlice 1 (.c a3) (some (.c x150)) (some (.c x154)) none enE h155)) (oMinmax false [.c x152, .c x153] enE h149)))))) (mkslice1 57 1 8 [(Value.int .u64 (.ofNat 0))] h135 (natOf (Value.int .i64 (.ofNat 8))) (natOf (Value.int .i64 (.ofNat 8))))) fun k134 =>
 cnd x133
 (k134 h132)
 (k106 x121 x133 x123 x124 x125 x126 x127 x128 x129 x130 x131 h132))) (Value.int .i64 (.ofNat 0)) dunno dunno dunno dunno dunno dunno dunno dunno dunno dunno h105))))))))) fun k91 =>
 cnd x90
 (clrK h x89 h87)
 (k91 x78 h87)))))))))))) fun k77 =>
 cnd x75
 (clrK h (Value.int .i64 (.ofNat 1)) h76)
 (k77 (Value.int .i64 (.ofNat 0)) h76)) (pickB (.c (Value.bool true)) (.c x73) enE h74 x43)))))))))) (pickB (.c (Value.bool true)) (.c x41) enE h42 x34)))) (pickB (.c (Value.bool true)) (.c x32) enE h33 x11))))))))) (store1 4 h8 (cellsL x5) (addrOf x7))) (oAlloc 32 [(Value.int .i64 (.ofNat 0)), (Value.int .i64 (.ofNat 0)), (Value.int .i64 (.ofNat 0)), (Value.slice none 0 0)] enE h4)))))))

theorem q9 (R : RnK) (N : Nat) (args : List Value) (h : Hs) : r9 R N args h = callT Tryz.prog N R 9 args h := by kernel_rfl

/-- (*lintel/edit.Edit).Writes -/
noncomputable def r11 (R : RnK) (N : Nat) (args : List Value) (h : Hs) : An := unC args fun a0 s0 => enK h fun h0 =>
 kNil a0 (fun x0 =>
 kFieldA 5 x0 (fun x1 =>
 kLoads 5 x1 (Hs.mk h0.hp h0.nx h0.nx) (fun x2 =>
 kCall R 34 [x2] (Hs.mk h0.hp h0.nx h0.nx) (fun v121 u122 => dPut (fun x3 h4 =>
 kNil a0 (fun x5 =>
 kFieldA 0 x5 (fun x6 =>
 kLoads 5 x6 (dHidS .light [true, true, true, false, false, false, false, false] [none, none, none, some (h0.nx, h4.nx), none, none, none, none] h4) (fun x7 =>
 kCall R 34 [x7] h4 (fun v119 u120 => dPut (fun x8 h9 =>
 after (fun v117 u118 => dPut (fun x10 h11 =>
 after (fun v115 u116 => dPut (fun x12 h13 =>
 kStore1 x10 x3 h13 (fun v113 u114 => dPut (fun x14 h15 =>
 kStore1 x12 x8 h15 (fun v111 u112 => dPut (fun x16 h17 =>
 kNil a0 (fun x18 =>
 kFieldA 0 x18 (fun x19 =>
 kFieldA 4 x19 (fun x20 =>
 kLoad x20 h17 (fun x21 =>
 kLenV x21 (fun x22 =>
 jn (fun (x24 x25 x26 x27 x28 x29 x30 x31 x32 : Value) (h33 : Hs) =>
 clrK h (Value.tuple #[x29, x32]) h33) fun k23 =>
 lpT (T := Value → Value → Value → Value → Value → Value → Value → Value → Value → Hs → An) (fun _ _ _ _ _ _ _ _ _ _ => none) N (fun k34 =>
 fun (x36 x37 x38 x39 x40 x41 x42 x43 x44 : Value) (h45 : Hs) =>
 kI64 .lss x36 x22 (fun x46 =>
 jn (fun (h48 : Hs) =>
 jn (fun (x50 x51 x52 x53 x54 x55 x56 : Value) (h57 : Hs) =>
 kI64 .add x36 (Value.int .i64 (.ofNat 1)) (fun x58 =>
 k34 x58 x46 x50 x51 x52 x53 x54 x55 x56 h57)) fun k49 =>
 kIdxA 1 x21 x36 (fun x59 =>
 kLoad x59 h48 (fun x60 =>
 kI64 .quo x36 (Value.int .i64 (.ofNat 8)) (fun x61 =>
 jn (fun (x63 x64 x65 x66 : Value) (h67 : Hs) =>
 k49 x36 x61 x63 x64 x60 x65 x66 h67) fun k62 =>
 kLoads 1 x10 h48 (fun x68 =>
 kCall R 35 [x68, x61] h48 (fun x69 h70 =>
 kNot x69 (fun x71 =>
 gdT x71 h70 (fun k72 => kLoads 1 x12 h70 (fun x73 => k72 x73 h70)) (fun x74 h75 =>
 gdT x71 h75 (fun k76 => k76 x61 h75) (fun x77 h78 =>
 gdT x71 h78 (fun k79 => kCall R 35 [x74, x77] h78 (k79)) (fun x80 h81 =>
 after (fun x82 h83 =>
 jn (fun (x85 x86 x87 : Value) (h88 : Hs) =>
 k62 x82 x85 x86 x87 h88) fun k84 =>
 cnd x82
 (after (fun x89 h90 =>
 after (fun x91 h92 =>
 after (fun x93 h94 =>
 k84 x93 x43 x44 h94) (app0 84 2 16 h92 x41 x91)) (oMkrow 84 2 1 [(Value.int .i64 (.ofNat 0)), (Value.int .u64 (.ofNat 0))] [(0, 2, .c x89)] enE h90)) (oBuild [(Value.int .i64 (.ofNat 0)), (Value.int .u64 (.ofNat 0))] [(0, 1, .c x36), (1, 1, .c x60)] enE h83))
 (kNil a0 (fun x95 =>
 kFieldA 5 x95 (fun x96 =>
 kFieldA 4 x96 (fun x97 =>
 kLoad x97 h83 (fun x98 =>
 kIdxA 1 x98 x36 (fun x99 =>
 kLoad x99 h83 (fun x100 =>
 kU64 .neq x100 x60 (fun x101 =>
 jn (fun (x103 : Value) (h104 : Hs) =>
 k84 x41 x101 x103 h104) fun k102 =>
 cnd x101
 (after (fun x105 h106 =>
 after (fun x107 h108 =>
 after (fun x109 h110 =>
 k102 x109 h110) (app0 84 2 16 h108 x44 x107)) (oMkrow 84 2 1 [(Value.int .i64 (.ofNat 0)), (Value.int .u64 (.ofNat 0))] [(0, 2, .c x105)] enE h106)) (oBuild [(Value.int .i64 (.ofNat 0)), (Value.int .u64 (.ofNat 0))] [(0, 1, .c x36), (1, 1, .c x60)] enE h83))
 (k102 x44 h83)))))))))) (pickB (.c x80) (.c (Value.bool false)) enE h81 x71))))))))))) fun k47 =>
 cnd x46
 (k47 h45)
 (k23 x36 x46 x38 x39 x40 x41 x42 x43 x44 h45))) (Value.int .i64 (.ofNat 0)) dunno dunno dunno dunno (Value.slice none 0 0) dunno dunno (Value.slice none 0 0) h17)))))) v111 (dNext h15 u112 .bar) (andB (dFit h15 u112 .bar) (Nat.ble 0 u112.lo)))) v113 (dNext h13 u114 .bar) (andB (dFit h13 u114 .bar) (Nat.ble 0 u114.lo)))) v115 (dNext h11 u116 .make) (andB (dFit h11 u116 .make) (Nat.ble 0 u116.lo))) (oAlloc 80 [(Value.slice none 0 0)] enE (Hs.mk .e h11.nx h11.nx))) v117 (dNext h9 u118 .make) (andB (dFit h9 u118 .make) (Nat.ble 0 u118.lo))) (oAlloc 80 [(Value.slice none 0 0)] enE (Hs.mk .e h9.nx h9.nx))) v119 (dNext h4 u120 .bar) (andB (dFit h4 u120 .bar) (Nat.ble 0 u120.lo))))))) v121 (dNext h0 u122 .light) (andB (dFit h0 u122 .light) (Nat.ble 0 u122.lo))))))

theorem q11 (R : RnK) (N : Nat) (args : List Value) (h : Hs) : r11 R N args h = callT Tryz.prog N R 11 args h := by kernel_rfl

/-- (lintel/image.Image).Slots -/
noncomputable def r12 (R : RnK) (N : Nat) (args : List Value) (h : Hs) : An := unC args fun a0 s0 => unC s0 fun a1 s1 => enK h fun h0 =>
 after (fun x0 h1 =>
 kLoads 5 x0 h1 (fun x2 =>
 kCall R 15 [x2, a1] h1 (fun x3 h4 =>
 kExtr x3 0 (fun x5 =>
 kExtr x3 1 (fun x6 =>
 after (fun x7 h8 =>
 after (fun x9 h10 =>
 kNot x6 (fun x11 =>
 gdF x11 h10 (fun k12 => kFieldA 0 x7 (fun x13 => k12 x13 h10)) (fun x14 h15 =>
 gdF x11 h15 (fun k16 => kLoad x14 h15 (fun x17 => k16 x17 h15)) (fun x18 h19 =>
 gdF x11 h19 (fun k20 => kI64 .neq x18 (Value.int .i64 (.ofNat 2)) (fun x21 => k20 x21 h19)) (fun x22 h23 =>
 after (fun x24 h25 =>
 jn (fun (x27 : Value) (h28 : Hs) =>
 kFieldA 2 x7 (fun x29 =>
 kLoad x29 h28 (fun x30 =>
 jn (fun (x32 x33 x34 x35 x36 x37 : Value) (h38 : Hs) =>
 clrK h x36 h38) fun k31 =>
 lpT (T := Value → Value → Value → Value → Value → Value → Hs → An) (fun _ _ _ _ _ _ _ => none) N (fun k39 =>
 fun (x41 x42 x43 x44 x45 x46 : Value) (h47 : Hs) =>
 kI64 .lss x41 x30 (fun x48 =>
 jn (fun (h50 : Hs) =>
 jn (fun (x52 x53 x54 x55 : Value) (h56 : Hs) =>
 kI64 .add x41 (Value.int .i64 (.ofNat 1)) (fun x57 =>
 k39 x57 x48 x52 x53 x54 x55 h56)) fun k51 =>
 kFieldA 3 x7 (fun x58 =>
 kLoad x58 h50 (fun x59 =>
 kCall R 26 [x59, x41] h50 (fun x60 h61 =>
 kExtr x60 0 (fun x62 =>
 kExtr x60 1 (fun x63 =>
 kLoads 5 x0 h61 (fun x64 =>
 kCall R 37 [x64, x62] h61 (fun x65 h66 =>
 kCall R 36 [x65] h66 (fun x67 h68 =>
 kExtr x67 0 (fun x69 =>
 kExtr x67 1 (fun x70 =>
 after (fun x71 h72 =>
 after (fun x73 h74 =>
 kLoads 2 x71 h74 (fun x75 =>
 after (fun x76 h77 =>
 after (fun x78 h79 =>
 k51 x41 x62 x78 x71 h79) (app0 35 2 24 h77 x45 x76)) (oMkrow 35 2 1 [(Value.int .i64 (.ofNat 0)), (Value.string ⟨#[]⟩)] [(0, 2, .c x75)] enE h74))) (store1 2 h72 (cellsL x69) (addrOf x71))) (oAlloc 35 [(Value.int .i64 (.ofNat 0)), (Value.string ⟨#[]⟩)] enE h68)))))))))))) fun k49 =>
 cnd x48
 (k49 h47)
 (k31 x41 x48 x43 x44 x45 x46 h47))) (Value.int .i64 (.ofNat 0)) dunno dunno dunno (Value.slice none 0 0) dunno h28))) fun k26 =>
 cnd x24
 (clrK h (Value.slice none 0 0) h25)
 (k26 (Value.slice none 0 0) h25)) (pickB (.c (Value.bool true)) (.c x22) enE h23 x11)))))) (store1 4 h8 (cellsL x5) (addrOf x7))) (oAlloc 32 [(Value.int .i64 (.ofNat 0)), (Value.int .i64 (.ofNat 0)), (Value.int .i64 (.ofNat 0)), (Value.slice none 0 0)] enE h4)))))) (oBox 47 (.c a0) enE h0)

theorem q12 (R : RnK) (N : Nat) (args : List Value) (h : Hs) : r12 R N args h = callT Tryz.prog N R 12 args h := by kernel_rfl

/-- (lintel/image.Image).Content -/
noncomputable def r13 (R : RnK) (N : Nat) (args : List Value) (h : Hs) : An := unC args fun a0 s0 => unC s0 fun a1 s1 => enK h fun h0 =>
 after (fun x0 h1 =>
 kLoads 5 x0 h1 (fun x2 =>
 kCall R 15 [x2, a1] h1 (fun x3 h4 =>
 kExtr x3 0 (fun x5 =>
 kExtr x3 1 (fun x6 =>
 after (fun x7 h8 =>
 after (fun x9 h10 =>
 kNot x6 (fun x11 =>
 gdF x11 h10 (fun k12 => kFieldA 0 x7 (fun x13 => k12 x13 h10)) (fun x14 h15 =>
 gdF x11 h15 (fun k16 => kLoad x14 h15 (fun x17 => k16 x17 h15)) (fun x18 h19 =>
 gdF x11 h19 (fun k20 => kI64 .neq x18 (Value.int .i64 (.ofNat 1)) (fun x21 => k20 x21 h19)) (fun x22 h23 =>
 gdF x11 h23 (fun k24 => k24 x22 h23) (fun x25 h26 =>
 gdT x25 h26 (fun k27 => kFieldA 0 x7 (fun x28 => k27 x28 h26)) (fun x29 h30 =>
 gdT x25 h30 (fun k31 => kLoad x29 h30 (fun x32 => k31 x32 h30)) (fun x33 h34 =>
 gdT x25 h34 (fun k35 => kI64 .neq x33 (Value.int .i64 (.ofNat 3)) (fun x36 => k35 x36 h34)) (fun x37 h38 =>
 gdF x11 h38 (fun k39 => after (k39) (pickB (.c x37) (.c (Value.bool false)) enE h38 x25)) (fun x40 h41 =>
 after (fun x42 h43 =>
 jn (fun (x45 : Value) (h46 : Hs) =>
 kFieldA 3 x7 (fun x47 =>
 kLoad x47 h46 (fun x48 =>
 kLenV x48 (fun x49 =>
 jn (fun (x51 x52 x53 x54 x55 x56 x57 x58 x59 x60 x61 x62 x63 x64 x65 : Value) (h66 : Hs) =>
 kFieldA 2 x7 (fun x67 =>
 kLoad x67 h66 (fun x68 =>
 after (fun x69 h70 =>
 kCall R 38 [x69] h70 (fun x71 h72 =>
 clrK h x71 h72)) (oSlice 1 (.c x64) none (some (.c x68)) none enE h66)))) fun k50 =>
 lpT (T := Value → Value → Value → Value → Value → Value → Value → Value → Value → Value → Value → Value → Value → Value → Value → Hs → An) (fun _ _ _ _ _ _ _ _ _ _ _ _ _ _ _ _ => none) N (fun k73 =>
 fun (x75 x76 x77 x78 x79 x80 x81 x82 x83 x84 x85 x86 x87 x88 x89 : Value) (h90 : Hs) =>
 kI64 .lss x75 x49 (fun x91 =>
 jn (fun (h93 : Hs) =>
 jn (fun (x95 x96 x97 x98 x99 x100 x101 x102 x103 x104 x105 x106 x107 : Value) (h108 : Hs) =>
 kI64 .add x75 (Value.int .i64 (.ofNat 1)) (fun x109 =>
 k73 x109 x91 x95 x96 x97 x98 x99 x100 x101 x102 x103 x104 x105 x106 x107 h108)) fun k94 =>
 kIdxA 2 x48 x75 (fun x110 =>
 kLoads 2 x110 h93 (fun x111 =>
 after (fun x112 h113 =>
 after (fun x114 h115 =>
 kFieldA 1 x112 (fun x116 =>
 kLoad x116 h115 (fun x117 =>
 jn (fun (x119 x120 x121 x122 x123 x124 x125 x126 x127 x128 x129 : Value) (h130 : Hs) =>
 k94 x112 x119 x117 x120 x121 x122 x123 x124 x125 x126 x127 x128 x129 h130) fun k118 =>
 lpT (T := Value → Value → Value → Value → Value → Value → Value → Value → Value → Value → Value → Hs → An) (fun _ _ _ _ _ _ _ _ _ _ _ _ => none) N (fun k131 =>
 fun (x133 x134 x135 x136 x137 x138 x139 x140 x141 x142 x143 : Value) (h144 : Hs) =>
 kI64 .lss x133 x117 (fun x145 =>
 jn (fun (h147 : Hs) =>
 jn (fun (x149 x150 x151 x152 x153 x154 x155 x156 x157 : Value) (h158 : Hs) =>
 kI64 .add x133 (Value.int .i64 (.ofNat 1)) (fun x159 =>
 k131 x159 x145 x149 x150 x151 x152 x153 x154 x155 x156 x157 h158)) fun k148 =>
 kLoads 5 x0 h147 (fun x160 =>
 kFieldA 0 x112 (fun x161 =>
 kLoad x161 h147 (fun x162 =>
 kI64 .add x162 x133 (fun x163 =>
 kCall R 37 [x160, x163] h147 (fun x164 h165 =>
 kLenV x164 (fun x166 =>
 jn (fun (x168 x169 x170 x171 x172 x173 : Value) (h174 : Hs) =>
 k148 x133 x168 x166 x169 x164 x170 x171 x172 x173 h174) fun k167 =>
 lpT (T := Value → Value → Value → Value → Value → Value → Hs → An) (fun _ _ _ _ _ _ _ => none) N (fun k175 =>
 fun (x177 x178 x179 x180 x181 x182 : Value) (h183 : Hs) =>
 kI64 .lss x177 x166 (fun x184 =>
 jn (fun (h186 : Hs) =>
 jn (fun (x188 x189 x190 x191 : Value) (h192 : Hs) =>
 kI64 .add x177 (Value.int .i64 (.ofNat 1)) (fun x193 =>
 k175 x193 x184 x188 x189 x190 x191 h192)) fun k187 =>
 kIdxA 1 x164 x177 (fun x194 =>
 kLoad x194 h186 (fun x195 =>
 jn (fun (x197 x198 x199 x200 : Value) (h201 : Hs) =>
 k187 x197 x198 x199 x200 h201) fun k196 =>
 lpT (T := Value → Value → Value → Value → Hs → An) (fun _ _ _ _ _ => none) N (fun k202 =>
 fun (x204 x205 x206 x207 : Value) (h208 : Hs) =>
 kI64 .lss x204 (Value.int .i64 (.ofNat 8)) (fun x209 =>
 jn (fun (h211 : Hs) =>
 jn (fun (x213 x214 : Value) (h215 : Hs) =>
 kI64 .add x204 (Value.int .i64 (.ofNat 1)) (fun x216 =>
 k202 x216 x209 x213 x214 h215)) fun k212 =>
 kTo8 x207 (fun x217 =>
 after (fun x218 h219 =>
 after (fun x220 h221 =>
 kShr x207 (Value.int .u64 (.ofNat 8)) (fun x222 =>
 k212 x220 x222 h221)) (app0 5 1 1 h219 x206 x218)) (oMkrow 5 1 1 [(Value.int .u8 (.ofNat 0))] [(0, 1, .c x217)] enE h211))) fun k210 =>
 cnd x209
 (k210 h208)
 (k196 x204 x209 x206 x207 h208))) (Value.int .i64 (.ofNat 0)) x180 x181 x195 h186))) fun k185 =>
 cnd x184
 (k185 h183)
 (k167 x177 x184 x179 x180 x181 x182 h183))) (Value.int .i64 (.ofNat 0)) x138 x140 x141 x142 x143 h165))))))) fun k146 =>
 cnd x145
 (k146 h144)
 (k118 x133 x145 x135 x136 x137 x138 x139 x140 x141 x142 x143 h144))) (Value.int .i64 (.ofNat 0)) x80 x81 x82 x83 x84 x85 x86 x87 x88 x89 h115))) (store1 2 h113 (cellsL x111) (addrOf x112))) (oAlloc 78 [(Value.int .i64 (.ofNat 0)), (Value.int .i64 (.ofNat 0))] enE h93)))) fun k92 =>
 cnd x91
 (k92 h90)
 (k50 x75 x91 x77 x78 x79 x80 x81 x82 x83 x84 x85 x86 x87 x88 x89 h90))) (Value.int .i64 (.ofNat 0)) dunno dunno dunno dunno dunno dunno dunno dunno dunno dunno dunno dunno (Value.slice none 0 0) dunno h46)))) fun k44 =>
 cnd x42
 (clrK h (Value.slice none 0 0) h43)
 (k44 (Value.slice none 0 0) h43)) (pickB (.c (Value.bool true)) (.c x40) enE h41 x11))))))))))) (store1 4 h8 (cellsL x5) (addrOf x7))) (oAlloc 32 [(Value.int .i64 (.ofNat 0)), (Value.int .i64 (.ofNat 0)), (Value.int .i64 (.ofNat 0)), (Value.slice none 0 0)] enE h4)))))) (oBox 47 (.c a0) enE h0)

theorem q13 (R : RnK) (N : Nat) (args : List Value) (h : Hs) : r13 R N args h = callT Tryz.prog N R 13 args h := by kernel_rfl

/-- (*lintel/edit.Edit).Clear -/
noncomputable def r14 (R : RnK) (N : Nat) (args : List Value) (h : Hs) : An := unC args fun a0 s0 => unC s0 fun a1 s1 => enK h fun h0 =>
 after (fun x0 h1 =>
 kCall R 7 [a0, a1, x0] h1 (fun x2 h3 =>
 clrK h x2 h3)) (oBuild [(Value.int .i64 (.ofNat 0)), (Value.int .i64 (.ofNat 0)), (Value.int .i64 (.ofNat 0)), (Value.slice none 0 0)] [] enE h0)

theorem q14 (R : RnK) (N : Nat) (args : List Value) (h : Hs) : r14 R N args h = callT Tryz.prog N R 14 args h := by kernel_rfl

/-- (lintel/image.Image).Node -/
noncomputable def r15 (R : RnK) (N : Nat) (args : List Value) (h : Hs) : An := unC args fun a0 s0 => unC s0 fun a1 s1 => enK h fun h0 =>
 after (fun x0 h1 =>
 after (fun x2 h3 =>
 kFieldA 0 x0 (fun x4 =>
 kLoads 4 x4 h3 (fun x5 =>
 kCall R 20 [x5, a1] h3 (fun x6 h7 =>
 kI64 .eql x6 (Value.int .i64 (.ofNat 0)) (fun x8 =>
 jn (fun (x10 : Value) (h11 : Hs) =>
 kLoads 5 x0 h11 (fun x12 =>
 kCall R 37 [x12, x6] h11 (fun x13 h14 =>
 kCall R 39 [x13] h14 (fun x15 h16 =>
 kExtr x15 0 (fun x17 =>
 kExtr x15 1 (fun x18 =>
 after (fun x19 h20 =>
 after (fun x21 h22 =>
 kNot x18 (fun x23 =>
 gdF x23 h22 (fun k24 => kFieldA 0 x0 (fun x25 => k24 x25 h22)) (fun x26 h27 =>
 gdF x23 h27 (fun k28 => kLoads 4 x26 h27 (fun x29 => k28 x29 h27)) (fun x30 h31 =>
 gdF x23 h31 (fun k32 => kLoads 4 x19 h31 (fun x33 => k32 x33 h31)) (fun x34 h35 =>
 gdF x23 h35 (fun k36 => kCall R 21 [x30, x34] h35 (k36)) (fun x37 h38 =>
 gdF x23 h38 (fun k39 => kNot x37 (fun x40 => k39 x40 h38)) (fun x41 h42 =>
 after (fun x43 h44 =>
 jn (fun (x46 : Value) (h47 : Hs) =>
 kLoads 4 x19 h47 (fun x48 =>
 after (fun x49 h50 =>
 clearUp h (packR h50 (resV enE h50 [.cell (.c x2) 4 true, .t (.c (Value.bool true))]))) (store1 4 h47 (cellsL x48) (addrOf x2)))) fun k45 =>
 cnd x43
 (after (fun x51 h52 =>
 after (fun x53 h54 =>
 clearUp h (packR h54 (resV enE h54 [.cell (.c x2) 4 true, .t (.c (Value.bool false))]))) (store1 4 h52 (cellsL x51) (addrOf x2))) (oBuild [(Value.int .i64 (.ofNat 0)), (Value.int .i64 (.ofNat 0)), (Value.int .i64 (.ofNat 0)), (Value.slice none 0 0)] [] enE h44))
 (k45 x10 h44)) (pickB (.c (Value.bool true)) (.c x41) enE h42 x23)))))))) (store1 4 h20 (cellsL x17) (addrOf x19))) (oAlloc 32 [(Value.int .i64 (.ofNat 0)), (Value.int .i64 (.ofNat 0)), (Value.int .i64 (.ofNat 0)), (Value.slice none 0 0)] enE h16))))))) fun k9 =>
 cnd x8
 (after (fun x55 h56 =>
 after (fun x57 h58 =>
 clearUp h (packR h58 (resV enE h58 [.cell (.c x2) 4 true, .t (.c (Value.bool false))]))) (store1 4 h56 (cellsL x55) (addrOf x2))) (oBuild [(Value.int .i64 (.ofNat 0)), (Value.int .i64 (.ofNat 0)), (Value.int .i64 (.ofNat 0)), (Value.slice none 0 0)] [] enE h7))
 (k9 (Value.bool false) h7)))))) (oAlloc 32 [(Value.int .i64 (.ofNat 0)), (Value.int .i64 (.ofNat 0)), (Value.int .i64 (.ofNat 0)), (Value.slice none 0 0)] enE h1)) (oBox 47 (.c a0) enE h0)

theorem q15 (R : RnK) (N : Nat) (args : List Value) (h : Hs) : r15 R N args h = callT Tryz.prog N R 15 args h := by kernel_rfl

/-- lintel/image.Open -/
noncomputable def r16 (R : RnK) (N : Nat) (args : List Value) (h : Hs) : An := unC args fun a0 s0 => enK h fun h0 =>
 after (fun x0 h1 =>
 kCall R 40 [a0] h1 (fun x2 h3 =>
 kExtr x2 0 (fun x4 =>
 kExtr x2 1 (fun x5 =>
 kExtr x2 2 (fun x6 =>
 after (fun x7 h8 =>
 after (fun x9 h10 =>
 kNot x5 (fun x11 =>
 gdT x11 h10 (fun k12 => k12 x6 h10) (fun x13 h14 =>
 gdT x11 h14 (fun k15 => kNot x13 (fun x16 => k15 x16 h14)) (fun x17 h18 =>
 after (fun x19 h20 =>
 jn (fun (x22 : Value) (h23 : Hs) =>
 kFieldA 0 x7 (fun x24 =>
 kLoads 4 x24 (Hs.mk h23.hp h23.nx h23.nx) (fun x25 =>
 kCall R 17 [a0] (Hs.mk h23.hp h23.nx h23.nx) (fun v36 u37 => dPut (fun x26 h27 =>
 after (fun v34 u35 => dPut (fun x28 h29 =>
 after (fun v32 u33 => dPut (fun x30 h31 =>
 clearUp h (packR h31 (resV enE h31 [.cell (.c x0) 5 true, .t (.c (Value.int .i64 (.ofNat 0)))]))) v32 (dNext h29 u33 .bar) (andB (dFit h29 u33 .bar) (Nat.ble 0 u33.lo))) (store1 5 h29 (cellsL x28) (addrOf x0))) v34 (dNext h27 u35 .blind) (andB (dFit h27 u35 .blind) (Nat.ble 0 u35.lo))) (oBuild [(Value.int .i64 (.ofNat 0)), (Value.int .i64 (.ofNat 0)), (Value.int .i64 (.ofNat 0)), (Value.int .i64 (.ofNat 0)), (Value.slice none 0 0)] [(0, 4, .c x25), (4, 1, .c x26)] enE (Hs.mk .e h27.nx h27.nx))) v36 (dNext h23 u37 .light) (andB (dFit h23 u37 .light) (Nat.ble 0 u37.lo)))))) fun k21 =>
 cnd x19
 (after (fun x38 h39 =>
 after (fun x40 h41 =>
 clearUp h (packR h41 (resV enE h41 [.cell (.c x0) 5 true, .t (.c (Value.int .i64 (.ofNat 13)))]))) (store1 5 h39 (cellsL x38) (addrOf x0))) (oBuild [(Value.int .i64 (.ofNat 0)), (Value.int .i64 (.ofNat 0)), (Value.int .i64 (.ofNat 0)), (Value.int .i64 (.ofNat 0)), (Value.slice none 0 0)] [] enE h20))
 (k21 (Value.int .i64 (.ofNat 0)) h20)) (pickB (.c x17) (.c (Value.bool false)) enE h18 x11))))) (store1 5 h8 (cellsL x4) (addrOf x7))) (oAlloc 92 [(Value.int .i64 (.ofNat 0)), (Value.int .i64 (.ofNat 0)), (Value.int .i64 (.ofNat 0)), (Value.int .i64 (.ofNat 0)), (Value.int .u64 (.ofNat 0))] enE h3)))))) (oAlloc 47 [(Value.int .i64 (.ofNat 0)), (Value.int .i64 (.ofNat 0)), (Value.int .i64 (.ofNat 0)), (Value.int .i64 (.ofNat 0)), (Value.slice none 0 0)] enE h0)

theorem q16 (R : RnK) (N : Nat) (args : List Value) (h : Hs) : r16 R N args h = callT Tryz.prog N R 16 args h := by kernel_rfl

/-- slices.Clone[[]uint64,uint64] -/
noncomputable def r17 (R : RnK) (N : Nat) (args : List Value) (h : Hs) : An := unC args fun a0 s0 => enK h fun h0 =>
 obK (fun x0 =>
 jn (fun (x2 : Value) (h3 : Hs) =>
 after (fun x4 h5 =>
 after (fun x6 h7 =>
 clrK h x6 h7) (app0 57 1 8 h5 x4 a0)) (oMkrow 57 1 0 [(Value.int .u64 (.ofNat 0))] [] enE h3)) fun k1 =>
 cnd x0
 (clrK h (Value.slice none 0 0) h0)
 (k1 (Value.slice none 0 0) h0)) (e2 false qS a0 (Value.slice none 0 0))

theorem q17 (R : RnK) (N : Nat) (args : List Value) (h : Hs) : r17 R N args h = callT Tryz.prog N R 17 args h := by kernel_rfl

/-- lintel/image.Make -/
noncomputable def r18 (R : RnK) (N : Nat) (args : List Value) (h : Hs) : An := unC args fun a0 s0 => enK h fun h0 =>
 after (fun x0 h1 =>
 kLoads 4 x0 h1 (fun x2 =>
 kCall R 41 [x2] h1 (fun x3 h4 =>
 kNot x3 (fun x5 =>
 jn (fun (x7 x8 : Value) (h9 : Hs) =>
 kFieldA 0 x0 (fun x10 =>
 kLoad x10 h9 (fun x11 =>
 kI64 .mul (Value.int .i64 (.ofNat 8)) x11 (fun x12 =>
 after (fun x13 h14 =>
 after (fun x15 h16 =>
 kStore1 x15 x13 h16 (fun x17 h18 =>
 after (fun x19 h20 =>
 kLoads 4 x0 h20 (fun x21 =>
 kCall R 43 [x21] h20 (fun x22 h23 =>
 kExtr x22 0 (fun x24 =>
 kExtr x22 1 (fun x25 =>
 kLoads 4 x0 h23 (fun x26 =>
 after (fun x27 h28 =>
 kCall R 44 [x27] h28 (fun x29 h30 =>
 isVal (fun x31 h32 =>
 kLoads 4 x0 (Hs.mk h32.hp h32.nx h32.nx) (fun x33 =>
 kCall R 45 [x33] (Hs.mk h32.hp h32.nx h32.nx) (fun v146 u147 => dPut (fun x34 h35 =>
 kLoads 4 x0 (dHidS .light [false, false, false] [some (h32.nx, h35.nx), none, none] h35) (fun x36 =>
 after (fun v144 u145 => dPut (fun x37 h38 =>
 kCall R 44 [x37] h38 (fun v142 u143 => dPut (fun x39 h40 =>
 isVal (fun v140 u141 => dPut (fun x41 h42 =>
 kLoads 4 x0 h42 (fun x43 =>
 kCall R 20 [x43, (Value.int .i64 (.ofNat 1))] h42 (fun x44 h45 =>
 after (fun x46 h47 =>
 kCall R 24 [x46] h47 (fun x48 h49 =>
 isVal (fun x50 h51 =>
 kLoads 4 x0 h51 (fun x52 =>
 kCall R 20 [x52, (Value.int .i64 (.ofNat 2))] h51 (fun x53 h54 =>
 after (fun x55 h56 =>
 after (fun x57 h58 =>
 after (fun x59 h60 =>
 kCall R 24 [x59] h60 (fun x61 h62 =>
 isVal (fun x63 h64 =>
 kLoads 4 x0 h64 (fun x65 =>
 kCall R 46 [x65] h64 (fun x66 h67 =>
 kExtr x66 0 (fun x68 =>
 kExtr x66 1 (fun x69 =>
 kFieldA 0 x0 (fun x70 =>
 kLoad x70 h67 (fun x71 =>
 kCall R 47 [x71] h67 (fun x72 h73 =>
 after (fun x74 h75 =>
 kStore1 x74 x72 h75 (fun x76 h77 =>
 kFieldA 0 x0 (fun x78 =>
 kLoad x78 h77 (fun x79 =>
 jn (fun (x81 x82 x83 x84 : Value) (h85 : Hs) =>
 kLoads 4 x0 h85 (fun x86 =>
 kCall R 49 [x86] h85 (fun x87 h88 =>
 kExtr x87 0 (fun x89 =>
 kExtr x87 1 (fun x90 =>
 kFieldA 0 x74 (fun x91 =>
 kLoad x91 h88 (fun x92 =>
 isVal (fun x93 h94 =>
 kLoad x15 h94 (fun x95 =>
 clrK h (Value.tuple #[x95, (Value.int .i64 (.ofNat 0))]) h94)) (callV (toRn R) [x89, x92] h88 x19)))))))) fun k80 =>
 lpT (T := Value → Value → Value → Value → Hs → An) (fun _ _ _ _ _ => none) N (fun k96 =>
 fun (x98 x99 x100 x101 : Value) (h102 : Hs) =>
 kI64 .lss x98 x79 (fun x103 =>
 jn (fun (h105 : Hs) =>
 jn (fun (x107 x108 : Value) (h109 : Hs) =>
 kI64 .add x98 (Value.int .i64 (.ofNat 1)) (fun x110 =>
 k96 x110 x103 x107 x108 h109)) fun k106 =>
 kI64 .lss x98 x68 (fun x111 =>
 gdF x111 h105 (fun k112 => k112 x98 h105) (fun x113 h114 =>
 gdF x111 h114 (fun k115 => k115 x68 h114) (fun x116 h117 =>
 gdF x111 h117 (fun k118 => k118 x69 h117) (fun x119 h120 =>
 gdF x111 h120 (fun k121 => kI64 .add x116 x119 (fun x122 => k121 x122 h120)) (fun x123 h124 =>
 gdF x111 h124 (fun k125 => kI64 .geq x113 x123 (fun x126 => k125 x126 h124)) (fun x127 h128 =>
 after (fun x129 h130 =>
 jn (fun (h132 : Hs) =>
 k106 x98 x129 h132) fun k131 =>
 cnd x129
 (kLoads 1 x74 h130 (fun x133 =>
 after (fun x134 h135 =>
 kCall R 48 [x133, (Value.bool true), x134] h135 (fun x136 h137 =>
 kStore1 x74 x136 h137 (fun x138 h139 =>
 k131 h139))) (oMkrow 3 1 1 [(Value.int .i64 (.ofNat 0))] [(0, 1, .c x98)] enE h130)))
 (k131 h130)) (pickB (.c (Value.bool true)) (.c x127) enE h128 x111)))))))) fun k104 =>
 cnd x103
 (k104 h102)
 (k80 x98 x103 x100 x101 h102))) (Value.int .i64 (.ofNat 0)) dunno dunno dunno h77)))) (oAlloc 80 [(Value.slice none 0 0)] enE h73))))))))) (callV (toRn R) [x53, x61] h62 x19))) (oBuild [(Value.int .i64 (.ofNat 0)), (Value.int .i64 (.ofNat 0)), (Value.int .i64 (.ofNat 0)), (Value.slice none 0 0)] [(0, 1, .c (Value.int .i64 (.ofNat 2))), (1, 1, .c (Value.int .i64 (.ofNat 1))), (2, 1, .c x25), (3, 1, .c x57)] enE h58)) (oMkrow 78 2 1 [(Value.int .i64 (.ofNat 0)), (Value.int .i64 (.ofNat 0))] [(0, 2, .c x55)] enE h56)) (oBuild [(Value.int .i64 (.ofNat 0)), (Value.int .i64 (.ofNat 0))] [(0, 1, .c x24), (1, 1, .c x25)] enE h54)))) (callV (toRn R) [x44, x48] h49 x19))) (oBuild [(Value.int .i64 (.ofNat 0)), (Value.int .i64 (.ofNat 0)), (Value.int .i64 (.ofNat 0)), (Value.slice none 0 0)] [(0, 1, .c (Value.int .i64 (.ofNat 2))), (1, 1, .c (Value.int .i64 (.ofNat 1)))] enE h45)))) v140 (dNext h40 u141 .bar) (andB (dFit h40 u141 .bar) (Nat.ble 0 u141.lo))) (callV (toRn R) [x34, x39] h40 x19)) v142 (dNext h38 u143 .bar) (andB (dFit h38 u143 .bar) (Nat.ble 0 u143.lo)))) v144 (dNext h35 u145 .blind) (andB (dFit h35 u145 .blind) (Nat.ble 0 u145.lo))) (oBuild [(Value.int .i64 (.ofNat 0)), (Value.int .i64 (.ofNat 0)), (Value.int .i64 (.ofNat 0)), (Value.int .i64 (.ofNat 0)), (Value.int .u64 (.ofNat 0))] [(0, 4, .c x36)] enE (Hs.mk .e h35.nx h35.nx)))) v146 (dNext h32 u147 .light) (andB (dFit h32 u147 .light) (Nat.ble 0 u147.lo))))) (callV (toRn R) [(Value.int .i64 (.ofNat 0)), x29] h30 x19))) (oBuild [(Value.int .i64 (.ofNat 0)), (Value.int .i64 (.ofNat 0)), (Value.int .i64 (.ofNat 0)), (Value.int .i64 (.ofNat 0)), (Value.int .u64 (.ofNat 0))] [(0, 4, .c x26)] enE h23))))))) (oMkfunc (.func 42) [] [.c x15] enE h18))) (oAlloc 27 [(Value.slice none 0 0)] enE h14)) (mkslice1 57 1 8 [(Value.int .u64 (.ofNat 0))] h9 (natOf x12) (natOf x12)))))) fun k6 =>
 cnd x5
 (clrK h (Value.tuple #[(Value.slice none 0 0), (Value.int .i64 (.ofNat 1))]) h4)
 (k6 (Value.slice none 0 0) (Value.int .i64 (.ofNat 0)) h4))))) (oBox 45 (.c a0) enE h0)

theorem q18 (R : RnK) (N : Nat) (args : List Value) (h : Hs) : r18 R N args h = callT Tryz.prog N R 18 args h := by kernel_rfl

/-- lintel/geom.Plain -/
noncomputable def r19 (R : RnK) (N : Nat) (args : List Value) (h : Hs) : An := unC args fun a0 s0 => enK h fun h0 =>
 after (fun x0 h1 =>
 after (fun x2 h3 =>
 after (fun x4 h5 =>
 clearUp h (packR h5 (resV enE h5 [.cell (.c x0) 4 true]))) (store1 4 h3 (cellsL x2) (addrOf x0))) (oBuild [(Value.int .i64 (.ofNat 0)), (Value.int .i64 (.ofNat 0)), (Value.int .i64 (.ofNat 0)), (Value.int .i64 (.ofNat 0))] [(0, 1, .c a0), (1, 1, .c (Value.int .i64 (.ofNat 10))), (2, 1, .c (Value.int .i64 (.ofNat 1))), (3, 1, .c (Value.int .i64 (.ofNat 20)))] enE h1)) (oAlloc 45 [(Value.int .i64 (.ofNat 0)), (Value.int .i64 (.ofNat 0)), (Value.int .i64 (.ofNat 0)), (Value.int .i64 (.ofNat 0))] enE h0)

theorem q19 (R : RnK) (N : Nat) (args : List Value) (h : Hs) : r19 R N args h = callT Tryz.prog N R 19 args h := by kernel_rfl

/-- lintel/geom.Node -/
noncomputable def r20 (R : RnK) (N : Nat) (args : List Value) (h : Hs) : An := unC args fun a0 s0 => unC s0 fun a1 s1 => enK h fun h0 =>
 after (fun x0 h1 =>
 kLoads 4 x0 h1 (fun x2 =>
 kCall R 41 [x2] h1 (fun x3 h4 =>
 kNot x3 (fun x5 =>
 gdF x5 h4 (fun k6 => k6 a1 h4) (fun x7 h8 =>
 gdF x5 h8 (fun k9 => kFieldA 1 x0 (fun x10 => k9 x10 h8)) (fun x11 h12 =>
 gdF x5 h12 (fun k13 => kLoad x11 h12 (fun x14 => k13 x14 h12)) (fun x15 h16 =>
 gdF x5 h16 (fun k17 => kCall R 50 [x7, (Value.int .i64 (.ofNat 1)), x15] h16 (k17)) (fun x18 h19 =>
 gdF x5 h19 (fun k20 => kNot x18 (fun x21 => k20 x21 h19)) (fun x22 h23 =>
 after (fun x24 h25 =>
 jn (fun (x27 : Value) (h28 : Hs) =>
 kLoads 4 x0 h28 (fun x29 =>
 kCall R 51 [x29] h28 (fun x30 h31 =>
 kExtr x30 0 (fun x32 =>
 kExtr x30 1 (fun x33 =>
 kI64 .add x32 x33 (fun x34 =>
 kI64 .add x34 a1 (fun x35 =>
 kI64 .sub x35 (Value.int .i64 (.ofNat 1)) (fun x36 =>
 clrK h x36 h31)))))))) fun k26 =>
 cnd x24
 (clrK h (Value.int .i64 (.ofNat 0)) h25)
 (k26 (Value.int .i64 (.ofNat 0)) h25)) (pickB (.c (Value.bool true)) (.c x22) enE h23 x5)))))))))) (oBox 45 (.c a0) enE h0)

theorem q20 (R : RnK) (N : Nat) (args : List Value) (h : Hs) : r20 R N args h = callT Tryz.prog N R 20 args h := by kernel_rfl

/-- lintel/node.Good -/
noncomputable def r21 (R : RnK) (N : Nat) (args : List Value) (h : Hs) : An := unC args fun a0 s0 => unC s0 fun a1 s1 => enK h fun h0 =>
 after (fun x0 h1 =>
 after (fun x2 h3 =>
 kLoads 4 x0 h3 (fun x4 =>
 kCall R 41 [x4] h3 (fun x5 h6 =>
 kNot x5 (fun x7 =>
 jn (fun (x9 : Value) (h10 : Hs) =>
 kFieldA 0 x2 (fun x11 =>
 kLoad x11 h10 (fun x12 =>
 kI64 .eql x12 (Value.int .i64 (.ofNat 0)) (fun x13 =>
 jn (fun (x15 : Value) (h16 : Hs) =>
 kFieldA 0 x2 (fun x17 =>
 kLoad x17 h16 (fun x18 =>
 kCall R 53 [x18, (Value.int .i64 (.ofNat 1)), (Value.int .i64 (.ofNat 3))] h16 (fun x19 h20 =>
 kNot x19 (fun x21 =>
 gdF x21 h20 (fun k22 => kFieldA 1 x2 (fun x23 => k22 x23 h20)) (fun x24 h25 =>
 gdF x21 h25 (fun k26 => kLoad x24 h25 (fun x27 => k26 x27 h25)) (fun x28 h29 =>
 gdF x21 h29 (fun k30 => kCall R 53 [x28, (Value.int .i64 (.ofNat 1)), (Value.int .i64 (.ofNat 200))] h29 (k30)) (fun x31 h32 =>
 gdF x21 h32 (fun k33 => kNot x31 (fun x34 => k33 x34 h32)) (fun x35 h36 =>
 after (fun x37 h38 =>
 gdF x37 h38 (fun k39 => kLoads 4 x0 h38 (fun x40 => k39 x40 h38)) (fun x41 h42 =>
 gdF x37 h42 (fun k43 => kLoads 4 x2 h42 (fun x44 => k43 x44 h42)) (fun x45 h46 =>
 gdF x37 h46 (fun k47 => kCall R 54 [x41, x45] h46 (k47)) (fun x48 h49 =>
 gdF x37 h49 (fun k50 => kNot x48 (fun x51 => k50 x51 h49)) (fun x52 h53 =>
 after (fun x54 h55 =>
 jn (fun (x57 : Value) (h58 : Hs) =>
 kFieldA 3 x2 (fun x59 =>
 kLoad x59 h58 (fun x60 =>
 kLenV x60 (fun x61 =>
 kI64 .leq x61 (Value.int .i64 (.ofNat 4)) (fun x62 =>
 gdT x62 h58 (fun k63 => kLoads 4 x0 (Hs.mk h58.hp h58.nx h58.nx) (fun x64 => k63 x64 h58)) (fun x65 _ =>
 gdT x62 h58 (fun k67 => kLoads 4 x2 (Hs.mk h58.hp h58.nx h58.nx) (fun x68 => k67 x68 h58)) (fun x69 _ =>
 gdT x62 h58 (fun k71 => kCall R 55 [x65, x69] h58 (fun v72 u73 => dPut k71 v72 (dNext h58 u73 .bar) (andB (dFit h58 u73 .bar) (Nat.ble 0 u73.lo)))) (fun x74 h75 =>
 after (fun v104 u105 => dPut (fun x76 h77 =>
 gdT x76 h77 (fun k78 => kLoads 4 x2 (dHidS .light [true, true, true, true, true, true, true, true, true, true] [none, some (h75.nx, h77.nx), some (h58.nx, h75.nx), none, none, none, none, none, none, none] h77) (fun x79 => k78 x79 h77)) (fun x80 _ =>
 gdT x76 h77 (fun k82 => kCall R 56 [x80] (dHidS .light [true, true, true, true, true, true, true, true, true, true, true] [none, none, some (h75.nx, h77.nx), some (h58.nx, h75.nx), none, none, none, none, none, none, none] h77) (fun v83 u84 => dPut k82 v83 (dNext h77 u84 .light) (andB (dFit h77 u84 .light) (Nat.ble 0 u84.lo)))) (fun x85 h86 =>
 gdT x76 h86 (fun k87 => kLoads 4 x2 (dHidS .light [false, false, true, true, true, true, true, true, true, true, true, true] [some (h77.nx, h86.nx), none, none, some (h75.nx, h77.nx), some (h58.nx, h75.nx), none, none, none, none, none, none, none] h86) (fun x88 => k87 x88 h86)) (fun x89 _ =>
 gdT x76 h86 (fun k91 => kCall R 57 [x89] h86 (fun v92 u93 => dPut k91 v92 (dNext h86 u93 .bar) (andB (dFit h86 u93 .bar) (Nat.ble 0 u93.lo)))) (fun x94 h95 =>
 gdT x76 h95 (fun k96 => kI64 .eql x85 x94 (fun x97 => k96 x97 h95)) (fun x98 _ =>
 after (fun v102 u103 => dPut (fun x100 h101 =>
 clrK h x100 h101) v102 (dNext h95 u103 .blind) (andB (dFit h95 u103 .blind) (Nat.ble 0 u103.lo))) (pickB (.c x98) (.c (Value.bool false)) enE (Hs.mk .e h95.nx h95.nx) x76))))))) v104 (dNext h75 u105 .blind) (andB (dFit h75 u105 .blind) (Nat.ble 0 u105.lo))) (pickB (.c x74) (.c (Value.bool false)) enE (Hs.mk .e h75.nx h75.nx) x62))))))))) fun k56 =>
 cnd x54
 (clrK h (Value.bool false) h55)
 (k56 x15 h55)) (pickB (.c (Value.bool true)) (.c x52) enE h53 x37)))))) (pickB (.c (Value.bool true)) (.c x35) enE h36 x21)))))))))) fun k14 =>
 cnd x13
 (kLoads 4 x2 h10 (fun x106 =>
 kCall R 52 [x106] h10 (fun x107 h108 =>
 clrK h x107 h108)))
 (k14 x9 h10))))) fun k8 =>
 cnd x7
 (clrK h (Value.bool false) h6)
 (k8 (Value.bool false) h6))))) (oBox 32 (.c a1) enE h1)) (oBox 45 (.c a0) enE h0)

theorem q21 (R : RnK) (N : Nat) (args : List Value) (h : Hs) : r21 R N args h = callT Tryz.prog N R 21 args h := by kernel_rfl

/-- (*lintel/edit.Edit).mark -/
noncomputable def r22 (R : RnK) (N : Nat) (args : List Value) (h : Hs) : An := unC args fun a0 s0 => unC s0 fun a1 s1 => unC s1 fun a2 s2 => enK h fun h0 =>
 kNil a0 (fun x0 =>
 kFieldA 0 x0 (fun x1 =>
 kLoads 5 x1 h0 (fun x2 =>
 kCall R 34 [x2] h0 (fun x3 h4 =>
 after (fun x5 h6 =>
 kStore1 x5 x3 h6 (fun x7 h8 =>
 kLenV a2 (fun x9 =>
 jn (fun (x11 x12 x13 x14 x15 x16 x17 : Value) (h18 : Hs) =>
 kNil a0 (fun x19 =>
 kFieldA 0 x19 (fun x20 =>
 kFieldA 0 x20 (fun x21 =>
 kLoads 4 x21 h18 (fun x22 =>
 kCall R 49 [x22] h18 (fun x23 h24 =>
 kExtr x23 0 (fun x25 =>
 kExtr x23 1 (fun x26 =>
 jn (fun (x28 x29 x30 : Value) (h31 : Hs) =>
 clrK h (Value.tuple #[]) h31) fun k27 =>
 lpT (T := Value → Value → Value → Hs → An) (fun _ _ _ _ => none) N (fun k32 =>
 fun (x34 x35 x36 : Value) (h37 : Hs) =>
 kI64 .lss x34 x26 (fun x38 =>
 jn (fun (h40 : Hs) =>
 jn (fun (x42 : Value) (h43 : Hs) =>
 kI64 .add x34 (Value.int .i64 (.ofNat 1)) (fun x44 =>
 k32 x44 x38 x42 h43)) fun k41 =>
 kI64 .add x25 x34 (fun x45 =>
 kFieldA 0 x5 (fun x46 =>
 kLoad x46 h40 (fun x47 =>
 kI64 .mul (Value.int .i64 (.ofNat 8)) x34 (fun x48 =>
 kI64 .add x34 (Value.int .i64 (.ofNat 1)) (fun x49 =>
 kI64 .mul (Value.int .i64 (.ofNat 8)) x49 (fun x50 =>
 after (fun x51 h52 =>
 kCall R 23 [a0, x45, x51] h52 (fun x53 h54 =>
 k41 x34 h54)) (oSlice 1 (.c x47) (some (.c x48)) (some (.c x50)) none enE h40)))))))) fun k39 =>
 cnd x38
 (k39 h37)
 (k27 x34 x38 x36 h37))) (Value.int .i64 (.ofNat 0)) dunno dunno h24)))))))) fun k10 =>
 lpT (T := Value → Value → Value → Value → Value → Value → Value → Hs → An) (fun _ _ _ _ _ _ _ _ => none) N (fun k55 =>
 fun (x57 x58 x59 x60 x61 x62 x63 : Value) (h64 : Hs) =>
 kI64 .lss x57 x9 (fun x65 =>
 jn (fun (h67 : Hs) =>
 jn (fun (x69 x70 x71 x72 x73 : Value) (h74 : Hs) =>
 kI64 .add x57 (Value.int .i64 (.ofNat 1)) (fun x75 =>
 k55 x75 x65 x69 x70 x71 x72 x73 h74)) fun k68 =>
 kIdxA 2 a2 x57 (fun x76 =>
 kLoads 2 x76 h67 (fun x77 =>
 after (fun x78 h79 =>
 after (fun x80 h81 =>
 kFieldA 1 x78 (fun x82 =>
 kLoad x82 h81 (fun x83 =>
 jn (fun (x85 x86 x87 : Value) (h88 : Hs) =>
 k68 x78 x85 x83 x86 x87 h88) fun k84 =>
 lpT (T := Value → Value → Value → Hs → An) (fun _ _ _ _ => none) N (fun k89 =>
 fun (x91 x92 x93 : Value) (h94 : Hs) =>
 kI64 .lss x91 x83 (fun x95 =>
 jn (fun (h97 : Hs) =>
 jn (fun (x99 : Value) (h100 : Hs) =>
 kI64 .add x91 (Value.int .i64 (.ofNat 1)) (fun x101 =>
 k89 x101 x95 x99 h100)) fun k98 =>
 kLoads 1 x5 h97 (fun x102 =>
 kFieldA 0 x78 (fun x103 =>
 kLoad x103 h97 (fun x104 =>
 kI64 .add x104 x91 (fun x105 =>
 after (fun x106 h107 =>
 kCall R 48 [x102, a1, x106] h107 (fun x108 h109 =>
 kStore1 x5 x108 h109 (fun x110 h111 =>
 k98 x91 h111))) (oMkrow 3 1 1 [(Value.int .i64 (.ofNat 0))] [(0, 1, .c x105)] enE h97)))))) fun k96 =>
 cnd x95
 (k96 h94)
 (k84 x91 x95 x93 h94))) (Value.int .i64 (.ofNat 0)) x62 x63 h81))) (store1 2 h79 (cellsL x77) (addrOf x78))) (oAlloc 78 [(Value.int .i64 (.ofNat 0)), (Value.int .i64 (.ofNat 0))] enE h67)))) fun k66 =>
 cnd x65
 (k66 h64)
 (k10 x57 x65 x59 x60 x61 x62 x63 h64))) (Value.int .i64 (.ofNat 0)) dunno dunno dunno dunno dunno dunno h8))) (oAlloc 80 [(Value.slice none 0 0)] enE h4)))))

theorem q22 (R : RnK) (N : Nat) (args : List Value) (h : Hs) : r22 R N args h = callT Tryz.prog N R 22 args h := by kernel_rfl

/-- (*lintel/edit.Edit).put -/
noncomputable def r23 (R : RnK) (N : Nat) (args : List Value) (h : Hs) : An := unC args fun a0 s0 => unC s0 fun a1 s1 => unC s1 fun a2 s2 => enK h fun h0 =>
 kNil a0 (fun x0 =>
 kFieldA 0 x0 (fun x1 =>
 kFieldA 4 x1 (fun x2 =>
 kLoad x2 h0 (fun x3 =>
 kI64 .mul (Value.int .i64 (.ofNat 8)) a1 (fun x4 =>
 kI64 .add a1 (Value.int .i64 (.ofNat 1)) (fun x5 =>
 kI64 .mul (Value.int .i64 (.ofNat 8)) x5 (fun x6 =>
 after (fun x7 h8 =>
 after (fun x9 h10 =>
 clrK h (Value.tuple #[]) h10) (copy0 1 h8 x7 a2)) (oSlice 1 (.c x3) (some (.c x4)) (some (.c x6)) none enE h0))))))))

theorem q23 (R : RnK) (N : Nat) (args : List Value) (h : Hs) : r23 R N args h = callT Tryz.prog N R 23 args h := by kernel_rfl

/-- lintel/slot.Good -/
noncomputable def r25 (R : RnK) (N : Nat) (args : List Value) (h : Hs) : An := unC args fun a0 s0 => enK h fun h0 =>
 after (fun x0 h1 =>
 kFieldA 0 x0 (fun x2 =>
 kLoad x2 h1 (fun x3 =>
 kI64 .eql x3 (Value.int .i64 (.ofNat 0)) (fun x4 =>
 jn (fun (x6 : Value) (h7 : Hs) =>
 kFieldA 0 x0 (fun x8 =>
 kLoad x8 h7 (fun x9 =>
 kI64 .geq x9 (Value.int .i64 (.ofNat 1)) (fun x10 =>
 gdT x10 h7 (fun k11 => kFieldA 0 x0 (fun x12 => k11 x12 h7)) (fun x13 h14 =>
 gdT x10 h14 (fun k15 => kLoad x13 h14 (fun x16 => k15 x16 h14)) (fun x17 h18 =>
 gdT x10 h18 (fun k19 => kI64 .leq x17 (Value.int .i64 (.ofNat 64)) (fun x20 => k19 x20 h18)) (fun x21 h22 =>
 after (fun x23 h24 =>
 gdT x23 h24 (fun k25 => kFieldA 1 x0 (fun x26 => k25 x26 h24)) (fun x27 h28 =>
 gdT x23 h28 (fun k29 => kLoad x27 h28 (fun x30 => k29 x30 h28)) (fun x31 h32 =>
 gdT x23 h32 (fun k33 => kCall R 60 [x31] h32 (k33)) (fun x34 h35 =>
 after (fun x36 h37 =>
 clrK h x36 h37) (pickB (.c x34) (.c (Value.bool false)) enE h35 x23))))) (pickB (.c x21) (.c (Value.bool false)) enE h22 x10)))))))) fun k5 =>
 cnd x4
 (kFieldA 1 x0 (fun x38 =>
 kLoad x38 h1 (fun x39 =>
 obK (fun x40 =>
 clrK h x40 h1) (s2 .eql x39 (Value.string ⟨#[]⟩)))))
 (k5 (Value.bool false) h1))))) (oBox 35 (.c a0) enE h0)

theorem q25 (R : RnK) (N : Nat) (args : List Value) (h : Hs) : r25 R N args h = callT Tryz.prog N R 25 args h := by kernel_rfl

/-- lintel/runs.At -/
noncomputable def r26 (R : RnK) (N : Nat) (args : List Value) (h : Hs) : An := unC args fun a0 s0 => unC s0 fun a1 s1 => enK h fun h0 =>
 kI64 .lss a1 (Value.int .i64 (.ofNat 0)) (fun x0 =>
 jn (fun (x2 x3 : Value) (h4 : Hs) =>
 kCall R 61 [a0] h4 (fun x5 h6 =>
 kLenV x5 (fun x7 =>
 jn (fun (x9 x10 x11 x12 x13 x14 x15 : Value) (h16 : Hs) =>
 clrK h (Value.tuple #[(Value.int .i64 (.ofNat 0)), (Value.bool false)]) h16) fun k8 =>
 lpT (T := Value → Value → Value → Value → Value → Value → Value → Hs → An) (fun _ _ _ _ _ _ _ _ => none) N (fun k17 =>
 fun (x19 x20 x21 x22 x23 x24 x25 : Value) (h26 : Hs) =>
 kI64 .lss x20 x7 (fun x27 =>
 jn (fun (h29 : Hs) =>
 jn (fun (x31 x32 x33 x34 x35 : Value) (h36 : Hs) =>
 kI64 .add x20 (Value.int .i64 (.ofNat 1)) (fun x37 =>
 k17 x31 x37 x27 x32 x33 x34 x35 h36)) fun k30 =>
 kIdxA 2 x5 x20 (fun x38 =>
 kLoads 2 x38 h29 (fun x39 =>
 after (fun x40 h41 =>
 after (fun x42 h43 =>
 kFieldA 1 x40 (fun x44 =>
 kLoad x44 h43 (fun x45 =>
 kI64 .lss x19 x45 (fun x46 =>
 jn (fun (x48 x49 : Value) (h50 : Hs) =>
 kFieldA 1 x40 (fun x51 =>
 kLoad x51 h50 (fun x52 =>
 kI64 .sub x19 x52 (fun x53 =>
 k30 x53 x40 x46 x48 x49 h50)))) fun k47 =>
 cnd x46
 (kFieldA 0 x40 (fun x54 =>
 kLoad x54 h43 (fun x55 =>
 kI64 .add x55 x19 (fun x56 =>
 clrK h (Value.tuple #[x56, (Value.bool true)]) h43))))
 (k47 x24 x25 h43))))) (store1 2 h41 (cellsL x39) (addrOf x40))) (oAlloc 78 [(Value.int .i64 (.ofNat 0)), (Value.int .i64 (.ofNat 0))] enE h29)))) fun k28 =>
 cnd x27
 (k28 h26)
 (k8 x19 x20 x27 x22 x23 x24 x25 h26))) a1 (Value.int .i64 (.ofNat 0)) dunno dunno dunno x2 x3 h6))) fun k1 =>
 cnd x0
 (clrK h (Value.tuple #[(Value.int .i64 (.ofNat 0)), (Value.bool false)]) h0)
 (k1 (Value.int .i64 (.ofNat 0)) (Value.bool false) h0))

theorem q26 (R : RnK) (N : Nat) (args : List Value) (h : Hs) : r26 R N args h = callT Tryz.prog N R 26 args h := by kernel_rfl

/-- lintel/edit.may -/
noncomputable def r28 (R : RnK) (N : Nat) (args : List Value) (h : Hs) : An := unC args fun a0 s0 => unC s0 fun a1 s1 => enK h fun h0 =>
 jn (fun (x1 x2 x3 : Value) (h4 : Hs) =>
 clrK h (Value.bool false) h4) fun k0 =>
 kI64 .eql a0 (Value.int .i64 (.ofNat 1)) (fun x5 =>
 jn (fun (x7 x8 : Value) (h9 : Hs) =>
 k0 x5 x7 x8 h9) fun k6 =>
 cnd x5
 (kI64 .leq a1 (Value.int .i64 (.ofNat 4096)) (fun x10 =>
 clrK h x10 h0))
 (kI64 .eql a0 (Value.int .i64 (.ofNat 3)) (fun x11 =>
 jn (fun (x13 : Value) (h14 : Hs) =>
 k6 x11 x13 h14) fun k12 =>
 cnd x11
 (kI64 .geq a1 (Value.int .i64 (.ofNat 1)) (fun x15 =>
 gdT x15 h0 (fun k16 => k16 a1 h0) (fun x17 h18 =>
 gdT x15 h18 (fun k19 => kI64 .leq x17 (Value.int .i64 (.ofNat 400)) (fun x20 => k19 x20 h18)) (fun x21 h22 =>
 after (fun x23 h24 =>
 clrK h x23 h24) (pickB (.c x21) (.c (Value.bool false)) enE h22 x15)))))
 (k12 (Value.bool false) h0))))

theorem q28 (R : RnK) (N : Nat) (args : List Value) (h : Hs) : r28 R N args h = callT Tryz.prog N R 28 args h := by kernel_rfl

/-- (*lintel/edit.Edit).take -/
noncomputable def r29 (R : RnK) (N : Nat) (args : List Value) (h : Hs) : An := unC args fun a0 s0 => unC s0 fun a1 s1 => unC s1 fun a2 s2 => unC s2 fun a3 s3 => unC s3 fun a4 s4 => enK h fun h0 =>
 kNil a0 (fun x0 =>
 kFieldA 0 x0 (fun x1 =>
 kLoads 5 x1 h0 (fun x2 =>
 kCall R 34 [x2] h0 (fun x3 h4 =>
 after (fun x5 h6 =>
 kStore1 x5 x3 h6 (fun x7 h8 =>
 kLenV a4 (fun x9 =>
 jn (fun (x11 x12 x13 x14 x15 x16 x17 : Value) (h18 : Hs) =>
 kNil a0 (fun x19 =>
 kFieldA 0 x19 (fun x20 =>
 kFieldA 0 x20 (fun x21 =>
 kLoads 4 x21 (Hs.mk h18.hp h18.nx h18.nx) (fun x22 =>
 kLoads 1 x5 (Hs.mk h18.hp h18.nx h18.nx) (fun x23 =>
 kCall R 62 [x22, x23] h18 (fun v37 u38 => dPut (fun x24 h25 =>
 kExtr x24 0 (fun x26 =>
 kExtr x24 1 (fun x27 =>
 kI64 .neq x27 (Value.int .i64 (.ofNat 0)) (fun x28 =>
 jn (fun (x30 x31 : Value) (h32 : Hs) =>
 kCall R 63 [x26, a1, a2, a3] h32 (fun x33 h34 =>
 kExtr x33 0 (fun x35 =>
 kExtr x33 1 (fun x36 =>
 clrK h (Value.tuple #[x35, x36]) h34)))) fun k29 =>
 cnd x28
 (clrK h (Value.tuple #[(Value.slice none 0 0), x27]) h25)
 (k29 (Value.slice none 0 0) (Value.int .i64 (.ofNat 0)) h25))))) v37 (dNext h18 u38 .bar) (andB (dFit h18 u38 .bar) (Nat.ble 0 u38.lo))))))))) fun k10 =>
 lpT (T := Value → Value → Value → Value → Value → Value → Value → Hs → An) (fun _ _ _ _ _ _ _ _ => none) N (fun k39 =>
 fun (x41 x42 x43 x44 x45 x46 x47 : Value) (h48 : Hs) =>
 kI64 .lss x41 x9 (fun x49 =>
 jn (fun (h51 : Hs) =>
 jn (fun (x53 x54 x55 x56 x57 : Value) (h58 : Hs) =>
 kI64 .add x41 (Value.int .i64 (.ofNat 1)) (fun x59 =>
 k39 x59 x49 x53 x54 x55 x56 x57 h58)) fun k52 =>
 kIdxA 2 a4 x41 (fun x60 =>
 kLoads 2 x60 h51 (fun x61 =>
 after (fun x62 h63 =>
 after (fun x64 h65 =>
 kFieldA 1 x62 (fun x66 =>
 kLoad x66 h65 (fun x67 =>
 jn (fun (x69 x70 x71 : Value) (h72 : Hs) =>
 k52 x62 x69 x67 x70 x71 h72) fun k68 =>
 lpT (T := Value → Value → Value → Hs → An) (fun _ _ _ _ => none) N (fun k73 =>
 fun (x75 x76 x77 : Value) (h78 : Hs) =>
 kI64 .lss x75 x67 (fun x79 =>
 jn (fun (h81 : Hs) =>
 jn (fun (x83 : Value) (h84 : Hs) =>
 kI64 .add x75 (Value.int .i64 (.ofNat 1)) (fun x85 =>
 k73 x85 x79 x83 h84)) fun k82 =>
 kLoads 1 x5 h81 (fun x86 =>
 kFieldA 0 x62 (fun x87 =>
 kLoad x87 h81 (fun x88 =>
 kI64 .add x88 x75 (fun x89 =>
 after (fun x90 h91 =>
 kCall R 48 [x86, (Value.bool true), x90] h91 (fun x92 h93 =>
 kStore1 x5 x92 h93 (fun x94 h95 =>
 k82 x75 h95))) (oMkrow 3 1 1 [(Value.int .i64 (.ofNat 0))] [(0, 1, .c x89)] enE h81)))))) fun k80 =>
 cnd x79
 (k80 h78)
 (k68 x75 x79 x77 h78))) (Value.int .i64 (.ofNat 0)) x46 x47 h65))) (store1 2 h63 (cellsL x61) (addrOf x62))) (oAlloc 78 [(Value.int .i64 (.ofNat 0)), (Value.int .i64 (.ofNat 0))] enE h51)))) fun k50 =>
 cnd x49
 (k50 h48)
 (k10 x41 x49 x43 x44 x45 x46 x47 h48))) (Value.int .i64 (.ofNat 0)) dunno dunno dunno dunno dunno dunno h8))) (oAlloc 80 [(Value.slice none 0 0)] enE h4)))))

theorem q29 (R : RnK) (N : Nat) (args : List Value) (h : Hs) : r29 R N args h = callT Tryz.prog N R 29 args h := by kernel_rfl

/-- lintel/runs.Total -/
noncomputable def r30 (R : RnK) (N : Nat) (args : List Value) (h : Hs) : An := unC args fun a0 s0 => enK h fun h0 =>
 kCall R 61 [a0] h0 (fun x0 h1 =>
 kLenV x0 (fun x2 =>
 jn (fun (x4 x5 x6 x7 : Value) (h8 : Hs) =>
 clrK h x6 h8) fun k3 =>
 lpT (T := Value → Value → Value → Value → Hs → An) (fun _ _ _ _ _ => none) N (fun k9 =>
 fun (x11 x12 x13 x14 : Value) (h15 : Hs) =>
 kI64 .lss x11 x2 (fun x16 =>
 jn (fun (h18 : Hs) =>
 jn (fun (x20 x21 : Value) (h22 : Hs) =>
 kI64 .add x11 (Value.int .i64 (.ofNat 1)) (fun x23 =>
 k9 x23 x16 x20 x21 h22)) fun k19 =>
 kIdxA 2 x0 x11 (fun x24 =>
 kLoads 2 x24 h18 (fun x25 =>
 after (fun x26 h27 =>
 after (fun x28 h29 =>
 kFieldA 1 x26 (fun x30 =>
 kLoad x30 h29 (fun x31 =>
 kI64 .add x13 x31 (fun x32 =>
 k19 x32 x26 h29)))) (store1 2 h27 (cellsL x25) (addrOf x26))) (oAlloc 78 [(Value.int .i64 (.ofNat 0)), (Value.int .i64 (.ofNat 0))] enE h18)))) fun k17 =>
 cnd x16
 (k17 h15)
 (k3 x11 x16 x13 x14 h15))) (Value.int .i64 (.ofNat 0)) dunno (Value.int .i64 (.ofNat 0)) dunno h1))

theorem q30 (R : RnK) (N : Nat) (args : List Value) (h : Hs) : r30 R N args h = callT Tryz.prog N R 30 args h := by kernel_rfl

/-- (*lintel/edit.Edit).behind -/
noncomputable def r31 (R : RnK) (N : Nat) (args : List Value) (h : Hs) : An := unC args fun a0 s0 => unC s0 fun a1 s1 => unC s1 fun a2 s2 => enK h fun h0 =>
 kLenV a1 (fun x0 =>
 kI64 .eql x0 (Value.int .i64 (.ofNat 0)) (fun x1 =>
 jn (fun (x3 : Value) (h4 : Hs) =>
 kNil a0 (fun x5 =>
 kFieldA 0 x5 (fun x6 =>
 kFieldA 0 x6 (fun x7 =>
 kLoads 4 x7 h4 (fun x8 =>
 kCall R 46 [x8] h4 (fun x9 h10 =>
 kExtr x9 0 (fun x11 =>
 kExtr x9 1 (fun x12 =>
 kLenV a1 (fun x13 =>
 kI64 .sub x13 (Value.int .i64 (.ofNat 1)) (fun x14 =>
 kIdxA 2 a1 x14 (fun x15 =>
 kLoads 2 x15 h10 (fun x16 =>
 after (fun x17 h18 =>
 after (fun x19 h20 =>
 kFieldA 0 x17 (fun x21 =>
 kLoad x21 h20 (fun x22 =>
 kFieldA 1 x17 (fun x23 =>
 kLoad x23 h20 (fun x24 =>
 kI64 .add x22 x24 (fun x25 =>
 kNil a0 (fun x26 =>
 kFieldA 0 x26 (fun x27 =>
 kLoads 5 x27 h20 (fun x28 =>
 kCall R 34 [x28] h20 (fun x29 h30 =>
 after (fun x31 h32 =>
 kStore1 x31 x29 h32 (fun x33 h34 =>
 jn (fun (x36 x37 x38 x39 : Value) (h40 : Hs) =>
 kI64 .eql x36 (Value.int .i64 (.ofNat 0)) (fun x41 =>
 jn (fun (x43 : Value) (h44 : Hs) =>
 after (fun x45 h46 =>
 after (fun x47 h48 =>
 clrK h x47 h48) (oMkrow 78 2 1 [(Value.int .i64 (.ofNat 0)), (Value.int .i64 (.ofNat 0))] [(0, 2, .c x45)] enE h46)) (oBuild [(Value.int .i64 (.ofNat 0)), (Value.int .i64 (.ofNat 0))] [(0, 1, .c x25), (1, 1, .c x36)] enE h44)) fun k42 =>
 cnd x41
 (clrK h (Value.slice none 0 0) h40)
 (k42 x3 h40))) fun k35 =>
 lpT (T := Value → Value → Value → Value → Hs → An) (fun _ _ _ _ _ => none) N (fun k49 =>
 fun (x51 x52 x53 x54 : Value) (h55 : Hs) =>
 kI64 .lss x51 a2 (fun x56 =>
 gdT x56 h55 (fun k57 => k57 x25 h55) (fun x58 h59 =>
 gdT x56 h59 (fun k60 => k60 x51 h59) (fun x61 h62 =>
 gdT x56 h62 (fun k63 => kI64 .add x58 x61 (fun x64 => k63 x64 h62)) (fun x65 h66 =>
 gdT x56 h66 (fun k67 => k67 x11 h66) (fun x68 h69 =>
 gdT x56 h69 (fun k70 => kI64 .geq x65 x68 (fun x71 => k70 x71 h69)) (fun x72 h73 =>
 after (fun x74 h75 =>
 gdT x74 h75 (fun k76 => k76 x25 h75) (fun x77 h78 =>
 gdT x74 h78 (fun k79 => k79 x51 h78) (fun x80 h81 =>
 gdT x74 h81 (fun k82 => kI64 .add x77 x80 (fun x83 => k82 x83 h81)) (fun x84 h85 =>
 gdT x74 h85 (fun k86 => k86 x11 h85) (fun x87 h88 =>
 gdT x74 h88 (fun k89 => k89 x12 h88) (fun x90 h91 =>
 gdT x74 h91 (fun k92 => kI64 .add x87 x90 (fun x93 => k92 x93 h91)) (fun x94 h95 =>
 gdT x74 h95 (fun k96 => kI64 .lss x84 x94 (fun x97 => k96 x97 h95)) (fun x98 h99 =>
 after (fun x100 h101 =>
 gdT x100 h101 (fun k102 => kLoads 1 x52 h101 (fun x103 => k102 x103 h101)) (fun x104 h105 =>
 gdT x100 h105 (fun k106 => k106 x25 h105) (fun x107 h108 =>
 gdT x100 h108 (fun k109 => k109 x51 h108) (fun x110 h111 =>
 gdT x100 h111 (fun k112 => kI64 .add x107 x110 (fun x113 => k112 x113 h111)) (fun x114 h115 =>
 gdT x100 h115 (fun k116 => kCall R 35 [x104, x114] h115 (k116)) (fun x117 h118 =>
 gdT x100 h118 (fun k119 => kNot x117 (fun x120 => k119 x120 h118)) (fun x121 h122 =>
 after (fun x123 h124 =>
 jn (fun (h126 : Hs) =>
 jn (fun (h128 : Hs) =>
 kLoads 1 x52 h128 (fun x129 =>
 after (fun x130 h131 =>
 kStore1 x130 x129 h131 (fun x132 h133 =>
 kI64 .add x51 (Value.int .i64 (.ofNat 1)) (fun x134 =>
 k49 x134 x130 x123 x129 h133))) (oAlloc 80 [(Value.slice none 0 0)] enE h128))) fun k127 =>
 k127 h126) fun k125 =>
 cnd x123
 (k125 h124)
 (k35 x51 x52 x123 x54 h124)) (pickB (.c x121) (.c (Value.bool false)) enE h122 x100)))))))) (pickB (.c x98) (.c (Value.bool false)) enE h99 x74))))))))) (pickB (.c x72) (.c (Value.bool false)) enE h73 x56)))))))) (Value.int .i64 (.ofNat 0)) x31 dunno dunno h34)) (oAlloc 80 [(Value.slice none 0 0)] enE h30))))))))))) (store1 2 h18 (cellsL x16) (addrOf x17))) (oAlloc 78 [(Value.int .i64 (.ofNat 0)), (Value.int .i64 (.ofNat 0))] enE h10))))))))))))) fun k2 =>
 cnd x1
 (clrK h (Value.slice none 0 0) h0)
 (k2 (Value.slice none 0 0) h0)))

theorem q31 (R : RnK) (N : Nat) (args : List Value) (h : Hs) : r31 R N args h = callT Tryz.prog N R 31 args h := by kernel_rfl

/-- lintel/runs.Add -/
noncomputable def r32 (R : RnK) (N : Nat) (args : List Value) (h : Hs) : An := unC args fun a0 s0 => unC s0 fun a1 s1 => enK h fun h0 =>
 after (fun x0 h1 =>
 kCall R 33 [x0] h1 (fun x2 h3 =>
 kCall R 64 [x2] h3 (fun x4 h5 =>
 clrK h x4 h5))) (oMkrow 30 1 2 [(Value.slice none 0 0)] [(0, 1, .c a0), (1, 1, .c a1)] enE h0)

theorem q32 (R : RnK) (N : Nat) (args : List Value) (h : Hs) : r32 R N args h = callT Tryz.prog N R 32 args h := by kernel_rfl

/-- slices.Concat[[]lintel/node.Run,lintel/node.Run] -/
noncomputable def r33 (R : RnK) (N : Nat) (args : List Value) (h : Hs) : An := unC args fun a0 s0 => enK h fun h0 =>
 kLenV a0 (fun x0 =>
 jn (fun (x2 x3 x4 x5 x6 : Value) (h7 : Hs) =>
 kCall R 65 [(Value.slice none 0 0), x4] h7 (fun x8 h9 =>
 kLenV a0 (fun x10 =>
 jn (fun (x12 x13 x14 x15 : Value) (h16 : Hs) =>
 clrK h x14 h16) fun k11 =>
 lpT (T := Value → Value → Value → Value → Hs → An) (fun _ _ _ _ _ => none) N (fun k17 =>
 fun (x19 x20 x21 x22 : Value) (h23 : Hs) =>
 kI64 .lss x19 x10 (fun x24 =>
 jn (fun (h26 : Hs) =>
 jn (fun (x28 x29 : Value) (h30 : Hs) =>
 kI64 .add x19 (Value.int .i64 (.ofNat 1)) (fun x31 =>
 k17 x31 x24 x28 x29 h30)) fun k27 =>
 kIdxA 1 a0 x19 (fun x32 =>
 kLoad x32 h26 (fun x33 =>
 after (fun x34 h35 =>
 k27 x34 x33 h35) (app0 78 2 16 h26 x21 x33)))) fun k25 =>
 cnd x24
 (k25 h23)
 (k11 x19 x24 x21 x22 h23))) (Value.int .i64 (.ofNat 0)) dunno x8 dunno h9))) fun k1 =>
 lpT (T := Value → Value → Value → Value → Value → Hs → An) (fun _ _ _ _ _ _ => none) N (fun k36 =>
 fun (x38 x39 x40 x41 x42 : Value) (h43 : Hs) =>
 kI64 .lss x38 x0 (fun x44 =>
 jn (fun (h46 : Hs) =>
 jn (fun (x48 x49 x50 : Value) (h51 : Hs) =>
 kI64 .add x38 (Value.int .i64 (.ofNat 1)) (fun x52 =>
 k36 x52 x44 x48 x49 x50 h51)) fun k47 =>
 kIdxA 1 a0 x38 (fun x53 =>
 kLoad x53 h46 (fun x54 =>
 kLenV x54 (fun x55 =>
 kI64 .add x40 x55 (fun x56 =>
 kI64 .lss x56 (Value.int .i64 (.ofNat 0)) (fun x57 =>
 jn (fun (h59 : Hs) =>
 k47 x56 x54 x57 h59) fun k58 =>
 cnd x57
 (after (fun x60 h61 =>
 none) (oMkface 9 (.c (Value.string ⟨#[108, 101, 110, 32, 111, 117, 116, 32, 111, 102, 32, 114, 97, 110, 103, 101]⟩)) enE h46))
 (k58 h46))))))) fun k45 =>
 cnd x44
 (k45 h43)
 (k1 x38 x44 x40 x41 x42 h43))) (Value.int .i64 (.ofNat 0)) dunno (Value.int .i64 (.ofNat 0)) dunno dunno h0)

theorem q33 (R : RnK) (N : Nat) (args : List Value) (h : Hs) : r33 R N args h = callT Tryz.prog N R 33 args h := by kernel_rfl

/-- (lintel/image.Image).Bits -/
noncomputable def r34 (R : RnK) (N : Nat) (args : List Value) (h : Hs) : An := unC args fun a0 s0 => enK h fun h0 =>
 after (fun x0 h1 =>
 after (fun x2 h3 =>
 kFieldA 0 x0 (fun x4 =>
 kLoads 4 x4 h3 (fun x5 =>
 kCall R 49 [x5] h3 (fun x6 h7 =>
 kExtr x6 0 (fun x8 =>
 kExtr x6 1 (fun x9 =>
 after (fun x10 h11 =>
 jn (fun (x13 x14 x15 : Value) (h16 : Hs) =>
 kLoads 1 x10 h16 (fun x17 =>
 kStore1 x2 x17 h16 (fun x18 h19 =>
 clearUp h (packR h19 (resV enE h19 [.cell (.c x2) 1 true]))))) fun k12 =>
 lpT (T := Value → Value → Value → Hs → An) (fun _ _ _ _ => none) N (fun k20 =>
 fun (x22 x23 x24 : Value) (h25 : Hs) =>
 kI64 .lss x22 x9 (fun x26 =>
 jn (fun (h28 : Hs) =>
 jn (fun (x30 : Value) (h31 : Hs) =>
 kI64 .add x22 (Value.int .i64 (.ofNat 1)) (fun x32 =>
 k20 x32 x26 x30 h31)) fun k29 =>
 kFieldA 0 x10 (fun x33 =>
 kLoad x33 (Hs.mk h28.hp h28.nx h28.nx) (fun x34 =>
 kLoads 5 x0 (Hs.mk h28.hp h28.nx h28.nx) (fun x35 =>
 kI64 .add x8 x22 (fun x36 =>
 kCall R 37 [x35, x36] (Hs.mk h28.hp h28.nx h28.nx) (fun v48 u49 => dPut (fun x37 h38 =>
 after (fun v46 u47 => dPut (fun x39 h40 =>
 kFieldA 0 x10 (fun x41 =>
 kStore1 x41 x39 h40 (fun v44 u45 => dPut (fun x42 h43 =>
 k29 x22 h43) v44 (dNext h40 u45 .bar) (andB (dFit h40 u45 .bar) (Nat.ble 0 u45.lo))))) v46 (dNext h38 u47 .bar) (andB (dFit h38 u47 .bar) (Nat.ble 0 u47.lo))) (app0 57 1 8 h38 x34 x37)) v48 (dNext h28 u49 .light) (andB (dFit h28 u49 .light) (Nat.ble 0 u49.lo)))))))) fun k27 =>
 cnd x26
 (k27 h25)
 (k12 x22 x26 x24 h25))) (Value.int .i64 (.ofNat 0)) dunno dunno h11) (oAlloc 80 [(Value.slice none 0 0)] enE h7))))))) (oAlloc 80 [(Value.slice none 0 0)] enE h1)) (oBox 47 (.c a0) enE h0)

theorem q34 (R : RnK) (N : Nat) (args : List Value) (h : Hs) : r34 R N args h = callT Tryz.prog N R 34 args h := by kernel_rfl

/-- lintel/bits.Has -/
noncomputable def r35 (R : RnK) (N : Nat) (args : List Value) (h : Hs) : An := unC args fun a0 s0 => unC s0 fun a1 s1 => enK h fun h0 =>
 after (fun x0 h1 =>
 kLoads 1 x0 h1 (fun x2 =>
 kCall R 66 [x2, a1] h1 (fun x3 h4 =>
 gdT x3 h4 (fun k5 => kFieldA 0 x0 (fun x6 => k5 x6 h4)) (fun x7 h8 =>
 gdT x3 h8 (fun k9 => kLoad x7 h8 (fun x10 => k9 x10 h8)) (fun x11 h12 =>
 gdT x3 h12 (fun k13 => k13 a1 h12) (fun x14 h15 =>
 gdT x3 h15 (fun k16 => kI64 .quo x14 (Value.int .i64 (.ofNat 64)) (fun x17 => k16 x17 h15)) (fun x18 h19 =>
 gdT x3 h19 (fun k20 => kIdxA 1 x11 x18 (fun x21 => k20 x21 h19)) (fun x22 h23 =>
 gdT x3 h23 (fun k24 => kLoad x22 h23 (fun x25 => k24 x25 h23)) (fun x26 h27 =>
 gdT x3 h27 (fun k28 => k28 a1 h27) (fun x29 h30 =>
 gdT x3 h30 (fun k31 => kI64 .rem x29 (Value.int .i64 (.ofNat 64)) (fun x32 => k31 x32 h30)) (fun x33 h34 =>
 gdT x3 h34 (fun k35 => kShr x26 x33 (fun x36 => k35 x36 h34)) (fun x37 h38 =>
 gdT x3 h38 (fun k39 => kU64 .and x37 (Value.int .u64 (.ofNat 1)) (fun x40 => k39 x40 h38)) (fun x41 h42 =>
 gdT x3 h42 (fun k43 => kU64 .eql x41 (Value.int .u64 (.ofNat 1)) (fun x44 => k43 x44 h42)) (fun x45 h46 =>
 after (fun x47 h48 =>
 clrK h x47 h48) (pickB (.c x45) (.c (Value.bool false)) enE h46 x3))))))))))))))) (oBox 80 (.c a0) enE h0)

theorem q35 (R : RnK) (N : Nat) (args : List Value) (h : Hs) : r35 R N args h = callT Tryz.prog N R 35 args h := by kernel_rfl

/-- (lintel/image.Image).Block -/
noncomputable def r37 (R : RnK) (N : Nat) (args : List Value) (h : Hs) : An := unC args fun a0 s0 => unC s0 fun a1 s1 => enK h fun h0 =>
 after (fun x0 h1 =>
 kI64 .lss a1 (Value.int .i64 (.ofNat 0)) (fun x2 =>
 gdF x2 h1 (fun k3 => k3 a1 h1) (fun x4 h5 =>
 gdF x2 h5 (fun k6 => kFieldA 4 x0 (fun x7 => k6 x7 h5)) (fun x8 h9 =>
 gdF x2 h9 (fun k10 => kLoad x8 h9 (fun x11 => k10 x11 h9)) (fun x12 h13 =>
 gdF x2 h13 (fun k14 => kLenV x12 (fun x15 => k14 x15 h13)) (fun x16 h17 =>
 gdF x2 h17 (fun k18 => kI64 .quo x16 (Value.int .i64 (.ofNat 8)) (fun x19 => k18 x19 h17)) (fun x20 h21 =>
 gdF x2 h21 (fun k22 => kI64 .geq x4 x20 (fun x23 => k22 x23 h21)) (fun x24 h25 =>
 after (fun x26 h27 =>
 jn (fun (x29 : Value) (h30 : Hs) =>
 kFieldA 4 x0 (fun x31 =>
 kLoad x31 h30 (fun x32 =>
 kI64 .mul (Value.int .i64 (.ofNat 8)) a1 (fun x33 =>
 kI64 .add a1 (Value.int .i64 (.ofNat 1)) (fun x34 =>
 kI64 .mul (Value.int .i64 (.ofNat 8)) x34 (fun x35 =>
 after (fun x36 h37 =>
 kCall R 17 [x36] h37 (fun x38 h39 =>
 clrK h x38 h39)) (oSlice 1 (.c x32) (some (.c x33)) (some (.c x35)) none enE h30))))))) fun k28 =>
 cnd x26
 (clrK h (Value.slice none 0 0) h27)
 (k28 (Value.slice none 0 0) h27)) (pickB (.c (Value.bool true)) (.c x24) enE h25 x2))))))))) (oBox 47 (.c a0) enE h0)

theorem q37 (R : RnK) (N : Nat) (args : List Value) (h : Hs) : r37 R N args h = callT Tryz.prog N R 37 args h := by kernel_rfl

/-- slices.Clone[[]byte,byte] -/
noncomputable def r38 (R : RnK) (N : Nat) (args : List Value) (h : Hs) : An := unC args fun a0 s0 => enK h fun h0 =>
 obK (fun x0 =>
 jn (fun (x2 : Value) (h3 : Hs) =>
 after (fun x4 h5 =>
 after (fun x6 h7 =>
 clrK h x6 h7) (app0 5 1 1 h5 x4 a0)) (oMkrow 5 1 0 [(Value.int .u8 (.ofNat 0))] [] enE h3)) fun k1 =>
 cnd x0
 (clrK h (Value.slice none 0 0) h0)
 (k1 (Value.slice none 0 0) h0)) (e2 false qS a0 (Value.slice none 0 0))

theorem q38 (R : RnK) (N : Nat) (args : List Value) (h : Hs) : r38 R N args h = callT Tryz.prog N R 38 args h := by kernel_rfl

/-- lintel/node.Get -/
noncomputable def r39 (R : RnK) (N : Nat) (args : List Value) (h : Hs) : An := unC args fun a0 s0 => enK h fun h0 =>
 after (fun x0 h1 =>
 kLenV a0 (fun x2 =>
 kI64 .neq x2 (Value.int .i64 (.ofNat 8)) (fun x3 =>
 gdF x3 h1 (fun k4 => k4 a0 h1) (fun x5 h6 =>
 gdF x3 h6 (fun k7 => kIdxA 1 x5 (Value.int .i64 (.ofNat 0)) (fun x8 => k7 x8 h6)) (fun x9 h10 =>
 gdF x3 h10 (fun k11 => kLoad x9 h10 (fun x12 => k11 x12 h10)) (fun x13 h14 =>
 gdF x3 h14 (fun k15 => kShr x13 (Value.int .u64 (.ofNat 32)) (fun x16 => k15 x16 h14)) (fun x17 h18 =>
 gdF x3 h18 (fun k19 => kU64 .neq x17 (Value.int .u64 (.ofNat 0)) (fun x20 => k19 x20 h18)) (fun x21 h22 =>
 after (fun x23 h24 =>
 gdF x23 h24 (fun k25 => k25 a0 h24) (fun x26 h27 =>
 gdF x23 h27 (fun k28 => kIdxA 1 x26 (Value.int .i64 (.ofNat 1)) (fun x29 => k28 x29 h27)) (fun x30 h31 =>
 gdF x23 h31 (fun k32 => kLoad x30 h31 (fun x33 => k32 x33 h31)) (fun x34 h35 =>
 gdF x23 h35 (fun k36 => kU64 .gtr x34 (Value.int .u64 (.ofNat 1099511627776)) (fun x37 => k36 x37 h35)) (fun x38 h39 =>
 after (fun x40 h41 =>
 jn (fun (x43 : Value) (h44 : Hs) =>
 kIdxA 1 a0 (Value.int .i64 (.ofNat 0)) (fun x45 =>
 kLoad x45 (Hs.mk h44.hp h44.nx h44.nx) (fun x46 =>
 kU64 .and x46 (Value.int .u64 (.ofNat 255)) (fun x47 =>
 kTo64 x47 (fun x48 =>
 kIdxA 1 a0 (Value.int .i64 (.ofNat 0)) (fun x49 =>
 kLoad x49 (Hs.mk h44.hp h44.nx h44.nx) (fun x50 =>
 kShr x50 (Value.int .u64 (.ofNat 8)) (fun x51 =>
 kTo64 x51 (fun x52 =>
 kIdxA 1 a0 (Value.int .i64 (.ofNat 1)) (fun x53 =>
 kLoad x53 (Hs.mk h44.hp h44.nx h44.nx) (fun x54 =>
 kTo64 x54 (fun x55 =>
 after (fun v126 u127 => dPut (fun x56 h57 =>
 after (fun v124 u125 => dPut (fun x58 h59 =>
 after (fun v122 u123 => dPut (fun x60 h61 =>
 after (fun x62 h63 =>
 kLenV x62 (fun x64 =>
 jn (fun (x66 x67 x68 x69 : Value) (h70 : Hs) =>
 kLoads 4 x58 h70 (fun x71 =>
 kCall R 24 [x71] h70 (fun x72 h73 =>
 kCall R 69 [x72, a0] h73 (fun x74 h75 =>
 kNot x74 (fun x76 =>
 jn (fun (x78 : Value) (h79 : Hs) =>
 kLoads 4 x58 h79 (fun x80 =>
 after (fun x81 h82 =>
 clearUp h (packR h82 (resV enE h82 [.cell (.c x0) 4 true, .t (.c (Value.bool true))]))) (store1 4 h79 (cellsL x80) (addrOf x0)))) fun k77 =>
 cnd x76
 (after (fun x83 h84 =>
 after (fun x85 h86 =>
 clearUp h (packR h86 (resV enE h86 [.cell (.c x0) 4 true, .t (.c (Value.bool false))]))) (store1 4 h84 (cellsL x83) (addrOf x0))) (oBuild [(Value.int .i64 (.ofNat 0)), (Value.int .i64 (.ofNat 0)), (Value.int .i64 (.ofNat 0)), (Value.slice none 0 0)] [] enE h75))
 (k77 x43 h75)))))) fun k65 =>
 lpT (T := Value → Value → Value → Value → Hs → An) (fun _ _ _ _ _ => none) N (fun k87 =>
 fun (x89 x90 x91 x92 : Value) (h93 : Hs) =>
 kI64 .lss x89 x64 (fun x94 =>
 jn (fun (h96 : Hs) =>
 jn (fun (x98 x99 : Value) (h100 : Hs) =>
 kI64 .add x89 (Value.int .i64 (.ofNat 1)) (fun x101 =>
 k87 x101 x94 x98 x99 h100)) fun k97 =>
 kIdxA 1 x62 x89 (fun x102 =>
 kLoad x102 h96 (fun x103 =>
 kU64 .eql x103 (Value.int .u64 (.ofNat 0)) (fun x104 =>
 jn (fun (h106 : Hs) =>
 kFieldA 3 x58 (fun x107 =>
 kLoad x107 h106 (fun x108 =>
 kU64 .and x103 (Value.int .u64 (.ofNat 4294967295)) (fun x109 =>
 kTo64 x109 (fun x110 =>
 kShr x103 (Value.int .u64 (.ofNat 32)) (fun x111 =>
 kTo64 x111 (fun x112 =>
 after (fun x113 h114 =>
 after (fun x115 h116 =>
 after (fun x117 h118 =>
 kFieldA 3 x58 (fun x119 =>
 kStore1 x119 x117 h118 (fun x120 h121 =>
 k97 x103 x104 h121))) (app0 78 2 16 h116 x108 x115)) (oMkrow 78 2 1 [(Value.int .i64 (.ofNat 0)), (Value.int .i64 (.ofNat 0))] [(0, 2, .c x113)] enE h114)) (oBuild [(Value.int .i64 (.ofNat 0)), (Value.int .i64 (.ofNat 0))] [(0, 1, .c x110), (1, 1, .c x112)] enE h106)))))))) fun k105 =>
 cnd x104
 (k65 x89 x94 x103 x104 h96)
 (k105 h96))))) fun k95 =>
 cnd x94
 (k95 h93)
 (k65 x89 x94 x91 x92 h93))) (Value.int .i64 (.ofNat 0)) dunno dunno dunno h63)) (oSlice 1 (.c a0) (some (.c (Value.int .i64 (.ofNat 2)))) (some (.c (Value.int .i64 (.ofNat 6)))) none enE h61)) v122 (dNext h59 u123 .bar) (andB (dFit h59 u123 .bar) (Nat.ble 0 u123.lo))) (store1 4 h59 (cellsL x56) (addrOf x58))) v124 (dNext h57 u125 .make) (andB (dFit h57 u125 .make) (Nat.ble 0 u125.lo))) (oAlloc 32 [(Value.int .i64 (.ofNat 0)), (Value.int .i64 (.ofNat 0)), (Value.int .i64 (.ofNat 0)), (Value.slice none 0 0)] enE (Hs.mk .e h57.nx h57.nx))) v126 (dNext h44 u127 .blind) (andB (dFit h44 u127 .blind) (Nat.ble 0 u127.lo))) (oBuild [(Value.int .i64 (.ofNat 0)), (Value.int .i64 (.ofNat 0)), (Value.int .i64 (.ofNat 0)), (Value.slice none 0 0)] [(0, 1, .c x48), (1, 1, .c x52), (2, 1, .c x55)] enE (Hs.mk .e h44.nx h44.nx)))))))))))))) fun k42 =>
 cnd x40
 (after (fun x128 h129 =>
 after (fun x130 h131 =>
 clearUp h (packR h131 (resV enE h131 [.cell (.c x0) 4 true, .t (.c (Value.bool false))]))) (store1 4 h129 (cellsL x128) (addrOf x0))) (oBuild [(Value.int .i64 (.ofNat 0)), (Value.int .i64 (.ofNat 0)), (Value.int .i64 (.ofNat 0)), (Value.slice none 0 0)] [] enE h41))
 (k42 (Value.bool false) h41)) (pickB (.c (Value.bool true)) (.c x38) enE h39 x23)))))) (pickB (.c (Value.bool true)) (.c x21) enE h22 x3))))))))) (oAlloc 32 [(Value.int .i64 (.ofNat 0)), (Value.int .i64 (.ofNat 0)), (Value.int .i64 (.ofNat 0)), (Value.slice none 0 0)] enE h0)

theorem q39 (R : RnK) (N : Nat) (args : List Value) (h : Hs) : r39 R N args h = callT Tryz.prog N R 39 args h := by kernel_rfl

/-- lintel/head.Find -/
noncomputable def r40 (R : RnK) (N : Nat) (args : List Value) (h : Hs) : An := unC args fun a0 s0 => enK h fun h0 =>
 after (fun x0 h1 =>
 kLenV a0 (fun x2 =>
 kI64 .quo x2 (Value.int .i64 (.ofNat 8)) (fun x3 =>
 kLenV a0 (fun x4 =>
 kI64 .rem x4 (Value.int .i64 (.ofNat 8)) (fun x5 =>
 kI64 .neq x5 (Value.int .i64 (.ofNat 0)) (fun x6 =>
 gdF x6 h1 (fun k7 => k7 x3 h1) (fun x8 h9 =>
 gdF x6 h9 (fun k10 => kI64 .lss x8 (Value.int .i64 (.ofNat 64)) (fun x11 => k10 x11 h9)) (fun x12 h13 =>
 after (fun x14 h15 =>
 gdF x14 h15 (fun k16 => k16 x3 h15) (fun x17 h18 =>
 gdF x14 h18 (fun k19 => kI64 .gtr x17 (Value.int .i64 (.ofNat 1024)) (fun x20 => k19 x20 h18)) (fun x21 h22 =>
 after (fun x23 h24 =>
 jn (fun (x26 x27 : Value) (h28 : Hs) =>
 after (fun x29 h30 =>
 kCall R 70 [x29] h30 (fun x31 h32 =>
 kExtr x31 0 (fun x33 =>
 kExtr x31 1 (fun x34 =>
 after (fun x35 h36 =>
 after (fun x37 h38 =>
 kLenV a0 (fun x39 =>
 kI64 .sub x39 (Value.int .i64 (.ofNat 8)) (fun x40 =>
 after (fun x41 h42 =>
 kCall R 70 [x41] h42 (fun x43 h44 =>
 kExtr x43 0 (fun x45 =>
 kExtr x43 1 (fun x46 =>
 after (fun x47 h48 =>
 after (fun x49 h50 =>
 gdT x34 h50 (fun k51 => kFieldA 0 x35 (fun x52 => k51 x52 h50)) (fun x53 _ =>
 gdT x34 h50 (fun k55 => kFieldA 0 x53 (fun x56 => k55 x56 h50)) (fun x57 _ =>
 gdT x34 h50 (fun k59 => kLoad x57 (Hs.mk h50.hp h50.nx h50.nx) (fun x60 => k59 x60 h50)) (fun x61 _ =>
 gdT x34 h50 (fun k63 => k63 x3 h50) (fun x64 _ =>
 gdT x34 h50 (fun k66 => kI64 .eql x61 x64 (fun x67 => k66 x67 h50)) (fun x68 _ =>
 after (fun v120 u121 => dPut (fun x70 h71 =>
 gdT x46 h71 (fun k72 => kFieldA 0 x47 (fun x73 => k72 x73 h71)) (fun x74 _ =>
 gdT x46 h71 (fun k76 => kFieldA 0 x74 (fun x77 => k76 x77 h71)) (fun x78 _ =>
 gdT x46 h71 (fun k80 => kLoad x78 (dHidS .light [true, true, true, true, false, false, false, false, false, false, true, true] [none, none, none, none, some (h50.nx, h71.nx), none, none, none, none, none, none, none] h71) (fun x81 => k80 x81 h71)) (fun x82 _ =>
 gdT x46 h71 (fun k84 => k84 x3 h71) (fun x85 _ =>
 gdT x46 h71 (fun k87 => kI64 .eql x82 x85 (fun x88 => k87 x88 h71)) (fun x89 _ =>
 after (fun v118 u119 => dPut (fun x91 h92 =>
 jn (fun (x94 x95 x96 x97 : Value) (h98 : Hs) =>
 after (fun x99 h100 =>
 after (fun x101 h102 =>
 clearUp h (packR h102 (resV enE h102 [.cell (.c x0) 5 true, .t (.c (Value.bool false)), .t (.c (Value.bool false))]))) (store1 5 h100 (cellsL x99) (addrOf x0))) (oBuild [(Value.int .i64 (.ofNat 0)), (Value.int .i64 (.ofNat 0)), (Value.int .i64 (.ofNat 0)), (Value.int .i64 (.ofNat 0)), (Value.int .u64 (.ofNat 0))] [] enE h98)) fun k93 =>
 jn (fun (x104 x105 x106 : Value) (h107 : Hs) =>
 k93 x104 x105 x70 x106 h107) fun k103 =>
 cnd x70
 (kLoads 5 x35 h92 (fun x108 =>
 after (fun x109 h110 =>
 clearUp h (packR h110 (resV enE h110 [.cell (.c x0) 5 true, .t (.c x70), .t (.c x91)]))) (store1 5 h92 (cellsL x108) (addrOf x0))))
 (jn (fun (x112 x113 : Value) (h114 : Hs) =>
 k103 x112 x113 x91 h114) fun k111 =>
 cnd x91
 (kLoads 5 x47 h92 (fun x115 =>
 after (fun x116 h117 =>
 clearUp h (packR h117 (resV enE h117 [.cell (.c x0) 5 true, .t (.c x70), .t (.c x91)]))) (store1 5 h92 (cellsL x115) (addrOf x0))))
 (k111 x70 x91 h92))) v118 (dNext h71 u119 .blind) (andB (dFit h71 u119 .blind) (Nat.ble 0 u119.lo))) (pickB (.c x89) (.c (Value.bool false)) enE (Hs.mk .e h71.nx h71.nx) x46))))))) v120 (dNext h50 u121 .blind) (andB (dFit h50 u121 .blind) (Nat.ble 0 u121.lo))) (pickB (.c x68) (.c (Value.bool false)) enE (Hs.mk .e h50.nx h50.nx) x34))))))) (store1 5 h48 (cellsL x45) (addrOf x47))) (oAlloc 92 [(Value.int .i64 (.ofNat 0)), (Value.int .i64 (.ofNat 0)), (Value.int .i64 (.ofNat 0)), (Value.int .i64 (.ofNat 0)), (Value.int .u64 (.ofNat 0))] enE h44))))) (oSlice 1 (.c a0) (some (.c x40)) none none enE h38)))) (store1 5 h36 (cellsL x33) (addrOf x35))) (oAlloc 92 [(Value.int .i64 (.ofNat 0)), (Value.int .i64 (.ofNat 0)), (Value.int .i64 (.ofNat 0)), (Value.int .i64 (.ofNat 0)), (Value.int .u64 (.ofNat 0))] enE h32))))) (oSlice 1 (.c a0) none (some (.c (Value.int .i64 (.ofNat 8)))) none enE h28)) fun k25 =>
 cnd x23
 (after (fun x122 h123 =>
 after (fun x124 h125 =>
 clearUp h (packR h125 (resV enE h125 [.cell (.c x0) 5 true, .t (.c (Value.bool false)), .t (.c (Value.bool false))]))) (store1 5 h123 (cellsL x122) (addrOf x0))) (oBuild [(Value.int .i64 (.ofNat 0)), (Value.int .i64 (.ofNat 0)), (Value.int .i64 (.ofNat 0)), (Value.int .i64 (.ofNat 0)), (Value.int .u64 (.ofNat 0))] [] enE h24))
 (k25 (Value.bool false) (Value.bool false) h24)) (pickB (.c (Value.bool true)) (.c x21) enE h22 x14)))) (pickB (.c (Value.bool true)) (.c x12) enE h13 x6))))))))) (oAlloc 92 [(Value.int .i64 (.ofNat 0)), (Value.int .i64 (.ofNat 0)), (Value.int .i64 (.ofNat 0)), (Value.int .i64 (.ofNat 0)), (Value.int .u64 (.ofNat 0))] enE h0)

theorem q40 (R : RnK) (N : Nat) (args : List Value) (h : Hs) : r40 R N args h = callT Tryz.prog N R 40 args h := by kernel_rfl

/-- lintel/geom.Good -/
noncomputable def r41 (R : RnK) (N : Nat) (args : List Value) (h : Hs) : An := unC args fun a0 s0 => enK h fun h0 =>
 after (fun x0 h1 =>
 kFieldA 0 x0 (fun x2 =>
 kLoad x2 h1 (fun x3 =>
 kCall R 50 [x3, (Value.int .i64 (.ofNat 64)), (Value.int .i64 (.ofNat 1024))] h1 (fun x4 h5 =>
 kNot x4 (fun x6 =>
 gdF x6 h5 (fun k7 => kFieldA 1 x0 (fun x8 => k7 x8 h5)) (fun x9 h10 =>
 gdF x6 h10 (fun k11 => kLoad x9 h10 (fun x12 => k11 x12 h10)) (fun x13 h14 =>
 gdF x6 h14 (fun k15 => kCall R 50 [x13, (Value.int .i64 (.ofNat 4)), (Value.int .i64 (.ofNat 64))] h14 (k15)) (fun x16 h17 =>
 gdF x6 h17 (fun k18 => kNot x16 (fun x19 => k18 x19 h17)) (fun x20 h21 =>
 after (fun x22 h23 =>
 gdF x22 h23 (fun k24 => kFieldA 2 x0 (fun x25 => k24 x25 h23)) (fun x26 h27 =>
 gdF x22 h27 (fun k28 => kLoad x26 h27 (fun x29 => k28 x29 h27)) (fun x30 h31 =>
 gdF x22 h31 (fun k32 => kCall R 50 [x30, (Value.int .i64 (.ofNat 1)), (Value.int .i64 (.ofNat 8))] h31 (k32)) (fun x33 h34 =>
 gdF x22 h34 (fun k35 => kNot x33 (fun x36 => k35 x36 h34)) (fun x37 h38 =>
 after (fun x39 h40 =>
 gdF x39 h40 (fun k41 => kFieldA 3 x0 (fun x42 => k41 x42 h40)) (fun x43 h44 =>
 gdF x39 h44 (fun k45 => kLoad x43 h44 (fun x46 => k45 x46 h44)) (fun x47 h48 =>
 gdF x39 h48 (fun k49 => kCall R 50 [x47, (Value.int .i64 (.ofNat 16)), (Value.int .i64 (.ofNat 110))] h48 (k49)) (fun x50 h51 =>
 gdF x39 h51 (fun k52 => kNot x50 (fun x53 => k52 x53 h51)) (fun x54 h55 =>
 after (fun x56 h57 =>
 jn (fun (x59 : Value) (h60 : Hs) =>
 kLoads 4 x0 h60 (fun x61 =>
 kCall R 71 [x61] h60 (fun x62 h63 =>
 kExtr x62 0 (fun x64 =>
 kExtr x62 1 (fun x65 =>
 kI64 .geq x65 (Value.int .i64 (.ofNat 1)) (fun x66 =>
 clrK h x66 h63)))))) fun k58 =>
 cnd x56
 (clrK h (Value.bool false) h57)
 (k58 (Value.bool false) h57)) (pickB (.c (Value.bool true)) (.c x54) enE h55 x39)))))) (pickB (.c (Value.bool true)) (.c x37) enE h38 x22)))))) (pickB (.c (Value.bool true)) (.c x20) enE h21 x6)))))))))) (oBox 45 (.c a0) enE h0)

theorem q41 (R : RnK) (N : Nat) (args : List Value) (h : Hs) : r41 R N args h = callT Tryz.prog N R 41 args h := by kernel_rfl

/-- lintel/image.Make$1 -/
noncomputable def r42 (R : RnK) (N : Nat) (args : List Value) (h : Hs) : An := unC args fun a0 s0 => unC s0 fun a1 s1 => unC s1 fun a2 s2 => enK h fun h0 =>
 kLoad a2 h0 (fun x0 =>
 kI64 .mul (Value.int .i64 (.ofNat 8)) a0 (fun x1 =>
 after (fun x2 h3 =>
 after (fun x4 h5 =>
 clrK h (Value.tuple #[]) h5) (copy0 1 h3 x2 a1)) (oSlice 1 (.c x0) (some (.c x1)) none none enE h0)))

theorem q42 (R : RnK) (N : Nat) (args : List Value) (h : Hs) : r42 R N args h = callT Tryz.prog N R 42 args h := by kernel_rfl

/-- lintel/geom.Lost -/
noncomputable def r43 (R : RnK) (N : Nat) (args : List Value) (h : Hs) : An := unC args fun a0 s0 => enK h fun h0 =>
 after (fun x0 h1 =>
 kLoads 4 x0 h1 (fun x2 =>
 kCall R 41 [x2] h1 (fun x3 h4 =>
 kNot x3 (fun x5 =>
 jn (fun (x7 x8 : Value) (h9 : Hs) =>
 kLoads 4 x0 (Hs.mk h9.hp h9.nx h9.nx) (fun x10 =>
 kFieldA 1 x0 (fun x11 =>
 kLoad x11 (Hs.mk h9.hp h9.nx h9.nx) (fun x12 =>
 kCall R 20 [x10, x12] (Hs.mk h9.hp h9.nx h9.nx) (fun v18 u19 => dPut (fun x13 h14 =>
 kI64 .add x13 (Value.int .i64 (.ofNat 1)) (fun x15 =>
 kFieldA 1 x0 (fun x16 =>
 kLoad x16 (dHidS .light [true, false, false, false, false, false] [none, none, some (h9.nx, h14.nx), none, none, none] h14) (fun x17 =>
 clrK h (Value.tuple #[x15, x17]) h14)))) v18 (dNext h9 u19 .light) (andB (dFit h9 u19 .light) (Nat.ble 0 u19.lo))))))) fun k6 =>
 cnd x5
 (clrK h (Value.tuple #[(Value.int .i64 (.ofNat 0)), (Value.int .i64 (.ofNat 0))]) h4)
 (k6 (Value.int .i64 (.ofNat 0)) (Value.int .i64 (.ofNat 0)) h4))))) (oBox 45 (.c a0) enE h0)

theorem q43 (R : RnK) (N : Nat) (args : List Value) (h : Hs) : r43 R N args h = callT Tryz.prog N R 43 args h := by kernel_rfl

/-- lintel/head.Put -/
noncomputable def r44 (R : RnK) (N : Nat) (args : List Value) (h : Hs) : An := unC args fun a0 s0 => enK h fun h0 =>
 after (fun x0 h1 =>
 kFieldA 0 x0 (fun x2 =>
 kLoads 4 x2 h1 (fun x3 =>
 kCall R 41 [x3] h1 (fun x4 h5 =>
 kNot x4 (fun x6 =>
 jn (fun (x8 : Value) (h9 : Hs) =>
 kFieldA 0 x0 (fun x10 =>
 kFieldA 0 x10 (fun x11 =>
 kLoad x11 h9 (fun x12 =>
 kToU x12 (fun x13 =>
 kFieldA 0 x0 (fun x14 =>
 kFieldA 1 x14 (fun x15 =>
 kLoad x15 h9 (fun x16 =>
 kToU x16 (fun x17 =>
 kFieldA 0 x0 (fun x18 =>
 kFieldA 2 x18 (fun x19 =>
 kLoad x19 h9 (fun x20 =>
 kToU x20 (fun x21 =>
 kFieldA 0 x0 (fun x22 =>
 kFieldA 3 x22 (fun x23 =>
 kLoad x23 h9 (fun x24 =>
 kToU x24 (fun x25 =>
 after (fun x26 h27 =>
 kFieldA 4 x0 (fun x28 =>
 kLoad x28 (Hs.mk h27.hp h27.nx h27.nx) (fun x29 =>
 kCall R 59 [x26] (Hs.mk h27.hp h27.nx h27.nx) (fun v40 u41 => dPut (fun x30 h31 =>
 after (fun v38 u39 => dPut (fun x32 h33 =>
 after (fun v36 u37 => dPut (fun x34 h35 =>
 clrK h x34 h35) v36 (dNext h33 u37 .bar) (andB (dFit h33 u37 .bar) (Nat.ble 0 u37.lo))) (app0 57 1 8 h33 x26 x32)) v38 (dNext h31 u39 .bar) (andB (dFit h31 u39 .bar) (Nat.ble 0 u39.lo))) (oMkrow 57 1 2 [(Value.int .u64 (.ofNat 0))] [(0, 1, .c x29), (1, 1, .c x30)] enE h31)) v40 (dNext h27 u41 .light) (andB (dFit h27 u41 .light) (Nat.ble 0 u41.lo)))))) (oMkrow 57 1 6 [(Value.int .u64 (.ofNat 0))] [(0, 1, .c (Value.int .u64 (.ofNat 5497010944029229057))), (1, 1, .c x13), (2, 1, .c x17), (3, 1, .c x21), (4, 1, .c x25), (5, 1, .c (Value.int .u64 (.ofNat 0)))] enE h9)))))))))))))))))) fun k7 =>
 cnd x6
 (clrK h (Value.slice none 0 0) h5)
 (k7 (Value.slice none 0 0) h5)))))) (oBox 92 (.c a0) enE h0)

theorem q44 (R : RnK) (N : Nat) (args : List Value) (h : Hs) : r44 R N args h = callT Tryz.prog N R 44 args h := by kernel_rfl

/-- lintel/geom.Back -/
noncomputable def r45 (R : RnK) (N : Nat) (args : List Value) (h : Hs) : An := unC args fun a0 s0 => enK h fun h0 =>
 after (fun x0 h1 =>
 kLoads 4 x0 h1 (fun x2 =>
 kCall R 41 [x2] h1 (fun x3 h4 =>
 kNot x3 (fun x5 =>
 jn (fun (x7 : Value) (h8 : Hs) =>
 kFieldA 0 x0 (fun x9 =>
 kLoad x9 h8 (fun x10 =>
 kI64 .sub x10 (Value.int .i64 (.ofNat 1)) (fun x11 =>
 clrK h x11 h8)))) fun k6 =>
 cnd x5
 (clrK h (Value.int .i64 (.ofNat 0)) h4)
 (k6 (Value.int .i64 (.ofNat 0)) h4))))) (oBox 45 (.c a0) enE h0)

theorem q45 (R : RnK) (N : Nat) (args : List Value) (h : Hs) : r45 R N args h = callT Tryz.prog N R 45 args h := by kernel_rfl

/-- lintel/geom.Data -/
noncomputable def r46 (R : RnK) (N : Nat) (args : List Value) (h : Hs) : An := unC args fun a0 s0 => enK h fun h0 =>
 after (fun x0 h1 =>
 kLoads 4 x0 h1 (fun x2 =>
 kCall R 41 [x2] h1 (fun x3 h4 =>
 kNot x3 (fun x5 =>
 jn (fun (x7 x8 : Value) (h9 : Hs) =>
 kLoads 4 x0 h9 (fun x10 =>
 kCall R 71 [x10] h9 (fun x11 h12 =>
 kExtr x11 0 (fun x13 =>
 kExtr x11 1 (fun x14 =>
 clrK h (Value.tuple #[x13, x14]) h12))))) fun k6 =>
 cnd x5
 (clrK h (Value.tuple #[(Value.int .i64 (.ofNat 0)), (Value.int .i64 (.ofNat 0))]) h4)
 (k6 (Value.int .i64 (.ofNat 0)) (Value.int .i64 (.ofNat 0)) h4))))) (oBox 45 (.c a0) enE h0)

theorem q46 (R : RnK) (N : Nat) (args : List Value) (h : Hs) : r46 R N args h = callT Tryz.prog N R 46 args h := by kernel_rfl

/-- lintel/bits.New -/
noncomputable def r47 (R : RnK) (N : Nat) (args : List Value) (h : Hs) : An := unC args fun a0 s0 => enK h fun h0 =>
 after (fun x0 h1 =>
 after (fun x2 h3 =>
 after (fun x4 h5 =>
 kI64 .add x4 (Value.int .i64 (.ofNat 64)) (fun x6 =>
 kI64 .sub x6 (Value.int .i64 (.ofNat 1)) (fun x7 =>
 kI64 .quo x7 (Value.int .i64 (.ofNat 64)) (fun x8 =>
 after (fun x9 h10 =>
 after (fun x11 h12 =>
 kStore1 x0 x11 h12 (fun x13 h14 =>
 clearUp h (packR h14 (resV enE h14 [.cell (.c x0) 1 true])))) (oBuild [(Value.slice none 0 0)] [(0, 1, .c x9)] enE h10)) (mkslice1 57 1 8 [(Value.int .u64 (.ofNat 0))] h5 (natOf x8) (natOf x8)))))) (oMinmax false [.c x2, .c (Value.int .i64 (.ofNat 65536))] enE h3)) (oMinmax true [.c a0, .c (Value.int .i64 (.ofNat 0))] enE h1)) (oAlloc 80 [(Value.slice none 0 0)] enE h0)

theorem q47 (R : RnK) (N : Nat) (args : List Value) (h : Hs) : r47 R N args h = callT Tryz.prog N R 47 args h := by kernel_rfl

/-- lintel/bits.Set -/
noncomputable def r48 (R : RnK) (N : Nat) (args : List Value) (h : Hs) : An := unC args fun a0 s0 => unC s0 fun a1 s1 => unC s1 fun a2 s2 => enK h fun h0 =>
 after (fun x0 h1 =>
 after (fun x2 h3 =>
 kFieldA 0 x0 (fun x4 =>
 kLoad x4 h3 (fun x5 =>
 kCall R 17 [x5] h3 (fun x6 h7 =>
 after (fun x8 h9 =>
 after (fun x10 h11 =>
 kStore1 x10 x8 h11 (fun x12 h13 =>
 kLenV a2 (fun x14 =>
 jn (fun (x16 x17 x18 x19 x20 : Value) (h21 : Hs) =>
 kLoads 1 x10 h21 (fun x22 =>
 kStore1 x2 x22 h21 (fun x23 h24 =>
 clearUp h (packR h24 (resV enE h24 [.cell (.c x2) 1 true]))))) fun k15 =>
 lpT (T := Value → Value → Value → Value → Value → Hs → An) (fun _ _ _ _ _ _ => none) N (fun k25 =>
 fun (x27 x28 x29 x30 x31 : Value) (h32 : Hs) =>
 kI64 .lss x27 x14 (fun x33 =>
 jn (fun (h35 : Hs) =>
 jn (fun (x37 x38 x39 : Value) (h40 : Hs) =>
 kI64 .add x27 (Value.int .i64 (.ofNat 1)) (fun x41 =>
 k25 x41 x33 x37 x38 x39 h40)) fun k36 =>
 kIdxA 1 a2 x27 (fun x42 =>
 kLoad x42 h35 (fun x43 =>
 kLoads 1 x0 h35 (fun x44 =>
 kCall R 66 [x44, x43] h35 (fun x45 h46 =>
 kNot x45 (fun x47 =>
 jn (fun (h49 : Hs) =>
 kFieldA 0 x10 (fun x50 =>
 kLoad x50 h49 (fun x51 =>
 kI64 .quo x43 (Value.int .i64 (.ofNat 64)) (fun x52 =>
 kIdxA 1 x51 x52 (fun x53 =>
 kLoad x53 h49 (fun x54 =>
 kI64 .rem x43 (Value.int .i64 (.ofNat 64)) (fun x55 =>
 kShl (Value.int .u64 (.ofNat 1)) x55 (fun x56 =>
 kU64 .andNot x54 x56 (fun x57 =>
 kIdxA 1 x51 x52 (fun x58 =>
 kStore1 x58 x57 h49 (fun v76 u77 => dPut (fun x59 h60 =>
 jn (fun (h62 : Hs) =>
 k36 x43 x47 a1 h62) fun k61 =>
 cnd a1
 (kFieldA 0 x10 (fun x63 =>
 kLoad x63 h60 (fun x64 =>
 kI64 .quo x43 (Value.int .i64 (.ofNat 64)) (fun x65 =>
 kIdxA 1 x64 x65 (fun x66 =>
 kLoad x66 h60 (fun x67 =>
 kI64 .rem x43 (Value.int .i64 (.ofNat 64)) (fun x68 =>
 kShl (Value.int .u64 (.ofNat 1)) x68 (fun x69 =>
 kU64 .or x67 x69 (fun x70 =>
 kIdxA 1 x64 x65 (fun x71 =>
 kStore1 x71 x70 h60 (fun v74 u75 => dPut (fun x72 h73 =>
 k61 h73) v74 (dNext h60 u75 .bar) (andB (dFit h60 u75 .bar) (Nat.ble 0 u75.lo)))))))))))))
 (k61 h60)) v76 (dNext h49 u77 .bar) (andB (dFit h49 u77 .bar) (Nat.ble 0 u77.lo))))))))))))) fun k48 =>
 cnd x47
 (k36 x43 x47 x31 h46)
 (k48 h46))))))) fun k34 =>
 cnd x33
 (k34 h32)
 (k15 x27 x33 x29 x30 x31 h32))) (Value.int .i64 (.ofNat 0)) dunno dunno dunno dunno h13))) (oAlloc 80 [(Value.slice none 0 0)] enE h9)) (oBuild [(Value.slice none 0 0)] [(0, 1, .c x6)] enE h7))))) (oAlloc 80 [(Value.slice none 0 0)] enE h1)) (oBox 80 (.c a0) enE h0)

theorem q48 (R : RnK) (N : Nat) (args : List Value) (h : Hs) : r48 R N args h = callT Tryz.prog N R 48 args h := by kernel_rfl

/-- lintel/geom.Bits -/
noncomputable def r49 (R : RnK) (N : Nat) (args : List Value) (h : Hs) : An := unC args fun a0 s0 => enK h fun h0 =>
 after (fun x0 h1 =>
 kLoads 4 x0 h1 (fun x2 =>
 kCall R 41 [x2] h1 (fun x3 h4 =>
 kNot x3 (fun x5 =>
 jn (fun (x7 x8 : Value) (h9 : Hs) =>
 kLoads 4 x0 h9 (fun x10 =>
 kCall R 51 [x10] h9 (fun x11 h12 =>
 kExtr x11 0 (fun x13 =>
 kExtr x11 1 (fun x14 =>
 clrK h (Value.tuple #[x13, x14]) h12))))) fun k6 =>
 cnd x5
 (clrK h (Value.tuple #[(Value.int .i64 (.ofNat 0)), (Value.int .i64 (.ofNat 0))]) h4)
 (k6 (Value.int .i64 (.ofNat 0)) (Value.int .i64 (.ofNat 0)) h4))))) (oBox 45 (.c a0) enE h0)

theorem q49 (R : RnK) (N : Nat) (args : List Value) (h : Hs) : r49 R N args h = callT Tryz.prog N R 49 args h := by kernel_rfl

/-- lintel/geom.in -/
noncomputable def r50 (R : RnK) (N : Nat) (args : List Value) (h : Hs) : An := unC args fun a0 s0 => unC s0 fun a1 s1 => unC s1 fun a2 s2 => enK h fun h0 =>
 kI64 .geq a0 a1 (fun x0 =>
 gdT x0 h0 (fun k1 => k1 a0 h0) (fun x2 h3 =>
 gdT x0 h3 (fun k4 => k4 a2 h3) (fun x5 h6 =>
 gdT x0 h6 (fun k7 => kI64 .leq x2 x5 (fun x8 => k7 x8 h6)) (fun x9 h10 =>
 after (fun x11 h12 =>
 clrK h x11 h12) (pickB (.c x9) (.c (Value.bool false)) enE h10 x0)))))

theorem q50 (R : RnK) (N : Nat) (args : List Value) (h : Hs) : r50 R N args h = callT Tryz.prog N R 50 args h := by kernel_rfl

/-- (lintel/geom.Geom).bits -/
noncomputable def r51 (R : RnK) (N : Nat) (args : List Value) (h : Hs) : An := unC args fun a0 s0 => enK h fun h0 =>
 after (fun x0 h1 =>
 kFieldA 2 x0 (fun x2 =>
 kLoad x2 (Hs.mk h1.hp h1.nx h1.nx) (fun x3 =>
 kFieldA 3 x0 (fun x4 =>
 kLoad x4 (Hs.mk h1.hp h1.nx h1.nx) (fun x5 =>
 kI64 .mul x3 x5 (fun x6 =>
 kI64 .add (Value.int .i64 (.ofNat 1)) x6 (fun x7 =>
 kFieldA 0 x0 (fun x8 =>
 kLoad x8 (Hs.mk h1.hp h1.nx h1.nx) (fun x9 =>
 kI64 .add x9 (Value.int .i64 (.ofNat 512)) (fun x10 =>
 kI64 .sub x10 (Value.int .i64 (.ofNat 1)) (fun x11 =>
 kI64 .quo x11 (Value.int .i64 (.ofNat 512)) (fun x12 =>
 clrK h (Value.tuple #[x7, x12]) h1)))))))))))) (oBox 45 (.c a0) enE h0)

theorem q51 (R : RnK) (N : Nat) (args : List Value) (h : Hs) : r51 R N args h = callT Tryz.prog N R 51 args h := by kernel_rfl

/-- lintel/node.free -/
noncomputable def r52 (R : RnK) (N : Nat) (args : List Value) (h : Hs) : An := unC args fun a0 s0 => enK h fun h0 =>
 after (fun x0 h1 =>
 kFieldA 0 x0 (fun x2 =>
 kLoad x2 h1 (fun x3 =>
 kI64 .eql x3 (Value.int .i64 (.ofNat 0)) (fun x4 =>
 gdT x4 h1 (fun k5 => kFieldA 1 x0 (fun x6 => k5 x6 h1)) (fun x7 h8 =>
 gdT x4 h8 (fun k9 => kLoad x7 h8 (fun x10 => k9 x10 h8)) (fun x11 h12 =>
 gdT x4 h12 (fun k13 => kI64 .eql x11 (Value.int .i64 (.ofNat 0)) (fun x14 => k13 x14 h12)) (fun x15 h16 =>
 after (fun x17 h18 =>
 gdT x17 h18 (fun k19 => kFieldA 2 x0 (fun x20 => k19 x20 h18)) (fun x21 h22 =>
 gdT x17 h22 (fun k23 => kLoad x21 h22 (fun x24 => k23 x24 h22)) (fun x25 h26 =>
 gdT x17 h26 (fun k27 => kI64 .eql x25 (Value.int .i64 (.ofNat 0)) (fun x28 => k27 x28 h26)) (fun x29 h30 =>
 after (fun x31 h32 =>
 gdT x31 h32 (fun k33 => kFieldA 3 x0 (fun x34 => k33 x34 h32)) (fun x35 h36 =>
 gdT x31 h36 (fun k37 => kLoad x35 h36 (fun x38 => k37 x38 h36)) (fun x39 h40 =>
 gdT x31 h40 (fun k41 => kLenV x39 (fun x42 => k41 x42 h40)) (fun x43 h44 =>
 gdT x31 h44 (fun k45 => kI64 .eql x43 (Value.int .i64 (.ofNat 0)) (fun x46 => k45 x46 h44)) (fun x47 h48 =>
 after (fun x49 h50 =>
 clrK h x49 h50) (pickB (.c x47) (.c (Value.bool false)) enE h48 x31)))))) (pickB (.c x29) (.c (Value.bool false)) enE h30 x17))))) (pickB (.c x15) (.c (Value.bool false)) enE h16 x4)))))))) (oBox 32 (.c a0) enE h0)

theorem q52 (R : RnK) (N : Nat) (args : List Value) (h : Hs) : r52 R N args h = callT Tryz.prog N R 52 args h := by kernel_rfl

/-- lintel/node.in -/
noncomputable def r53 (R : RnK) (N : Nat) (args : List Value) (h : Hs) : An := unC args fun a0 s0 => unC s0 fun a1 s1 => unC s1 fun a2 s2 => enK h fun h0 =>
 kI64 .geq a0 a1 (fun x0 =>
 gdT x0 h0 (fun k1 => k1 a0 h0) (fun x2 h3 =>
 gdT x0 h3 (fun k4 => k4 a2 h3) (fun x5 h6 =>
 gdT x0 h6 (fun k7 => kI64 .leq x2 x5 (fun x8 => k7 x8 h6)) (fun x9 h10 =>
 after (fun x11 h12 =>
 clrK h x11 h12) (pickB (.c x9) (.c (Value.bool false)) enE h10 x0)))))

theorem q53 (R : RnK) (N : Nat) (args : List Value) (h : Hs) : r53 R N args h = callT Tryz.prog N R 53 args h := by kernel_rfl

/-- lintel/node.sized -/
noncomputable def r54 (R : RnK) (N : Nat) (args : List Value) (h : Hs) : An := unC args fun a0 s0 => unC s0 fun a1 s1 => enK h fun h0 =>
 after (fun x0 h1 =>
 after (fun x2 h3 =>
 kFieldA 0 x2 (fun x4 =>
 kLoad x4 h3 (fun x5 =>
 jn (fun (x7 x8 x9 : Value) (h10 : Hs) =>
 kFieldA 2 x2 (fun x11 =>
 kLoad x11 h10 (fun x12 =>
 kCall R 53 [x12, (Value.int .i64 (.ofNat 1)), (Value.int .i64 (.ofNat 400))] h10 (fun x13 h14 =>
 clrK h x13 h14)))) fun k6 =>
 kI64 .eql x5 (Value.int .i64 (.ofNat 1)) (fun x15 =>
 jn (fun (x17 x18 : Value) (h19 : Hs) =>
 k6 x15 x17 x18 h19) fun k16 =>
 cnd x15
 (kFieldA 2 x2 (fun x20 =>
 kLoad x20 h3 (fun x21 =>
 kCall R 53 [x21, (Value.int .i64 (.ofNat 0)), (Value.int .i64 (.ofNat 4096))] h3 (fun x22 h23 =>
 clrK h x22 h23))))
 (kI64 .eql x5 (Value.int .i64 (.ofNat 2)) (fun x24 =>
 jn (fun (x26 : Value) (h27 : Hs) =>
 k16 x24 x26 h27) fun k25 =>
 cnd x24
 (kFieldA 2 x2 (fun x28 =>
 kLoad x28 h3 (fun x29 =>
 kFieldA 0 x0 (fun x30 =>
 kLoad x30 h3 (fun x31 =>
 after (fun x32 h33 =>
 kCall R 53 [x29, (Value.int .i64 (.ofNat 0)), x32] h33 (fun x34 h35 =>
 clrK h x34 h35)) (oMinmax false [.c x31, .c (Value.int .i64 (.ofNat 4096))] enE h3))))))
 (k25 (Value.bool false) h3))))))) (oBox 32 (.c a1) enE h1)) (oBox 45 (.c a0) enE h0)

theorem q54 (R : RnK) (N : Nat) (args : List Value) (h : Hs) : r54 R N args h = callT Tryz.prog N R 54 args h := by kernel_rfl

/-- lintel/node.placed -/
noncomputable def r55 (R : RnK) (N : Nat) (args : List Value) (h : Hs) : An := unC args fun a0 s0 => unC s0 fun a1 s1 => enK h fun h0 =>
 after (fun x0 h1 =>
 after (fun x2 h3 =>
 kLoads 4 x0 h3 (fun x4 =>
 kCall R 43 [x4] h3 (fun x5 h6 =>
 kExtr x5 0 (fun x7 =>
 kExtr x5 1 (fun x8 =>
 kFieldA 0 x2 (fun x9 =>
 kLoad x9 h6 (fun x10 =>
 kI64 .eql x10 (Value.int .i64 (.ofNat 2)) (fun x11 =>
 gdT x11 h6 (fun k12 => kFieldA 3 x2 (fun x13 => k12 x13 h6)) (fun x14 h15 =>
 gdT x11 h15 (fun k16 => kLoad x14 h15 (fun x17 => k16 x17 h15)) (fun x18 h19 =>
 gdT x11 h19 (fun k20 => k20 x7 h19) (fun x21 h22 =>
 gdT x11 h22 (fun k23 => k23 x8 h22) (fun x24 h25 =>
 gdT x11 h25 (fun k26 => after (k26) (oBuild [(Value.int .i64 (.ofNat 0)), (Value.int .i64 (.ofNat 0))] [(0, 1, .c x21), (1, 1, .c x24)] enE h25)) (fun x27 h28 =>
 gdT x11 h28 (fun k29 => after (k29) (oMkrow 78 2 1 [(Value.int .i64 (.ofNat 0)), (Value.int .i64 (.ofNat 0))] [(0, 2, .c x27)] enE h28)) (fun x30 h31 =>
 gdT x11 h31 (fun k32 => kCall R 72 [x18, x30] h31 (k32)) (fun x33 h34 =>
 after (fun x35 h36 =>
 jn (fun (x38 : Value) (h39 : Hs) =>
 kLoads 4 x0 h39 (fun x40 =>
 kCall R 46 [x40] h39 (fun x41 h42 =>
 kExtr x41 0 (fun x43 =>
 kExtr x41 1 (fun x44 =>
 kFieldA 3 x2 (fun x45 =>
 kLoad x45 h42 (fun x46 =>
 kLenV x46 (fun x47 =>
 jn (fun (x49 x50 x51 x52 x53 x54 x55 x56 x57 x58 x59 x60 : Value) (h61 : Hs) =>
 clrK h (Value.bool true) h61) fun k48 =>
 lpT (T := Value → Value → Value → Value → Value → Value → Value → Value → Value → Value → Value → Value → Hs → An) (fun _ _ _ _ _ _ _ _ _ _ _ _ _ => none) N (fun k62 =>
 fun (x64 x65 x66 x67 x68 x69 x70 x71 x72 x73 x74 x75 : Value) (h76 : Hs) =>
 kI64 .lss x64 x47 (fun x77 =>
 jn (fun (h79 : Hs) =>
 jn (fun (x81 x82 x83 x84 x85 x86 x87 x88 x89 x90 : Value) (h91 : Hs) =>
 kI64 .add x64 (Value.int .i64 (.ofNat 1)) (fun x92 =>
 k62 x92 x77 x81 x82 x83 x84 x85 x86 x87 x88 x89 x90 h91)) fun k80 =>
 kIdxA 2 x46 x64 (fun x93 =>
 kLoads 2 x93 h79 (fun x94 =>
 after (fun x95 h96 =>
 after (fun x97 h98 =>
 kFieldA 1 x95 (fun x99 =>
 kLoad x99 h98 (fun x100 =>
 kI64 .lss x100 (Value.int .i64 (.ofNat 1)) (fun x101 =>
 gdF x101 h98 (fun k102 => kFieldA 0 x95 (fun x103 => k102 x103 h98)) (fun x104 h105 =>
 gdF x101 h105 (fun k106 => kLoad x104 h105 (fun x107 => k106 x107 h105)) (fun x108 h109 =>
 gdF x101 h109 (fun k110 => k110 x43 h109) (fun x111 h112 =>
 gdF x101 h112 (fun k113 => kI64 .lss x108 x111 (fun x114 => k113 x114 h112)) (fun x115 h116 =>
 after (fun x117 h118 =>
 gdF x117 h118 (fun k119 => kFieldA 0 x95 (fun x120 => k119 x120 h118)) (fun x121 h122 =>
 gdF x117 h122 (fun k123 => kLoad x121 h122 (fun x124 => k123 x124 h122)) (fun x125 h126 =>
 gdF x117 h126 (fun k127 => k127 x43 h126) (fun x128 h129 =>
 gdF x117 h129 (fun k130 => kI64 .sub x125 x128 (fun x131 => k130 x131 h129)) (fun x132 h133 =>
 gdF x117 h133 (fun k134 => k134 x44 h133) (fun x135 h136 =>
 gdF x117 h136 (fun k137 => kI64 .geq x132 x135 (fun x138 => k137 x138 h136)) (fun x139 h140 =>
 after (fun x141 h142 =>
 gdF x141 h142 (fun k143 => kFieldA 1 x95 (fun x144 => k143 x144 h142)) (fun x145 h146 =>
 gdF x141 h146 (fun k147 => kLoad x145 h146 (fun x148 => k147 x148 h146)) (fun x149 h150 =>
 gdF x141 h150 (fun k151 => k151 x44 h150) (fun x152 h153 =>
 gdF x141 h153 (fun k154 => kFieldA 0 x95 (fun x155 => k154 x155 h153)) (fun x156 h157 =>
 gdF x141 h157 (fun k158 => kLoad x156 h157 (fun x159 => k158 x159 h157)) (fun x160 h161 =>
 gdF x141 h161 (fun k162 => k162 x43 h161) (fun x163 h164 =>
 gdF x141 h164 (fun k165 => kI64 .sub x160 x163 (fun x166 => k165 x166 h164)) (fun x167 h168 =>
 gdF x141 h168 (fun k169 => kI64 .sub x152 x167 (fun x170 => k169 x170 h168)) (fun x171 h172 =>
 gdF x141 h172 (fun k173 => kI64 .gtr x149 x171 (fun x174 => k173 x174 h172)) (fun x175 h176 =>
 after (fun x177 h178 =>
 jn (fun (x180 : Value) (h181 : Hs) =>
 kFieldA 3 x2 (fun x182 =>
 kLoad x182 h181 (fun x183 =>
 after (fun x184 h185 =>
 kLenV x184 (fun x186 =>
 jn (fun (x188 x189 x190 x191 x192 : Value) (h193 : Hs) =>
 k80 x95 x177 x64 x188 x186 x189 x184 x190 x191 x192 h193) fun k187 =>
 lpT (T := Value → Value → Value → Value → Value → Hs → An) (fun _ _ _ _ _ _ => none) N (fun k194 =>
 fun (x196 x197 x198 x199 x200 : Value) (h201 : Hs) =>
 kI64 .lss x196 x186 (fun x202 =>
 jn (fun (h204 : Hs) =>
 jn (fun (x206 x207 x208 : Value) (h209 : Hs) =>
 kI64 .add x196 (Value.int .i64 (.ofNat 1)) (fun x210 =>
 k194 x210 x202 x206 x207 x208 h209)) fun k205 =>
 kIdxA 2 x184 x196 (fun x211 =>
 kLoads 2 x211 h204 (fun x212 =>
 after (fun x213 h214 =>
 after (fun x215 h216 =>
 kFieldA 0 x95 (fun x217 =>
 kLoad x217 h216 (fun x218 =>
 kFieldA 0 x213 (fun x219 =>
 kLoad x219 h216 (fun x220 =>
 kFieldA 1 x213 (fun x221 =>
 kLoad x221 h216 (fun x222 =>
 kI64 .add x220 x222 (fun x223 =>
 kI64 .lss x218 x223 (fun x224 =>
 gdT x224 h216 (fun k225 => kFieldA 0 x213 (fun x226 => k225 x226 h216)) (fun x227 h228 =>
 gdT x224 h228 (fun k229 => kLoad x227 h228 (fun x230 => k229 x230 h228)) (fun x231 h232 =>
 gdT x224 h232 (fun k233 => kFieldA 0 x95 (fun x234 => k233 x234 h232)) (fun x235 h236 =>
 gdT x224 h236 (fun k237 => kLoad x235 h236 (fun x238 => k237 x238 h236)) (fun x239 h240 =>
 gdT x224 h240 (fun k241 => kFieldA 1 x95 (fun x242 => k241 x242 h240)) (fun x243 h244 =>
 gdT x224 h244 (fun k245 => kLoad x243 h244 (fun x246 => k245 x246 h244)) (fun x247 h248 =>
 gdT x224 h248 (fun k249 => kI64 .add x239 x247 (fun x250 => k249 x250 h248)) (fun x251 h252 =>
 gdT x224 h252 (fun k253 => kI64 .lss x231 x251 (fun x254 => k253 x254 h252)) (fun x255 h256 =>
 after (fun x257 h258 =>
 jn (fun (x260 : Value) (h261 : Hs) =>
 k205 x213 x257 x260 h261) fun k259 =>
 cnd x257
 (clrK h (Value.bool false) h258)
 (k259 x200 h258)) (pickB (.c x255) (.c (Value.bool false)) enE h256 x224)))))))))))))))))) (store1 2 h214 (cellsL x212) (addrOf x213))) (oAlloc 78 [(Value.int .i64 (.ofNat 0)), (Value.int .i64 (.ofNat 0))] enE h204)))) fun k203 =>
 cnd x202
 (k203 h201)
 (k187 x196 x202 x198 x199 x200 h201))) (Value.int .i64 (.ofNat 0)) x71 x73 x74 x180 h185)) (oSlice 2 (.c x183) none (some (.c x64)) none enE h181)))) fun k179 =>
 cnd x177
 (clrK h (Value.bool false) h178)
 (k179 x75 h178)) (pickB (.c (Value.bool true)) (.c x175) enE h176 x141))))))))))) (pickB (.c (Value.bool true)) (.c x139) enE h140 x117)))))))) (pickB (.c (Value.bool true)) (.c x115) enE h116 x101))))))))) (store1 2 h96 (cellsL x94) (addrOf x95))) (oAlloc 78 [(Value.int .i64 (.ofNat 0)), (Value.int .i64 (.ofNat 0))] enE h79)))) fun k78 =>
 cnd x77
 (k78 h76)
 (k48 x64 x77 x66 x67 x68 x69 x70 x71 x72 x73 x74 x75 h76))) (Value.int .i64 (.ofNat 0)) dunno dunno dunno dunno dunno dunno dunno dunno dunno dunno x38 h42)))))))) fun k37 =>
 cnd x35
 (clrK h (Value.bool true) h36)
 (k37 (Value.bool false) h36)) (pickB (.c x33) (.c (Value.bool false)) enE h34 x11)))))))))))))))) (oBox 32 (.c a1) enE h1)) (oBox 45 (.c a0) enE h0)

theorem q55 (R : RnK) (N : Nat) (args : List Value) (h : Hs) : r55 R N args h = callT Tryz.prog N R 55 args h := by kernel_rfl

/-- lintel/node.Blocks -/
noncomputable def r56 (R : RnK) (N : Nat) (args : List Value) (h : Hs) : An := unC args fun a0 s0 => enK h fun h0 =>
 after (fun x0 h1 =>
 kFieldA 3 x0 (fun x2 =>
 kLoad x2 h1 (fun x3 =>
 kLenV x3 (fun x4 =>
 jn (fun (x6 x7 x8 x9 : Value) (h10 : Hs) =>
 clrK h x8 h10) fun k5 =>
 lpT (T := Value → Value → Value → Value → Hs → An) (fun _ _ _ _ _ => none) N (fun k11 =>
 fun (x13 x14 x15 x16 : Value) (h17 : Hs) =>
 kI64 .lss x13 x4 (fun x18 =>
 jn (fun (h20 : Hs) =>
 jn (fun (x22 x23 : Value) (h24 : Hs) =>
 kI64 .add x13 (Value.int .i64 (.ofNat 1)) (fun x25 =>
 k11 x25 x18 x22 x23 h24)) fun k21 =>
 kIdxA 2 x3 x13 (fun x26 =>
 kLoads 2 x26 h20 (fun x27 =>
 after (fun x28 h29 =>
 after (fun x30 h31 =>
 kFieldA 1 x28 (fun x32 =>
 kLoad x32 h31 (fun x33 =>
 kI64 .add x15 x33 (fun x34 =>
 k21 x34 x28 h31)))) (store1 2 h29 (cellsL x27) (addrOf x28))) (oAlloc 78 [(Value.int .i64 (.ofNat 0)), (Value.int .i64 (.ofNat 0))] enE h20)))) fun k19 =>
 cnd x18
 (k19 h17)
 (k5 x13 x18 x15 x16 h17))) (Value.int .i64 (.ofNat 0)) dunno (Value.int .i64 (.ofNat 0)) dunno h1)))) (oBox 32 (.c a0) enE h0)

theorem q56 (R : RnK) (N : Nat) (args : List Value) (h : Hs) : r56 R N args h = callT Tryz.prog N R 56 args h := by kernel_rfl

/-- lintel/node.Needs -/
noncomputable def r57 (R : RnK) (N : Nat) (args : List Value) (h : Hs) : An := unC args fun a0 s0 => enK h fun h0 =>
 after (fun x0 h1 =>
 jn (fun (x3 x4 x5 x6 : Value) (h7 : Hs) =>
 clrK h (Value.int .i64 (.ofNat 0)) h7) fun k2 =>
 kFieldA 2 x0 (fun x8 =>
 kLoad x8 h1 (fun x9 =>
 kI64 .lss x9 (Value.int .i64 (.ofNat 0)) (fun x10 =>
 jn (fun (x12 x13 x14 : Value) (h15 : Hs) =>
 k2 x10 x12 x13 x14 h15) fun k11 =>
 cnd x10
 (clrK h (Value.int .i64 (.ofNat 0)) h1)
 (kFieldA 0 x0 (fun x16 =>
 kLoad x16 h1 (fun x17 =>
 kI64 .eql x17 (Value.int .i64 (.ofNat 2)) (fun x18 =>
 jn (fun (x20 x21 : Value) (h22 : Hs) =>
 k11 x18 x20 x21 h22) fun k19 =>
 cnd x18
 (kFieldA 2 x0 (fun x23 =>
 kLoad x23 h1 (fun x24 =>
 clrK h x24 h1)))
 (kFieldA 0 x0 (fun x25 =>
 kLoad x25 h1 (fun x26 =>
 kI64 .eql x26 (Value.int .i64 (.ofNat 1)) (fun x27 =>
 jn (fun (x29 : Value) (h30 : Hs) =>
 jn (fun (x32 : Value) (h33 : Hs) =>
 k19 x29 x32 h33) fun k31 =>
 cnd x29
 (kFieldA 2 x0 (fun x34 =>
 kLoad x34 h30 (fun x35 =>
 kI64 .quo x35 (Value.int .i64 (.ofNat 64)) (fun x36 =>
 kFieldA 2 x0 (fun x37 =>
 kLoad x37 h30 (fun x38 =>
 kI64 .rem x38 (Value.int .i64 (.ofNat 64)) (fun x39 =>
 after (fun x40 h41 =>
 kI64 .add x36 x40 (fun x42 =>
 clrK h x42 h41)) (oMinmax false [.c x39, .c (Value.int .i64 (.ofNat 1))] enE h30))))))))
 (k31 (Value.int .i64 (.ofNat 0)) h30)) fun k28 =>
 cnd x27
 (k28 x27 h1)
 (kFieldA 0 x0 (fun x43 =>
 kLoad x43 h1 (fun x44 =>
 kI64 .eql x44 (Value.int .i64 (.ofNat 3)) (fun x45 =>
 k28 x45 h1)))))))))))))))) (oBox 32 (.c a0) enE h0)

theorem q57 (R : RnK) (N : Nat) (args : List Value) (h : Hs) : r57 R N args h = callT Tryz.prog N R 57 args h := by kernel_rfl

/-- lintel/node.fits -/
noncomputable def r58 (R : RnK) (N : Nat) (args : List Value) (h : Hs) : An := unC args fun a0 s0 => enK h fun h0 =>
 after (fun x0 h1 =>
 kFieldA 0 x0 (fun x2 =>
 kLoad x2 h1 (fun x3 =>
 kI64 .eql x3 (Value.int .i64 (.ofNat 0)) (fun x4 =>
 jn (fun (x6 : Value) (h7 : Hs) =>
 kFieldA 0 x0 (fun x8 =>
 kLoad x8 h7 (fun x9 =>
 kCall R 53 [x9, (Value.int .i64 (.ofNat 1)), (Value.int .i64 (.ofNat 3))] h7 (fun x10 h11 =>
 kNot x10 (fun x12 =>
 gdF x12 h11 (fun k13 => kFieldA 1 x0 (fun x14 => k13 x14 h11)) (fun x15 h16 =>
 gdF x12 h16 (fun k17 => kLoad x15 h16 (fun x18 => k17 x18 h16)) (fun x19 h20 =>
 gdF x12 h20 (fun k21 => kCall R 53 [x19, (Value.int .i64 (.ofNat 0)), (Value.int .i64 (.ofNat 16777215))] h20 (k21)) (fun x22 h23 =>
 gdF x12 h23 (fun k24 => kNot x22 (fun x25 => k24 x25 h23)) (fun x26 h27 =>
 after (fun x28 h29 =>
 gdF x28 h29 (fun k30 => kFieldA 2 x0 (fun x31 => k30 x31 h29)) (fun x32 h33 =>
 gdF x28 h33 (fun k34 => kLoad x32 h33 (fun x35 => k34 x35 h33)) (fun x36 h37 =>
 gdF x28 h37 (fun k38 => kCall R 53 [x36, (Value.int .i64 (.ofNat 0)), (Value.int .i64 (.ofNat 1099511627776))] h37 (k38)) (fun x39 h40 =>
 gdF x28 h40 (fun k41 => kNot x39 (fun x42 => k41 x42 h40)) (fun x43 h44 =>
 after (fun x45 h46 =>
 gdF x45 h46 (fun k47 => kFieldA 3 x0 (fun x48 => k47 x48 h46)) (fun x49 h50 =>
 gdF x45 h50 (fun k51 => kLoad x49 h50 (fun x52 => k51 x52 h50)) (fun x53 h54 =>
 gdF x45 h54 (fun k55 => kLenV x53 (fun x56 => k55 x56 h54)) (fun x57 h58 =>
 gdF x45 h58 (fun k59 => kI64 .gtr x57 (Value.int .i64 (.ofNat 4)) (fun x60 => k59 x60 h58)) (fun x61 h62 =>
 after (fun x63 h64 =>
 jn (fun (x66 : Value) (h67 : Hs) =>
 kFieldA 3 x0 (fun x68 =>
 kLoad x68 h67 (fun x69 =>
 kCall R 73 [x69, (Value.func (.func 74) #[] #[])] h67 (fun x70 h71 =>
 kNot x70 (fun x72 =>
 clrK h x72 h71))))) fun k65 =>
 cnd x63
 (clrK h (Value.bool false) h64)
 (k65 x6 h64)) (pickB (.c (Value.bool true)) (.c x61) enE h62 x45)))))) (pickB (.c (Value.bool true)) (.c x43) enE h44 x28)))))) (pickB (.c (Value.bool true)) (.c x26) enE h27 x12)))))))))) fun k5 =>
 cnd x4
 (kLoads 4 x0 h1 (fun x73 =>
 kCall R 52 [x73] h1 (fun x74 h75 =>
 clrK h x74 h75)))
 (k5 (Value.bool false) h1))))) (oBox 32 (.c a0) enE h0)

theorem q58 (R : RnK) (N : Nat) (args : List Value) (h : Hs) : r58 R N args h = callT Tryz.prog N R 58 args h := by kernel_rfl

/-- lintel/seal.Of -/
noncomputable def r59 (R : RnK) (N : Nat) (args : List Value) (h : Hs) : An := unC args fun a0 s0 => enK h fun h0 =>
 kCall R 75 [(Value.int .u64 (.ofNat 7811896474847682849)), a0] h0 (fun x0 h1 =>
 clrK h x0 h1)

theorem q59 (R : RnK) (N : Nat) (args : List Value) (h : Hs) : r59 R N args h = callT Tryz.prog N R 59 args h := by kernel_rfl

/-- lintel/slot.named -/
noncomputable def r60 (R : RnK) (N : Nat) (args : List Value) (h : Hs) : An := unC args fun a0 s0 => enK h fun h0 =>
 kLenS a0 (fun x0 =>
 kI64 .geq x0 (Value.int .i64 (.ofNat 1)) (fun x1 =>
 gdT x1 h0 (fun k2 => k2 a0 h0) (fun x3 h4 =>
 gdT x1 h4 (fun k5 => kLenS x3 (fun x6 => k5 x6 h4)) (fun x7 h8 =>
 gdT x1 h8 (fun k9 => kI64 .leq x7 (Value.int .i64 (.ofNat 40)) (fun x10 => k9 x10 h8)) (fun x11 h12 =>
 after (fun x13 h14 =>
 gdT x13 h14 (fun k15 => k15 a0 h14) (fun x16 h17 =>
 gdT x13 h17 (fun k18 => obK (fun x19 => k18 x19 h17) (s2 .neq x16 (Value.string ⟨#[46]⟩))) (fun x20 h21 =>
 after (fun x22 h23 =>
 gdT x22 h23 (fun k24 => k24 a0 h23) (fun x25 h26 =>
 gdT x22 h26 (fun k27 => obK (fun x28 => k27 x28 h26) (s2 .neq x25 (Value.string ⟨#[46, 46]⟩))) (fun x29 h30 =>
 after (fun x31 h32 =>
 gdT x31 h32 (fun k33 => k33 a0 h32) (fun x34 h35 =>
 gdT x31 h35 (fun k36 => kCall R 76 [x34, (Value.string ⟨#[47]⟩)] h35 (k36)) (fun x37 h38 =>
 gdT x31 h38 (fun k39 => kNot x37 (fun x40 => k39 x40 h38)) (fun x41 h42 =>
 after (fun x43 h44 =>
 gdT x43 h44 (fun k45 => k45 a0 h44) (fun x46 h47 =>
 gdT x43 h47 (fun k48 => kCall R 76 [x46, (Value.string ⟨#[0]⟩)] h47 (k48)) (fun x49 h50 =>
 gdT x43 h50 (fun k51 => kNot x49 (fun x52 => k51 x52 h50)) (fun x53 h54 =>
 after (fun x55 h56 =>
 clrK h x55 h56) (pickB (.c x53) (.c (Value.bool false)) enE h54 x43))))) (pickB (.c x41) (.c (Value.bool false)) enE h42 x31))))) (pickB (.c x29) (.c (Value.bool false)) enE h30 x22)))) (pickB (.c x20) (.c (Value.bool false)) enE h21 x13)))) (pickB (.c x11) (.c (Value.bool false)) enE h12 x1))))))

theorem q60 (R : RnK) (N : Nat) (args : List Value) (h : Hs) : r60 R N args h = callT Tryz.prog N R 60 args h := by kernel_rfl

/-- lintel/runs.counts -/
noncomputable def r61 (R : RnK) (N : Nat) (args : List Value) (h : Hs) : An := unC args fun a0 s0 => enK h fun h0 =>
 kLenV a0 (fun x0 =>
 jn (fun (x2 x3 x4 x5 x6 : Value) (h7 : Hs) =>
 clrK h x6 h7) fun k1 =>
 lpT (T := Value → Value → Value → Value → Value → Hs → An) (fun _ _ _ _ _ _ => none) N (fun k8 =>
 fun (x10 x11 x12 x13 x14 : Value) (h15 : Hs) =>
 kI64 .lss x10 x0 (fun x16 =>
 jn (fun (h18 : Hs) =>
 jn (fun (x20 x21 x22 : Value) (h23 : Hs) =>
 kI64 .add x10 (Value.int .i64 (.ofNat 1)) (fun x24 =>
 k8 x24 x16 x20 x21 x22 h23)) fun k19 =>
 kIdxA 2 a0 x10 (fun x25 =>
 kLoads 2 x25 h18 (fun x26 =>
 after (fun x27 h28 =>
 after (fun x29 h30 =>
 kFieldA 1 x27 (fun x31 =>
 kLoad x31 h30 (fun x32 =>
 kI64 .geq x32 (Value.int .i64 (.ofNat 1)) (fun x33 =>
 gdT x33 h30 (fun k34 => kFieldA 1 x27 (fun x35 => k34 x35 h30)) (fun x36 h37 =>
 gdT x33 h37 (fun k38 => kLoad x36 h37 (fun x39 => k38 x39 h37)) (fun x40 h41 =>
 gdT x33 h41 (fun k42 => kI64 .leq x40 (Value.int .i64 (.ofNat 1073741824)) (fun x43 => k42 x43 h41)) (fun x44 h45 =>
 after (fun x46 h47 =>
 gdT x46 h47 (fun k48 => kFieldA 0 x27 (fun x49 => k48 x49 h47)) (fun x50 h51 =>
 gdT x46 h51 (fun k52 => kLoad x50 h51 (fun x53 => k52 x53 h51)) (fun x54 h55 =>
 gdT x46 h55 (fun k56 => kI64 .geq x54 (Value.int .i64 (.ofNat 0)) (fun x57 => k56 x57 h55)) (fun x58 h59 =>
 after (fun x60 h61 =>
 gdT x60 h61 (fun k62 => kFieldA 0 x27 (fun x63 => k62 x63 h61)) (fun x64 h65 =>
 gdT x60 h65 (fun k66 => kLoad x64 h65 (fun x67 => k66 x67 h65)) (fun x68 h69 =>
 gdT x60 h69 (fun k70 => kI64 .leq x68 (Value.int .i64 (.ofNat 1073741824)) (fun x71 => k70 x71 h69)) (fun x72 h73 =>
 after (fun x74 h75 =>
 jn (fun (x77 : Value) (h78 : Hs) =>
 k19 x27 x74 x77 h78) fun k76 =>
 cnd x74
 (kLoads 2 x27 h75 (fun x79 =>
 after (fun x80 h81 =>
 after (fun x82 h83 =>
 k76 x82 h83) (app0 78 2 16 h81 x14 x80)) (oMkrow 78 2 1 [(Value.int .i64 (.ofNat 0)), (Value.int .i64 (.ofNat 0))] [(0, 2, .c x79)] enE h75)))
 (k76 x14 h75)) (pickB (.c x72) (.c (Value.bool false)) enE h73 x60))))) (pickB (.c x58) (.c (Value.bool false)) enE h59 x46))))) (pickB (.c x44) (.c (Value.bool false)) enE h45 x33)))))))) (store1 2 h28 (cellsL x26) (addrOf x27))) (oAlloc 78 [(Value.int .i64 (.ofNat 0)), (Value.int .i64 (.ofNat 0))] enE h18)))) fun k17 =>
 cnd x16
 (k17 h15)
 (k1 x10 x16 x12 x13 x14 h15))) (Value.int .i64 (.ofNat 0)) dunno dunno dunno (Value.slice none 0 0) h0)

theorem q61 (R : RnK) (N : Nat) (args : List Value) (h : Hs) : r61 R N args h = callT Tryz.prog N R 61 args h := by kernel_rfl

/-- lintel/pool.New -/
noncomputable def r62 (R : RnK) (N : Nat) (args : List Value) (h : Hs) : An := unC args fun a0 s0 => unC s0 fun a1 s1 => enK h fun h0 =>
 after (fun x0 h1 =>
 after (fun x2 h3 =>
 kLoads 4 x0 h3 (fun x4 =>
 kCall R 41 [x4] h3 (fun x5 h6 =>
 kNot x5 (fun x7 =>
 gdF x7 h6 (fun k8 => kFieldA 0 x2 (fun x9 => k8 x9 h6)) (fun x10 h11 =>
 gdF x7 h11 (fun k12 => kLoad x10 h11 (fun x13 => k12 x13 h11)) (fun x14 h15 =>
 gdF x7 h15 (fun k16 => kLenV x14 (fun x17 => k16 x17 h15)) (fun x18 h19 =>
 gdF x7 h19 (fun k20 => kFieldA 0 x0 (fun x21 => k20 x21 h19)) (fun x22 h23 =>
 gdF x7 h23 (fun k24 => kLoad x22 h23 (fun x25 => k24 x25 h23)) (fun x26 h27 =>
 gdF x7 h27 (fun k28 => kI64 .add x26 (Value.int .i64 (.ofNat 64)) (fun x29 => k28 x29 h27)) (fun x30 h31 =>
 gdF x7 h31 (fun k32 => kI64 .sub x30 (Value.int .i64 (.ofNat 1)) (fun x33 => k32 x33 h31)) (fun x34 h35 =>
 gdF x7 h35 (fun k36 => kI64 .quo x34 (Value.int .i64 (.ofNat 64)) (fun x37 => k36 x37 h35)) (fun x38 h39 =>
 gdF x7 h39 (fun k40 => kI64 .lss x18 x38 (fun x41 => k40 x41 h39)) (fun x42 h43 =>
 after (fun x44 h45 =>
 jn (fun (x47 x48 : Value) (h49 : Hs) =>
 kLoads 4 x0 (Hs.mk h49.hp h49.nx h49.nx) (fun x50 =>
 kLoads 1 x2 (Hs.mk h49.hp h49.nx h49.nx) (fun x51 =>
 kCall R 48 [x51, (Value.bool true), (Value.slice none 0 0)] (Hs.mk h49.hp h49.nx h49.nx) (fun v62 u63 => dPut (fun x52 h53 =>
 after (fun v60 u61 => dPut (fun x54 h55 =>
 after (fun v58 u59 => dPut (fun x56 h57 =>
 clrK h (Value.tuple #[x56, (Value.int .i64 (.ofNat 0))]) h57) v58 (dNext h55 u59 .make) (andB (dFit h55 u59 .make) (Nat.ble 0 u59.lo))) (oBox 132 (.c x54) enE (Hs.mk .e h55.nx h55.nx))) v60 (dNext h53 u61 .blind) (andB (dFit h53 u61 .blind) (Nat.ble 0 u61.lo))) (oBuild [(Value.int .i64 (.ofNat 0)), (Value.int .i64 (.ofNat 0)), (Value.int .i64 (.ofNat 0)), (Value.int .i64 (.ofNat 0)), (Value.slice none 0 0)] [(0, 4, .c x50), (4, 1, .c x52)] enE (Hs.mk .e h53.nx h53.nx))) v62 (dNext h49 u63 .light) (andB (dFit h49 u63 .light) (Nat.ble 0 u63.lo)))))) fun k46 =>
 cnd x44
 (clrK h (Value.tuple #[(Value.pointer none), (Value.int .i64 (.ofNat 1))]) h45)
 (k46 (Value.pointer none) (Value.int .i64 (.ofNat 0)) h45)) (pickB (.c (Value.bool true)) (.c x42) enE h43 x7)))))))))))))) (oBox 80 (.c a1) enE h1)) (oBox 45 (.c a0) enE h0)

theorem q62 (R : RnK) (N : Nat) (args : List Value) (h : Hs) : r62 R N args h = callT Tryz.prog N R 62 args h := by kernel_rfl

/-- (*lintel/pool.Pool).Take -/
noncomputable def r63 (R : RnK) (N : Nat) (args : List Value) (h : Hs) : An := unC args fun a0 s0 => unC s0 fun a1 s1 => unC s1 fun a2 s2 => unC s2 fun a3 s3 => enK h fun h0 =>
 after (fun x0 h1 =>
 kCall R 77 [a0, a1] h1 (fun x2 h3 =>
 kExtr x2 0 (fun x4 =>
 kExtr x2 1 (fun x5 =>
 after (fun x6 h7 =>
 after (fun x8 h9 =>
 kStore1 x6 x4 h9 (fun x10 h11 =>
 kStore1 x8 x5 h11 (fun x12 h13 =>
 kI64 .lss a1 (Value.int .i64 (.ofNat 0)) (fun x14 =>
 gdF x14 h13 (fun k15 => k15 a1 h13) (fun x16 h17 =>
 gdF x14 h17 (fun k18 => k18 a0 h17) (fun x19 h20 =>
 gdF x14 h20 (fun k21 => kNil x19 (fun x22 => k21 x22 h20)) (fun x23 h24 =>
 gdF x14 h24 (fun k25 => kFieldA 0 x23 (fun x26 => k25 x26 h24)) (fun x27 h28 =>
 gdF x14 h28 (fun k29 => kFieldA 2 x27 (fun x30 => k29 x30 h28)) (fun x31 h32 =>
 gdF x14 h32 (fun k33 => kLoad x31 h32 (fun x34 => k33 x34 h32)) (fun x35 h36 =>
 gdF x14 h36 (fun k37 => kI64 .geq x16 x35 (fun x38 => k37 x38 h36)) (fun x39 h40 =>
 after (fun x41 h42 =>
 gdF x41 h42 (fun k43 => kLoad x0 h42 (fun x44 => k43 x44 h42)) (fun x45 h46 =>
 gdF x41 h46 (fun k47 => kI64 .lss x45 (Value.int .i64 (.ofNat 0)) (fun x48 => k47 x48 h46)) (fun x49 h50 =>
 after (fun x51 h52 =>
 gdF x51 h52 (fun k53 => k53 a3 h52) (fun x54 h55 =>
 gdF x51 h55 (fun k56 => kI64 .lss x54 (Value.int .i64 (.ofNat 1)) (fun x57 => k56 x57 h55)) (fun x58 h59 =>
 after (fun x60 h61 =>
 jn (fun (x63 x64 : Value) (h65 : Hs) =>
 kCall R 78 [a0] h65 (fun x66 h67 =>
 after (fun x68 h69 =>
 after (fun x70 h71 =>
 kStore1 x70 x68 h71 (fun x72 h73 =>
 after (fun x74 h75 =>
 kCall R 80 [x66, x74] h75 (fun x76 h77 =>
 kLoad x0 h77 (fun x78 =>
 kCall R 83 [x66, x78] h77 (fun x79 h80 =>
 kCall R 30 [x79] (Hs.mk h80.hp h80.nx h80.nx) (fun v109 u110 => dPut (fun x81 h82 =>
 kLoad x0 (dHidS .light [false, false] [some (h80.nx, h82.nx), none] h82) (fun x83 =>
 kI64 .lss x81 x83 (fun x84 =>
 gdF x84 h82 (fun k85 => k85 x79 h82) (fun x86 _ =>
 gdF x84 h82 (fun k88 => kLenV x86 (fun x89 => k88 x89 h82)) (fun x90 _ =>
 gdF x84 h82 (fun k92 => k92 a3 h82) (fun x93 _ =>
 gdF x84 h82 (fun k95 => kI64 .gtr x90 x93 (fun x96 => k95 x96 h82)) (fun x97 _ =>
 after (fun v107 u108 => dPut (fun x99 h100 =>
 jn (fun (x102 x103 : Value) (h104 : Hs) =>
 kCall R 84 [a0, (Value.bool true), x79] h104 (fun x105 h106 =>
 clrK h (Value.tuple #[x79, (Value.int .i64 (.ofNat 0))]) h106)) fun k101 =>
 cnd x99
 (clrK h (Value.tuple #[(Value.slice none 0 0), (Value.int .i64 (.ofNat 7))]) h100)
 (k101 x63 x64 h100)) v107 (dNext h82 u108 .blind) (andB (dFit h82 u108 .blind) (Nat.ble 0 u108.lo))) (pickB (.c (Value.bool true)) (.c x97) enE (Hs.mk .e h82.nx h82.nx) x84)))))))) v109 (dNext h80 u110 .light) (andB (dFit h80 u110 .light) (Nat.ble 0 u110.lo))))))) (oMkfunc (.func 81) [] [.c x0, .c x70] enE h73))) (oAlloc 128 [Value.nilFunc] enE h69)) (oMkfunc (.func 79) [] [.c x6, .c x8] enE h67))) fun k62 =>
 cnd x60
 (clrK h (Value.tuple #[(Value.slice none 0 0), (Value.int .i64 (.ofNat 1))]) h61)
 (k62 (Value.slice none 0 0) (Value.int .i64 (.ofNat 0)) h61)) (pickB (.c (Value.bool true)) (.c x58) enE h59 x51)))) (pickB (.c (Value.bool true)) (.c x49) enE h50 x41)))) (pickB (.c (Value.bool true)) (.c x39) enE h40 x14)))))))))))) (oAlloc 3 [(Value.int .i64 (.ofNat 0))] enE h7)) (oAlloc 3 [(Value.int .i64 (.ofNat 0))] enE h3))))) (oBox 3 (.c a2) enE h0)

theorem q63 (R : RnK) (N : Nat) (args : List Value) (h : Hs) : r63 R N args h = callT Tryz.prog N R 63 args h := by kernel_rfl

/-- lintel/runs.Merge -/
noncomputable def r64 (R : RnK) (N : Nat) (args : List Value) (h : Hs) : An := unC args fun a0 s0 => enK h fun h0 =>
 kCall R 61 [a0] h0 (fun x0 h1 =>
 kLenV x0 (fun x2 =>
 jn (fun (x4 x5 x6 x7 x8 x9 : Value) (h10 : Hs) =>
 clrK h x6 h10) fun k3 =>
 lpT (T := Value → Value → Value → Value → Value → Value → Hs → An) (fun _ _ _ _ _ _ _ => none) N (fun k11 =>
 fun (x13 x14 x15 x16 x17 x18 : Value) (h19 : Hs) =>
 kI64 .lss x13 x2 (fun x20 =>
 jn (fun (h22 : Hs) =>
 jn (fun (x24 x25 x26 x27 : Value) (h28 : Hs) =>
 kI64 .add x13 (Value.int .i64 (.ofNat 1)) (fun x29 =>
 k11 x29 x20 x24 x25 x26 x27 h28)) fun k23 =>
 kIdxA 2 x0 x13 (fun x30 =>
 kLoads 2 x30 h22 (fun x31 =>
 after (fun x32 h33 =>
 after (fun x34 h35 =>
 kLenV x15 (fun x36 =>
 kI64 .sub x36 (Value.int .i64 (.ofNat 1)) (fun x37 =>
 kI64 .geq x37 (Value.int .i64 (.ofNat 0)) (fun x38 =>
 gdT x38 h35 (fun k39 => k39 x15 h35) (fun x40 _ =>
 gdT x38 h35 (fun k42 => k42 x37 h35) (fun x43 _ =>
 gdT x38 h35 (fun k45 => kIdxA 2 x40 x43 (fun x46 => k45 x46 h35)) (fun x47 _ =>
 gdT x38 h35 (fun k49 => kFieldA 0 x47 (fun x50 => k49 x50 h35)) (fun x51 _ =>
 gdT x38 h35 (fun k53 => kLoad x51 (Hs.mk h35.hp h35.nx h35.nx) (fun x54 => k53 x54 h35)) (fun x55 _ =>
 gdT x38 h35 (fun k57 => k57 x15 h35) (fun x58 _ =>
 gdT x38 h35 (fun k60 => k60 x37 h35) (fun x61 _ =>
 gdT x38 h35 (fun k63 => kIdxA 2 x58 x61 (fun x64 => k63 x64 h35)) (fun x65 _ =>
 gdT x38 h35 (fun k67 => kFieldA 1 x65 (fun x68 => k67 x68 h35)) (fun x69 _ =>
 gdT x38 h35 (fun k71 => kLoad x69 (Hs.mk h35.hp h35.nx h35.nx) (fun x72 => k71 x72 h35)) (fun x73 _ =>
 gdT x38 h35 (fun k75 => kI64 .add x55 x73 (fun x76 => k75 x76 h35)) (fun x77 _ =>
 gdT x38 h35 (fun k79 => kFieldA 0 x32 (fun x80 => k79 x80 h35)) (fun x81 _ =>
 gdT x38 h35 (fun k83 => kLoad x81 (Hs.mk h35.hp h35.nx h35.nx) (fun x84 => k83 x84 h35)) (fun x85 _ =>
 gdT x38 h35 (fun k87 => kI64 .eql x77 x85 (fun x88 => k87 x88 h35)) (fun x89 _ =>
 after (fun v113 u114 => dPut (fun x91 h92 =>
 jn (fun (x94 : Value) (h95 : Hs) =>
 k23 x94 x37 x32 x91 h95) fun k93 =>
 cnd x91
 (kIdxA 2 x15 x37 (fun x96 =>
 kFieldA 1 x96 (fun x97 =>
 kLoad x97 (Hs.mk h92.hp h92.nx h92.nx) (fun x98 =>
 kFieldA 1 x32 (fun x99 =>
 kLoad x99 (Hs.mk h92.hp h92.nx h92.nx) (fun x100 =>
 kI64 .add x98 x100 (fun x101 =>
 kIdxA 2 x15 x37 (fun x102 =>
 kFieldA 1 x102 (fun x103 =>
 kStore1 x103 x101 h92 (fun v106 u107 => dPut (fun x104 h105 =>
 k93 x15 h105) v106 (dNext h92 u107 .bar) (andB (dFit h92 u107 .bar) (Nat.ble 0 u107.lo))))))))))))
 (kLoads 2 x32 h92 (fun x108 =>
 after (fun x109 h110 =>
 after (fun x111 h112 =>
 k93 x111 h112) (app0 78 2 16 h110 x15 x109)) (oMkrow 78 2 1 [(Value.int .i64 (.ofNat 0)), (Value.int .i64 (.ofNat 0))] [(0, 2, .c x108)] enE h92)))) v113 (dNext h35 u114 .blind) (andB (dFit h35 u114 .blind) (Nat.ble 0 u114.lo))) (pickB (.c x89) (.c (Value.bool false)) enE (Hs.mk .e h35.nx h35.nx) x38))))))))))))))))))) (store1 2 h33 (cellsL x31) (addrOf x32))) (oAlloc 78 [(Value.int .i64 (.ofNat 0)), (Value.int .i64 (.ofNat 0))] enE h22)))) fun k21 =>
 cnd x20
 (k21 h19)
 (k3 x13 x20 x15 x16 x17 x18 h19))) (Value.int .i64 (.ofNat 0)) dunno (Value.slice none 0 0) dunno dunno dunno h1))

theorem q64 (R : RnK) (N : Nat) (args : List Value) (h : Hs) : r64 R N args h = callT Tryz.prog N R 64 args h := by kernel_rfl

/-- slices.Grow[[]lintel/node.Run,lintel/node.Run] -/
noncomputable def r65 (R : RnK) (N : Nat) (args : List Value) (h : Hs) : An := unC args fun a0 s0 => unC s0 fun a1 s1 => enK h fun h0 =>
 kI64 .lss a1 (Value.int .i64 (.ofNat 0)) (fun x0 =>
 jn (fun (h2 : Hs) =>
 after (fun x3 h4 =>
 kLenV a0 (fun x5 =>
 kI64 .sub x3 x5 (fun x6 =>
 kI64 .sub a1 x6 (fun x7 =>
 kI64 .gtr x7 (Value.int .i64 (.ofNat 0)) (fun x8 =>
 jn (fun (x10 : Value) (h11 : Hs) =>
 clrK h x10 h11) fun k9 =>
 cnd x8
 (after (fun x12 h13 =>
 after (fun x14 h15 =>
 after (fun x16 h17 =>
 kLenV a0 (fun x18 =>
 after (fun x19 h20 =>
 k9 x19 h20) (oSlice 2 (.c x16) none (some (.c x18)) none enE h17))) (appZ1 h15 78 2 16 [(Value.int .i64 (.ofNat 0)), (Value.int .i64 (.ofNat 0))] x14 (natOf x7))) (oSlice 2 (.c a0) none (some (.c x12)) none enE h13)) (oCapV (.c a0) enE h4))
 (k9 a0 h4)))))) (oCapV (.c a0) enE h2)) fun k1 =>
 cnd x0
 (after (fun x21 h22 =>
 none) (oMkface 9 (.c (Value.string ⟨#[99, 97, 110, 110, 111, 116, 32, 98, 101, 32, 110, 101, 103, 97, 116, 105, 118, 101]⟩)) enE h0))
 (k1 h0))

theorem q65 (R : RnK) (N : Nat) (args : List Value) (h : Hs) : r65 R N args h = callT Tryz.prog N R 65 args h := by kernel_rfl

/-- (lintel/bits.Bits).there -/
noncomputable def r66 (R : RnK) (N : Nat) (args : List Value) (h : Hs) : An := unC args fun a0 s0 => unC s0 fun a1 s1 => enK h fun h0 =>
 after (fun x0 h1 =>
 kI64 .geq a1 (Value.int .i64 (.ofNat 0)) (fun x2 =>
 gdT x2 h1 (fun k3 => k3 a1 h1) (fun x4 h5 =>
 gdT x2 h5 (fun k6 => kI64 .quo x4 (Value.int .i64 (.ofNat 64)) (fun x7 => k6 x7 h5)) (fun x8 h9 =>
 gdT x2 h9 (fun k10 => kFieldA 0 x0 (fun x11 => k10 x11 h9)) (fun x12 h13 =>
 gdT x2 h13 (fun k14 => kLoad x12 h13 (fun x15 => k14 x15 h13)) (fun x16 h17 =>
 gdT x2 h17 (fun k18 => kLenV x16 (fun x19 => k18 x19 h17)) (fun x20 h21 =>
 gdT x2 h21 (fun k22 => kI64 .lss x8 x20 (fun x23 => k22 x23 h21)) (fun x24 h25 =>
 after (fun x26 h27 =>
 clrK h x26 h27) (pickB (.c x24) (.c (Value.bool false)) enE h25 x2))))))))) (oBox 80 (.c a0) enE h0)

theorem q66 (R : RnK) (N : Nat) (args : List Value) (h : Hs) : r66 R N args h = callT Tryz.prog N R 66 args h := by kernel_rfl

/-- (*strings.Builder).WriteByte -/
noncomputable def r67 (R : RnK) (N : Nat) (args : List Value) (h : Hs) : An := unC args fun a0 s0 => unC s0 fun a1 s1 => enK h fun h0 =>
 kCall R 85 [a0] h0 (fun x0 h1 =>
 kNil a0 (fun x2 =>
 kFieldA 1 x2 (fun x3 =>
 kLoad x3 h1 (fun x4 =>
 after (fun x5 h6 =>
 after (fun x7 h8 =>
 kNil a0 (fun x9 =>
 kFieldA 1 x9 (fun x10 =>
 kStore1 x10 x7 h8 (fun x11 h12 =>
 clrK h Value.nilIface h12)))) (app0 5 1 1 h6 x4 x5)) (oMkrow 5 1 1 [(Value.int .u8 (.ofNat 0))] [(0, 1, .c a1)] enE h1)))))

theorem q67 (R : RnK) (N : Nat) (args : List Value) (h : Hs) : r67 R N args h = callT Tryz.prog N R 67 args h := by kernel_rfl

/-- (*strings.Builder).String -/
noncomputable def r68 (R : RnK) (N : Nat) (args : List Value) (h : Hs) : An := unC args fun a0 s0 => enK h fun h0 =>
 kNil a0 (fun x0 =>
 kFieldA 1 x0 (fun x1 =>
 kLoad x1 (Hs.mk h0.hp h0.nx h0.nx) (fun x2 =>
 after (fun v13 u14 => dPut (fun x3 h4 =>
 kNil a0 (fun x5 =>
 kFieldA 1 x5 (fun x6 =>
 kLoad x6 (dHidS .light [true, true, true, false, false, false, false, false] [none, none, none, some (h0.nx, h4.nx), none, none, none, none] h4) (fun x7 =>
 kLenV x7 (fun x8 =>
 after (fun v11 u12 => dPut (fun x9 h10 =>
 clrK h x9 h10) v11 (dNext h4 u12 .bar) (andB (dFit h4 u12 .bar) (Nat.ble 0 u12.lo))) (ustr1 5 h4 x3 (nat64 x8))))))) v13 (dNext h0 u14 .light) (andB (dFit h0 u14 .light) (Nat.ble 0 u14.lo))) (ret1 (Hs.mk h0.hp h0.nx h0.nx) (sdata1 x2)))))

theorem q68 (R : RnK) (N : Nat) (args : List Value) (h : Hs) : r68 R N args h = callT Tryz.prog N R 68 args h := by kernel_rfl

/-- slices.Equal[[]uint64,uint64] -/
noncomputable def r69 (R : RnK) (N : Nat) (args : List Value) (h : Hs) : An := unC args fun a0 s0 => unC s0 fun a1 s1 => enK h fun h0 =>
 kLenV a0 (fun x0 =>
 kLenV a1 (fun x1 =>
 kI64 .neq x0 x1 (fun x2 =>
 jn (fun (x4 : Value) (h5 : Hs) =>
 kLenV a0 (fun x6 =>
 jn (fun (x8 x9 x10 x11 x12 : Value) (h13 : Hs) =>
 clrK h (Value.bool true) h13) fun k7 =>
 lpT (T := Value → Value → Value → Value → Value → Hs → An) (fun _ _ _ _ _ _ => none) N (fun k14 =>
 fun (x16 x17 x18 x19 x20 : Value) (h21 : Hs) =>
 kI64 .lss x16 x6 (fun x22 =>
 jn (fun (h24 : Hs) =>
 jn (fun (x26 x27 x28 : Value) (h29 : Hs) =>
 kI64 .add x16 (Value.int .i64 (.ofNat 1)) (fun x30 =>
 k14 x30 x22 x26 x27 x28 h29)) fun k25 =>
 kIdxA 1 a0 x16 (fun x31 =>
 kLoad x31 (Hs.mk h24.hp h24.nx h24.nx) (fun x32 =>
 kIdxA 1 a1 x16 (fun x33 =>
 kLoad x33 (Hs.mk h24.hp h24.nx h24.nx) (fun x34 =>
 kU64 .neq x32 x34 (fun x35 =>
 jn (fun (x37 : Value) (h38 : Hs) =>
 k25 x16 x35 x37 h38) fun k36 =>
 cnd x35
 (clrK h (Value.bool false) h24)
 (k36 x20 h24))))))) fun k23 =>
 cnd x22
 (k23 h21)
 (k7 x16 x22 x18 x19 x20 h21))) (Value.int .i64 (.ofNat 0)) dunno dunno dunno x4 h5)) fun k3 =>
 cnd x2
 (clrK h (Value.bool false) h0)
 (k3 (Value.bool false) h0))))

theorem q69 (R : RnK) (N : Nat) (args : List Value) (h : Hs) : r69 R N args h = callT Tryz.prog N R 69 args h := by kernel_rfl

/-- lintel/head.Get -/
noncomputable def r70 (R : RnK) (N : Nat) (args : List Value) (h : Hs) : An := unC args fun a0 s0 => enK h fun h0 =>
 after (fun x0 h1 =>
 kLenV a0 (fun x2 =>
 kI64 .neq x2 (Value.int .i64 (.ofNat 8)) (fun x3 =>
 jn (fun (x5 : Value) (h6 : Hs) =>
 after (fun x7 h8 =>
 kLenV x7 (fun x9 =>
 jn (fun (x11 x12 x13 x14 x15 : Value) (h16 : Hs) =>
 kIdxA 1 a0 (Value.int .i64 (.ofNat 1)) (fun x17 =>
 kLoad x17 (Hs.mk h16.hp h16.nx h16.nx) (fun x18 =>
 kTo64 x18 (fun x19 =>
 kIdxA 1 a0 (Value.int .i64 (.ofNat 2)) (fun x20 =>
 kLoad x20 (Hs.mk h16.hp h16.nx h16.nx) (fun x21 =>
 kTo64 x21 (fun x22 =>
 kIdxA 1 a0 (Value.int .i64 (.ofNat 3)) (fun x23 =>
 kLoad x23 (Hs.mk h16.hp h16.nx h16.nx) (fun x24 =>
 kTo64 x24 (fun x25 =>
 kIdxA 1 a0 (Value.int .i64 (.ofNat 4)) (fun x26 =>
 kLoad x26 (Hs.mk h16.hp h16.nx h16.nx) (fun x27 =>
 kTo64 x27 (fun x28 =>
 after (fun v70 u71 => dPut (fun x29 h30 =>
 after (fun v68 u69 => dPut (fun x31 h32 =>
 after (fun v66 u67 => dPut (fun x33 h34 =>
 kLoads 4 x31 (Hs.mk h34.hp h34.nx h34.nx) (fun x35 =>
 kIdxA 1 a0 (Value.int .i64 (.ofNat 6)) (fun x36 =>
 kLoad x36 (Hs.mk h34.hp h34.nx h34.nx) (fun x37 =>
 after (fun v64 u65 => dPut (fun x38 h39 =>
 after (fun v62 u63 => dPut (fun x40 h41 =>
 after (fun v60 u61 => dPut (fun x42 h43 =>
 kLoads 5 x40 h43 (fun x44 =>
 kCall R 44 [x44] h43 (fun x45 h46 =>
 kCall R 69 [x45, a0] h46 (fun x47 h48 =>
 kNot x47 (fun x49 =>
 jn (fun (x51 : Value) (h52 : Hs) =>
 kLoads 5 x40 h52 (fun x53 =>
 after (fun x54 h55 =>
 clearUp h (packR h55 (resV enE h55 [.cell (.c x0) 5 true, .t (.c (Value.bool true))]))) (store1 5 h52 (cellsL x53) (addrOf x0)))) fun k50 =>
 cnd x49
 (after (fun x56 h57 =>
 after (fun x58 h59 =>
 clearUp h (packR h59 (resV enE h59 [.cell (.c x0) 5 true, .t (.c (Value.bool false))]))) (store1 5 h57 (cellsL x56) (addrOf x0))) (oBuild [(Value.int .i64 (.ofNat 0)), (Value.int .i64 (.ofNat 0)), (Value.int .i64 (.ofNat 0)), (Value.int .i64 (.ofNat 0)), (Value.int .u64 (.ofNat 0))] [] enE h48))
 (k50 x15 h48)))))) v60 (dNext h41 u61 .bar) (andB (dFit h41 u61 .bar) (Nat.ble 0 u61.lo))) (store1 5 h41 (cellsL x38) (addrOf x40))) v62 (dNext h39 u63 .make) (andB (dFit h39 u63 .make) (Nat.ble 0 u63.lo))) (oAlloc 92 [(Value.int .i64 (.ofNat 0)), (Value.int .i64 (.ofNat 0)), (Value.int .i64 (.ofNat 0)), (Value.int .i64 (.ofNat 0)), (Value.int .u64 (.ofNat 0))] enE (Hs.mk .e h39.nx h39.nx))) v64 (dNext h34 u65 .blind) (andB (dFit h34 u65 .blind) (Nat.ble 0 u65.lo))) (oBuild [(Value.int .i64 (.ofNat 0)), (Value.int .i64 (.ofNat 0)), (Value.int .i64 (.ofNat 0)), (Value.int .i64 (.ofNat 0)), (Value.int .u64 (.ofNat 0))] [(0, 4, .c x35), (4, 1, .c x37)] enE (Hs.mk .e h34.nx h34.nx)))))) v66 (dNext h32 u67 .bar) (andB (dFit h32 u67 .bar) (Nat.ble 0 u67.lo))) (store1 4 h32 (cellsL x29) (addrOf x31))) v68 (dNext h30 u69 .make) (andB (dFit h30 u69 .make) (Nat.ble 0 u69.lo))) (oAlloc 45 [(Value.int .i64 (.ofNat 0)), (Value.int .i64 (.ofNat 0)), (Value.int .i64 (.ofNat 0)), (Value.int .i64 (.ofNat 0))] enE (Hs.mk .e h30.nx h30.nx))) v70 (dNext h16 u71 .blind) (andB (dFit h16 u71 .blind) (Nat.ble 0 u71.lo))) (oBuild [(Value.int .i64 (.ofNat 0)), (Value.int .i64 (.ofNat 0)), (Value.int .i64 (.ofNat 0)), (Value.int .i64 (.ofNat 0))] [(0, 1, .c x19), (1, 1, .c x22), (2, 1, .c x25), (3, 1, .c x28)] enE (Hs.mk .e h16.nx h16.nx))))))))))))))) fun k10 =>
 lpT (T := Value → Value → Value → Value → Value → Hs → An) (fun _ _ _ _ _ _ => none) N (fun k72 =>
 fun (x74 x75 x76 x77 x78 : Value) (h79 : Hs) =>
 kI64 .lss x74 x9 (fun x80 =>
 jn (fun (h82 : Hs) =>
 jn (fun (x84 x85 x86 : Value) (h87 : Hs) =>
 kI64 .add x74 (Value.int .i64 (.ofNat 1)) (fun x88 =>
 k72 x88 x80 x84 x85 x86 h87)) fun k83 =>
 kIdxA 1 x7 x74 (fun x89 =>
 kLoad x89 h82 (fun x90 =>
 kU64 .gtr x90 (Value.int .u64 (.ofNat 1024)) (fun x91 =>
 jn (fun (x93 : Value) (h94 : Hs) =>
 k83 x90 x91 x93 h94) fun k92 =>
 cnd x91
 (after (fun x95 h96 =>
 after (fun x97 h98 =>
 clearUp h (packR h98 (resV enE h98 [.cell (.c x0) 5 true, .t (.c (Value.bool false))]))) (store1 5 h96 (cellsL x95) (addrOf x0))) (oBuild [(Value.int .i64 (.ofNat 0)), (Value.int .i64 (.ofNat 0)), (Value.int .i64 (.ofNat 0)), (Value.int .i64 (.ofNat 0)), (Value.int .u64 (.ofNat 0))] [] enE h82))
 (k92 x78 h82))))) fun k81 =>
 cnd x80
 (k81 h79)
 (k10 x74 x80 x76 x77 x78 h79))) (Value.int .i64 (.ofNat 0)) dunno dunno dunno x5 h8)) (oSlice 1 (.c a0) (some (.c (Value.int .i64 (.ofNat 1)))) (some (.c (Value.int .i64 (.ofNat 6)))) none enE h6)) fun k4 =>
 cnd x3
 (after (fun x99 h100 =>
 after (fun x101 h102 =>
 clearUp h (packR h102 (resV enE h102 [.cell (.c x0) 5 true, .t (.c (Value.bool false))]))) (store1 5 h100 (cellsL x99) (addrOf x0))) (oBuild [(Value.int .i64 (.ofNat 0)), (Value.int .i64 (.ofNat 0)), (Value.int .i64 (.ofNat 0)), (Value.int .i64 (.ofNat 0)), (Value.int .u64 (.ofNat 0))] [] enE h1))
 (k4 (Value.bool false) h1)))) (oAlloc 92 [(Value.int .i64 (.ofNat 0)), (Value.int .i64 (.ofNat 0)), (Value.int .i64 (.ofNat 0)), (Value.int .i64 (.ofNat 0)), (Value.int .u64 (.ofNat 0))] enE h0)

theorem q70 (R : RnK) (N : Nat) (args : List Value) (h : Hs) : r70 R N args h = callT Tryz.prog N R 70 args h := by kernel_rfl

/-- (lintel/geom.Geom).data -/
noncomputable def r71 (R : RnK) (N : Nat) (args : List Value) (h : Hs) : An := unC args fun a0 s0 => enK h fun h0 =>
 after (fun x0 h1 =>
 kLoads 4 x0 h1 (fun x2 =>
 kCall R 51 [x2] h1 (fun x3 h4 =>
 kExtr x3 0 (fun x5 =>
 kExtr x3 1 (fun x6 =>
 kI64 .add x5 x6 (fun x7 =>
 kFieldA 1 x0 (fun x8 =>
 kLoad x8 h4 (fun x9 =>
 kI64 .mul (Value.int .i64 (.ofNat 2)) x9 (fun x10 =>
 kI64 .add x7 x10 (fun x11 =>
 kFieldA 0 x0 (fun x12 =>
 kLoad x12 h4 (fun x13 =>
 kI64 .sub x13 (Value.int .i64 (.ofNat 1)) (fun x14 =>
 kI64 .sub x14 x11 (fun x15 =>
 clrK h (Value.tuple #[x11, x15]) h4)))))))))))))) (oBox 45 (.c a0) enE h0)

theorem q71 (R : RnK) (N : Nat) (args : List Value) (h : Hs) : r71 R N args h = callT Tryz.prog N R 71 args h := by kernel_rfl

/-- slices.Equal[[]lintel/node.Run,lintel/node.Run] -/
noncomputable def r72 (R : RnK) (N : Nat) (args : List Value) (h : Hs) : An := unC args fun a0 s0 => unC s0 fun a1 s1 => enK h fun h0 =>
 kLenV a0 (fun x0 =>
 kLenV a1 (fun x1 =>
 kI64 .neq x0 x1 (fun x2 =>
 jn (fun (x4 : Value) (h5 : Hs) =>
 kLenV a0 (fun x6 =>
 jn (fun (x8 x9 x10 x11 x12 : Value) (h13 : Hs) =>
 clrK h (Value.bool true) h13) fun k7 =>
 lpT (T := Value → Value → Value → Value → Value → Hs → An) (fun _ _ _ _ _ _ => none) N (fun k14 =>
 fun (x16 x17 x18 x19 x20 : Value) (h21 : Hs) =>
 kI64 .lss x16 x6 (fun x22 =>
 jn (fun (h24 : Hs) =>
 jn (fun (x26 x27 x28 : Value) (h29 : Hs) =>
 kI64 .add x16 (Value.int .i64 (.ofNat 1)) (fun x30 =>
 k14 x30 x22 x26 x27 x28 h29)) fun k25 =>
 kIdxA 2 a0 x16 (fun x31 =>
 kLoads 2 x31 (Hs.mk h24.hp h24.nx h24.nx) (fun x32 =>
 kIdxA 2 a1 x16 (fun x33 =>
 kLoads 2 x33 (Hs.mk h24.hp h24.nx h24.nx) (fun x34 =>
 obK (fun x35 =>
 jn (fun (x37 : Value) (h38 : Hs) =>
 k25 x16 x35 x37 h38) fun k36 =>
 cnd x35
 (clrK h (Value.bool false) h24)
 (k36 x20 h24)) (e2 true (qA [.i, .i]) x32 x34)))))) fun k23 =>
 cnd x22
 (k23 h21)
 (k7 x16 x22 x18 x19 x20 h21))) (Value.int .i64 (.ofNat 0)) dunno dunno dunno x4 h5)) fun k3 =>
 cnd x2
 (clrK h (Value.bool false) h0)
 (k3 (Value.bool false) h0))))

theorem q72 (R : RnK) (N : Nat) (args : List Value) (h : Hs) : r72 R N args h = callT Tryz.prog N R 72 args h := by kernel_rfl

/-- slices.ContainsFunc[[]lintel/node.Run,lintel/node.Run] -/
noncomputable def r73 (R : RnK) (N : Nat) (args : List Value) (h : Hs) : An := unC args fun a0 s0 => unC s0 fun a1 s1 => enK h fun h0 =>
 kCall R 86 [a0, a1] h0 (fun x0 h1 =>
 kI64 .geq x0 (Value.int .i64 (.ofNat 0)) (fun x2 =>
 clrK h x2 h1))

theorem q73 (R : RnK) (N : Nat) (args : List Value) (h : Hs) : r73 R N args h = callT Tryz.prog N R 73 args h := by kernel_rfl

/-- lintel/node.fits$1 -/
noncomputable def r74 (R : RnK) (N : Nat) (args : List Value) (h : Hs) : An := unC args fun a0 s0 => enK h fun h0 =>
 after (fun x0 h1 =>
 kFieldA 0 x0 (fun x2 =>
 kLoad x2 h1 (fun x3 =>
 kCall R 53 [x3, (Value.int .i64 (.ofNat 0)), (Value.int .i64 (.ofNat 2147483648))] h1 (fun x4 h5 =>
 kNot x4 (fun x6 =>
 gdF x6 h5 (fun k7 => kFieldA 1 x0 (fun x8 => k7 x8 h5)) (fun x9 h10 =>
 gdF x6 h10 (fun k11 => kLoad x9 h10 (fun x12 => k11 x12 h10)) (fun x13 h14 =>
 gdF x6 h14 (fun k15 => kCall R 53 [x13, (Value.int .i64 (.ofNat 1)), (Value.int .i64 (.ofNat 2147483648))] h14 (k15)) (fun x16 h17 =>
 gdF x6 h17 (fun k18 => kNot x16 (fun x19 => k18 x19 h17)) (fun x20 h21 =>
 after (fun x22 h23 =>
 clrK h x22 h23) (pickB (.c (Value.bool true)) (.c x20) enE h21 x6)))))))))) (oBox 78 (.c a0) enE h0)

theorem q74 (R : RnK) (N : Nat) (args : List Value) (h : Hs) : r74 R N args h = callT Tryz.prog N R 74 args h := by kernel_rfl

/-- lintel/seal.On -/
noncomputable def r75 (R : RnK) (N : Nat) (args : List Value) (h : Hs) : An := unC args fun a0 s0 => unC s0 fun a1 s1 => enK h fun h0 =>
 kLenV a1 (fun x0 =>
 jn (fun (x2 x3 x4 x5 : Value) (h6 : Hs) =>
 clrK h x4 h6) fun k1 =>
 lpT (T := Value → Value → Value → Value → Hs → An) (fun _ _ _ _ _ => none) N (fun k7 =>
 fun (x9 x10 x11 x12 : Value) (h13 : Hs) =>
 kI64 .lss x9 x0 (fun x14 =>
 jn (fun (h16 : Hs) =>
 jn (fun (x18 x19 : Value) (h20 : Hs) =>
 kI64 .add x9 (Value.int .i64 (.ofNat 1)) (fun x21 =>
 k7 x21 x14 x18 x19 h20)) fun k17 =>
 kIdxA 1 a1 x9 (fun x22 =>
 kLoad x22 h16 (fun x23 =>
 kCall R 87 [x11, (Value.int .i64 (.ofNat 9))] h16 (fun x24 h25 =>
 kU64 .xor x24 x23 (fun x26 =>
 k17 x26 x23 h25))))) fun k15 =>
 cnd x14
 (k15 h13)
 (k1 x9 x14 x11 x12 h13))) (Value.int .i64 (.ofNat 0)) dunno a0 dunno h0)

theorem q75 (R : RnK) (N : Nat) (args : List Value) (h : Hs) : r75 R N args h = callT Tryz.prog N R 75 args h := by kernel_rfl

/-- strings.Contains -/
noncomputable def r76 (R : RnK) (N : Nat) (args : List Value) (h : Hs) : An := unC args fun a0 s0 => unC s0 fun a1 s1 => enK h fun h0 =>
 kCall R 88 [a0, a1] h0 (fun x0 h1 =>
 kI64 .geq x0 (Value.int .i64 (.ofNat 0)) (fun x2 =>
 clrK h x2 h1))

theorem q76 (R : RnK) (N : Nat) (args : List Value) (h : Hs) : r76 R N args h = callT Tryz.prog N R 76 args h := by kernel_rfl

/-- (*lintel/pool.Pool).Group -/
noncomputable def r77 (R : RnK) (N : Nat) (args : List Value) (h : Hs) : An := unC args fun a0 s0 => unC s0 fun a1 s1 => enK h fun h0 =>
 kI64 .lss a1 (Value.int .i64 (.ofNat 0)) (fun x0 =>
 gdF x0 h0 (fun k1 => k1 a1 h0) (fun x2 h3 =>
 gdF x0 h3 (fun k4 => k4 a0 h3) (fun x5 h6 =>
 gdF x0 h6 (fun k7 => kNil x5 (fun x8 => k7 x8 h6)) (fun x9 h10 =>
 gdF x0 h10 (fun k11 => kFieldA 0 x9 (fun x12 => k11 x12 h10)) (fun x13 h14 =>
 gdF x0 h14 (fun k15 => kFieldA 2 x13 (fun x16 => k15 x16 h14)) (fun x17 h18 =>
 gdF x0 h18 (fun k19 => kLoad x17 h18 (fun x20 => k19 x20 h18)) (fun x21 h22 =>
 gdF x0 h22 (fun k23 => kI64 .geq x2 x21 (fun x24 => k23 x24 h22)) (fun x25 h26 =>
 after (fun x27 h28 =>
 jn (fun (x30 x31 : Value) (h32 : Hs) =>
 kNil a0 (fun x33 =>
 kFieldA 0 x33 (fun x34 =>
 kLoads 4 x34 h32 (fun x35 =>
 kCall R 46 [x35] h32 (fun x36 h37 =>
 kExtr x36 0 (fun x38 =>
 kExtr x36 1 (fun x39 =>
 kNil a0 (fun x40 =>
 kFieldA 0 x40 (fun x41 =>
 kFieldA 2 x41 (fun x42 =>
 kLoad x42 h37 (fun x43 =>
 kI64 .quo x39 x43 (fun x44 =>
 kI64 .mul a1 x44 (fun x45 =>
 kI64 .add x38 x45 (fun x46 =>
 kNil a0 (fun x47 =>
 kFieldA 0 x47 (fun x48 =>
 kFieldA 2 x48 (fun x49 =>
 kLoad x49 h37 (fun x50 =>
 kI64 .sub x50 (Value.int .i64 (.ofNat 1)) (fun x51 =>
 kI64 .eql a1 x51 (fun x52 =>
 jn (fun (x54 : Value) (h55 : Hs) =>
 clrK h (Value.tuple #[x46, x54]) h55) fun k53 =>
 cnd x52
 (kI64 .mul a1 x44 (fun x56 =>
 kI64 .sub x39 x56 (fun x57 =>
 k53 x57 h37)))
 (k53 x44 h37))))))))))))))))))))) fun k29 =>
 cnd x27
 (clrK h (Value.tuple #[(Value.int .i64 (.ofNat 0)), (Value.int .i64 (.ofNat 0))]) h28)
 (k29 (Value.int .i64 (.ofNat 0)) (Value.int .i64 (.ofNat 0)) h28)) (pickB (.c (Value.bool true)) (.c x25) enE h26 x0)))))))))

theorem q77 (R : RnK) (N : Nat) (args : List Value) (h : Hs) : r77 R N args h = callT Tryz.prog N R 77 args h := by kernel_rfl

/-- (*lintel/pool.Pool).rows -/
noncomputable def r78 (R : RnK) (N : Nat) (args : List Value) (h : Hs) : An := unC args fun a0 s0 => enK h fun h0 =>
 kNil a0 (fun x0 =>
 kFieldA 0 x0 (fun x1 =>
 kLoads 4 x1 h0 (fun x2 =>
 kCall R 46 [x2] h0 (fun x3 h4 =>
 kExtr x3 0 (fun x5 =>
 kExtr x3 1 (fun x6 =>
 kI64 .add x5 x6 (fun x7 =>
 jn (fun (x9 x10 x11 x12 x13 x14 x15 : Value) (h16 : Hs) =>
 clrK h x15 h16) fun k8 =>
 lpT (T := Value → Value → Value → Value → Value → Value → Value → Hs → An) (fun _ _ _ _ _ _ _ _ => none) N (fun k17 =>
 fun (x19 x20 x21 x22 x23 x24 x25 : Value) (h26 : Hs) =>
 jn (fun (x28 x29 x30 x31 x32 x33 x34 : Value) (h35 : Hs) =>
 k17 x28 x29 x30 x31 x32 x33 x34 h35) fun k27 =>
 kNil a0 (fun x36 =>
 kFieldA 4 x36 (fun x37 =>
 kLoads 1 x37 h26 (fun x38 =>
 kCall R 89 [x38, (Value.bool false), x19, x7] h26 (fun x39 h40 =>
 kExtr x39 0 (fun x41 =>
 kExtr x39 1 (fun x42 =>
 kNot x42 (fun x43 =>
 jn (fun (x45 : Value) (h46 : Hs) =>
 kNil a0 (fun x47 =>
 kFieldA 4 x47 (fun x48 =>
 kLoads 1 x48 h46 (fun x49 =>
 kCall R 89 [x49, (Value.bool true), x41, x7] h46 (fun x50 h51 =>
 kExtr x50 0 (fun x52 =>
 kExtr x50 1 (fun x53 =>
 kNot x53 (fun x54 =>
 jn (fun (x56 : Value) (h57 : Hs) =>
 kI64 .sub x56 x41 (fun x58 =>
 after (fun x59 h60 =>
 after (fun x61 h62 =>
 after (fun x63 h64 =>
 k27 x56 x53 x43 x63 x41 x54 x45 h64) (app0 78 2 16 h62 x22 x61)) (oMkrow 78 2 1 [(Value.int .i64 (.ofNat 0)), (Value.int .i64 (.ofNat 0))] [(0, 2, .c x59)] enE h60)) (oBuild [(Value.int .i64 (.ofNat 0)), (Value.int .i64 (.ofNat 0))] [(0, 1, .c x41), (1, 1, .c x58)] enE h57))) fun k55 =>
 cnd x54
 (k55 x7 h51)
 (k55 x52 h51))))))))) fun k44 =>
 cnd x43
 (clrK h x22 h40)
 (k44 x25 h40))))))))) x5 dunno dunno (Value.slice none 0 0) dunno dunno (Value.slice none 0 0) h4)))))))

theorem q78 (R : RnK) (N : Nat) (args : List Value) (h : Hs) : r78 R N args h = callT Tryz.prog N R 78 args h := by kernel_rfl

/-- (*lintel/pool.Pool).Take$1 -/
noncomputable def r79 (R : RnK) (N : Nat) (args : List Value) (h : Hs) : An := unC args fun a0 s0 => unC s0 fun a1 s1 => unC s1 fun a2 s2 => enK h fun h0 =>
 after (fun x0 h1 =>
 kFieldA 0 x0 (fun x2 =>
 kLoad x2 h1 (fun x3 =>
 kLoad a1 h1 (fun x4 =>
 kI64 .geq x3 x4 (fun x5 =>
 gdT x5 h1 (fun k6 => kFieldA 0 x0 (fun x7 => k6 x7 h1)) (fun x8 h9 =>
 gdT x5 h9 (fun k10 => kLoad x8 h9 (fun x11 => k10 x11 h9)) (fun x12 h13 =>
 gdT x5 h13 (fun k14 => kLoad a1 h13 (fun x15 => k14 x15 h13)) (fun x16 h17 =>
 gdT x5 h17 (fun k18 => kLoad a2 h17 (fun x19 => k18 x19 h17)) (fun x20 h21 =>
 gdT x5 h21 (fun k22 => kI64 .add x16 x20 (fun x23 => k22 x23 h21)) (fun x24 h25 =>
 gdT x5 h25 (fun k26 => kI64 .lss x12 x24 (fun x27 => k26 x27 h25)) (fun x28 h29 =>
 after (fun x30 h31 =>
 clrK h x30 h31) (pickB (.c x28) (.c (Value.bool false)) enE h29 x5)))))))))))) (oBox 78 (.c a0) enE h0)

theorem q79 (R : RnK) (N : Nat) (args : List Value) (h : Hs) : r79 R N args h = callT Tryz.prog N R 79 args h := by kernel_rfl

/-- slices.SortStableFunc[[]lintel/node.Run,lintel/node.Run] -/
noncomputable def r80 (R : RnK) (N : Nat) (args : List Value) (h : Hs) : An := unC args fun a0 s0 => unC s0 fun a1 s1 => enK h fun h0 =>
 kLenV a0 (fun x0 =>
 kCall R 90 [a0, x0, a1] h0 (fun x1 h2 =>
 clrK h (Value.tuple #[]) h2))

theorem q80 (R : RnK) (N : Nat) (args : List Value) (h : Hs) : r80 R N args h = callT Tryz.prog N R 80 args h := by kernel_rfl

/-- (*lintel/pool.Pool).Take$2 -/
noncomputable def r81 (R : RnK) (N : Nat) (args : List Value) (h : Hs) : An := unC args fun a0 s0 => unC s0 fun a1 s1 => unC s1 fun a2 s2 => unC s2 fun a3 s3 => enK h fun h0 =>
 after (fun x0 h1 =>
 after (fun x2 h3 =>
 kFieldA 1 x0 (fun x4 =>
 kLoad x4 (Hs.mk h3.hp h3.nx h3.nx) (fun x5 =>
 kLoad a2 (Hs.mk h3.hp h3.nx h3.nx) (fun x6 =>
 kI64 .geq x5 x6 (fun x7 =>
 gdT x7 h3 (fun k8 => kFieldA 1 x2 (fun x9 => k8 x9 h3)) (fun x10 _ =>
 gdT x7 h3 (fun k12 => kLoad x10 (Hs.mk h3.hp h3.nx h3.nx) (fun x13 => k12 x13 h3)) (fun x14 _ =>
 gdT x7 h3 (fun k16 => kLoad a2 (Hs.mk h3.hp h3.nx h3.nx) (fun x17 => k16 x17 h3)) (fun x18 _ =>
 gdT x7 h3 (fun k20 => kI64 .geq x14 x18 (fun x21 => k20 x21 h3)) (fun x22 _ =>
 after (fun v83 u84 => dPut (fun x24 h25 =>
 gdT x24 h25 (fun k26 => kLoad a3 (dHidS .light [true, true, true, true, true, true, true, true, true, true, true] [none, some (h3.nx, h25.nx), none, none, none, none, none, none, none, none, none] h25) (fun x27 => k26 x27 h25)) (fun x28 _ =>
 gdT x24 h25 (fun k30 => kLoads 2 x0 (dHidS .light [false, true, true, true, true, true, true, true, true, true, true, true] [none, none, some (h3.nx, h25.nx), none, none, none, none, none, none, none, none, none] h25) (fun x31 => k30 x31 h25)) (fun x32 _ =>
 gdT x24 h25 (fun k34 => isVal (fun v35 u36 => dPut k34 v35 (dNext h25 u36 .light) (andB (dFit h25 u36 .light) (Nat.ble 0 u36.lo))) (callV (toRn R) [x32] (dHidS .light [true, true, true, true, true, true, true, true, true, true, true, true, true] [none, none, none, some (h3.nx, h25.nx), none, none, none, none, none, none, none, none, none] h25) x28)) (fun x37 h38 =>
 gdT x24 h38 (fun k39 => kLoad a3 (dHidS .light [false, false, false, true, true, true, true, true, true, true, true, true, true, true] [some (h25.nx, h38.nx), none, none, none, some (h3.nx, h25.nx), none, none, none, none, none, none, none, none, none] h38) (fun x40 => k39 x40 h38)) (fun x41 _ =>
 gdT x24 h38 (fun k43 => kLoads 2 x2 (dHidS .light [false, false, false, false, true, true, true, true, true, true, true, true, true, true, true] [none, some (h25.nx, h38.nx), none, none, none, some (h3.nx, h25.nx), none, none, none, none, none, none, none, none, none] h38) (fun x44 => k43 x44 h38)) (fun x45 _ =>
 gdT x24 h38 (fun k47 => isVal (fun v48 u49 => dPut k47 v48 (dNext h38 u49 .bar) (andB (dFit h38 u49 .bar) (Nat.ble 0 u49.lo))) (callV (toRn R) [x45] h38 x41)) (fun x50 h51 =>
 gdT x24 h51 (fun k52 => obK (fun x53 => k52 x53 h51) (e2 true qB x37 x50)) (fun x54 _ =>
 after (fun v81 u82 => dPut (fun x56 h57 =>
 jn (fun (x59 x60 : Value) (h61 : Hs) =>
 kFieldA 1 x2 (fun x62 =>
 kLoad x62 h61 (fun x63 =>
 kLoad a2 h61 (fun x64 =>
 after (fun x65 h66 =>
 kFieldA 1 x0 (fun x67 =>
 kLoad x67 h66 (fun x68 =>
 kLoad a2 h66 (fun x69 =>
 after (fun x70 h71 =>
 kCall R 82 [x65, x70] h71 (fun x72 h73 =>
 clrK h x72 h73)) (oMinmax false [.c x68, .c x69] enE h66))))) (oMinmax false [.c x63, .c x64] enE h61))))) fun k58 =>
 cnd x56
 (kLoad a3 h57 (fun x74 =>
 kLoads 2 x0 h57 (fun x75 =>
 isVal (fun x76 h77 =>
 jn (fun (x79 : Value) (h80 : Hs) =>
 clrK h (Value.int .i64 (.ofNat 1)) h80) fun k78 =>
 cnd x76
 (clrK h (Value.int .i64 (.negSucc 0)) h77)
 (k78 (Value.int .i64 (.ofNat 0)) h77)) (callV (toRn R) [x75] h57 x74))))
 (k58 dunno (Value.int .i64 (.ofNat 0)) h57)) v81 (dNext h51 u82 .blind) (andB (dFit h51 u82 .blind) (Nat.ble 0 u82.lo))) (pickB (.c x54) (.c (Value.bool false)) enE (Hs.mk .e h51.nx h51.nx) x24))))))))) v83 (dNext h3 u84 .blind) (andB (dFit h3 u84 .blind) (Nat.ble 0 u84.lo))) (pickB (.c x22) (.c (Value.bool false)) enE (Hs.mk .e h3.nx h3.nx) x7)))))))))) (oBox 78 (.c a1) enE h1)) (oBox 78 (.c a0) enE h0)

theorem q81 (R : RnK) (N : Nat) (args : List Value) (h : Hs) : r81 R N args h = callT Tryz.prog N R 81 args h := by kernel_rfl

/-- cmp.Compare[int] -/
noncomputable def r82 (R : RnK) (N : Nat) (args : List Value) (h : Hs) : An := unC args fun a0 s0 => unC s0 fun a1 s1 => enK h fun h0 =>
 kCall R 91 [a0] h0 (fun x0 h1 =>
 kCall R 91 [a1] h1 (fun x2 h3 =>
 jn (fun (x5 x6 : Value) (h7 : Hs) =>
 jn (fun (x9 : Value) (h10 : Hs) =>
 kI64 .lss a0 a1 (fun x11 =>
 jn (fun (x13 : Value) (h14 : Hs) =>
 kI64 .gtr a0 a1 (fun x15 =>
 jn (fun (x17 : Value) (h18 : Hs) =>
 clrK h (Value.int .i64 (.ofNat 0)) h18) fun k16 =>
 cnd x15
 (clrK h (Value.int .i64 (.ofNat 1)) h14)
 (k16 x13 h14))) fun k12 =>
 cnd x11
 (clrK h (Value.int .i64 (.negSucc 0)) h10)
 (k12 x9 h10))) fun k8 =>
 cnd x2
 (clrK h (Value.int .i64 (.ofNat 1)) h7)
 (k8 x6 h7)) fun k4 =>
 cnd x0
 (jn (fun (x20 : Value) (h21 : Hs) =>
 clrK h (Value.int .i64 (.negSucc 0)) h21) fun k19 =>
 cnd x2
 (clrK h (Value.int .i64 (.ofNat 0)) h3)
 (k19 (Value.int .i64 (.ofNat 0)) h3))
 (k4 dunno (Value.int .i64 (.ofNat 0)) h3)))

theorem q82 (R : RnK) (N : Nat) (args : List Value) (h : Hs) : r82 R N args h = callT Tryz.prog N R 82 args h := by kernel_rfl

/-- lintel/pool.enough -/
noncomputable def r83 (R : RnK) (N : Nat) (args : List Value) (h : Hs) : An := unC args fun a0 s0 => unC s0 fun a1 s1 => enK h fun h0 =>
 kLenV a0 (fun x0 =>
 jn (fun (x2 x3 x4 x5 x6 x7 : Value) (h8 : Hs) =>
 clrK h x7 h8) fun k1 =>
 lpT (T := Value → Value → Value → Value → Value → Value → Hs → An) (fun _ _ _ _ _ _ _ => none) N (fun k9 =>
 fun (x11 x12 x13 x14 x15 x16 : Value) (h17 : Hs) =>
 kI64 .lss x11 x0 (fun x18 =>
 jn (fun (h20 : Hs) =>
 jn (fun (x22 x23 x24 x25 : Value) (h26 : Hs) =>
 kI64 .add x11 (Value.int .i64 (.ofNat 1)) (fun x27 =>
 k9 x27 x18 x22 x23 x24 x25 h26)) fun k21 =>
 kIdxA 2 a0 x11 (fun x28 =>
 kLoads 2 x28 h20 (fun x29 =>
 after (fun x30 h31 =>
 after (fun x32 h33 =>
 kI64 .eql x13 (Value.int .i64 (.ofNat 0)) (fun x34 =>
 jn (fun (h36 : Hs) =>
 kFieldA 1 x30 (fun x37 =>
 kLoad x37 h36 (fun x38 =>
 after (fun x39 h40 =>
 kFieldA 1 x30 (fun x41 =>
 kStore1 x41 x39 h40 (fun x42 h43 =>
 kFieldA 1 x30 (fun x44 =>
 kLoad x44 h43 (fun x45 =>
 kI64 .sub x13 x45 (fun x46 =>
 kLoads 2 x30 h43 (fun x47 =>
 after (fun x48 h49 =>
 after (fun x50 h51 =>
 k21 x46 x34 x30 x50 h51) (app0 78 2 16 h49 x16 x48)) (oMkrow 78 2 1 [(Value.int .i64 (.ofNat 0)), (Value.int .i64 (.ofNat 0))] [(0, 2, .c x47)] enE h43)))))))) (oMinmax false [.c x38, .c x13] enE h36)))) fun k35 =>
 cnd x34
 (k1 x11 x18 x13 x34 x30 x16 h33)
 (k35 h33))) (store1 2 h31 (cellsL x29) (addrOf x30))) (oAlloc 78 [(Value.int .i64 (.ofNat 0)), (Value.int .i64 (.ofNat 0))] enE h20)))) fun k19 =>
 cnd x18
 (k19 h17)
 (k1 x11 x18 x13 x14 x15 x16 h17))) (Value.int .i64 (.ofNat 0)) dunno a1 dunno dunno (Value.slice none 0 0) h0)

theorem q83 (R : RnK) (N : Nat) (args : List Value) (h : Hs) : r83 R N args h = callT Tryz.prog N R 83 args h := by kernel_rfl

/-- (*lintel/pool.Pool).mark -/
noncomputable def r84 (R : RnK) (N : Nat) (args : List Value) (h : Hs) : An := unC args fun a0 s0 => unC s0 fun a1 s1 => unC s1 fun a2 s2 => enK h fun h0 =>
 kLenV a2 (fun x0 =>
 jn (fun (x2 x3 x4 x5 x6 x7 x8 : Value) (h9 : Hs) =>
 clrK h (Value.tuple #[]) h9) fun k1 =>
 lpT (T := Value → Value → Value → Value → Value → Value → Value → Hs → An) (fun _ _ _ _ _ _ _ _ => none) N (fun k10 =>
 fun (x12 x13 x14 x15 x16 x17 x18 : Value) (h19 : Hs) =>
 kI64 .lss x12 x0 (fun x20 =>
 jn (fun (h22 : Hs) =>
 jn (fun (x24 x25 x26 x27 x28 : Value) (h29 : Hs) =>
 kI64 .add x12 (Value.int .i64 (.ofNat 1)) (fun x30 =>
 k10 x30 x20 x24 x25 x26 x27 x28 h29)) fun k23 =>
 kIdxA 2 a2 x12 (fun x31 =>
 kLoads 2 x31 h22 (fun x32 =>
 after (fun x33 h34 =>
 after (fun x35 h36 =>
 kFieldA 1 x33 (fun x37 =>
 kLoad x37 h36 (fun x38 =>
 jn (fun (x40 x41 x42 : Value) (h43 : Hs) =>
 k23 x33 x40 x38 x41 x42 h43) fun k39 =>
 lpT (T := Value → Value → Value → Hs → An) (fun _ _ _ _ => none) N (fun k44 =>
 fun (x46 x47 x48 : Value) (h49 : Hs) =>
 kI64 .lss x46 x38 (fun x50 =>
 jn (fun (h52 : Hs) =>
 jn (fun (x54 : Value) (h55 : Hs) =>
 kI64 .add x46 (Value.int .i64 (.ofNat 1)) (fun x56 =>
 k44 x56 x50 x54 h55)) fun k53 =>
 kNil a0 (fun x57 =>
 kFieldA 4 x57 (fun x58 =>
 kLoads 1 x58 (Hs.mk h52.hp h52.nx h52.nx) (fun x59 =>
 kFieldA 0 x33 (fun x60 =>
 kLoad x60 (Hs.mk h52.hp h52.nx h52.nx) (fun x61 =>
 kI64 .add x61 x46 (fun x62 =>
 after (fun v75 u76 => dPut (fun x63 h64 =>
 kCall R 48 [x59, a1, x63] h64 (fun v73 u74 => dPut (fun x65 h66 =>
 kNil a0 (fun x67 =>
 kFieldA 4 x67 (fun x68 =>
 kStore1 x68 x65 h66 (fun v71 u72 => dPut (fun x69 h70 =>
 k53 x46 h70) v71 (dNext h66 u72 .bar) (andB (dFit h66 u72 .bar) (Nat.ble 0 u72.lo)))))) v73 (dNext h64 u74 .bar) (andB (dFit h64 u74 .bar) (Nat.ble 0 u74.lo)))) v75 (dNext h52 u76 .light) (andB (dFit h52 u76 .light) (Nat.ble 0 u76.lo))) (oMkrow 3 1 1 [(Value.int .i64 (.ofNat 0))] [(0, 1, .c x62)] enE (Hs.mk h52.hp h52.nx h52.nx))))))))) fun k51 =>
 cnd x50
 (k51 h49)
 (k39 x46 x50 x48 h49))) (Value.int .i64 (.ofNat 0)) x17 x18 h36))) (store1 2 h34 (cellsL x32) (addrOf x33))) (oAlloc 78 [(Value.int .i64 (.ofNat 0)), (Value.int .i64 (.ofNat 0))] enE h22)))) fun k21 =>
 cnd x20
 (k21 h19)
 (k1 x12 x20 x14 x15 x16 x17 x18 h19))) (Value.int .i64 (.ofNat 0)) dunno dunno dunno dunno dunno dunno h0)

theorem q84 (R : RnK) (N : Nat) (args : List Value) (h : Hs) : r84 R N args h = callT Tryz.prog N R 84 args h := by kernel_rfl

/-- slices.IndexFunc[[]lintel/node.Run,lintel/node.Run] -/
noncomputable def r86 (R : RnK) (N : Nat) (args : List Value) (h : Hs) : An := unC args fun a0 s0 => unC s0 fun a1 s1 => enK h fun h0 =>
 kLenV a0 (fun x0 =>
 jn (fun (x2 x3 x4 x5 x6 : Value) (h7 : Hs) =>
 clrK h (Value.int .i64 (.negSucc 0)) h7) fun k1 =>
 lpT (T := Value → Value → Value → Value → Value → Hs → An) (fun _ _ _ _ _ _ => none) N (fun k8 =>
 fun (x10 x11 x12 x13 x14 : Value) (h15 : Hs) =>
 kI64 .lss x10 x0 (fun x16 =>
 jn (fun (h18 : Hs) =>
 jn (fun (x20 x21 x22 : Value) (h23 : Hs) =>
 kI64 .add x10 (Value.int .i64 (.ofNat 1)) (fun x24 =>
 k8 x24 x16 x20 x21 x22 h23)) fun k19 =>
 kIdxA 2 a0 x10 (fun x25 =>
 kLoads 2 x25 h18 (fun x26 =>
 isVal (fun x27 h28 =>
 jn (fun (x30 : Value) (h31 : Hs) =>
 k19 x10 x27 x30 h31) fun k29 =>
 cnd x27
 (clrK h x10 h28)
 (k29 x14 h28)) (callV (toRn R) [x26] h18 a1)))) fun k17 =>
 cnd x16
 (k17 h15)
 (k1 x10 x16 x12 x13 x14 h15))) (Value.int .i64 (.ofNat 0)) dunno dunno dunno (Value.int .i64 (.ofNat 0)) h0)

theorem q86 (R : RnK) (N : Nat) (args : List Value) (h : Hs) : r86 R N args h = callT Tryz.prog N R 86 args h := by kernel_rfl

/-- math/bits.RotateLeft64 -/
noncomputable def r87 (R : RnK) (N : Nat) (args : List Value) (h : Hs) : An := unC args fun a0 s0 => unC s0 fun a1 s1 => enK h fun h0 =>
 kToU a1 (fun x0 =>
 kU64 .and x0 (Value.int .u64 (.ofNat 63)) (fun x1 =>
 kShl a0 x1 (fun x2 =>
 kU64 .sub (Value.int .u64 (.ofNat 64)) x1 (fun x3 =>
 kShr a0 x3 (fun x4 =>
 kU64 .or x2 x4 (fun x5 =>
 clrK h x5 h0))))))

theorem q87 (R : RnK) (N : Nat) (args : List Value) (h : Hs) : r87 R N args h = callT Tryz.prog N R 87 args h := by kernel_rfl

/-- strings.Index -/
noncomputable def r88 (R : RnK) (N : Nat) (args : List Value) (h : Hs) : An := unC args fun a0 s0 => unC s0 fun a1 s1 => enK h fun h0 =>
 kCall R 93 [a0, a1] h0 (fun x0 h1 =>
 clrK h x0 h1)

theorem q88 (R : RnK) (N : Nat) (args : List Value) (h : Hs) : r88 R N args h = callT Tryz.prog N R 88 args h := by kernel_rfl

/-- lintel/bits.Next -/
noncomputable def r89 (R : RnK) (N : Nat) (args : List Value) (h : Hs) : An := unC args fun a0 s0 => unC s0 fun a1 s1 => unC s1 fun a2 s2 => unC s2 fun a3 s3 => enK h fun h0 =>
 after (fun x0 h1 =>
 after (fun x2 h3 =>
 jn (fun (x5 x6 x7 x8 x9 : Value) (h10 : Hs) =>
 clrK h (Value.tuple #[(Value.int .i64 (.ofNat 0)), (Value.bool false)]) h10) fun k4 =>
 lpT (T := Value → Value → Value → Value → Value → Hs → An) (fun _ _ _ _ _ _ => none) N (fun k11 =>
 fun (x13 x14 x15 x16 x17 : Value) (h18 : Hs) =>
 kI64 .lss x13 a3 (fun x19 =>
 gdT x19 h18 (fun k20 => kLoads 1 x0 h18 (fun x21 => k20 x21 h18)) (fun x22 h23 =>
 gdT x19 h23 (fun k24 => k24 x13 h23) (fun x25 h26 =>
 gdT x19 h26 (fun k27 => kCall R 66 [x22, x25] h26 (k27)) (fun x28 h29 =>
 after (fun x30 h31 =>
 jn (fun (h33 : Hs) =>
 jn (fun (x35 x36 x37 : Value) (h38 : Hs) =>
 kI64 .add x13 (Value.int .i64 (.ofNat 1)) (fun x39 =>
 k11 x39 x30 x35 x36 x37 h38)) fun k34 =>
 kLoads 1 x0 h33 (fun x40 =>
 kCall R 35 [x40, x13] h33 (fun x41 h42 =>
 obK (fun x43 =>
 jn (fun (x45 x46 : Value) (h47 : Hs) =>
 k34 x43 x45 x46 h47) fun k44 =>
 cnd x43
 (clrK h (Value.tuple #[x13, (Value.bool true)]) h42)
 (k44 x16 x17 h42)) (e2 false qB x41 a1)))) fun k32 =>
 cnd x30
 (k32 h31)
 (k4 x13 x30 x15 x16 x17 h31)) (pickB (.c x28) (.c (Value.bool false)) enE h29 x19)))))) x2 dunno dunno (Value.int .i64 (.ofNat 0)) (Value.bool false) h3) (oMinmax true [.c a2, .c (Value.int .i64 (.ofNat 0))] enE h1)) (oBox 80 (.c a0) enE h0)

theorem q89 (R : RnK) (N : Nat) (args : List Value) (h : Hs) : r89 R N args h = callT Tryz.prog N R 89 args h := by kernel_rfl

/-- slices.stableCmpFunc[lintel/node.Run] -/
noncomputable def r90 (R : RnK) (N : Nat) (args : List Value) (h : Hs) : An := unC args fun a0 s0 => unC s0 fun a1 s1 => unC s1 fun a2 s2 => enK h fun h0 =>
 jn (fun (x1 x2 x3 : Value) (h4 : Hs) =>
 kCall R 94 [a0, x3, a1, a2] h4 (fun x5 h6 =>
 jn (fun (x8 x9 x10 x11 x12 x13 x14 : Value) (h15 : Hs) =>
 clrK h (Value.tuple #[]) h15) fun k7 =>
 lpT (T := Value → Value → Value → Value → Value → Value → Value → Hs → An) (fun _ _ _ _ _ _ _ _ => none) N (fun k16 =>
 fun (x18 x19 x20 x21 x22 x23 x24 : Value) (h25 : Hs) =>
 kI64 .lss x18 a1 (fun x26 =>
 jn (fun (h28 : Hs) =>
 jn (fun (x30 x31 x32 x33 x34 x35 : Value) (h36 : Hs) =>
 k16 x30 x31 x32 x26 x33 x34 x35 h36) fun k29 =>
 kI64 .mul (Value.int .i64 (.ofNat 2)) x18 (fun x37 =>
 jn (fun (x39 x40 x41 : Value) (h42 : Hs) =>
 kI64 .add x40 x18 (fun x43 =>
 kI64 .lss x43 a1 (fun x44 =>
 jn (fun (h46 : Hs) =>
 kI64 .mul x18 (Value.int .i64 (.ofNat 2)) (fun x47 =>
 k29 x47 x39 x40 x41 x43 x44 h46)) fun k45 =>
 cnd x44
 (kCall R 95 [a0, x40, x43, a1, a2] h42 (fun x48 h49 =>
 k45 h49))
 (k45 h42)))) fun k38 =>
 lpT (T := Value → Value → Value → Hs → An) (fun _ _ _ _ => none) N (fun k50 =>
 fun (x52 x53 x54 : Value) (h55 : Hs) =>
 kI64 .leq x52 a1 (fun x56 =>
 jn (fun (h58 : Hs) =>
 jn (fun (x60 x61 : Value) (h62 : Hs) =>
 k50 x60 x61 x56 h62) fun k59 =>
 kI64 .add x53 x18 (fun x63 =>
 kCall R 95 [a0, x53, x63, x52, a2] h58 (fun x64 h65 =>
 kI64 .mul (Value.int .i64 (.ofNat 2)) x18 (fun x66 =>
 kI64 .add x52 x66 (fun x67 =>
 k59 x67 x52 h65))))) fun k57 =>
 cnd x56
 (k57 h55)
 (k38 x52 x53 x56 h55))) x37 (Value.int .i64 (.ofNat 0)) x22 h28)) fun k27 =>
 cnd x26
 (k27 h25)
 (k7 x18 x19 x20 x26 x22 x23 x24 h25))) (Value.int .i64 (.ofNat 20)) x1 x3 dunno dunno dunno dunno h6)) fun k0 =>
 lpT (T := Value → Value → Value → Hs → An) (fun _ _ _ _ => none) N (fun k68 =>
 fun (x70 x71 x72 : Value) (h73 : Hs) =>
 kI64 .leq x70 a1 (fun x74 =>
 jn (fun (h76 : Hs) =>
 jn (fun (x78 x79 : Value) (h80 : Hs) =>
 k68 x78 x74 x79 h80) fun k77 =>
 kCall R 94 [a0, x72, x70, a2] h76 (fun x81 h82 =>
 kI64 .add x70 (Value.int .i64 (.ofNat 20)) (fun x83 =>
 k77 x83 x70 h82))) fun k75 =>
 cnd x74
 (k75 h73)
 (k0 x70 x74 x72 h73))) (Value.int .i64 (.ofNat 20)) dunno (Value.int .i64 (.ofNat 0)) h0

theorem q90 (R : RnK) (N : Nat) (args : List Value) (h : Hs) : r90 R N args h = callT Tryz.prog N R 90 args h := by kernel_rfl

/-- cmp.isNaN[int] -/
noncomputable def r91 (R : RnK) (N : Nat) (args : List Value) (h : Hs) : An := unC args fun a0 s0 => enK h fun h0 =>
 kI64 .neq a0 a0 (fun x0 =>
 clrK h x0 h0)

theorem q91 (R : RnK) (N : Nat) (args : List Value) (h : Hs) : r91 R N args h = callT Tryz.prog N R 91 args h := by kernel_rfl

/-- internal/stringslite.Index -/
noncomputable def r93 (R : RnK) (N : Nat) (args : List Value) (h : Hs) : An := unC args fun a0 s0 => unC s0 fun a1 s1 => enK h fun h0 =>
 kLenS a1 (fun x0 =>
 jn (fun (x2 x3 x4 x5 x6 : Value) (h7 : Hs) =>
 after (fun x8 h9 =>
 after (fun x10 h11 =>
 kLenS a0 (fun x12 =>
 kI64 .sub x12 x0 (fun x13 =>
 kI64 .add x13 (Value.int .i64 (.ofNat 1)) (fun x14 =>
 jn (fun (x16 x17 x18 x19 x20 x21 x22 x23 x24 x25 x26 x27 x28 x29 : Value) (h30 : Hs) =>
 clrK h (Value.int .i64 (.negSucc 0)) h30) fun k15 =>
 lpT (T := Value → Value → Value → Value → Value → Value → Value → Value → Value → Value → Value → Value → Value → Value → Hs → An) (fun _ _ _ _ _ _ _ _ _ _ _ _ _ _ _ => none) N (fun k31 =>
 fun (x33 x34 x35 x36 x37 x38 x39 x40 x41 x42 x43 x44 x45 x46 : Value) (h47 : Hs) =>
 kI64 .lss x33 x14 (fun x48 =>
 jn (fun (h50 : Hs) =>
 jn (fun (x52 x53 x54 x55 x56 x57 x58 x59 x60 x61 x62 x63 x64 : Value) (h65 : Hs) =>
 k31 x52 x48 x53 x54 x55 x56 x57 x58 x59 x60 x61 x62 x63 x64 h65) fun k51 =>
 after (fun x66 h67 =>
 kU8 .neq x66 x8 (fun x68 =>
 jn (fun (x70 x71 x72 x73 : Value) (h74 : Hs) =>
 kI64 .add x70 (Value.int .i64 (.ofNat 1)) (fun x75 =>
 after (fun x76 h77 =>
 kU8 .eql x76 x10 (fun x78 =>
 gdT x78 h77 (fun k79 => k79 a0 h77) (fun x80 h81 =>
 gdT x78 h81 (fun k82 => k82 x70 h81) (fun x83 h84 =>
 gdT x78 h84 (fun k85 => k85 x70 h84) (fun x86 h87 =>
 gdT x78 h87 (fun k88 => k88 x0 h87) (fun x89 h90 =>
 gdT x78 h90 (fun k91 => kI64 .add x86 x89 (fun x92 => k91 x92 h90)) (fun x93 h94 =>
 gdT x78 h94 (fun k95 => after (k95) (oCutstr (.c x80) (some (.c x83)) (some (.c x93)) enE h94)) (fun x96 h97 =>
 gdT x78 h97 (fun k98 => k98 a1 h97) (fun x99 h100 =>
 gdT x78 h100 (fun k101 => obK (fun x102 => k101 x102 h100) (s2 .eql x96 x99)) (fun x103 h104 =>
 after (fun x105 h106 =>
 jn (fun (x108 : Value) (h109 : Hs) =>
 kI64 .add x70 (Value.int .i64 (.ofNat 1)) (fun x110 =>
 kI64 .add x39 (Value.int .i64 (.ofNat 1)) (fun x111 =>
 none))) fun k107 =>
 cnd x105
 (clrK h x70 h106)
 (k107 x73 h106)) (pickB (.c x103) (.c (Value.bool false)) enE h104 x78))))))))))) (oIdxS (.c a0) (.c x75) enE h74))) fun k69 =>
 cnd x68
 (kI64 .add x33 (Value.int .i64 (.ofNat 1)) (fun x196 =>
 after (fun x197 h198 =>
 kCall R 96 [x197, x8] h198 (fun x199 h200 =>
 kI64 .lss x199 (Value.int .i64 (.ofNat 0)) (fun x201 =>
 jn (fun (x203 : Value) (h204 : Hs) =>
 kI64 .add x199 (Value.int .i64 (.ofNat 1)) (fun x205 =>
 kI64 .add x33 x205 (fun x206 =>
 k69 x206 x199 x201 x203 h204))) fun k202 =>
 cnd x201
 (clrK h (Value.int .i64 (.negSucc 0)) h200)
 (k202 x46 h200)))) (oCutstr (.c a0) (some (.c x196)) (some (.c x14)) enE h67)))
 (k69 x33 x36 x37 x46 h67))) (oIdxS (.c a0) (.c x33) enE h50)) fun k49 =>
 cnd x48
 (k49 h47)
 (k15 x33 x48 x35 x36 x37 x38 x39 x40 x41 x42 x43 x44 x45 x46 h47))) (Value.int .i64 (.ofNat 0)) dunno dunno dunno dunno dunno (Value.int .i64 (.ofNat 0)) dunno dunno dunno dunno dunno dunno x6 h11)))) (oIdxS (.c a1) (.c (Value.int .i64 (.ofNat 1))) enE h9)) (oIdxS (.c a1) (.c (Value.int .i64 (.ofNat 0))) enE h7)) fun k1 =>
 kI64 .eql x0 (Value.int .i64 (.ofNat 0)) (fun x207 =>
 gdF x207 h0 (fun k208 => k208 a1 h0) (fun x209 h210 =>
 gdF x207 h210 (fun k211 => k211 a0 h210) (fun x212 h213 =>
 gdF x207 h213 (fun k214 => obK (fun x215 => k214 x215 h213) (s2 .eql x209 x212)) (fun x216 h217 =>
 after (fun x218 h219 =>
 jn (fun (x221 x222 x223 x224 : Value) (h225 : Hs) =>
 k1 x218 x221 x222 x223 x224 h225) fun k220 =>
 cnd x218
 (clrK h (Value.int .i64 (.ofNat 0)) h219)
 (kI64 .eql x0 (Value.int .i64 (.ofNat 1)) (fun x226 =>
 jn (fun (x228 x229 x230 : Value) (h231 : Hs) =>
 k220 x226 x228 x229 x230 h231) fun k227 =>
 cnd x226
 (after (fun x232 h233 =>
 kCall R 96 [a0, x232] h233 (fun x234 h235 =>
 clrK h x234 h235)) (oIdxS (.c a1) (.c (Value.int .i64 (.ofNat 0))) enE h219))
 (kLenS a0 (fun x236 =>
 kI64 .geq x0 x236 (fun x237 =>
 jn (fun (x239 x240 : Value) (h241 : Hs) =>
 k227 x237 x239 x240 h241) fun k238 =>
 cnd x237
 (clrK h (Value.int .i64 (.negSucc 0)) h219)
 (none))))))) (pickB (.c (Value.bool true)) (.c x216) enE h217 x207))))))

theorem q93 (R : RnK) (N : Nat) (args : List Value) (h : Hs) : r93 R N args h = callT Tryz.prog N R 93 args h := by kernel_rfl

/-- slices.insertionSortCmpFunc[lintel/node.Run] -/
noncomputable def r94 (R : RnK) (N : Nat) (args : List Value) (h : Hs) : An := unC args fun a0 s0 => unC s0 fun a1 s1 => unC s1 fun a2 s2 => unC s2 fun a3 s3 => enK h fun h0 =>
 kI64 .add a1 (Value.int .i64 (.ofNat 1)) (fun x0 =>
 jn (fun (x2 x3 x4 x5 : Value) (h6 : Hs) =>
 clrK h (Value.tuple #[]) h6) fun k1 =>
 lpT (T := Value → Value → Value → Value → Hs → An) (fun _ _ _ _ _ => none) N (fun k7 =>
 fun (x9 x10 x11 x12 : Value) (h13 : Hs) =>
 kI64 .lss x9 a2 (fun x14 =>
 jn (fun (h16 : Hs) =>
 jn (fun (x18 x19 : Value) (h20 : Hs) =>
 kI64 .add x9 (Value.int .i64 (.ofNat 1)) (fun x21 =>
 k7 x21 x14 x18 x19 h20)) fun k17 =>
 jn (fun (x23 x24 : Value) (h25 : Hs) =>
 k17 x23 x24 h25) fun k22 =>
 lpT (T := Value → Value → Hs → An) (fun _ _ _ => none) N (fun k26 =>
 fun (x28 x29 : Value) (h30 : Hs) =>
 kI64 .gtr x28 a1 (fun x31 =>
 gdT x31 h30 (fun k32 => k32 a3 h30) (fun x33 _ =>
 gdT x31 h30 (fun k35 => k35 a0 h30) (fun x36 _ =>
 gdT x31 h30 (fun k38 => k38 x28 h30) (fun x39 _ =>
 gdT x31 h30 (fun k41 => kIdxA 2 x36 x39 (fun x42 => k41 x42 h30)) (fun x43 _ =>
 gdT x31 h30 (fun k45 => kLoads 2 x43 (Hs.mk h30.hp h30.nx h30.nx) (fun x46 => k45 x46 h30)) (fun x47 _ =>
 gdT x31 h30 (fun k49 => k49 a0 h30) (fun x50 _ =>
 gdT x31 h30 (fun k52 => k52 x28 h30) (fun x53 _ =>
 gdT x31 h30 (fun k55 => kI64 .sub x53 (Value.int .i64 (.ofNat 1)) (fun x56 => k55 x56 h30)) (fun x57 _ =>
 gdT x31 h30 (fun k59 => kIdxA 2 x50 x57 (fun x60 => k59 x60 h30)) (fun x61 _ =>
 gdT x31 h30 (fun k63 => kLoads 2 x61 (Hs.mk h30.hp h30.nx h30.nx) (fun x64 => k63 x64 h30)) (fun x65 _ =>
 gdT x31 h30 (fun k67 => isVal (fun v68 u69 => dPut k67 v68 (dNext h30 u69 .bar) (andB (dFit h30 u69 .bar) (Nat.ble 0 u69.lo))) (callV (toRn R) [x47, x65] h30 x33)) (fun x70 h71 =>
 gdT x31 h71 (fun k72 => kI64 .lss x70 (Value.int .i64 (.ofNat 0)) (fun x73 => k72 x73 h71)) (fun x74 _ =>
 after (fun v99 u100 => dPut (fun x76 h77 =>
 jn (fun (h79 : Hs) =>
 jn (fun (h81 : Hs) =>
 kI64 .sub x28 (Value.int .i64 (.ofNat 1)) (fun x82 =>
 k26 x82 x76 h81)) fun k80 =>
 kI64 .sub x28 (Value.int .i64 (.ofNat 1)) (fun x83 =>
 kI64 .sub x28 (Value.int .i64 (.ofNat 1)) (fun x84 =>
 kIdxA 2 a0 x84 (fun x85 =>
 kLoads 2 x85 (Hs.mk h79.hp h79.nx h79.nx) (fun x86 =>
 kIdxA 2 a0 x28 (fun x87 =>
 kLoads 2 x87 (Hs.mk h79.hp h79.nx h79.nx) (fun x88 =>
 kIdxA 2 a0 x28 (fun x89 =>
 after (fun v97 u98 => dPut (fun x90 h91 =>
 kIdxA 2 a0 x83 (fun x92 =>
 after (fun v95 u96 => dPut (fun x93 h94 =>
 k80 h94) v95 (dNext h91 u96 .bar) (andB (dFit h91 u96 .bar) (Nat.ble 0 u96.lo))) (store1 2 h91 (cellsL x88) (addrOf x92)))) v97 (dNext h79 u98 .bar) (andB (dFit h79 u98 .bar) (Nat.ble 0 u98.lo))) (store1 2 h79 (cellsL x86) (addrOf x89)))))))))) fun k78 =>
 cnd x76
 (k78 h77)
 (k22 x28 x76 h77)) v99 (dNext h71 u100 .blind) (andB (dFit h71 u100 .blind) (Nat.ble 0 u100.lo))) (pickB (.c x74) (.c (Value.bool false)) enE (Hs.mk .e h71.nx h71.nx) x31))))))))))))))) x9 x12 h16) fun k15 =>
 cnd x14
 (k15 h13)
 (k1 x9 x14 x11 x12 h13))) x0 dunno dunno dunno h0)

theorem q94 (R : RnK) (N : Nat) (args : List Value) (h : Hs) : r94 R N args h = callT Tryz.prog N R 94 args h := by kernel_rfl

/-- slices.symMergeCmpFunc[lintel/node.Run] -/
noncomputable def r95 (R : RnK) (N : Nat) (args : List Value) (h : Hs) : An := unC args fun a0 s0 => unC s0 fun a1 s1 => unC s1 fun a2 s2 => unC s2 fun a3 s3 => unC s3 fun a4 s4 => enK h fun h0 =>
 kI64 .sub a2 a1 (fun x0 =>
 kI64 .eql x0 (Value.int .i64 (.ofNat 1)) (fun x1 =>
 jn (fun (x3 x4 x5 x6 x7 x8 x9 : Value) (h10 : Hs) =>
 kI64 .sub a3 a2 (fun x11 =>
 kI64 .eql x11 (Value.int .i64 (.ofNat 1)) (fun x12 =>
 jn (fun (x14 x15 x16 x17 x18 x19 x20 : Value) (h21 : Hs) =>
 kI64 .add a1 a3 (fun x22 =>
 kToU x22 (fun x23 =>
 kShr x23 (Value.int .u64 (.ofNat 1)) (fun x24 =>
 kTo64 x24 (fun x25 =>
 kI64 .add x25 a2 (fun x26 =>
 kI64 .gtr a2 x25 (fun x27 =>
 jn (fun (x29 x30 : Value) (h31 : Hs) =>
 kI64 .sub x26 (Value.int .i64 (.ofNat 1)) (fun x32 =>
 jn (fun (x34 x35 x36 x37 x38 : Value) (h39 : Hs) =>
 kI64 .sub x26 x34 (fun x40 =>
 kI64 .lss x34 a2 (fun x41 =>
 gdT x41 h39 (fun k42 => k42 a2 h39) (fun x43 h44 =>
 gdT x41 h44 (fun k45 => k45 x40 h44) (fun x46 h47 =>
 gdT x41 h47 (fun k48 => kI64 .lss x43 x46 (fun x49 => k48 x49 h47)) (fun x50 h51 =>
 after (fun x52 h53 =>
 jn (fun (h55 : Hs) =>
 kI64 .lss a1 x34 (fun x56 =>
 gdT x56 h55 (fun k57 => k57 x34 h55) (fun x58 h59 =>
 gdT x56 h59 (fun k60 => k60 x25 h59) (fun x61 h62 =>
 gdT x56 h62 (fun k63 => kI64 .lss x58 x61 (fun x64 => k63 x64 h62)) (fun x65 h66 =>
 after (fun x67 h68 =>
 jn (fun (h70 : Hs) =>
 kI64 .lss x25 x40 (fun x71 =>
 gdT x71 h70 (fun k72 => k72 x40 h70) (fun x73 h74 =>
 gdT x71 h74 (fun k75 => k75 a3 h74) (fun x76 h77 =>
 gdT x71 h77 (fun k78 => kI64 .lss x73 x76 (fun x79 => k78 x79 h77)) (fun x80 h81 =>
 after (fun x82 h83 =>
 jn (fun (h85 : Hs) =>
 clrK h (Value.tuple #[]) h85) fun k84 =>
 cnd x82
 (kCall R 95 [a0, x25, x40, a3, a4] h83 (fun x86 h87 =>
 k84 h87))
 (k84 h83)) (pickB (.c x80) (.c (Value.bool false)) enE h81 x71)))))) fun k69 =>
 cnd x67
 (kCall R 95 [a0, a1, x34, x25, a4] h68 (fun x88 h89 =>
 k69 h89))
 (k69 h68)) (pickB (.c x65) (.c (Value.bool false)) enE h66 x56)))))) fun k54 =>
 cnd x52
 (kCall R 100 [a0, x34, a2, x40, a4] h53 (fun x90 h91 =>
 k54 h91))
 (k54 h53)) (pickB (.c x50) (.c (Value.bool false)) enE h51 x41))))))) fun k33 =>
 lpT (T := Value → Value → Value → Value → Value → Hs → An) (fun _ _ _ _ _ _ => none) N (fun k92 =>
 fun (x94 x95 x96 x97 x98 : Value) (h99 : Hs) =>
 kI64 .lss x94 x95 (fun x100 =>
 jn (fun (h102 : Hs) =>
 jn (fun (x104 x105 x106 x107 : Value) (h108 : Hs) =>
 k92 x104 x105 x100 x106 x107 h108) fun k103 =>
 kI64 .add x94 x95 (fun x109 =>
 kToU x109 (fun x110 =>
 kShr x110 (Value.int .u64 (.ofNat 1)) (fun x111 =>
 kTo64 x111 (fun x112 =>
 kI64 .sub x32 x112 (fun x113 =>
 kIdxA 2 a0 x113 (fun x114 =>
 kLoads 2 x114 (Hs.mk h102.hp h102.nx h102.nx) (fun x115 =>
 kIdxA 2 a0 x112 (fun x116 =>
 kLoads 2 x116 (Hs.mk h102.hp h102.nx h102.nx) (fun x117 =>
 isVal (fun v127 u128 => dPut (fun x118 h119 =>
 kI64 .lss x118 (Value.int .i64 (.ofNat 0)) (fun x120 =>
 kNot x120 (fun x121 =>
 jn (fun (x123 x124 : Value) (h125 : Hs) =>
 k103 x123 x124 x112 x121 h125) fun k122 =>
 cnd x121
 (kI64 .add x112 (Value.int .i64 (.ofNat 1)) (fun x126 =>
 k122 x126 x95 h119))
 (k122 x94 x112 h119)))) v127 (dNext h102 u128 .bar) (andB (dFit h102 u128 .bar) (Nat.ble 0 u128.lo))) (callV (toRn R) [x115, x117] h102 a4))))))))))) fun k101 =>
 cnd x100
 (k101 h99)
 (k33 x94 x95 x100 x97 x98 h99))) x29 x30 dunno dunno dunno h31)) fun k28 =>
 cnd x27
 (kI64 .sub x26 a3 (fun x129 =>
 k28 x129 x25 h21))
 (k28 a1 a2 h21)))))))) fun k13 =>
 cnd x12
 (jn (fun (x131 x132 x133 x134 x135 : Value) (h136 : Hs) =>
 jn (fun (x138 x139 : Value) (h140 : Hs) =>
 clrK h (Value.tuple #[]) h140) fun k137 =>
 lpT (T := Value → Value → Hs → An) (fun _ _ _ => none) N (fun k141 =>
 fun (x143 x144 : Value) (h145 : Hs) =>
 kI64 .gtr x143 x131 (fun x146 =>
 jn (fun (h148 : Hs) =>
 jn (fun (h150 : Hs) =>
 kI64 .sub x143 (Value.int .i64 (.ofNat 1)) (fun x151 =>
 k141 x151 x146 h150)) fun k149 =>
 kI64 .sub x143 (Value.int .i64 (.ofNat 1)) (fun x152 =>
 kI64 .sub x143 (Value.int .i64 (.ofNat 1)) (fun x153 =>
 kIdxA 2 a0 x153 (fun x154 =>
 kLoads 2 x154 (Hs.mk h148.hp h148.nx h148.nx) (fun x155 =>
 kIdxA 2 a0 x143 (fun x156 =>
 kLoads 2 x156 (Hs.mk h148.hp h148.nx h148.nx) (fun x157 =>
 kIdxA 2 a0 x143 (fun x158 =>
 after (fun v166 u167 => dPut (fun x159 h160 =>
 kIdxA 2 a0 x152 (fun x161 =>
 after (fun v164 u165 => dPut (fun x162 h163 =>
 k149 h163) v164 (dNext h160 u165 .bar) (andB (dFit h160 u165 .bar) (Nat.ble 0 u165.lo))) (store1 2 h160 (cellsL x157) (addrOf x161)))) v166 (dNext h148 u167 .bar) (andB (dFit h148 u167 .bar) (Nat.ble 0 u167.lo))) (store1 2 h148 (cellsL x155) (addrOf x158)))))))))) fun k147 =>
 cnd x146
 (k147 h145)
 (k137 x143 x146 h145))) a2 dunno h136) fun k130 =>
 lpT (T := Value → Value → Value → Value → Value → Hs → An) (fun _ _ _ _ _ _ => none) N (fun k168 =>
 fun (x170 x171 x172 x173 x174 : Value) (h175 : Hs) =>
 kI64 .lss x170 x171 (fun x176 =>
 jn (fun (h178 : Hs) =>
 jn (fun (x180 x181 x182 x183 : Value) (h184 : Hs) =>
 k168 x180 x181 x176 x182 x183 h184) fun k179 =>
 kI64 .add x170 x171 (fun x185 =>
 kToU x185 (fun x186 =>
 kShr x186 (Value.int .u64 (.ofNat 1)) (fun x187 =>
 kTo64 x187 (fun x188 =>
 kIdxA 2 a0 a2 (fun x189 =>
 kLoads 2 x189 (Hs.mk h178.hp h178.nx h178.nx) (fun x190 =>
 kIdxA 2 a0 x188 (fun x191 =>
 kLoads 2 x191 (Hs.mk h178.hp h178.nx h178.nx) (fun x192 =>
 isVal (fun v202 u203 => dPut (fun x193 h194 =>
 kI64 .lss x193 (Value.int .i64 (.ofNat 0)) (fun x195 =>
 kNot x195 (fun x196 =>
 jn (fun (x198 x199 : Value) (h200 : Hs) =>
 k179 x198 x199 x188 x196 h200) fun k197 =>
 cnd x196
 (kI64 .add x188 (Value.int .i64 (.ofNat 1)) (fun x201 =>
 k197 x201 x171 h194))
 (k197 x170 x188 h194)))) v202 (dNext h178 u203 .bar) (andB (dFit h178 u203 .bar) (Nat.ble 0 u203.lo))) (callV (toRn R) [x190, x192] h178 a4)))))))))) fun k177 =>
 cnd x176
 (k177 h175)
 (k130 x170 x171 x176 x173 x174 h175))) a1 a2 dunno dunno dunno h10)
 (k13 dunno dunno dunno dunno dunno dunno dunno h10)))) fun k2 =>
 cnd x1
 (jn (fun (x205 x206 x207 x208 x209 : Value) (h210 : Hs) =>
 jn (fun (x212 x213 : Value) (h214 : Hs) =>
 clrK h (Value.tuple #[]) h214) fun k211 =>
 lpT (T := Value → Value → Hs → An) (fun _ _ _ => none) N (fun k215 =>
 fun (x217 x218 : Value) (h219 : Hs) =>
 kI64 .sub x205 (Value.int .i64 (.ofNat 1)) (fun x220 =>
 kI64 .lss x217 x220 (fun x221 =>
 jn (fun (h223 : Hs) =>
 jn (fun (h225 : Hs) =>
 kI64 .add x217 (Value.int .i64 (.ofNat 1)) (fun x226 =>
 k215 x226 x221 h225)) fun k224 =>
 kI64 .add x217 (Value.int .i64 (.ofNat 1)) (fun x227 =>
 kI64 .add x217 (Value.int .i64 (.ofNat 1)) (fun x228 =>
 kIdxA 2 a0 x228 (fun x229 =>
 kLoads 2 x229 (Hs.mk h223.hp h223.nx h223.nx) (fun x230 =>
 kIdxA 2 a0 x217 (fun x231 =>
 kLoads 2 x231 (Hs.mk h223.hp h223.nx h223.nx) (fun x232 =>
 kIdxA 2 a0 x217 (fun x233 =>
 after (fun v241 u242 => dPut (fun x234 h235 =>
 kIdxA 2 a0 x227 (fun x236 =>
 after (fun v239 u240 => dPut (fun x237 h238 =>
 k224 h238) v239 (dNext h235 u240 .bar) (andB (dFit h235 u240 .bar) (Nat.ble 0 u240.lo))) (store1 2 h235 (cellsL x232) (addrOf x236)))) v241 (dNext h223 u242 .bar) (andB (dFit h223 u242 .bar) (Nat.ble 0 u242.lo))) (store1 2 h223 (cellsL x230) (addrOf x233)))))))))) fun k222 =>
 cnd x221
 (k222 h219)
 (k211 x217 x221 h219)))) a1 dunno h210) fun k204 =>
 lpT (T := Value → Value → Value → Value → Value → Hs → An) (fun _ _ _ _ _ _ => none) N (fun k243 =>
 fun (x245 x246 x247 x248 x249 : Value) (h250 : Hs) =>
 kI64 .lss x245 x246 (fun x251 =>
 jn (fun (h253 : Hs) =>
 jn (fun (x255 x256 x257 x258 : Value) (h259 : Hs) =>
 k243 x255 x256 x251 x257 x258 h259) fun k254 =>
 kI64 .add x245 x246 (fun x260 =>
 kToU x260 (fun x261 =>
 kShr x261 (Value.int .u64 (.ofNat 1)) (fun x262 =>
 kTo64 x262 (fun x263 =>
 kIdxA 2 a0 x263 (fun x264 =>
 kLoads 2 x264 (Hs.mk h253.hp h253.nx h253.nx) (fun x265 =>
 kIdxA 2 a0 a1 (fun x266 =>
 kLoads 2 x266 (Hs.mk h253.hp h253.nx h253.nx) (fun x267 =>
 isVal (fun v276 u277 => dPut (fun x268 h269 =>
 kI64 .lss x268 (Value.int .i64 (.ofNat 0)) (fun x270 =>
 jn (fun (x272 x273 : Value) (h274 : Hs) =>
 k254 x272 x273 x263 x270 h274) fun k271 =>
 cnd x270
 (kI64 .add x263 (Value.int .i64 (.ofNat 1)) (fun x275 =>
 k271 x275 x246 h269))
 (k271 x245 x263 h269))) v276 (dNext h253 u277 .bar) (andB (dFit h253 u277 .bar) (Nat.ble 0 u277.lo))) (callV (toRn R) [x265, x267] h253 a4)))))))))) fun k252 =>
 cnd x251
 (k252 h250)
 (k204 x245 x246 x251 x248 x249 h250))) a2 a3 dunno dunno dunno h0)
 (k2 dunno dunno dunno dunno dunno dunno dunno h0)))

theorem q95 (R : RnK) (N : Nat) (args : List Value) (h : Hs) : r95 R N args h = callT Tryz.prog N R 95 args h := by kernel_rfl

/-- internal/stringslite.IndexByte -/
noncomputable def r96 (R : RnK) (N : Nat) (args : List Value) (h : Hs) : An := unC args fun a0 s0 => unC s0 fun a1 s1 => enK h fun h0 =>
 after (fun x0 h1 =>
 clrK h x0 h1) (ret1 h0 (idxB1 a0 a1))

theorem q96 (R : RnK) (N : Nat) (args : List Value) (h : Hs) : r96 R N args h = callT Tryz.prog N R 96 args h := by kernel_rfl

/-- internal/bytealg.Cutover -/
noncomputable def r98 (R : RnK) (N : Nat) (args : List Value) (h : Hs) : An := unC args fun a0 s0 => enK h fun h0 =>
 kI64 .add a0 (Value.int .i64 (.ofNat 16)) (fun x0 =>
 kI64 .quo x0 (Value.int .i64 (.ofNat 8)) (fun x1 =>
 clrK h x1 h0))

theorem q98 (R : RnK) (N : Nat) (args : List Value) (h : Hs) : r98 R N args h = callT Tryz.prog N R 98 args h := by kernel_rfl

/-- internal/bytealg.IndexRabinKarp[string] -/
noncomputable def r99 (R : RnK) (N : Nat) (args : List Value) (h : Hs) : An := unC args fun a0 s0 => unC s0 fun a1 s1 => enK h fun h0 =>
 kCall R 102 [a1] h0 (fun x0 h1 =>
 kExtr x0 0 (fun x2 =>
 kExtr x0 1 (fun x3 =>
 kLenS a1 (fun x4 =>
 jn (fun (x6 x7 x8 : Value) (h9 : Hs) =>
 obK (fun x10 =>
 gdT x10 h9 (fun k11 => k11 a0 h9) (fun x12 h13 =>
 gdT x10 h13 (fun k14 => k14 x4 h13) (fun x15 h16 =>
 gdT x10 h16 (fun k17 => after (k17) (oCutstr (.c x12) none (some (.c x15)) enE h16)) (fun x18 h19 =>
 gdT x10 h19 (fun k20 => k20 a1 h19) (fun x21 h22 =>
 gdT x10 h22 (fun k23 => obK (fun x24 => k23 x24 h22) (s2 .eql x18 x21)) (fun x25 h26 =>
 after (fun x27 h28 =>
 jn (fun (x30 : Value) (h31 : Hs) =>
 jn (fun (x33 x34 x35 x36 x37 : Value) (h38 : Hs) =>
 clrK h (Value.int .i64 (.negSucc 0)) h38) fun k32 =>
 lpT (T := Value → Value → Value → Value → Value → Hs → An) (fun _ _ _ _ _ _ => none) N (fun k39 =>
 fun (x41 x42 x43 x44 x45 : Value) (h46 : Hs) =>
 kLenS a0 (fun x47 =>
 kI64 .lss x42 x47 (fun x48 =>
 jn (fun (h50 : Hs) =>
 jn (fun (x52 x53 x54 x55 : Value) (h56 : Hs) =>
 k39 x52 x53 x48 x54 x55 h56) fun k51 =>
 obK (fun x57 =>
 after (fun x58 h59 =>
 obK (fun x60 =>
 obK (fun x61 =>
 kI64 .sub x42 x4 (fun x62 =>
 after (fun x63 h64 =>
 obK (fun x65 =>
 obK (fun x66 =>
 obK (fun x67 =>
 kI64 .add x42 (Value.int .i64 (.ofNat 1)) (fun x68 =>
 obK (fun x69 =>
 gdT x69 h64 (fun k70 => k70 a0 h64) (fun x71 h72 =>
 gdT x69 h72 (fun k73 => k73 x68 h72) (fun x74 h75 =>
 gdT x69 h75 (fun k76 => k76 x4 h75) (fun x77 h78 =>
 gdT x69 h78 (fun k79 => kI64 .sub x74 x77 (fun x80 => k79 x80 h78)) (fun x81 h82 =>
 gdT x69 h82 (fun k83 => k83 x68 h82) (fun x84 h85 =>
 gdT x69 h85 (fun k86 => after (k86) (oCutstr (.c x71) (some (.c x81)) (some (.c x84)) enE h85)) (fun x87 h88 =>
 gdT x69 h88 (fun k89 => k89 a1 h88) (fun x90 h91 =>
 gdT x69 h91 (fun k92 => obK (fun x93 => k92 x93 h91) (s2 .eql x87 x90)) (fun x94 h95 =>
 after (fun x96 h97 =>
 jn (fun (x99 : Value) (h100 : Hs) =>
 k51 x67 x68 x96 x99 h100) fun k98 =>
 cnd x96
 (kI64 .sub x68 x4 (fun x101 =>
 clrK h x101 h97))
 (k98 x45 h97)) (pickB (.c x94) (.c (Value.bool false)) enE h95 x69)))))))))) (i2 (fOf .eql) x67 x2))) (i2 (fOf .sub) x61 x66)) (i2 (fOf .mul) x3 x65)) (convI1 .u32 x63)) (oIdxS (.c a0) (.c x62) enE h59))) (i2 (fOf .add) x57 x60)) (convI1 .u32 x58)) (oIdxS (.c a0) (.c x42) enE h50)) (i2 (fOf .mul) x41 (Value.int .u32 (.ofNat 16777619)))) fun k49 =>
 cnd x48
 (k49 h46)
 (k32 x41 x42 x48 x44 x45 h46)))) x8 x4 dunno dunno x30 h31) fun k29 =>
 cnd x27
 (clrK h (Value.int .i64 (.ofNat 0)) h28)
 (k29 (Value.int .i64 (.ofNat 0)) h28)) (pickB (.c x25) (.c (Value.bool false)) enE h26 x10))))))) (i2 (fOf .eql) x8 x2)) fun k5 =>
 lpT (T := Value → Value → Value → Hs → An) (fun _ _ _ _ => none) N (fun k102 =>
 fun (x104 x105 x106 : Value) (h107 : Hs) =>
 kI64 .lss x104 x4 (fun x108 =>
 jn (fun (h110 : Hs) =>
 jn (fun (x112 : Value) (h113 : Hs) =>
 kI64 .add x104 (Value.int .i64 (.ofNat 1)) (fun x114 =>
 k102 x114 x108 x112 h113)) fun k111 =>
 obK (fun x115 =>
 after (fun x116 h117 =>
 obK (fun x118 =>
 obK (fun x119 =>
 k111 x119 h117) (i2 (fOf .add) x115 x118)) (convI1 .u32 x116)) (oIdxS (.c a0) (.c x104) enE h110)) (i2 (fOf .mul) x106 (Value.int .u32 (.ofNat 16777619)))) fun k109 =>
 cnd x108
 (k109 h107)
 (k5 x104 x108 x106 h107))) (Value.int .i64 (.ofNat 0)) dunno (Value.int .u32 (.ofNat 0)) h1))))

theorem q99 (R : RnK) (N : Nat) (args : List Value) (h : Hs) : r99 R N args h = callT Tryz.prog N R 99 args h := by kernel_rfl

/-- slices.rotateCmpFunc[lintel/node.Run] -/
noncomputable def r100 (R : RnK) (N : Nat) (args : List Value) (h : Hs) : An := unC args fun a0 s0 => unC s0 fun a1 s1 => unC s1 fun a2 s2 => unC s2 fun a3 s3 => unC s3 fun a4 s4 => enK h fun h0 =>
 kI64 .sub a2 a1 (fun x0 =>
 kI64 .sub a3 a2 (fun x1 =>
 jn (fun (x3 x4 x5 x6 : Value) (h7 : Hs) =>
 kI64 .sub a2 x3 (fun x8 =>
 kCall R 103 [a0, x8, a2, x3, a4] h7 (fun x9 h10 =>
 clrK h (Value.tuple #[]) h10))) fun k2 =>
 lpT (T := Value → Value → Value → Value → Hs → An) (fun _ _ _ _ _ => none) N (fun k11 =>
 fun (x13 x14 x15 x16 : Value) (h17 : Hs) =>
 kI64 .neq x13 x14 (fun x18 =>
 jn (fun (h20 : Hs) =>
 jn (fun (x22 x23 x24 : Value) (h25 : Hs) =>
 k11 x22 x23 x18 x24 h25) fun k21 =>
 kI64 .gtr x13 x14 (fun x26 =>
 jn (fun (x28 x29 : Value) (h30 : Hs) =>
 k21 x28 x29 x26 h30) fun k27 =>
 cnd x26
 (kI64 .sub a2 x13 (fun x31 =>
 kCall R 103 [a0, x31, a2, x14, a4] h20 (fun x32 h33 =>
 kI64 .sub x13 x14 (fun x34 =>
 k27 x34 x14 h33))))
 (kI64 .sub a2 x13 (fun x35 =>
 kI64 .add a2 x14 (fun x36 =>
 kI64 .sub x36 x13 (fun x37 =>
 kCall R 103 [a0, x35, x37, x13, a4] h20 (fun x38 h39 =>
 kI64 .sub x14 x13 (fun x40 =>
 k27 x13 x40 h39)))))))) fun k19 =>
 cnd x18
 (k19 h17)
 (k2 x13 x14 x18 x16 h17))) x0 x1 dunno dunno h0))

theorem q100 (R : RnK) (N : Nat) (args : List Value) (h : Hs) : r100 R N args h = callT Tryz.prog N R 100 args h := by kernel_rfl

/-- internal/bytealg.hashStr[string] -/
noncomputable def r102 (R : RnK) (N : Nat) (args : List Value) (h : Hs) : An := unC args fun a0 s0 => enK h fun h0 =>
 jn (fun (x1 x2 x3 : Value) (h4 : Hs) =>
 kLenS a0 (fun x5 =>
 jn (fun (x7 x8 x9 x10 x11 : Value) (h12 : Hs) =>
 clrK h (Value.tuple #[x3, x10]) h12) fun k6 =>
 lpT (T := Value → Value → Value → Value → Value → Hs → An) (fun _ _ _ _ _ _ => none) N (fun k13 =>
 fun (x15 x16 x17 x18 x19 : Value) (h20 : Hs) =>
 kI64 .gtr x15 (Value.int .i64 (.ofNat 0)) (fun x21 =>
 jn (fun (h23 : Hs) =>
 jn (fun (x25 x26 x27 : Value) (h28 : Hs) =>
 kShr x15 (Value.int .u64 (.ofNat 1)) (fun x29 =>
 k13 x29 x21 x25 x26 x27 h28)) fun k24 =>
 kI64 .and x15 (Value.int .i64 (.ofNat 1)) (fun x30 =>
 kI64 .neq x30 (Value.int .i64 (.ofNat 0)) (fun x31 =>
 jn (fun (x33 : Value) (h34 : Hs) =>
 obK (fun x35 =>
 k24 x31 x33 x35 h34) (i2 (fOf .mul) x19 x19)) fun k32 =>
 cnd x31
 (obK (fun x36 =>
 k32 x36 h23) (i2 (fOf .mul) x18 x19))
 (k32 x18 h23)))) fun k22 =>
 cnd x21
 (k22 h20)
 (k6 x15 x21 x17 x18 x19 h20))) x5 dunno dunno (Value.int .u32 (.ofNat 1)) (Value.int .u32 (.ofNat 16777619)) h4)) fun k0 =>
 lpT (T := Value → Value → Value → Hs → An) (fun _ _ _ _ => none) N (fun k37 =>
 fun (x39 x40 x41 : Value) (h42 : Hs) =>
 kLenS a0 (fun x43 =>
 kI64 .lss x39 x43 (fun x44 =>
 jn (fun (h46 : Hs) =>
 jn (fun (x48 : Value) (h49 : Hs) =>
 kI64 .add x39 (Value.int .i64 (.ofNat 1)) (fun x50 =>
 k37 x50 x44 x48 h49)) fun k47 =>
 obK (fun x51 =>
 after (fun x52 h53 =>
 obK (fun x54 =>
 obK (fun x55 =>
 k47 x55 h53) (i2 (fOf .add) x51 x54)) (convI1 .u32 x52)) (oIdxS (.c a0) (.c x39) enE h46)) (i2 (fOf .mul) x41 (Value.int .u32 (.ofNat 16777619)))) fun k45 =>
 cnd x44
 (k45 h42)
 (k0 x39 x44 x41 h42)))) (Value.int .i64 (.ofNat 0)) dunno (Value.int .u32 (.ofNat 0)) h0

theorem q102 (R : RnK) (N : Nat) (args : List Value) (h : Hs) : r102 R N args h = callT Tryz.prog N R 102 args h := by kernel_rfl

/-- slices.swapRangeCmpFunc[lintel/node.Run] -/
noncomputable def r103 (R : RnK) (N : Nat) (args : List Value) (h : Hs) : An := unC args fun a0 s0 => unC s0 fun a1 s1 => unC s1 fun a2 s2 => unC s2 fun a3 s3 => unC s3 fun a4 s4 => enK h fun h0 =>
 jn (fun (x1 x2 : Value) (h3 : Hs) =>
 clrK h (Value.tuple #[]) h3) fun k0 =>
 lpT (T := Value → Value → Hs → An) (fun _ _ _ => none) N (fun k4 =>
 fun (x6 x7 : Value) (h8 : Hs) =>
 kI64 .lss x6 a3 (fun x9 =>
 jn (fun (h11 : Hs) =>
 jn (fun (h13 : Hs) =>
 kI64 .add x6 (Value.int .i64 (.ofNat 1)) (fun x14 =>
 k4 x14 x9 h13)) fun k12 =>
 kI64 .add a1 x6 (fun x15 =>
 kI64 .add a2 x6 (fun x16 =>
 kI64 .add a2 x6 (fun x17 =>
 kIdxA 2 a0 x17 (fun x18 =>
 kLoads 2 x18 (Hs.mk h11.hp h11.nx h11.nx) (fun x19 =>
 kI64 .add a1 x6 (fun x20 =>
 kIdxA 2 a0 x20 (fun x21 =>
 kLoads 2 x21 (Hs.mk h11.hp h11.nx h11.nx) (fun x22 =>
 kIdxA 2 a0 x15 (fun x23 =>
 after (fun v31 u32 => dPut (fun x24 h25 =>
 kIdxA 2 a0 x16 (fun x26 =>
 after (fun v29 u30 => dPut (fun x27 h28 =>
 k12 h28) v29 (dNext h25 u30 .bar) (andB (dFit h25 u30 .bar) (Nat.ble 0 u30.lo))) (store1 2 h25 (cellsL x22) (addrOf x26)))) v31 (dNext h11 u32 .bar) (andB (dFit h11 u32 .bar) (Nat.ble 0 u32.lo))) (store1 2 h11 (cellsL x19) (addrOf x23)))))))))))) fun k10 =>
 cnd x9
 (k10 h8)
 (k0 x6 x9 h8))) (Value.int .i64 (.ofNat 0)) dunno h0

theorem q103 (R : RnK) (N : Nat) (args : List Value) (h : Hs) : r103 R N args h = callT Tryz.prog N R 103 args h := by kernel_rfl

noncomputable def entries : List (Nat × FnK) := [(4, r4), (5, r5), (6, r6), (7, r7), (8, r8), (9, r9), (11, r11), (12, r12), (13, r13), (14, r14), (15, r15), (16, r16), (17, r17), (18, r18), (19, r19), (20, r20), (21, r21), (22, r22), (23, r23), (25, r25), (26, r26), (28, r28), (29, r29), (30, r30), (31, r31), (32, r32), (33, r33), (34, r34), (35, r35), (37, r37), (38, r38), (39, r39), (40, r40), (41, r41), (42, r42), (43, r43), (44, r44), (45, r45), (46, r46), (47, r47), (48, r48), (49, r49), (50, r50), (51, r51), (52, r52), (53, r53), (54, r54), (55, r55), (56, r56), (57, r57), (58, r58), (59, r59), (60, r60), (61, r61), (62, r62), (63, r63), (64, r64), (65, r65), (66, r66), (67, r67), (68, r68), (69, r69), (70, r70), (71, r71), (72, r72), (73, r73), (74, r74), (75, r75), (76, r76), (77, r77), (78, r78), (79, r79), (80, r80), (81, r81), (82, r82), (83, r83), (84, r84), (86, r86), (87, r87), (88, r88), (89, r89), (90, r90), (91, r91), (93, r93), (94, r94), (95, r95), (96, r96), (98, r98), (99, r99), (100, r100), (102, r102), (103, r103)]
theorem entries_ok : AllOk Tryz.prog entries := ⟨q4, q5, q6, q7, q8, q9, q11, q12, q13, q14, q15, q16, q17, q18, q19, q20, q21, q22, q23, q25, q26, q28, q29, q30, q31, q32, q33, q34, q35, q37, q38, q39, q40, q41, q42, q43, q44, q45, q46, q47, q48, q49, q50, q51, q52, q53, q54, q55, q56, q57, q58, q59, q60, q61, q62, q63, q64, q65, q66, q67, q68, q69, q70, q71, q72, q73, q74, q75, q76, q77, q78, q79, q80, q81, q82, q83, q84, q86, q87, q88, q89, q90, q91, q93, q94, q95, q96, q98, q99, q100, q102, q103, trivial⟩
end Go.Proofs.YtlkmmfkhaljldaaGreat.editKnown
