/- The functions that 'TreeDirs' reaches, in the fast evaluator's form, each held against the program's own text by the kernel. Written by a program. -/
import Derived.Test.YtegldcmibgeihaaGreatDoorGevKM
import Derived.Test.YtegldcmibgeihaaGreatDoorProg
import Derived.KernelRfl
namespace Go.Proofs.YtegldcmibgeihaaGreatDoor.treeDirs
open Go.Gev
set_option linter.unusedVariables false
/-- lintel/lintellaw17.TreeDirs -/
noncomputable def r4 (R : RnK) (N : Nat) (args : List Value) (h : Hs) : An := unC args fun a0 sq0 => unC sq0 fun a1 sq1 => enK h fun h0 =>
 kCall R 11 [] h0 (fun x0 h1 =>
 kNot x0 (fun x2 =>
 jn (fun (x4 : Value) (h5 : Hs) =>
 kI64 .lss a0 (Value.int .i64 (.ofNat 1)) (fun x6 =>
 gdF x6 h5 (fun k7 => k7 a0 h5) (fun x8 h9 =>
 gdF x6 h9 (fun k10 => kI64 .gtr x8 (Value.int .i64 (.ofNat 8)) (fun x11 => k10 x11 h9)) (fun x12 h13 =>
 after (fun x14 h15 =>
 gdF x14 h15 (fun k16 => k16 a1 h15) (fun x17 h18 =>
 gdF x14 h18 (fun k19 => kI64 .lss x17 (Value.int .i64 (.ofNat 1)) (fun x20 => k19 x20 h18)) (fun x21 h22 =>
 after (fun x23 h24 =>
 gdF x23 h24 (fun k25 => k25 a1 h24) (fun x26 h27 =>
 gdF x23 h27 (fun k28 => k28 a0 h27) (fun x29 h30 =>
 gdF x23 h30 (fun k31 => kI64 .gtr x26 x29 (fun x32 => k31 x32 h30)) (fun x33 h34 =>
 after (fun x35 h36 =>
 jn (fun (x38 : Value) (h39 : Hs) =>
 kCall R 12 [(Value.int .i64 (.ofNat 10))] h39 (fun x40 h41 =>
 jn (fun (x43 x44 x45 x46 x47 x48 x49 : Value) (h50 : Hs) =>
 after (fun x51 h52 =>
 kCall R 13 [x40, x51] h52 (fun x53 h54 =>
 after (fun x55 h56 =>
 after (fun x57 h58 =>
 kI64 .lss a1 a0 (fun x59 =>
 jn (fun (x61 : Value) (h62 : Hs) =>
 kFieldA 0 x55 (fun x63 =>
 kLoad x63 h62 (fun x64 =>
 kI64 .eql x64 (Value.int .i64 (.ofNat 0)) (fun x65 =>
 gdT x65 h62 (fun k66 => kFieldA 1 x55 (fun x67 => k66 x67 h62)) (fun x68 h69 =>
 gdT x65 h69 (fun k70 => kLoad x68 h69 (fun x71 => k70 x71 h69)) (fun x72 h73 =>
 gdT x65 h73 (fun k74 => k74 a0 h73) (fun x75 h76 =>
 gdT x65 h76 (fun k77 => kI64 .add x75 (Value.int .i64 (.ofNat 2)) (fun x78 => k77 x78 h76)) (fun x79 h80 =>
 gdT x65 h80 (fun k81 => kI64 .eql x72 x79 (fun x82 => k81 x82 h80)) (fun x83 h84 =>
 after (fun x85 h86 =>
 gdT x85 h86 (fun k87 => k87 x40 h86) (fun x88 h89 =>
 gdT x85 h89 (fun k90 => kCall R 14 [x88] h89 (k90)) (fun x91 h92 =>
 gdT x85 h92 (fun k93 => kLenV x91 (fun x94 => k93 x94 h92)) (fun x95 h96 =>
 gdT x85 h96 (fun k97 => k97 a0 h96) (fun x98 h99 =>
 gdT x85 h99 (fun k100 => kI64 .add x98 (Value.int .i64 (.ofNat 1)) (fun x101 => k100 x101 h99)) (fun x102 h103 =>
 gdT x85 h103 (fun k104 => kI64 .eql x95 x102 (fun x105 => k104 x105 h103)) (fun x106 h107 =>
 after (fun x108 h109 =>
 clrK h x108 h109) (pickB (.c x106) (.c (Value.bool false)) enE h107 x85)))))))) (pickB (.c x83) (.c (Value.bool false)) enE h84 x65)))))))))) fun k60 =>
 cnd x59
 (kFieldA 0 x55 (fun x110 =>
 kLoad x110 h58 (fun x111 =>
 kI64 .eql x111 (Value.int .i64 (.ofNat 6)) (fun x112 =>
 gdT x112 h58 (fun k113 => k113 x40 h58) (fun x114 h115 =>
 gdT x112 h115 (fun k116 => kCall R 14 [x114] h115 (k116)) (fun x117 h118 =>
 gdT x112 h118 (fun k119 => kLenV x117 (fun x120 => k119 x120 h118)) (fun x121 h122 =>
 gdT x112 h122 (fun k123 => k123 a0 h122) (fun x124 h125 =>
 gdT x112 h125 (fun k126 => kI64 .add x124 (Value.int .i64 (.ofNat 2)) (fun x127 => k126 x127 h125)) (fun x128 h129 =>
 gdT x112 h129 (fun k130 => kI64 .eql x121 x128 (fun x131 => k130 x131 h129)) (fun x132 h133 =>
 after (fun x134 h135 =>
 clrK h x134 h135) (pickB (.c x132) (.c (Value.bool false)) enE h133 x112)))))))))))
 (k60 x49 h58))) (store1 7 h56 (cellsL x53) (addrOf x55))) (oAlloc 29 [(Value.int .i64 (.ofNat 0)), (Value.int .i64 (.ofNat 0)), (Value.int .i64 (.ofNat 0)), (Value.int .i64 (.ofNat 0)), (Value.int .i64 (.ofNat 0)), (Value.slice none 0 0), (Value.slice none 0 0)] enE h54))) (oBuild [(Value.int .i64 (.ofNat 0)), (Value.string ⟨#[]⟩), (Value.string ⟨#[]⟩), (Value.int .i64 (.ofNat 0)), (Value.int .i64 (.ofNat 0)), (Value.slice none 0 0)] [(0, 1, .c (Value.int .i64 (.ofNat 5))), (1, 1, .c x48)] enE h50)) fun k42 =>
 lpT (T := Value → Value → Value → Value → Value → Value → Value → Hs → An) (fun _ _ _ _ _ _ _ _ => none) N (fun k136 =>
 fun (x138 x139 x140 x141 x142 x143 x144 : Value) (h145 : Hs) =>
 kI64 .leq x138 a0 (fun x146 =>
 jn (fun (h148 : Hs) =>
 jn (fun (x150 x151 x152 x153 x154 : Value) (h155 : Hs) =>
 kI64 .add x138 (Value.int .i64 (.ofNat 1)) (fun x156 =>
 k136 x156 x146 x150 x151 x152 x153 x154 h155)) fun k149 =>
 obK (fun x157 =>
 after (fun x158 h159 =>
 kCall R 13 [x40, x158] h159 (fun x160 h161 =>
 kField 1 x160 (fun x162 =>
 kI64 .add x138 (Value.int .i64 (.ofNat 2)) (fun x163 =>
 kI64 .neq x162 x163 (fun x164 =>
 jn (fun (x166 : Value) (h167 : Hs) =>
 kI64 .eql x138 a1 (fun x168 =>
 jn (fun (x170 : Value) (h171 : Hs) =>
 k149 x157 x164 x168 x170 x166 h171) fun k169 =>
 cnd x168
 (k169 x157 h167)
 (k169 x143 h167))) fun k165 =>
 cnd x164
 (clrK h (Value.bool false) h161)
 (k165 x144 h161)))))) (oBuild [(Value.int .i64 (.ofNat 0)), (Value.string ⟨#[]⟩), (Value.string ⟨#[]⟩), (Value.int .i64 (.ofNat 0)), (Value.int .i64 (.ofNat 0)), (Value.slice none 0 0)] [(0, 1, .c (Value.int .i64 (.ofNat 1))), (1, 1, .c x157)] enE h148)) (s2 .add x140 (Value.string ⟨#[47, 100]⟩))) fun k147 =>
 cnd x146
 (k147 h145)
 (k42 x138 x146 x140 x141 x142 x143 x144 h145))) (Value.int .i64 (.ofNat 1)) dunno (Value.string ⟨#[]⟩) dunno dunno (Value.string ⟨#[]⟩) x38 h41)) fun k37 =>
 cnd x35
 (clrK h (Value.bool true) h36)
 (k37 x4 h36)) (pickB (.c (Value.bool true)) (.c x33) enE h34 x23))))) (pickB (.c (Value.bool true)) (.c x21) enE h22 x14)))) (pickB (.c (Value.bool true)) (.c x12) enE h13 x6))))) fun k3 =>
 cnd x2
 (clrK h (Value.bool false) h1)
 (k3 (Value.bool false) h1)))

theorem q4 (R : RnK) (N : Nat) (args : List Value) (h : Hs) : r4 R N args h = callT Tryz.prog N R 4 args h := by kernel_rfl

/-- lintel/lintellaw17.awake -/
noncomputable def r11 (R : RnK) (N : Nat) (args : List Value) (h : Hs) : An := enK h fun h0 =>
 kCall R 12 [(Value.int .i64 (.ofNat 10))] h0 (fun x0 h1 =>
 obK (fun x2 =>
 jn (fun (x4 : Value) (h5 : Hs) =>
 after (fun x6 h7 =>
 kCall R 13 [x0, x6] h7 (fun x8 h9 =>
 after (fun x10 h11 =>
 after (fun x12 h13 =>
 after (fun x14 h15 =>
 kCall R 13 [x0, x14] h15 (fun x16 h17 =>
 after (fun x18 h19 =>
 after (fun x20 h21 =>
 kFieldA 0 x10 (fun x22 =>
 kLoad x22 h21 (fun x23 =>
 kI64 .eql x23 (Value.int .i64 (.ofNat 0)) (fun x24 =>
 gdT x24 h21 (fun k25 => kFieldA 1 x10 (fun x26 => k25 x26 h21)) (fun x27 h28 =>
 gdT x24 h28 (fun k29 => kLoad x27 h28 (fun x30 => k29 x30 h28)) (fun x31 h32 =>
 gdT x24 h32 (fun k33 => kI64 .eql x31 (Value.int .i64 (.ofNat 3)) (fun x34 => k33 x34 h32)) (fun x35 h36 =>
 after (fun x37 h38 =>
 gdT x37 h38 (fun k39 => kFieldA 6 x18 (fun x40 => k39 x40 h38)) (fun x41 h42 =>
 gdT x37 h42 (fun k43 => kLoad x41 h42 (fun x44 => k43 x44 h42)) (fun x45 h46 =>
 gdT x37 h46 (fun k47 => after (k47) (oMkrow 9 1 2 [(Value.string ⟨#[]⟩)] [(0, 1, .c (Value.string ⟨#[97]⟩)), (1, 1, .c (Value.string ⟨#[108, 111, 115, 116, 43, 102, 111, 117, 110, 100]⟩))] enE h46)) (fun x48 h49 =>
 gdT x37 h49 (fun k50 => kCall R 28 [x45, x48] h49 (k50)) (fun x51 h52 =>
 after (fun x53 h54 =>
 gdT x53 h54 (fun k55 => k55 x0 h54) (fun x56 h57 =>
 gdT x53 h57 (fun k58 => kCall R 14 [x56] h57 (k58)) (fun x59 h60 =>
 gdT x53 h60 (fun k61 => kLenV x59 (fun x62 => k61 x62 h60)) (fun x63 h64 =>
 gdT x53 h64 (fun k65 => kI64 .eql x63 (Value.int .i64 (.ofNat 3)) (fun x66 => k65 x66 h64)) (fun x67 h68 =>
 after (fun x69 h70 =>
 clrK h x69 h70) (pickB (.c x67) (.c (Value.bool false)) enE h68 x53)))))) (pickB (.c x51) (.c (Value.bool false)) enE h52 x37)))))) (pickB (.c x35) (.c (Value.bool false)) enE h36 x24)))))))) (store1 7 h19 (cellsL x16) (addrOf x18))) (oAlloc 29 [(Value.int .i64 (.ofNat 0)), (Value.int .i64 (.ofNat 0)), (Value.int .i64 (.ofNat 0)), (Value.int .i64 (.ofNat 0)), (Value.int .i64 (.ofNat 0)), (Value.slice none 0 0), (Value.slice none 0 0)] enE h17))) (oBuild [(Value.int .i64 (.ofNat 0)), (Value.string ⟨#[]⟩), (Value.string ⟨#[]⟩), (Value.int .i64 (.ofNat 0)), (Value.int .i64 (.ofNat 0)), (Value.slice none 0 0)] [(0, 1, .c (Value.int .i64 (.ofNat 13))), (1, 1, .c (Value.string ⟨#[47]⟩))] enE h13)) (store1 7 h11 (cellsL x8) (addrOf x10))) (oAlloc 29 [(Value.int .i64 (.ofNat 0)), (Value.int .i64 (.ofNat 0)), (Value.int .i64 (.ofNat 0)), (Value.int .i64 (.ofNat 0)), (Value.int .i64 (.ofNat 0)), (Value.slice none 0 0), (Value.slice none 0 0)] enE h9))) (oBuild [(Value.int .i64 (.ofNat 0)), (Value.string ⟨#[]⟩), (Value.string ⟨#[]⟩), (Value.int .i64 (.ofNat 0)), (Value.int .i64 (.ofNat 0)), (Value.slice none 0 0)] [(0, 1, .c (Value.int .i64 (.ofNat 1))), (1, 1, .c (Value.string ⟨#[47, 97]⟩))] enE h5)) fun k3 =>
 cnd x2
 (clrK h (Value.bool false) h1)
 (k3 (Value.bool false) h1)) (e2 false qP x0 (Value.pointer none)))

theorem q11 (R : RnK) (N : Nat) (args : List Value) (h : Hs) : r11 R N args h = callT Tryz.prog N R 11 args h := by kernel_rfl

/-- lintel/tree.New -/
noncomputable def r12 (R : RnK) (N : Nat) (args : List Value) (h : Hs) : An := unC args fun a0 sq0 => enK h fun h0 =>
 after (fun x0 h1 =>
 after (fun x2 h3 =>
 after (fun x4 h5 =>
 after (fun x6 h7 =>
 after (fun x8 h9 =>
 kNil x8 (fun x10 =>
 kFieldA 1 x10 (fun x11 =>
 kLoad x11 h9 (fun x12 =>
 after (fun x13 h14 =>
 after (fun x15 h16 =>
 after (fun x17 h18 =>
 after (fun x19 h20 =>
 kNil x8 (fun x21 =>
 kFieldA 1 x21 (fun x22 =>
 kLoad x22 h20 (fun x23 =>
 after (fun x24 h25 =>
 after (fun x26 h27 =>
 after (fun x28 h29 =>
 after (fun x30 h31 =>
 clrK h x8 h31) (mapup1 true h29 (Value.int .i64 (.ofNat 2)) x28 x23)) (oBox 69 (.c x26) enE h27)) (oBuild [(Value.int .i64 (.ofNat 0)), (Value.slice none 0 0), (Value.map none), (Value.int .i64 (.ofNat 0)), (Value.int .i64 (.ofNat 0))] [(0, 1, .c (Value.int .i64 (.ofNat 2))), (2, 1, .c x24), (3, 1, .c (Value.int .i64 (.ofNat 1)))] enE h25)) (mkmap1 h20 (Value.int .i64 0)))))) (mapup1 true h18 (Value.int .i64 (.ofNat 1)) x17 x12)) (oBox 69 (.c x15) enE h16)) (oBuild [(Value.int .i64 (.ofNat 0)), (Value.slice none 0 0), (Value.map none), (Value.int .i64 (.ofNat 0)), (Value.int .i64 (.ofNat 0))] [(0, 1, .c (Value.int .i64 (.ofNat 2))), (2, 1, .c x13), (3, 1, .c (Value.int .i64 (.ofNat 1)))] enE h14)) (mkmap1 h9 (Value.int .i64 0)))))) (oBox 65 (.c x6) enE h7)) (oBuild [(Value.int .i64 (.ofNat 0)), (Value.map none)] [(0, 1, .c x2), (1, 1, .c x4)] enE h5)) (mkmap1 h3 (Value.int .i64 0))) (oMinmax false [.c x0, .c (Value.int .i64 (.ofNat 64))] enE h1)) (oMinmax true [.c a0, .c (Value.int .i64 (.ofNat 2))] enE h0)

theorem q12 (R : RnK) (N : Nat) (args : List Value) (h : Hs) : r12 R N args h = callT Tryz.prog N R 12 args h := by kernel_rfl

/-- (*lintel/tree.Tree).Do -/
noncomputable def r13 (R : RnK) (N : Nat) (args : List Value) (h : Hs) : An := unC args fun a0 sq0 => unC sq0 fun a1 sq1 => enK h fun h0 =>
 after (fun x0 h1 =>
 after (fun x2 h3 =>
 kFieldA 0 x0 (fun x4 =>
 kLoad x4 h3 (fun x5 =>
 jn (fun (x7 x8 x9 x10 x11 x12 x13 x14 x15 x16 : Value) (h17 : Hs) =>
 kCall R 30 [(Value.int .i64 (.ofNat 1))] h17 (fun x18 h19 =>
 after (fun x20 h21 =>
 clearUp h (packR h21 (resV enE h21 [.cell (.c x2) 7 true]))) (store1 7 h19 (cellsL x18) (addrOf x2)))) fun k6 =>
 kI64 .eql x5 (Value.int .i64 (.ofNat 1)) (fun x22 =>
 jn (fun (x24 x25 x26 x27 x28 x29 x30 x31 x32 : Value) (h33 : Hs) =>
 k6 x22 x24 x25 x26 x27 x28 x29 x30 x31 x32 h33) fun k23 =>
 cnd x22
 (kFieldA 1 x0 (fun x34 =>
 kLoad x34 h3 (fun x35 =>
 after (fun x36 h37 =>
 after (fun x38 h39 =>
 after (fun x40 h41 =>
 kCall R 29 [a0, x35, x40] h41 (fun x42 h43 =>
 after (fun x44 h45 =>
 clearUp h (packR h45 (resV enE h45 [.cell (.c x2) 7 true]))) (store1 7 h43 (cellsL x42) (addrOf x2)))) (oBox 69 (.c x38) enE h39)) (oBuild [(Value.int .i64 (.ofNat 0)), (Value.slice none 0 0), (Value.map none), (Value.int .i64 (.ofNat 0)), (Value.int .i64 (.ofNat 0))] [(0, 1, .c (Value.int .i64 (.ofNat 2))), (2, 1, .c x36)] enE h37)) (mkmap1 h3 (Value.int .i64 0)))))
 (kI64 .eql x5 (Value.int .i64 (.ofNat 2)) (fun x46 =>
 jn (fun (x48 x49 x50 x51 x52 x53 x54 x55 : Value) (h56 : Hs) =>
 k23 x46 x48 x49 x50 x51 x52 x53 x54 x55 h56) fun k47 =>
 cnd x46
 (kFieldA 1 x0 (fun x57 =>
 kLoad x57 h3 (fun x58 =>
 after (fun x59 h60 =>
 after (fun x61 h62 =>
 kCall R 29 [a0, x58, x61] h62 (fun x63 h64 =>
 after (fun x65 h66 =>
 clearUp h (packR h66 (resV enE h66 [.cell (.c x2) 7 true]))) (store1 7 h64 (cellsL x63) (addrOf x2)))) (oBox 69 (.c x59) enE h60)) (oBuild [(Value.int .i64 (.ofNat 0)), (Value.slice none 0 0), (Value.map none), (Value.int .i64 (.ofNat 0)), (Value.int .i64 (.ofNat 0))] [(0, 1, .c (Value.int .i64 (.ofNat 1)))] enE h3))))
 (kI64 .eql x5 (Value.int .i64 (.ofNat 7)) (fun x67 =>
 jn (fun (x69 x70 x71 x72 x73 x74 x75 : Value) (h76 : Hs) =>
 k47 x67 x69 x70 x71 x72 x73 x74 x75 h76) fun k68 =>
 cnd x67
 (kFieldA 5 x0 (fun x77 =>
 kLoad x77 h3 (fun x78 =>
 kLenV x78 (fun x79 =>
 kI64 .lss x79 (Value.int .i64 (.ofNat 1)) (fun x80 =>
 gdF x80 h3 (fun k81 => kFieldA 5 x0 (fun x82 => k81 x82 h3)) (fun x83 h84 =>
 gdF x80 h84 (fun k85 => kLoad x83 h84 (fun x86 => k85 x86 h84)) (fun x87 h88 =>
 gdF x80 h88 (fun k89 => kLenV x87 (fun x90 => k89 x90 h88)) (fun x91 h92 =>
 gdF x80 h92 (fun k93 => kI64 .gtr x91 (Value.int .i64 (.ofNat 400)) (fun x94 => k93 x94 h92)) (fun x95 h96 =>
 after (fun x97 h98 =>
 jn (fun (h100 : Hs) =>
 kFieldA 1 x0 (fun x101 =>
 kLoad x101 (Hs.mk h100.hp h100.nx h100.nx) (fun x102 =>
 kFieldA 5 x0 (fun x103 =>
 kLoad x103 (Hs.mk h100.hp h100.nx h100.nx) (fun x104 =>
 kCall R 31 [x104] (Hs.mk h100.hp h100.nx h100.nx) (fun v123 u124 => dPut (fun x105 h106 =>
 after (fun v121 u122 => dPut (fun x107 h108 =>
 after (fun v119 u120 => dPut (fun x109 h110 =>
 kCall R 29 [a0, x102, x109] h110 (fun v117 u118 => dPut (fun x111 h112 =>
 after (fun v115 u116 => dPut (fun x113 h114 =>
 clearUp h (packR h114 (resV enE h114 [.cell (.c x2) 7 true]))) v115 (dNext h112 u116 .bar) (andB (dFit h112 u116 .bar) (Nat.ble 0 u116.lo))) (store1 7 h112 (cellsL x111) (addrOf x2))) v117 (dNext h110 u118 .bar) (andB (dFit h110 u118 .bar) (Nat.ble 0 u118.lo)))) v119 (dNext h108 u120 .make) (andB (dFit h108 u120 .make) (Nat.ble 0 u120.lo))) (oBox 69 (.c x107) enE (Hs.mk .e h108.nx h108.nx))) v121 (dNext h106 u122 .blind) (andB (dFit h106 u122 .blind) (Nat.ble 0 u122.lo))) (oBuild [(Value.int .i64 (.ofNat 0)), (Value.slice none 0 0), (Value.map none), (Value.int .i64 (.ofNat 0)), (Value.int .i64 (.ofNat 0))] [(0, 1, .c (Value.int .i64 (.ofNat 3))), (1, 1, .c x105)] enE (Hs.mk .e h106.nx h106.nx))) v123 (dNext h100 u124 .light) (andB (dFit h100 u124 .light) (Nat.ble 0 u124.lo)))))))) fun k99 =>
 cnd x97
 (kCall R 30 [(Value.int .i64 (.ofNat 1))] h98 (fun x125 h126 =>
 after (fun x127 h128 =>
 clearUp h (packR h128 (resV enE h128 [.cell (.c x2) 7 true]))) (store1 7 h126 (cellsL x125) (addrOf x2))))
 (k99 h98)) (pickB (.c (Value.bool true)) (.c x95) enE h96 x80))))))))))
 (kI64 .eql x5 (Value.int .i64 (.ofNat 3)) (fun x129 =>
 jn (fun (x131 x132 x133 x134 x135 : Value) (h136 : Hs) =>
 k68 dunno x129 x131 x132 x133 x134 x135 h136) fun k130 =>
 cnd x129
 (kLoads 6 x0 h3 (fun x137 =>
 kCall R 32 [a0, x137] h3 (fun x138 h139 =>
 after (fun x140 h141 =>
 clearUp h (packR h141 (resV enE h141 [.cell (.c x2) 7 true]))) (store1 7 h139 (cellsL x138) (addrOf x2)))))
 (kI64 .eql x5 (Value.int .i64 (.ofNat 4)) (fun x142 =>
 jn (fun (x144 x145 x146 x147 : Value) (h148 : Hs) =>
 k130 x142 x144 x145 x146 x147 h148) fun k143 =>
 cnd x142
 (kLoads 6 x0 h3 (fun x149 =>
 kCall R 33 [a0, x149] h3 (fun x150 h151 =>
 after (fun x152 h153 =>
 clearUp h (packR h153 (resV enE h153 [.cell (.c x2) 7 true]))) (store1 7 h151 (cellsL x150) (addrOf x2)))))
 (kI64 .eql x5 (Value.int .i64 (.ofNat 5)) (fun x154 =>
 jn (fun (x156 x157 x158 : Value) (h159 : Hs) =>
 k143 x154 x156 x157 x158 h159) fun k155 =>
 cnd x154
 (kLoads 6 x0 h3 (fun x160 =>
 kCall R 34 [a0, x160] h3 (fun x161 h162 =>
 after (fun x163 h164 =>
 clearUp h (packR h164 (resV enE h164 [.cell (.c x2) 7 true]))) (store1 7 h162 (cellsL x161) (addrOf x2)))))
 (kI64 .eql x5 (Value.int .i64 (.ofNat 6)) (fun x165 =>
 jn (fun (x167 x168 : Value) (h169 : Hs) =>
 k155 x165 x167 x168 h169) fun k166 =>
 cnd x165
 (kLoads 6 x0 h3 (fun x170 =>
 kCall R 35 [a0, x170] h3 (fun x171 h172 =>
 after (fun x173 h174 =>
 clearUp h (packR h174 (resV enE h174 [.cell (.c x2) 7 true]))) (store1 7 h172 (cellsL x171) (addrOf x2)))))
 (kI64 .eql x5 (Value.int .i64 (.ofNat 8)) (fun x175 =>
 jn (fun (x177 : Value) (h178 : Hs) =>
 jn (fun (x180 : Value) (h181 : Hs) =>
 k166 x177 x180 h181) fun k179 =>
 cnd x177
 (kLoads 6 x0 h178 (fun x182 =>
 kCall R 36 [a0, x182] h178 (fun x183 h184 =>
 after (fun x185 h186 =>
 clearUp h (packR h186 (resV enE h186 [.cell (.c x2) 7 true]))) (store1 7 h184 (cellsL x183) (addrOf x2)))))
 (kI64 .eql x5 (Value.int .i64 (.ofNat 9)) (fun x187 =>
 jn (fun (x189 : Value) (h190 : Hs) =>
 jn (fun (h192 : Hs) =>
 k179 x189 h192) fun k191 =>
 cnd x189
 (kLoads 6 x0 h190 (fun x193 =>
 kCall R 37 [a0, x193] h190 (fun x194 h195 =>
 after (fun x196 h197 =>
 clearUp h (packR h197 (resV enE h197 [.cell (.c x2) 7 true]))) (store1 7 h195 (cellsL x194) (addrOf x2)))))
 (k191 h190)) fun k188 =>
 cnd x187
 (k188 x187 h178)
 (kI64 .eql x5 (Value.int .i64 (.ofNat 10)) (fun x198 =>
 jn (fun (x200 : Value) (h201 : Hs) =>
 k188 x200 h201) fun k199 =>
 cnd x198
 (k199 x198 h178)
 (kI64 .eql x5 (Value.int .i64 (.ofNat 11)) (fun x202 =>
 k199 x202 h178))))))) fun k176 =>
 cnd x175
 (k176 x175 h3)
 (kI64 .eql x5 (Value.int .i64 (.ofNat 12)) (fun x203 =>
 jn (fun (x205 : Value) (h206 : Hs) =>
 k176 x205 h206) fun k204 =>
 cnd x203
 (k204 x203 h3)
 (kI64 .eql x5 (Value.int .i64 (.ofNat 13)) (fun x207 =>
 k204 x207 h3)))))))))))))))))))))) (oAlloc 29 [(Value.int .i64 (.ofNat 0)), (Value.int .i64 (.ofNat 0)), (Value.int .i64 (.ofNat 0)), (Value.int .i64 (.ofNat 0)), (Value.int .i64 (.ofNat 0)), (Value.slice none 0 0), (Value.slice none 0 0)] enE h1)) (oBox 32 (.c a1) enE h0)

theorem q13 (R : RnK) (N : Nat) (args : List Value) (h : Hs) : r13 R N args h = callT Tryz.prog N R 13 args h := by kernel_rfl

/-- (*lintel/tree.Tree).Parts -/
noncomputable def r14 (R : RnK) (N : Nat) (args : List Value) (h : Hs) : An := unC args fun a0 sq0 => enK h fun h0 =>
 kNil a0 (fun x0 =>
 kFieldA 1 x0 (fun x1 =>
 kLoad x1 h0 (fun x2 =>
 kCall R 39 [x2] h0 (fun x3 h4 =>
 kCall R 38 [x3] h4 (fun x5 h6 =>
 kLenV x5 (fun x7 =>
 jn (fun (x9 x10 x11 x12 x13 x14 x15 x16 x17 x18 x19 : Value) (h20 : Hs) =>
 clrK h x19 h20) fun k8 =>
 lpT (T := Value → Value → Value → Value → Value → Value → Value → Value → Value → Value → Value → Hs → An) (fun _ _ _ _ _ _ _ _ _ _ _ _ => none) N (fun k21 =>
 fun (x23 x24 x25 x26 x27 x28 x29 x30 x31 x32 x33 : Value) (h34 : Hs) =>
 kI64 .lss x23 x7 (fun x35 =>
 jn (fun (h37 : Hs) =>
 jn (fun (x39 x40 x41 x42 x43 x44 x45 x46 x47 : Value) (h48 : Hs) =>
 kI64 .add x23 (Value.int .i64 (.ofNat 1)) (fun x49 =>
 k21 x49 x35 x39 x40 x41 x42 x43 x44 x45 x46 x47 h48)) fun k38 =>
 kIdxA 1 x5 x23 (fun x50 =>
 kLoad x50 h37 (fun x51 =>
 kNil a0 (fun x52 =>
 kFieldA 1 x52 (fun x53 =>
 kLoad x53 h37 (fun x54 =>
 after (fun x55 h56 =>
 kNil x55 (fun x57 =>
 kFieldA 0 x57 (fun x58 =>
 kLoad x58 (Hs.mk h56.hp h56.nx h56.nx) (fun x59 =>
 kNil x55 (fun x60 =>
 kFieldA 1 x60 (fun x61 =>
 kLoad x61 (Hs.mk h56.hp h56.nx h56.nx) (fun x62 =>
 kCall R 31 [x62] (Hs.mk h56.hp h56.nx h56.nx) (fun v136 u137 => dPut (fun x63 h64 =>
 after (fun v134 u135 => dPut (fun x65 h66 =>
 after (fun v132 u133 => dPut (fun x67 h68 =>
 after (fun v130 u131 => dPut (fun x69 h70 =>
 kNil x55 (fun x71 =>
 kFieldA 2 x71 (fun x72 =>
 kLoad x72 h70 (fun x73 =>
 kCall R 41 [x73] h70 (fun x74 h75 =>
 kCall R 40 [x74] h75 (fun x76 h77 =>
 kLenV x76 (fun x78 =>
 jn (fun (x80 x81 x82 : Value) (h83 : Hs) =>
 kLoads 4 x67 h83 (fun x84 =>
 after (fun x85 h86 =>
 after (fun x87 h88 =>
 k38 x51 x55 x80 x78 x81 x76 x67 x82 x87 h88) (app0 80 4 64 h86 x33 x85)) (oMkrow 80 4 1 [(Value.int .i64 (.ofNat 0)), (Value.int .i64 (.ofNat 0)), (Value.slice none 0 0), (Value.slice none 0 0)] [(0, 4, .c x84)] enE h83))) fun k79 =>
 lpT (T := Value → Value → Value → Hs → An) (fun _ _ _ _ => none) N (fun k89 =>
 fun (x91 x92 x93 : Value) (h94 : Hs) =>
 kI64 .lss x91 x78 (fun x95 =>
 jn (fun (h97 : Hs) =>
 jn (fun (x99 : Value) (h100 : Hs) =>
 kI64 .add x91 (Value.int .i64 (.ofNat 1)) (fun x101 =>
 k89 x101 x95 x99 h100)) fun k98 =>
 kIdxA 1 x76 x91 (fun x102 =>
 kLoad x102 h97 (fun x103 =>
 kFieldA 3 x67 (fun x104 =>
 kLoad x104 (Hs.mk h97.hp h97.nx h97.nx) (fun x105 =>
 kNil x55 (fun x106 =>
 kFieldA 2 x106 (fun x107 =>
 kLoad x107 (Hs.mk h97.hp h97.nx h97.nx) (fun x108 =>
 after (fun v128 u129 => dPut (fun x109 h110 =>
 after (fun v126 u127 => dPut (fun x111 h112 =>
 after (fun v124 u125 => dPut (fun x113 h114 =>
 after (fun v122 u123 => dPut (fun x115 h116 =>
 kFieldA 3 x67 (fun x117 =>
 kStore1 x117 x115 h116 (fun v120 u121 => dPut (fun x118 h119 =>
 k98 x103 h119) v120 (dNext h116 u121 .bar) (andB (dFit h116 u121 .bar) (Nat.ble 0 u121.lo))))) v122 (dNext h114 u123 .bar) (andB (dFit h114 u123 .bar) (Nat.ble 0 u123.lo))) (app0 86 2 24 h114 x105 x113)) v124 (dNext h112 u125 .light) (andB (dFit h112 u125 .light) (Nat.ble 0 u125.lo))) (oMkrow 86 2 1 [(Value.string ⟨#[]⟩), (Value.int .i64 (.ofNat 0))] [(0, 2, .c x111)] enE (dHidS .light [true, true, true, true, true, true, true, true, false, false] [some (h110.nx, h112.nx), some (h97.nx, h110.nx), none, none, none, none, none, none, none, none] h112))) v126 (dNext h110 u127 .blind) (andB (dFit h110 u127 .blind) (Nat.ble 0 u127.lo))) (oBuild [(Value.string ⟨#[]⟩), (Value.int .i64 (.ofNat 0))] [(0, 1, .c x103), (1, 1, .c x109)] enE (Hs.mk .e h110.nx h110.nx))) v128 (dNext h97 u129 .light) (andB (dFit h97 u129 .light) (Nat.ble 0 u129.lo))) (ret1 (Hs.mk h97.hp h97.nx h97.nx) (lk1 false (Hs.mk h97.hp h97.nx h97.nx) (Value.int .i64 (.ofNat 0)) false x103 x108)))))))))) fun k96 =>
 cnd x95
 (k96 h94)
 (k79 x91 x95 x93 h94))) (Value.int .i64 (.ofNat 0)) x29 x32 h77))))))) v130 (dNext h68 u131 .bar) (andB (dFit h68 u131 .bar) (Nat.ble 0 u131.lo))) (store1 4 h68 (cellsL x65) (addrOf x67))) v132 (dNext h66 u133 .make) (andB (dFit h66 u133 .make) (Nat.ble 0 u133.lo))) (oAlloc 80 [(Value.int .i64 (.ofNat 0)), (Value.int .i64 (.ofNat 0)), (Value.slice none 0 0), (Value.slice none 0 0)] enE (Hs.mk .e h66.nx h66.nx))) v134 (dNext h64 u135 .blind) (andB (dFit h64 u135 .blind) (Nat.ble 0 u135.lo))) (oBuild [(Value.int .i64 (.ofNat 0)), (Value.int .i64 (.ofNat 0)), (Value.slice none 0 0), (Value.slice none 0 0)] [(0, 1, .c x51), (1, 1, .c x59), (2, 1, .c x63)] enE (Hs.mk .e h64.nx h64.nx))) v136 (dNext h56 u137 .light) (andB (dFit h56 u137 .light) (Nat.ble 0 u137.lo)))))))))) (ret1 h37 (lk1 true h37 (Value.pointer none) false x51 x54)))))))) fun k36 =>
 cnd x35
 (k36 h34)
 (k8 x23 x35 x25 x26 x27 x28 x29 x30 x31 x32 x33 h34))) (Value.int .i64 (.ofNat 0)) dunno dunno dunno dunno dunno dunno dunno dunno dunno (Value.slice none 0 0) h6))))))

theorem q14 (R : RnK) (N : Nat) (args : List Value) (h : Hs) : r14 R N args h = callT Tryz.prog N R 14 args h := by kernel_rfl

/-- lintel/lintellaw17.texts -/
noncomputable def r28 (R : RnK) (N : Nat) (args : List Value) (h : Hs) : An := unC args fun a0 sq0 => unC sq0 fun a1 sq1 => enK h fun h0 =>
 kLenV a0 (fun x0 =>
 kLenV a1 (fun x1 =>
 kI64 .neq x0 x1 (fun x2 =>
 jn (fun (x4 : Value) (h5 : Hs) =>
 jn (fun (x7 x8 x9 x10 : Value) (h11 : Hs) =>
 clrK h (Value.bool true) h11) fun k6 =>
 lpT (T := Value → Value → Value → Value → Hs → An) (fun _ _ _ _ _ => none) N (fun k12 =>
 fun (x14 x15 x16 x17 : Value) (h18 : Hs) =>
 kLenV a0 (fun x19 =>
 kI64 .lss x14 x19 (fun x20 =>
 jn (fun (h22 : Hs) =>
 jn (fun (x24 x25 : Value) (h26 : Hs) =>
 kI64 .add x14 (Value.int .i64 (.ofNat 1)) (fun x27 =>
 k12 x27 x20 x24 x25 h26)) fun k23 =>
 kIdxA 1 a0 x14 (fun x28 =>
 kLoad x28 (Hs.mk h22.hp h22.nx h22.nx) (fun x29 =>
 kIdxA 1 a1 x14 (fun x30 =>
 kLoad x30 (Hs.mk h22.hp h22.nx h22.nx) (fun x31 =>
 obK (fun x32 =>
 jn (fun (x34 : Value) (h35 : Hs) =>
 k23 x32 x34 h35) fun k33 =>
 cnd x32
 (clrK h (Value.bool false) h22)
 (k33 x17 h22)) (s2 .neq x29 x31)))))) fun k21 =>
 cnd x20
 (k21 h18)
 (k6 x14 x20 x16 x17 h18)))) (Value.int .i64 (.ofNat 0)) dunno dunno x4 h5) fun k3 =>
 cnd x2
 (clrK h (Value.bool false) h0)
 (k3 (Value.bool false) h0))))

theorem q28 (R : RnK) (N : Nat) (args : List Value) (h : Hs) : r28 R N args h = callT Tryz.prog N R 28 args h := by kernel_rfl

/-- (*lintel/tree.Tree).create -/
noncomputable def r29 (R : RnK) (N : Nat) (args : List Value) (h : Hs) : An := unC args fun a0 sq0 => unC sq0 fun a1 sq1 => unC sq1 fun a2 sq2 => enK h fun h0 =>
 after (fun x0 h1 =>
 kCall R 60 [a0, a1] h1 (fun x2 h3 =>
 kExtr x2 0 (fun x4 =>
 kExtr x2 1 (fun x5 =>
 kExtr x2 2 (fun x6 =>
 kI64 .neq x6 (Value.int .i64 (.ofNat 0)) (fun x7 =>
 jn (fun (h9 : Hs) =>
 kCall R 61 [a0] h9 (fun x10 h11 =>
 kExtr x10 0 (fun x12 =>
 kExtr x10 1 (fun x13 =>
 kNot x13 (fun x14 =>
 jn (fun (h16 : Hs) =>
 kNil a0 (fun x17 =>
 kFieldA 1 x17 (fun x18 =>
 kLoad x18 h16 (fun x19 =>
 after (fun x20 h21 =>
 kCall R 62 [a0, x4, x5, x12] h21 (fun x22 h23 =>
 after (fun x24 h25 =>
 after (fun x26 h27 =>
 clearUp h (packR h27 (resV enE h27 [.cell (.c x0) 7 true]))) (store1 7 h25 (cellsL x24) (addrOf x0))) (oBuild [(Value.int .i64 (.ofNat 0)), (Value.int .i64 (.ofNat 0)), (Value.int .i64 (.ofNat 0)), (Value.int .i64 (.ofNat 0)), (Value.int .i64 (.ofNat 0)), (Value.slice none 0 0), (Value.slice none 0 0)] [(1, 1, .c x12)] enE h23))) (mapup1 true h16 x12 a2 x19))))) fun k15 =>
 cnd x14
 (kCall R 30 [(Value.int .i64 (.ofNat 7))] h11 (fun x28 h29 =>
 after (fun x30 h31 =>
 clearUp h (packR h31 (resV enE h31 [.cell (.c x0) 7 true]))) (store1 7 h29 (cellsL x28) (addrOf x0))))
 (k15 h11)))))) fun k8 =>
 cnd x7
 (kCall R 30 [x6] h3 (fun x32 h33 =>
 after (fun x34 h35 =>
 clearUp h (packR h35 (resV enE h35 [.cell (.c x0) 7 true]))) (store1 7 h33 (cellsL x32) (addrOf x0))))
 (k8 h3))))))) (oAlloc 29 [(Value.int .i64 (.ofNat 0)), (Value.int .i64 (.ofNat 0)), (Value.int .i64 (.ofNat 0)), (Value.int .i64 (.ofNat 0)), (Value.int .i64 (.ofNat 0)), (Value.slice none 0 0), (Value.slice none 0 0)] enE h0)

theorem q29 (R : RnK) (N : Nat) (args : List Value) (h : Hs) : r29 R N args h = callT Tryz.prog N R 29 args h := by kernel_rfl

/-- lintel/tree.fail -/
noncomputable def r30 (R : RnK) (N : Nat) (args : List Value) (h : Hs) : An := unC args fun a0 sq0 => enK h fun h0 =>
 after (fun x0 h1 =>
 after (fun x2 h3 =>
 after (fun x4 h5 =>
 clearUp h (packR h5 (resV enE h5 [.cell (.c x0) 7 true]))) (store1 7 h3 (cellsL x2) (addrOf x0))) (oBuild [(Value.int .i64 (.ofNat 0)), (Value.int .i64 (.ofNat 0)), (Value.int .i64 (.ofNat 0)), (Value.int .i64 (.ofNat 0)), (Value.int .i64 (.ofNat 0)), (Value.slice none 0 0), (Value.slice none 0 0)] [(0, 1, .c a0)] enE h1)) (oAlloc 29 [(Value.int .i64 (.ofNat 0)), (Value.int .i64 (.ofNat 0)), (Value.int .i64 (.ofNat 0)), (Value.int .i64 (.ofNat 0)), (Value.int .i64 (.ofNat 0)), (Value.slice none 0 0), (Value.slice none 0 0)] enE h0)

theorem q30 (R : RnK) (N : Nat) (args : List Value) (h : Hs) : r30 R N args h = callT Tryz.prog N R 30 args h := by kernel_rfl

/-- bytes.Clone -/
noncomputable def r31 (R : RnK) (N : Nat) (args : List Value) (h : Hs) : An := unC args fun a0 sq0 => enK h fun h0 =>
 obK (fun x0 =>
 jn (fun (x2 : Value) (h3 : Hs) =>
 after (fun x4 h5 =>
 after (fun x6 h7 =>
 clrK h x6 h7) (app0 5 1 1 h5 x4 a0)) (oMkrow 5 1 0 [(Value.int .u8 (.ofNat 0))] [] enE h3)) fun k1 =>
 cnd x0
 (clrK h (Value.slice none 0 0) h0)
 (k1 (Value.slice none 0 0) h0)) (e2 false qS a0 (Value.slice none 0 0))

theorem q31 (R : RnK) (N : Nat) (args : List Value) (h : Hs) : r31 R N args h = callT Tryz.prog N R 31 args h := by kernel_rfl

/-- (*lintel/tree.Tree).link -/
noncomputable def r32 (R : RnK) (N : Nat) (args : List Value) (h : Hs) : An := unC args fun a0 sq0 => unC sq0 fun a1 sq1 => enK h fun h0 =>
 after (fun x0 h1 =>
 after (fun x2 h3 =>
 kFieldA 1 x0 (fun x4 =>
 kLoad x4 h3 (fun x5 =>
 kCall R 63 [a0, x5, (Value.bool false)] h3 (fun x6 h7 =>
 kExtr x6 0 (fun x8 =>
 kExtr x6 1 (fun x9 =>
 jn (fun (x11 x12 : Value) (h13 : Hs) =>
 kFieldA 2 x0 (fun x14 =>
 kLoad x14 h13 (fun x15 =>
 kCall R 60 [a0, x15] h13 (fun x16 h17 =>
 kExtr x16 0 (fun x18 =>
 kExtr x16 1 (fun x19 =>
 kExtr x16 2 (fun x20 =>
 jn (fun (x22 x23 : Value) (h24 : Hs) =>
 kCall R 62 [a0, x18, x19, x8] h24 (fun x25 h26 =>
 after (fun x27 h28 =>
 after (fun x29 h30 =>
 clearUp h (packR h30 (resV enE h30 [.cell (.c x2) 7 true]))) (store1 7 h28 (cellsL x27) (addrOf x2))) (oBuild [(Value.int .i64 (.ofNat 0)), (Value.int .i64 (.ofNat 0)), (Value.int .i64 (.ofNat 0)), (Value.int .i64 (.ofNat 0)), (Value.int .i64 (.ofNat 0)), (Value.slice none 0 0), (Value.slice none 0 0)] [(1, 1, .c x8)] enE h26))) fun k21 =>
 kI64 .neq x20 (Value.int .i64 (.ofNat 0)) (fun x31 =>
 jn (fun (x33 : Value) (h34 : Hs) =>
 k21 x31 x33 h34) fun k32 =>
 cnd x31
 (kCall R 30 [x20] h17 (fun x35 h36 =>
 after (fun x37 h38 =>
 clearUp h (packR h38 (resV enE h38 [.cell (.c x2) 7 true]))) (store1 7 h36 (cellsL x35) (addrOf x2))))
 (kNil a0 (fun x39 =>
 kFieldA 1 x39 (fun x40 =>
 kLoad x40 h17 (fun x41 =>
 after (fun x42 h43 =>
 kNil x42 (fun x44 =>
 kFieldA 4 x44 (fun x45 =>
 kLoad x45 h43 (fun x46 =>
 kI64 .geq x46 (Value.int .i64 (.ofNat 200)) (fun x47 =>
 jn (fun (h49 : Hs) =>
 k32 x47 h49) fun k48 =>
 cnd x47
 (kCall R 30 [(Value.int .i64 (.ofNat 10))] h43 (fun x50 h51 =>
 after (fun x52 h53 =>
 clearUp h (packR h53 (resV enE h53 [.cell (.c x2) 7 true]))) (store1 7 h51 (cellsL x50) (addrOf x2))))
 (k48 h43)))))) (ret1 h17 (lk1 true h17 (Value.pointer none) false x8 x41)))))))))))))) fun k10 =>
 kI64 .neq x9 (Value.int .i64 (.ofNat 0)) (fun x54 =>
 jn (fun (x56 : Value) (h57 : Hs) =>
 k10 x54 x56 h57) fun k55 =>
 cnd x54
 (kCall R 30 [x9] h7 (fun x58 h59 =>
 after (fun x60 h61 =>
 clearUp h (packR h61 (resV enE h61 [.cell (.c x2) 7 true]))) (store1 7 h59 (cellsL x58) (addrOf x2))))
 (kNil a0 (fun x62 =>
 kFieldA 1 x62 (fun x63 =>
 kLoad x63 h7 (fun x64 =>
 after (fun x65 h66 =>
 kNil x65 (fun x67 =>
 kFieldA 0 x67 (fun x68 =>
 kLoad x68 h66 (fun x69 =>
 kI64 .eql x69 (Value.int .i64 (.ofNat 2)) (fun x70 =>
 jn (fun (h72 : Hs) =>
 k55 x70 h72) fun k71 =>
 cnd x70
 (kCall R 30 [(Value.int .i64 (.ofNat 5))] h66 (fun x73 h74 =>
 after (fun x75 h76 =>
 clearUp h (packR h76 (resV enE h76 [.cell (.c x2) 7 true]))) (store1 7 h74 (cellsL x73) (addrOf x2))))
 (k71 h66)))))) (ret1 h7 (lk1 true h7 (Value.pointer none) false x8 x64))))))))))))) (oAlloc 29 [(Value.int .i64 (.ofNat 0)), (Value.int .i64 (.ofNat 0)), (Value.int .i64 (.ofNat 0)), (Value.int .i64 (.ofNat 0)), (Value.int .i64 (.ofNat 0)), (Value.slice none 0 0), (Value.slice none 0 0)] enE h1)) (oBox 32 (.c a1) enE h0)

theorem q32 (R : RnK) (N : Nat) (args : List Value) (h : Hs) : r32 R N args h = callT Tryz.prog N R 32 args h := by kernel_rfl

/-- (*lintel/tree.Tree).unlink -/
noncomputable def r33 (R : RnK) (N : Nat) (args : List Value) (h : Hs) : An := unC args fun a0 sq0 => unC sq0 fun a1 sq1 => enK h fun h0 =>
 after (fun x0 h1 =>
 after (fun x2 h3 =>
 kFieldA 1 x0 (fun x4 =>
 kLoad x4 h3 (fun x5 =>
 kCall R 64 [a0, x5] h3 (fun x6 h7 =>
 kExtr x6 0 (fun x8 =>
 kExtr x6 1 (fun x9 =>
 kExtr x6 2 (fun x10 =>
 kExtr x6 3 (fun x11 =>
 jn (fun (x13 x14 : Value) (h15 : Hs) =>
 kCall R 65 [a0, x8, x9] h15 (fun x16 h17 =>
 after (fun x18 h19 =>
 after (fun x20 h21 =>
 clearUp h (packR h21 (resV enE h21 [.cell (.c x2) 7 true]))) (store1 7 h19 (cellsL x18) (addrOf x2))) (oBuild [(Value.int .i64 (.ofNat 0)), (Value.int .i64 (.ofNat 0)), (Value.int .i64 (.ofNat 0)), (Value.int .i64 (.ofNat 0)), (Value.int .i64 (.ofNat 0)), (Value.slice none 0 0), (Value.slice none 0 0)] [(1, 1, .c x10)] enE h17))) fun k12 =>
 kI64 .neq x11 (Value.int .i64 (.ofNat 0)) (fun x22 =>
 jn (fun (x24 : Value) (h25 : Hs) =>
 k12 x22 x24 h25) fun k23 =>
 cnd x22
 (kCall R 30 [x11] h7 (fun x26 h27 =>
 after (fun x28 h29 =>
 clearUp h (packR h29 (resV enE h29 [.cell (.c x2) 7 true]))) (store1 7 h27 (cellsL x26) (addrOf x2))))
 (kNil a0 (fun x30 =>
 kFieldA 1 x30 (fun x31 =>
 kLoad x31 h7 (fun x32 =>
 after (fun x33 h34 =>
 kNil x33 (fun x35 =>
 kFieldA 0 x35 (fun x36 =>
 kLoad x36 h34 (fun x37 =>
 kI64 .eql x37 (Value.int .i64 (.ofNat 2)) (fun x38 =>
 jn (fun (h40 : Hs) =>
 k23 x38 h40) fun k39 =>
 cnd x38
 (kCall R 30 [(Value.int .i64 (.ofNat 5))] h34 (fun x41 h42 =>
 after (fun x43 h44 =>
 clearUp h (packR h44 (resV enE h44 [.cell (.c x2) 7 true]))) (store1 7 h42 (cellsL x41) (addrOf x2))))
 (k39 h34)))))) (ret1 h7 (lk1 true h7 (Value.pointer none) false x10 x32))))))))))))))) (oAlloc 29 [(Value.int .i64 (.ofNat 0)), (Value.int .i64 (.ofNat 0)), (Value.int .i64 (.ofNat 0)), (Value.int .i64 (.ofNat 0)), (Value.int .i64 (.ofNat 0)), (Value.slice none 0 0), (Value.slice none 0 0)] enE h1)) (oBox 32 (.c a1) enE h0)

theorem q33 (R : RnK) (N : Nat) (args : List Value) (h : Hs) : r33 R N args h = callT Tryz.prog N R 33 args h := by kernel_rfl

/-- (*lintel/tree.Tree).removeDir -/
noncomputable def r34 (R : RnK) (N : Nat) (args : List Value) (h : Hs) : An := unC args fun a0 sq0 => unC sq0 fun a1 sq1 => enK h fun h0 =>
 after (fun x0 h1 =>
 after (fun x2 h3 =>
 kFieldA 1 x0 (fun x4 =>
 kLoad x4 h3 (fun x5 =>
 kCall R 64 [a0, x5] h3 (fun x6 h7 =>
 kExtr x6 0 (fun x8 =>
 kExtr x6 1 (fun x9 =>
 kExtr x6 2 (fun x10 =>
 kExtr x6 3 (fun x11 =>
 jn (fun (x13 x14 x15 x16 : Value) (h17 : Hs) =>
 kCall R 65 [a0, x8, x9] h17 (fun x18 h19 =>
 after (fun x20 h21 =>
 after (fun x22 h23 =>
 clearUp h (packR h23 (resV enE h23 [.cell (.c x2) 7 true]))) (store1 7 h21 (cellsL x20) (addrOf x2))) (oBuild [(Value.int .i64 (.ofNat 0)), (Value.int .i64 (.ofNat 0)), (Value.int .i64 (.ofNat 0)), (Value.int .i64 (.ofNat 0)), (Value.int .i64 (.ofNat 0)), (Value.slice none 0 0), (Value.slice none 0 0)] [(1, 1, .c x10)] enE h19))) fun k12 =>
 kI64 .neq x11 (Value.int .i64 (.ofNat 0)) (fun x24 =>
 jn (fun (x26 x27 x28 : Value) (h29 : Hs) =>
 k12 x24 x26 x27 x28 h29) fun k25 =>
 cnd x24
 (kCall R 30 [x11] h7 (fun x30 h31 =>
 after (fun x32 h33 =>
 clearUp h (packR h33 (resV enE h33 [.cell (.c x2) 7 true]))) (store1 7 h31 (cellsL x30) (addrOf x2))))
 (kNil a0 (fun x34 =>
 kFieldA 1 x34 (fun x35 =>
 kLoad x35 h7 (fun x36 =>
 after (fun x37 h38 =>
 kNil x37 (fun x39 =>
 kFieldA 0 x39 (fun x40 =>
 kLoad x40 h38 (fun x41 =>
 kI64 .neq x41 (Value.int .i64 (.ofNat 2)) (fun x42 =>
 jn (fun (x44 x45 : Value) (h46 : Hs) =>
 k25 x42 x44 x45 h46) fun k43 =>
 cnd x42
 (kCall R 30 [(Value.int .i64 (.ofNat 4))] h38 (fun x47 h48 =>
 after (fun x49 h50 =>
 clearUp h (packR h50 (resV enE h50 [.cell (.c x2) 7 true]))) (store1 7 h48 (cellsL x47) (addrOf x2))))
 (kI64 .eql x10 (Value.int .i64 (.ofNat 2)) (fun x51 =>
 jn (fun (x53 : Value) (h54 : Hs) =>
 k43 x51 x53 h54) fun k52 =>
 cnd x51
 (kCall R 30 [(Value.int .i64 (.ofNat 12))] h38 (fun x55 h56 =>
 after (fun x57 h58 =>
 clearUp h (packR h58 (resV enE h58 [.cell (.c x2) 7 true]))) (store1 7 h56 (cellsL x55) (addrOf x2))))
 (kNil a0 (fun x59 =>
 kFieldA 1 x59 (fun x60 =>
 kLoad x60 h38 (fun x61 =>
 after (fun x62 h63 =>
 kNil x62 (fun x64 =>
 kFieldA 2 x64 (fun x65 =>
 kLoad x65 h63 (fun x66 =>
 after (fun x67 h68 =>
 kI64 .gtr x67 (Value.int .i64 (.ofNat 0)) (fun x69 =>
 jn (fun (h71 : Hs) =>
 k52 x69 h71) fun k70 =>
 cnd x69
 (kCall R 30 [(Value.int .i64 (.ofNat 6))] h68 (fun x72 h73 =>
 after (fun x74 h75 =>
 clearUp h (packR h75 (resV enE h75 [.cell (.c x2) 7 true]))) (store1 7 h73 (cellsL x72) (addrOf x2))))
 (k70 h68))) (ret1 h63 (maplen1 h63 x66)))))) (ret1 h38 (lk1 true h38 (Value.pointer none) false x10 x61))))))))))))) (ret1 h7 (lk1 true h7 (Value.pointer none) false x10 x36))))))))))))))) (oAlloc 29 [(Value.int .i64 (.ofNat 0)), (Value.int .i64 (.ofNat 0)), (Value.int .i64 (.ofNat 0)), (Value.int .i64 (.ofNat 0)), (Value.int .i64 (.ofNat 0)), (Value.slice none 0 0), (Value.slice none 0 0)] enE h1)) (oBox 32 (.c a1) enE h0)

theorem q34 (R : RnK) (N : Nat) (args : List Value) (h : Hs) : r34 R N args h = callT Tryz.prog N R 34 args h := by kernel_rfl

/-- (*lintel/tree.Tree).rename -/
noncomputable def r35 (R : RnK) (N : Nat) (args : List Value) (h : Hs) : An := unC args fun a0 sq0 => unC sq0 fun a1 sq1 => enK h fun h0 =>
 after (fun x0 h1 =>
 after (fun x2 h3 =>
 kFieldA 1 x0 (fun x4 =>
 kLoad x4 h3 (fun x5 =>
 kCall R 66 [x5] h3 (fun x6 h7 =>
 kExtr x6 0 (fun x8 =>
 kExtr x6 1 (fun x9 =>
 kExtr x6 2 (fun x10 =>
 kI64 .neq x10 (Value.int .i64 (.ofNat 0)) (fun x11 =>
 jn (fun (h13 : Hs) =>
 kFieldA 2 x0 (fun x14 =>
 kLoad x14 h13 (fun x15 =>
 kCall R 66 [x15] h13 (fun x16 h17 =>
 kExtr x16 0 (fun x18 =>
 kExtr x16 1 (fun x19 =>
 kExtr x16 2 (fun x20 =>
 kI64 .neq x20 (Value.int .i64 (.ofNat 0)) (fun x21 =>
 jn (fun (h23 : Hs) =>
 kFieldA 1 x0 (fun x24 =>
 kLoad x24 h23 (fun x25 =>
 kCall R 64 [a0, x25] h23 (fun x26 h27 =>
 kExtr x26 0 (fun x28 =>
 kExtr x26 1 (fun x29 =>
 kExtr x26 2 (fun x30 =>
 kExtr x26 3 (fun x31 =>
 jn (fun (x33 x34 : Value) (h35 : Hs) =>
 kCall R 67 [a0, x18] h35 (fun x36 h37 =>
 kExtr x36 0 (fun x38 =>
 kExtr x36 1 (fun x39 =>
 jn (fun (x41 x42 x43 : Value) (h44 : Hs) =>
 kCall R 69 [a0, x38, x19] h44 (fun x45 h46 =>
 kExtr x45 0 (fun x47 =>
 kExtr x45 1 (fun x48 =>
 jn (fun (x50 x51 x52 : Value) (h53 : Hs) =>
 kCall R 62 [a0, x38, x19, x30] h53 (fun x54 h55 =>
 kNil a0 (fun x56 =>
 kFieldA 1 x56 (fun x57 =>
 kLoad x57 h55 (fun x58 =>
 after (fun x59 h60 =>
 kNil x59 (fun x61 =>
 kFieldA 2 x61 (fun x62 =>
 kLoad x62 h60 (fun x63 =>
 after (fun x64 h65 =>
 kNil a0 (fun x66 =>
 kFieldA 1 x66 (fun x67 =>
 kLoad x67 h65 (fun x68 =>
 after (fun x69 h70 =>
 kNil x69 (fun x71 =>
 kFieldA 0 x71 (fun x72 =>
 kLoad x72 h70 (fun x73 =>
 kI64 .neq x73 (Value.int .i64 (.ofNat 2)) (fun x74 =>
 jn (fun (h76 : Hs) =>
 after (fun x77 h78 =>
 after (fun x79 h80 =>
 clearUp h (packR h80 (resV enE h80 [.cell (.c x2) 7 true]))) (store1 7 h78 (cellsL x77) (addrOf x2))) (oBuild [(Value.int .i64 (.ofNat 0)), (Value.int .i64 (.ofNat 0)), (Value.int .i64 (.ofNat 0)), (Value.int .i64 (.ofNat 0)), (Value.int .i64 (.ofNat 0)), (Value.slice none 0 0), (Value.slice none 0 0)] [(1, 1, .c x30)] enE h76)) fun k75 =>
 cnd x74
 (kNil a0 (fun x81 =>
 kFieldA 1 x81 (fun x82 =>
 kLoad x82 h70 (fun x83 =>
 after (fun x84 h85 =>
 kNil x84 (fun x86 =>
 kFieldA 4 x86 (fun x87 =>
 kLoad x87 h85 (fun x88 =>
 kI64 .sub x88 (Value.int .i64 (.ofNat 1)) (fun x89 =>
 kNil x84 (fun x90 =>
 kFieldA 4 x90 (fun x91 =>
 kStore1 x91 x89 h85 (fun x92 h93 =>
 k75 h93)))))))) (ret1 h70 (lk1 true h70 (Value.pointer none) false x30 x83))))))
 (k75 h70)))))) (ret1 h65 (lk1 true h65 (Value.pointer none) false x30 x68)))))) (mapdel1 false h60 x29 x63))))) (ret1 h55 (lk1 true h55 (Value.pointer none) false x28 x58))))))) fun k49 =>
 cnd x48
 (kI64 .eql x47 x30 (fun x94 =>
 jn (fun (h96 : Hs) =>
 kCall R 70 [a0, x30, x47] h96 (fun x97 h98 =>
 kI64 .neq x97 (Value.int .i64 (.ofNat 0)) (fun x99 =>
 jn (fun (h101 : Hs) =>
 kCall R 65 [a0, x38, x19] h101 (fun x102 h103 =>
 k49 x94 x97 x99 h103)) fun k100 =>
 cnd x99
 (kCall R 30 [x97] h98 (fun x104 h105 =>
 after (fun x106 h107 =>
 clearUp h (packR h107 (resV enE h107 [.cell (.c x2) 7 true]))) (store1 7 h105 (cellsL x104) (addrOf x2))))
 (k100 h98)))) fun k95 =>
 cnd x94
 (after (fun x108 h109 =>
 after (fun x110 h111 =>
 clearUp h (packR h111 (resV enE h111 [.cell (.c x2) 7 true]))) (store1 7 h109 (cellsL x108) (addrOf x2))) (oBuild [(Value.int .i64 (.ofNat 0)), (Value.int .i64 (.ofNat 0)), (Value.int .i64 (.ofNat 0)), (Value.int .i64 (.ofNat 0)), (Value.int .i64 (.ofNat 0)), (Value.slice none 0 0), (Value.slice none 0 0)] [(1, 1, .c x30)] enE h46))
 (k95 h46)))
 (k49 dunno dunno dunno h46))))) fun k40 =>
 kI64 .neq x39 (Value.int .i64 (.ofNat 0)) (fun x112 =>
 jn (fun (x114 x115 : Value) (h116 : Hs) =>
 k40 x112 x114 x115 h116) fun k113 =>
 cnd x112
 (kCall R 30 [x39] h37 (fun x117 h118 =>
 after (fun x119 h120 =>
 clearUp h (packR h120 (resV enE h120 [.cell (.c x2) 7 true]))) (store1 7 h118 (cellsL x117) (addrOf x2))))
 (kI64 .eql x38 (Value.int .i64 (.ofNat 2)) (fun x121 =>
 jn (fun (x123 : Value) (h124 : Hs) =>
 k113 x121 x123 h124) fun k122 =>
 cnd x121
 (kCall R 30 [(Value.int .i64 (.ofNat 12))] h37 (fun x125 h126 =>
 after (fun x127 h128 =>
 clearUp h (packR h128 (resV enE h128 [.cell (.c x2) 7 true]))) (store1 7 h126 (cellsL x125) (addrOf x2))))
 (kNil a0 (fun x129 =>
 kFieldA 1 x129 (fun x130 =>
 kLoad x130 h37 (fun x131 =>
 after (fun x132 h133 =>
 kNil x132 (fun x134 =>
 kFieldA 0 x134 (fun x135 =>
 kLoad x135 h133 (fun x136 =>
 kI64 .eql x136 (Value.int .i64 (.ofNat 2)) (fun x137 =>
 gdT x137 h133 (fun k138 => k138 a0 h133) (fun x139 h140 =>
 gdT x137 h140 (fun k141 => k141 x38 h140) (fun x142 h143 =>
 gdT x137 h143 (fun k144 => k144 x30 h143) (fun x145 h146 =>
 gdT x137 h146 (fun k147 => kCall R 68 [x139, x142, x145] h146 (k147)) (fun x148 h149 =>
 after (fun x150 h151 =>
 jn (fun (h153 : Hs) =>
 k122 x150 h153) fun k152 =>
 cnd x150
 (kCall R 30 [(Value.int .i64 (.ofNat 1))] h151 (fun x154 h155 =>
 after (fun x156 h157 =>
 clearUp h (packR h157 (resV enE h157 [.cell (.c x2) 7 true]))) (store1 7 h155 (cellsL x154) (addrOf x2))))
 (k152 h151)) (pickB (.c x148) (.c (Value.bool false)) enE h149 x137)))))))))) (ret1 h37 (lk1 true h37 (Value.pointer none) false x30 x131))))))))))))) fun k32 =>
 kI64 .neq x31 (Value.int .i64 (.ofNat 0)) (fun x158 =>
 jn (fun (x160 : Value) (h161 : Hs) =>
 k32 x158 x160 h161) fun k159 =>
 cnd x158
 (kCall R 30 [x31] h27 (fun x162 h163 =>
 after (fun x164 h165 =>
 clearUp h (packR h165 (resV enE h165 [.cell (.c x2) 7 true]))) (store1 7 h163 (cellsL x162) (addrOf x2))))
 (kI64 .eql x30 (Value.int .i64 (.ofNat 2)) (fun x166 =>
 jn (fun (h168 : Hs) =>
 k159 x166 h168) fun k167 =>
 cnd x166
 (kCall R 30 [(Value.int .i64 (.ofNat 12))] h27 (fun x169 h170 =>
 after (fun x171 h172 =>
 clearUp h (packR h172 (resV enE h172 [.cell (.c x2) 7 true]))) (store1 7 h170 (cellsL x169) (addrOf x2))))
 (k167 h27)))))))))))) fun k22 =>
 cnd x21
 (kCall R 30 [x20] h17 (fun x173 h174 =>
 after (fun x175 h176 =>
 clearUp h (packR h176 (resV enE h176 [.cell (.c x2) 7 true]))) (store1 7 h174 (cellsL x173) (addrOf x2))))
 (k22 h17))))))))) fun k12 =>
 cnd x11
 (kCall R 30 [x10] h7 (fun x177 h178 =>
 after (fun x179 h180 =>
 clearUp h (packR h180 (resV enE h180 [.cell (.c x2) 7 true]))) (store1 7 h178 (cellsL x177) (addrOf x2))))
 (k12 h7))))))))) (oAlloc 29 [(Value.int .i64 (.ofNat 0)), (Value.int .i64 (.ofNat 0)), (Value.int .i64 (.ofNat 0)), (Value.int .i64 (.ofNat 0)), (Value.int .i64 (.ofNat 0)), (Value.slice none 0 0), (Value.slice none 0 0)] enE h1)) (oBox 32 (.c a1) enE h0)

theorem q35 (R : RnK) (N : Nat) (args : List Value) (h : Hs) : r35 R N args h = callT Tryz.prog N R 35 args h := by kernel_rfl

/-- (*lintel/tree.Tree).look -/
noncomputable def r36 (R : RnK) (N : Nat) (args : List Value) (h : Hs) : An := unC args fun a0 sq0 => unC sq0 fun a1 sq1 => enK h fun h0 =>
 after (fun x0 h1 =>
 after (fun x2 h3 =>
 kFieldA 1 x0 (fun x4 =>
 kLoad x4 h3 (fun x5 =>
 kFieldA 0 x0 (fun x6 =>
 kLoad x6 h3 (fun x7 =>
 kI64 .eql x7 (Value.int .i64 (.ofNat 13)) (fun x8 =>
 kCall R 63 [a0, x5, x8] h3 (fun x9 h10 =>
 kExtr x9 0 (fun x11 =>
 kExtr x9 1 (fun x12 =>
 kI64 .neq x12 (Value.int .i64 (.ofNat 0)) (fun x13 =>
 jn (fun (h15 : Hs) =>
 kNil a0 (fun x16 =>
 kFieldA 1 x16 (fun x17 =>
 kLoad x17 h15 (fun x18 =>
 after (fun x19 h20 =>
 kFieldA 0 x0 (fun x21 =>
 kLoad x21 h20 (fun x22 =>
 jn (fun (x24 x25 x26 x27 : Value) (h28 : Hs) =>
 kNil x19 (fun x29 =>
 kFieldA 4 x29 (fun x30 =>
 kLoad x30 h28 (fun x31 =>
 kNil x19 (fun x32 =>
 kFieldA 0 x32 (fun x33 =>
 kLoad x33 h28 (fun x34 =>
 kI64 .eql x34 (Value.int .i64 (.ofNat 2)) (fun x35 =>
 jn (fun (x37 : Value) (h38 : Hs) =>
 kNil x19 (fun x39 =>
 kFieldA 0 x39 (fun x40 =>
 kLoad x40 (Hs.mk h38.hp h38.nx h38.nx) (fun x41 =>
 kCall R 72 [x19] (Hs.mk h38.hp h38.nx h38.nx) (fun v52 u53 => dPut (fun x42 h43 =>
 after (fun v50 u51 => dPut (fun x44 h45 =>
 after (fun v48 u49 => dPut (fun x46 h47 =>
 clearUp h (packR h47 (resV enE h47 [.cell (.c x2) 7 true]))) v48 (dNext h45 u49 .bar) (andB (dFit h45 u49 .bar) (Nat.ble 0 u49.lo))) (store1 7 h45 (cellsL x44) (addrOf x2))) v50 (dNext h43 u51 .blind) (andB (dFit h43 u51 .blind) (Nat.ble 0 u51.lo))) (oBuild [(Value.int .i64 (.ofNat 0)), (Value.int .i64 (.ofNat 0)), (Value.int .i64 (.ofNat 0)), (Value.int .i64 (.ofNat 0)), (Value.int .i64 (.ofNat 0)), (Value.slice none 0 0), (Value.slice none 0 0)] [(1, 1, .c x11), (2, 1, .c x41), (3, 1, .c x37), (4, 1, .c x42)] enE (Hs.mk .e h43.nx h43.nx))) v52 (dNext h38 u53 .light) (andB (dFit h38 u53 .light) (Nat.ble 0 u53.lo))))))) fun k36 =>
 cnd x35
 (k36 (Value.int .i64 (.ofNat 1)) h28)
 (k36 x31 h28))))))))) fun k23 =>
 kI64 .eql x22 (Value.int .i64 (.ofNat 8)) (fun x54 =>
 jn (fun (x56 x57 x58 : Value) (h59 : Hs) =>
 k23 x54 x56 x57 x58 h59) fun k55 =>
 cnd x54
 (kNil x19 (fun x60 =>
 kFieldA 0 x60 (fun x61 =>
 kLoad x61 h20 (fun x62 =>
 kI64 .neq x62 (Value.int .i64 (.ofNat 3)) (fun x63 =>
 jn (fun (h65 : Hs) =>
 kNil x19 (fun x66 =>
 kFieldA 1 x66 (fun x67 =>
 kLoad x67 h65 (fun x68 =>
 kCall R 31 [x68] h65 (fun x69 h70 =>
 after (fun x71 h72 =>
 after (fun x73 h74 =>
 clearUp h (packR h74 (resV enE h74 [.cell (.c x2) 7 true]))) (store1 7 h72 (cellsL x71) (addrOf x2))) (oBuild [(Value.int .i64 (.ofNat 0)), (Value.int .i64 (.ofNat 0)), (Value.int .i64 (.ofNat 0)), (Value.int .i64 (.ofNat 0)), (Value.int .i64 (.ofNat 0)), (Value.slice none 0 0), (Value.slice none 0 0)] [(1, 1, .c x11), (5, 1, .c x69)] enE h70)))))) fun k64 =>
 cnd x63
 (kCall R 30 [(Value.int .i64 (.ofNat 1))] h20 (fun x75 h76 =>
 after (fun x77 h78 =>
 clearUp h (packR h78 (resV enE h78 [.cell (.c x2) 7 true]))) (store1 7 h76 (cellsL x75) (addrOf x2))))
 (k64 h20))))))
 (kI64 .eql x22 (Value.int .i64 (.ofNat 13)) (fun x79 =>
 jn (fun (x81 : Value) (h82 : Hs) =>
 k55 dunno x79 x81 h82) fun k80 =>
 cnd x79
 (kNil x19 (fun x83 =>
 kFieldA 0 x83 (fun x84 =>
 kLoad x84 h20 (fun x85 =>
 kI64 .neq x85 (Value.int .i64 (.ofNat 2)) (fun x86 =>
 jn (fun (h88 : Hs) =>
 kCall R 71 [a0, x11] h88 (fun x89 h90 =>
 after (fun x91 h92 =>
 after (fun x93 h94 =>
 clearUp h (packR h94 (resV enE h94 [.cell (.c x2) 7 true]))) (store1 7 h92 (cellsL x91) (addrOf x2))) (oBuild [(Value.int .i64 (.ofNat 0)), (Value.int .i64 (.ofNat 0)), (Value.int .i64 (.ofNat 0)), (Value.int .i64 (.ofNat 0)), (Value.int .i64 (.ofNat 0)), (Value.slice none 0 0), (Value.slice none 0 0)] [(1, 1, .c x11), (6, 1, .c x89)] enE h90))) fun k87 =>
 cnd x86
 (kCall R 30 [(Value.int .i64 (.ofNat 4))] h20 (fun x95 h96 =>
 after (fun x97 h98 =>
 clearUp h (packR h98 (resV enE h98 [.cell (.c x2) 7 true]))) (store1 7 h96 (cellsL x95) (addrOf x2))))
 (k87 h20))))))
 (k80 dunno h20))))))) (ret1 h15 (lk1 true h15 (Value.pointer none) false x11 x18)))))) fun k14 =>
 cnd x13
 (kCall R 30 [x12] h10 (fun x99 h100 =>
 after (fun x101 h102 =>
 clearUp h (packR h102 (resV enE h102 [.cell (.c x2) 7 true]))) (store1 7 h100 (cellsL x99) (addrOf x2))))
 (k14 h10))))))))))) (oAlloc 29 [(Value.int .i64 (.ofNat 0)), (Value.int .i64 (.ofNat 0)), (Value.int .i64 (.ofNat 0)), (Value.int .i64 (.ofNat 0)), (Value.int .i64 (.ofNat 0)), (Value.slice none 0 0), (Value.slice none 0 0)] enE h1)) (oBox 32 (.c a1) enE h0)

theorem q36 (R : RnK) (N : Nat) (args : List Value) (h : Hs) : r36 R N args h = callT Tryz.prog N R 36 args h := by kernel_rfl

/-- (*lintel/tree.Tree).file -/
noncomputable def r37 (R : RnK) (N : Nat) (args : List Value) (h : Hs) : An := unC args fun a0 sq0 => unC sq0 fun a1 sq1 => enK h fun h0 =>
 after (fun x0 h1 =>
 after (fun x2 h3 =>
 kFieldA 3 x0 (fun x4 =>
 kLoad x4 h3 (fun x5 =>
 kI64 .lss x5 (Value.int .i64 (.ofNat 0)) (fun x6 =>
 gdT x6 h3 (fun k7 => kFieldA 0 x0 (fun x8 => k7 x8 h3)) (fun x9 h10 =>
 gdT x6 h10 (fun k11 => kLoad x9 h10 (fun x12 => k11 x12 h10)) (fun x13 h14 =>
 gdT x6 h14 (fun k15 => kI64 .neq x13 (Value.int .i64 (.ofNat 11)) (fun x16 => k15 x16 h14)) (fun x17 h18 =>
 after (fun x19 h20 =>
 gdF x19 h20 (fun k21 => kFieldA 4 x0 (fun x22 => k21 x22 h20)) (fun x23 h24 =>
 gdF x19 h24 (fun k25 => kLoad x23 h24 (fun x26 => k25 x26 h24)) (fun x27 h28 =>
 gdF x19 h28 (fun k29 => kI64 .lss x27 (Value.int .i64 (.ofNat 0)) (fun x30 => k29 x30 h28)) (fun x31 h32 =>
 gdF x19 h32 (fun k33 => k33 x31 h32) (fun x34 h35 =>
 gdT x34 h35 (fun k36 => kFieldA 0 x0 (fun x37 => k36 x37 h35)) (fun x38 h39 =>
 gdT x34 h39 (fun k40 => kLoad x38 h39 (fun x41 => k40 x41 h39)) (fun x42 h43 =>
 gdT x34 h43 (fun k44 => kI64 .neq x42 (Value.int .i64 (.ofNat 10)) (fun x45 => k44 x45 h43)) (fun x46 h47 =>
 gdF x19 h47 (fun k48 => after (k48) (pickB (.c x46) (.c (Value.bool false)) enE h47 x34)) (fun x49 h50 =>
 after (fun x51 h52 =>
 jn (fun (h54 : Hs) =>
 kFieldA 1 x0 (fun x55 =>
 kLoad x55 h54 (fun x56 =>
 kCall R 63 [a0, x56, (Value.bool true)] h54 (fun x57 h58 =>
 kExtr x57 0 (fun x59 =>
 kExtr x57 1 (fun x60 =>
 kI64 .neq x60 (Value.int .i64 (.ofNat 0)) (fun x61 =>
 jn (fun (h63 : Hs) =>
 kNil a0 (fun x64 =>
 kFieldA 1 x64 (fun x65 =>
 kLoad x65 h63 (fun x66 =>
 after (fun x67 h68 =>
 kNil x67 (fun x69 =>
 kFieldA 0 x69 (fun x70 =>
 kLoad x70 h68 (fun x71 =>
 kI64 .eql x71 (Value.int .i64 (.ofNat 2)) (fun x72 =>
 jn (fun (h74 : Hs) =>
 kFieldA 0 x0 (fun x75 =>
 kLoad x75 h74 (fun x76 =>
 jn (fun (x78 x79 x80 : Value) (h81 : Hs) =>
 kFieldA 4 x0 (fun x82 =>
 kLoad x82 h81 (fun x83 =>
 kI64 .gtr x83 (Value.int .i64 (.ofNat 4096)) (fun x84 =>
 jn (fun (h86 : Hs) =>
 kFieldA 4 x0 (fun x87 =>
 kLoad x87 h86 (fun x88 =>
 kCall R 74 [x67, x88] h86 (fun x89 h90 =>
 kNil x67 (fun x91 =>
 kFieldA 1 x91 (fun x92 =>
 kLoad x92 h90 (fun x93 =>
 kLenV x93 (fun x94 =>
 after (fun x95 h96 =>
 after (fun x97 h98 =>
 clearUp h (packR h98 (resV enE h98 [.cell (.c x2) 7 true]))) (store1 7 h96 (cellsL x95) (addrOf x2))) (oBuild [(Value.int .i64 (.ofNat 0)), (Value.int .i64 (.ofNat 0)), (Value.int .i64 (.ofNat 0)), (Value.int .i64 (.ofNat 0)), (Value.int .i64 (.ofNat 0)), (Value.slice none 0 0), (Value.slice none 0 0)] [(1, 1, .c x59), (4, 1, .c x94)] enE h90))))))))) fun k85 =>
 cnd x84
 (kCall R 30 [(Value.int .i64 (.ofNat 9))] h81 (fun x99 h100 =>
 after (fun x101 h102 =>
 clearUp h (packR h102 (resV enE h102 [.cell (.c x2) 7 true]))) (store1 7 h100 (cellsL x99) (addrOf x2))))
 (k85 h81))))) fun k77 =>
 kI64 .eql x76 (Value.int .i64 (.ofNat 9)) (fun x103 =>
 jn (fun (x105 x106 : Value) (h107 : Hs) =>
 k77 x103 x105 x106 h107) fun k104 =>
 cnd x103
 (kFieldA 3 x0 (fun x108 =>
 kLoad x108 (Hs.mk h74.hp h74.nx h74.nx) (fun x109 =>
 kNil x67 (fun x110 =>
 kFieldA 1 x110 (fun x111 =>
 kLoad x111 (Hs.mk h74.hp h74.nx h74.nx) (fun x112 =>
 kLenV x112 (fun x113 =>
 after (fun v147 u148 => dPut (fun x114 h115 =>
 kNil x67 (fun x116 =>
 kFieldA 1 x116 (fun x117 =>
 kLoad x117 (Hs.mk h115.hp h115.nx h115.nx) (fun x118 =>
 kFieldA 4 x0 (fun x119 =>
 kLoad x119 (Hs.mk h115.hp h115.nx h115.nx) (fun x120 =>
 kNil x67 (fun x121 =>
 kFieldA 1 x121 (fun x122 =>
 kLoad x122 (Hs.mk h115.hp h115.nx h115.nx) (fun x123 =>
 kLenV x123 (fun x124 =>
 kI64 .sub x124 x114 (fun x125 =>
 after (fun v145 u146 => dPut (fun x126 h127 =>
 kI64 .add x114 x126 (fun x128 =>
 after (fun v143 u144 => dPut (fun x129 h130 =>
 kCall R 31 [x129] h130 (fun v141 u142 => dPut (fun x131 h132 =>
 after (fun v139 u140 => dPut (fun x133 h134 =>
 after (fun v137 u138 => dPut (fun x135 h136 =>
 clearUp h (packR h136 (resV enE h136 [.cell (.c x2) 7 true]))) v137 (dNext h134 u138 .bar) (andB (dFit h134 u138 .bar) (Nat.ble 0 u138.lo))) (store1 7 h134 (cellsL x133) (addrOf x2))) v139 (dNext h132 u140 .blind) (andB (dFit h132 u140 .blind) (Nat.ble 0 u140.lo))) (oBuild [(Value.int .i64 (.ofNat 0)), (Value.int .i64 (.ofNat 0)), (Value.int .i64 (.ofNat 0)), (Value.int .i64 (.ofNat 0)), (Value.int .i64 (.ofNat 0)), (Value.slice none 0 0), (Value.slice none 0 0)] [(1, 1, .c x59), (5, 1, .c x131)] enE (Hs.mk .e h132.nx h132.nx))) v141 (dNext h130 u142 .bar) (andB (dFit h130 u142 .bar) (Nat.ble 0 u142.lo)))) v143 (dNext h127 u144 .bar) (andB (dFit h127 u144 .bar) (Nat.ble 0 u144.lo))) (oSlice 1 (.c x118) (some (.c x114)) (some (.c x128)) none enE h127))) v145 (dNext h115 u146 .blind) (andB (dFit h115 u146 .blind) (Nat.ble 0 u146.lo))) (oMinmax false [.c x120, .c x125] enE (Hs.mk .e h115.nx h115.nx))))))))))))) v147 (dNext h74 u148 .blind) (andB (dFit h74 u148 .blind) (Nat.ble 0 u148.lo))) (oMinmax false [.c x109, .c x113] enE (Hs.mk .e h74.nx h74.nx)))))))))
 (kI64 .eql x76 (Value.int .i64 (.ofNat 10)) (fun x149 =>
 jn (fun (h151 : Hs) =>
 k104 dunno x149 h151) fun k150 =>
 cnd x149
 (kLoads 6 x0 h74 (fun x152 =>
 kCall R 73 [a0, x59, x152] h74 (fun x153 h154 =>
 after (fun x155 h156 =>
 clearUp h (packR h156 (resV enE h156 [.cell (.c x2) 7 true]))) (store1 7 h154 (cellsL x153) (addrOf x2)))))
 (k150 h74))))))) fun k73 =>
 cnd x72
 (kCall R 30 [(Value.int .i64 (.ofNat 5))] h68 (fun x157 h158 =>
 after (fun x159 h160 =>
 clearUp h (packR h160 (resV enE h160 [.cell (.c x2) 7 true]))) (store1 7 h158 (cellsL x157) (addrOf x2))))
 (k73 h68)))))) (ret1 h63 (lk1 true h63 (Value.pointer none) false x59 x66)))))) fun k62 =>
 cnd x61
 (kCall R 30 [x60] h58 (fun x161 h162 =>
 after (fun x163 h164 =>
 clearUp h (packR h164 (resV enE h164 [.cell (.c x2) 7 true]))) (store1 7 h162 (cellsL x161) (addrOf x2))))
 (k62 h58)))))))) fun k53 =>
 cnd x51
 (kCall R 30 [(Value.int .i64 (.ofNat 1))] h52 (fun x165 h166 =>
 after (fun x167 h168 =>
 clearUp h (packR h168 (resV enE h168 [.cell (.c x2) 7 true]))) (store1 7 h166 (cellsL x165) (addrOf x2))))
 (k53 h52)) (pickB (.c (Value.bool true)) (.c x49) enE h50 x19)))))))))) (pickB (.c x17) (.c (Value.bool false)) enE h18 x6)))))))) (oAlloc 29 [(Value.int .i64 (.ofNat 0)), (Value.int .i64 (.ofNat 0)), (Value.int .i64 (.ofNat 0)), (Value.int .i64 (.ofNat 0)), (Value.int .i64 (.ofNat 0)), (Value.slice none 0 0), (Value.slice none 0 0)] enE h1)) (oBox 32 (.c a1) enE h0)

theorem q37 (R : RnK) (N : Nat) (args : List Value) (h : Hs) : r37 R N args h = callT Tryz.prog N R 37 args h := by kernel_rfl

/-- maps.Keys[map[int]*lintel/tree.item,int,*lintel/tree.item] -/
noncomputable def r39 (R : RnK) (N : Nat) (args : List Value) (h : Hs) : An := unC args fun a0 sq0 => enK h fun h0 =>
 after (fun x0 h1 =>
 after (fun x2 h3 =>
 clrK h x2 h3) (oMkfunc (.func 77) [] [.c x0] enE h1)) (oBox 63 (.c a0) enE h0)

theorem q39 (R : RnK) (N : Nat) (args : List Value) (h : Hs) : r39 R N args h = callT Tryz.prog N R 39 args h := by kernel_rfl

/-- maps.Keys[map[string]int,string,int] -/
noncomputable def r41 (R : RnK) (N : Nat) (args : List Value) (h : Hs) : An := unC args fun a0 sq0 => enK h fun h0 =>
 after (fun x0 h1 =>
 after (fun x2 h3 =>
 clrK h x2 h3) (oMkfunc (.func 80) [] [.c x0] enE h1)) (oBox 67 (.c a0) enE h0)

theorem q41 (R : RnK) (N : Nat) (args : List Value) (h : Hs) : r41 R N args h = callT Tryz.prog N R 41 args h := by kernel_rfl

/-- (*lintel/tree.Tree).fresh -/
noncomputable def r60 (R : RnK) (N : Nat) (args : List Value) (h : Hs) : An := unC args fun a0 sq0 => unC sq0 fun a1 sq1 => enK h fun h0 =>
 kCall R 66 [a1] h0 (fun x0 h1 =>
 kExtr x0 0 (fun x2 =>
 kExtr x0 1 (fun x3 =>
 kExtr x0 2 (fun x4 =>
 kI64 .neq x4 (Value.int .i64 (.ofNat 0)) (fun x5 =>
 jn (fun (x7 x8 x9 : Value) (h10 : Hs) =>
 kCall R 67 [a0, x2] h10 (fun x11 h12 =>
 kExtr x11 0 (fun x13 =>
 kExtr x11 1 (fun x14 =>
 kI64 .neq x14 (Value.int .i64 (.ofNat 0)) (fun x15 =>
 jn (fun (x17 x18 x19 : Value) (h20 : Hs) =>
 kCall R 69 [a0, x18, x19] h20 (fun x21 h22 =>
 kExtr x21 0 (fun x23 =>
 kExtr x21 1 (fun x24 =>
 jn (fun (x26 x27 x28 : Value) (h29 : Hs) =>
 kI64 .eql x27 (Value.int .i64 (.ofNat 2)) (fun x30 =>
 jn (fun (x32 x33 x34 : Value) (h35 : Hs) =>
 clrK h (Value.tuple #[x33, x34, (Value.int .i64 (.ofNat 0))]) h35) fun k31 =>
 cnd x30
 (clrK h (Value.tuple #[(Value.int .i64 (.ofNat 0)), (Value.string ⟨#[]⟩), (Value.int .i64 (.ofNat 12))]) h29)
 (k31 x26 x27 x28 h29))) fun k25 =>
 cnd x24
 (clrK h (Value.tuple #[(Value.int .i64 (.ofNat 0)), (Value.string ⟨#[]⟩), (Value.int .i64 (.ofNat 3))]) h22)
 (k25 x17 x18 x19 h22))))) fun k16 =>
 cnd x15
 (clrK h (Value.tuple #[(Value.int .i64 (.ofNat 0)), (Value.string ⟨#[]⟩), x14]) h12)
 (k16 x14 x13 x9 h12)))))) fun k6 =>
 cnd x5
 (clrK h (Value.tuple #[(Value.int .i64 (.ofNat 0)), (Value.string ⟨#[]⟩), x4]) h1)
 (k6 x4 (Value.int .i64 (.ofNat 0)) x3 h1))))))

theorem q60 (R : RnK) (N : Nat) (args : List Value) (h : Hs) : r60 R N args h = callT Tryz.prog N R 60 args h := by kernel_rfl

/-- (*lintel/tree.Tree).free -/
noncomputable def r61 (R : RnK) (N : Nat) (args : List Value) (h : Hs) : An := unC args fun a0 sq0 => enK h fun h0 =>
 jn (fun (x1 x2 x3 x4 x5 : Value) (h6 : Hs) =>
 clrK h (Value.tuple #[(Value.int .i64 (.ofNat 0)), (Value.bool false)]) h6) fun k0 =>
 lpT (T := Value → Value → Value → Value → Value → Hs → An) (fun _ _ _ _ _ _ => none) N (fun k7 =>
 fun (x9 x10 x11 x12 x13 : Value) (h14 : Hs) =>
 kNil a0 (fun x15 =>
 kFieldA 0 x15 (fun x16 =>
 kLoad x16 h14 (fun x17 =>
 kI64 .leq x9 x17 (fun x18 =>
 jn (fun (h20 : Hs) =>
 jn (fun (x22 x23 x24 : Value) (h25 : Hs) =>
 kI64 .add x9 (Value.int .i64 (.ofNat 1)) (fun x26 =>
 k7 x26 x18 x22 x23 x24 h25)) fun k21 =>
 kNil a0 (fun x27 =>
 kFieldA 1 x27 (fun x28 =>
 kLoad x28 h20 (fun x29 =>
 after (fun x30 h31 =>
 obK (fun x32 =>
 jn (fun (x34 x35 : Value) (h36 : Hs) =>
 k21 x32 x34 x35 h36) fun k33 =>
 cnd x32
 (clrK h (Value.tuple #[x9, (Value.bool true)]) h31)
 (k33 x12 x13 h31)) (e2 false qP x30 (Value.pointer none))) (ret1 h20 (lk1 true h20 (Value.pointer none) false x9 x29)))))) fun k19 =>
 cnd x18
 (k19 h14)
 (k0 x9 x18 x11 x12 x13 h14)))))) (Value.int .i64 (.ofNat 1)) dunno dunno (Value.int .i64 (.ofNat 0)) (Value.bool false) h0

theorem q61 (R : RnK) (N : Nat) (args : List Value) (h : Hs) : r61 R N args h = callT Tryz.prog N R 61 args h := by kernel_rfl

/-- (*lintel/tree.Tree).put -/
noncomputable def r62 (R : RnK) (N : Nat) (args : List Value) (h : Hs) : An := unC args fun a0 sq0 => unC sq0 fun a1 sq1 => unC sq1 fun a2 sq2 => unC sq2 fun a3 sq3 => enK h fun h0 =>
 kNil a0 (fun x0 =>
 kFieldA 1 x0 (fun x1 =>
 kLoad x1 h0 (fun x2 =>
 after (fun x3 h4 =>
 kNil a0 (fun x5 =>
 kFieldA 1 x5 (fun x6 =>
 kLoad x6 h4 (fun x7 =>
 after (fun x8 h9 =>
 kNil x8 (fun x10 =>
 kFieldA 2 x10 (fun x11 =>
 kLoad x11 h9 (fun x12 =>
 after (fun x13 h14 =>
 kNil x3 (fun x15 =>
 kFieldA 0 x15 (fun x16 =>
 kLoad x16 h14 (fun x17 =>
 kI64 .eql x17 (Value.int .i64 (.ofNat 2)) (fun x18 =>
 jn (fun (h20 : Hs) =>
 clrK h (Value.tuple #[]) h20) fun k19 =>
 cnd x18
 (kNil x3 (fun x21 =>
 kFieldA 3 x21 (fun x22 =>
 kStore1 x22 a1 h14 (fun x23 h24 =>
 k19 h24))))
 (kNil x3 (fun x25 =>
 kFieldA 4 x25 (fun x26 =>
 kLoad x26 h14 (fun x27 =>
 kI64 .add x27 (Value.int .i64 (.ofNat 1)) (fun x28 =>
 kNil x3 (fun x29 =>
 kFieldA 4 x29 (fun x30 =>
 kStore1 x30 x28 h14 (fun x31 h32 =>
 k19 h32))))))))))))) (mapup1 false h9 a2 a3 x12))))) (ret1 h4 (lk1 true h4 (Value.pointer none) false a1 x7)))))) (ret1 h0 (lk1 true h0 (Value.pointer none) false a3 x2)))))

theorem q62 (R : RnK) (N : Nat) (args : List Value) (h : Hs) : r62 R N args h = callT Tryz.prog N R 62 args h := by kernel_rfl

/-- (*lintel/tree.Tree).way -/
noncomputable def r63 (R : RnK) (N : Nat) (args : List Value) (h : Hs) : An := unC args fun a0 sq0 => unC sq0 fun a1 sq1 => unC sq1 fun a2 sq2 => enK h fun h0 =>
 after (fun x0 h1 =>
 after (fun x2 h3 =>
 kCall R 97 [x2, (Value.int .i64 (.ofNat 1)), a1, a2] h3 (fun x4 h5 =>
 kExtr x4 0 (fun x6 =>
 kExtr x4 1 (fun x7 =>
 clrK h (Value.tuple #[x6, x7]) h5)))) (oBox 137 (.c x0) enE h1)) (oBuild [(Value.pointer none), (Value.int .i64 (.ofNat 0))] [(0, 1, .c a0)] enE h0)

theorem q63 (R : RnK) (N : Nat) (args : List Value) (h : Hs) : r63 R N args h = callT Tryz.prog N R 63 args h := by kernel_rfl

/-- (*lintel/tree.Tree).old -/
noncomputable def r64 (R : RnK) (N : Nat) (args : List Value) (h : Hs) : An := unC args fun a0 sq0 => unC sq0 fun a1 sq1 => enK h fun h0 =>
 kCall R 66 [a1] h0 (fun x0 h1 =>
 kExtr x0 0 (fun x2 =>
 kExtr x0 1 (fun x3 =>
 kExtr x0 2 (fun x4 =>
 kI64 .neq x4 (Value.int .i64 (.ofNat 0)) (fun x5 =>
 jn (fun (x7 x8 x9 x10 : Value) (h11 : Hs) =>
 kCall R 67 [a0, x2] h11 (fun x12 h13 =>
 kExtr x12 0 (fun x14 =>
 kExtr x12 1 (fun x15 =>
 kI64 .neq x15 (Value.int .i64 (.ofNat 0)) (fun x16 =>
 jn (fun (x18 x19 x20 x21 : Value) (h22 : Hs) =>
 kCall R 69 [a0, x19, x20] h22 (fun x23 h24 =>
 kExtr x23 0 (fun x25 =>
 kExtr x23 1 (fun x26 =>
 kNot x26 (fun x27 =>
 jn (fun (x29 x30 x31 x32 : Value) (h33 : Hs) =>
 clrK h (Value.tuple #[x30, x31, x32, (Value.int .i64 (.ofNat 0))]) h33) fun k28 =>
 cnd x27
 (clrK h (Value.tuple #[(Value.int .i64 (.ofNat 0)), (Value.string ⟨#[]⟩), (Value.int .i64 (.ofNat 0)), (Value.int .i64 (.ofNat 2))]) h24)
 (k28 x18 x19 x20 x25 h24)))))) fun k17 =>
 cnd x16
 (clrK h (Value.tuple #[(Value.int .i64 (.ofNat 0)), (Value.string ⟨#[]⟩), (Value.int .i64 (.ofNat 0)), x15]) h13)
 (k17 x15 x14 x9 x10 h13)))))) fun k6 =>
 cnd x5
 (clrK h (Value.tuple #[(Value.int .i64 (.ofNat 0)), (Value.string ⟨#[]⟩), (Value.int .i64 (.ofNat 0)), x4]) h1)
 (k6 x4 (Value.int .i64 (.ofNat 0)) x3 (Value.int .i64 (.ofNat 0)) h1))))))

theorem q64 (R : RnK) (N : Nat) (args : List Value) (h : Hs) : r64 R N args h = callT Tryz.prog N R 64 args h := by kernel_rfl

/-- (*lintel/tree.Tree).drop -/
noncomputable def r65 (R : RnK) (N : Nat) (args : List Value) (h : Hs) : An := unC args fun a0 sq0 => unC sq0 fun a1 sq1 => unC sq1 fun a2 sq2 => enK h fun h0 =>
 kNil a0 (fun x0 =>
 kFieldA 1 x0 (fun x1 =>
 kLoad x1 h0 (fun x2 =>
 after (fun x3 h4 =>
 kNil x3 (fun x5 =>
 kFieldA 2 x5 (fun x6 =>
 kLoad x6 h4 (fun x7 =>
 after (fun x8 h9 =>
 kNil a0 (fun x10 =>
 kFieldA 1 x10 (fun x11 =>
 kLoad x11 h9 (fun x12 =>
 after (fun x13 h14 =>
 kNil a0 (fun x15 =>
 kFieldA 1 x15 (fun x16 =>
 kLoad x16 h14 (fun x17 =>
 after (fun x18 h19 =>
 kNil x18 (fun x20 =>
 kFieldA 2 x20 (fun x21 =>
 kLoad x21 h19 (fun x22 =>
 after (fun x23 h24 =>
 kNil x13 (fun x25 =>
 kFieldA 4 x25 (fun x26 =>
 kLoad x26 h24 (fun x27 =>
 kI64 .sub x27 (Value.int .i64 (.ofNat 1)) (fun x28 =>
 kNil x13 (fun x29 =>
 kFieldA 4 x29 (fun x30 =>
 kStore1 x30 x28 h24 (fun x31 h32 =>
 kNil x13 (fun x33 =>
 kFieldA 4 x33 (fun x34 =>
 kLoad x34 h32 (fun x35 =>
 kI64 .leq x35 (Value.int .i64 (.ofNat 0)) (fun x36 =>
 jn (fun (h38 : Hs) =>
 clrK h (Value.tuple #[]) h38) fun k37 =>
 cnd x36
 (kNil a0 (fun x39 =>
 kFieldA 1 x39 (fun x40 =>
 kLoad x40 h32 (fun x41 =>
 after (fun x42 h43 =>
 k37 h43) (mapdel1 true h32 x8 x41)))))
 (k37 h32))))))))))))) (mapdel1 false h19 a2 x22))))) (ret1 h14 (lk1 true h14 (Value.pointer none) false a1 x17)))))) (ret1 h9 (lk1 true h9 (Value.pointer none) false x8 x12)))))) (ret1 h4 (lk1 false h4 (Value.int .i64 (.ofNat 0)) false a2 x7)))))) (ret1 h0 (lk1 true h0 (Value.pointer none) false a1 x2)))))

theorem q65 (R : RnK) (N : Nat) (args : List Value) (h : Hs) : r65 R N args h = callT Tryz.prog N R 65 args h := by kernel_rfl

/-- lintel/path.Last -/
noncomputable def r66 (R : RnK) (N : Nat) (args : List Value) (h : Hs) : An := unC args fun a0 sq0 => enK h fun h0 =>
 kCall R 98 [a0] h0 (fun x0 h1 =>
 kExtr x0 0 (fun x2 =>
 kExtr x0 1 (fun x3 =>
 kI64 .neq x3 (Value.int .i64 (.ofNat 0)) (fun x4 =>
 jn (fun (x6 x7 x8 : Value) (h9 : Hs) =>
 kLenV x2 (fun x10 =>
 kI64 .sub x10 (Value.int .i64 (.ofNat 1)) (fun x11 =>
 kI64 .lss x11 (Value.int .i64 (.ofNat 0)) (fun x12 =>
 gdF x12 h9 (fun k13 => k13 x2 h9) (fun x14 h15 =>
 gdF x12 h15 (fun k16 => k16 x11 h15) (fun x17 h18 =>
 gdF x12 h18 (fun k19 => kIdxA 1 x14 x17 (fun x20 => k19 x20 h18)) (fun x21 h22 =>
 gdF x12 h22 (fun k23 => kLoad x21 h22 (fun x24 => k23 x24 h22)) (fun x25 h26 =>
 gdF x12 h26 (fun k27 => obK (fun x28 => k27 x28 h26) (s2 .eql x25 (Value.string ⟨#[46, 46]⟩))) (fun x29 h30 =>
 after (fun x31 h32 =>
 gdF x31 h32 (fun k33 => k33 a0 h32) (fun x34 h35 =>
 gdF x31 h35 (fun k36 => obK (fun x37 => k36 x37 h35) (s2 .eql x34 (Value.string ⟨#[46]⟩))) (fun x38 h39 =>
 after (fun x40 h41 =>
 gdF x40 h41 (fun k42 => k42 a0 h41) (fun x43 h44 =>
 gdF x40 h44 (fun k45 => kCall R 99 [x43, (Value.string ⟨#[47, 46]⟩)] h44 (k45)) (fun x46 h47 =>
 after (fun x48 h49 =>
 jn (fun (x51 x52 x53 : Value) (h54 : Hs) =>
 after (fun v59 u60 => dPut (fun x55 h56 =>
 kIdxA 1 x2 x11 (fun x57 =>
 kLoad x57 (dHidS .light [true, true, true, false, false, false] [none, none, none, some (h54.nx, h56.nx), none, none] h56) (fun x58 =>
 clrK h (Value.tuple #[x55, x58, (Value.int .i64 (.ofNat 0))]) h56))) v59 (dNext h54 u60 .light) (andB (dFit h54 u60 .light) (Nat.ble 0 u60.lo))) (oSlice 1 (.c x2) none (some (.c x11)) none enE (Hs.mk h54.hp h54.nx h54.nx))) fun k50 =>
 cnd x48
 (clrK h (Value.tuple #[(Value.slice none 0 0), (Value.string ⟨#[]⟩), (Value.int .i64 (.ofNat 1))]) h49)
 (k50 x6 x7 x8 h49)) (pickB (.c (Value.bool true)) (.c x46) enE h47 x40)))) (pickB (.c (Value.bool true)) (.c x38) enE h39 x31)))) (pickB (.c (Value.bool true)) (.c x29) enE h30 x12)))))))))) fun k5 =>
 cnd x4
 (clrK h (Value.tuple #[(Value.slice none 0 0), (Value.string ⟨#[]⟩), x3]) h1)
 (k5 (Value.slice none 0 0) (Value.string ⟨#[]⟩) (Value.int .i64 (.ofNat 0)) h1)))))

theorem q66 (R : RnK) (N : Nat) (args : List Value) (h : Hs) : r66 R N args h = callT Tryz.prog N R 66 args h := by kernel_rfl

/-- (*lintel/tree.Tree).dir -/
noncomputable def r67 (R : RnK) (N : Nat) (args : List Value) (h : Hs) : An := unC args fun a0 sq0 => unC sq0 fun a1 sq1 => enK h fun h0 =>
 after (fun x0 h1 =>
 after (fun x2 h3 =>
 kCall R 100 [x2, (Value.int .i64 (.ofNat 1)), a1, (Value.bool true)] h3 (fun x4 h5 =>
 kExtr x4 0 (fun x6 =>
 kExtr x4 1 (fun x7 =>
 jn (fun (x9 x10 x11 x12 : Value) (h13 : Hs) =>
 clrK h (Value.tuple #[x6, (Value.int .i64 (.ofNat 0))]) h13) fun k8 =>
 kI64 .neq x7 (Value.int .i64 (.ofNat 0)) (fun x14 =>
 jn (fun (x16 x17 x18 : Value) (h19 : Hs) =>
 k8 x14 x16 x17 x18 h19) fun k15 =>
 cnd x14
 (clrK h (Value.tuple #[(Value.int .i64 (.ofNat 0)), x7]) h5)
 (kNil a0 (fun x20 =>
 kFieldA 1 x20 (fun x21 =>
 kLoad x21 h5 (fun x22 =>
 after (fun x23 h24 =>
 kNil x23 (fun x25 =>
 kFieldA 0 x25 (fun x26 =>
 kLoad x26 h24 (fun x27 =>
 kI64 .neq x27 (Value.int .i64 (.ofNat 2)) (fun x28 =>
 jn (fun (x30 x31 : Value) (h32 : Hs) =>
 k15 x28 x30 x31 h32) fun k29 =>
 cnd x28
 (clrK h (Value.tuple #[(Value.int .i64 (.ofNat 0)), (Value.int .i64 (.ofNat 4))]) h24)
 (k29 (Value.int .i64 (.ofNat 0)) (Value.int .i64 (.ofNat 0)) h24)))))) (ret1 h5 (lk1 true h5 (Value.pointer none) false x6 x22))))))))))) (oBox 137 (.c x0) enE h1)) (oBuild [(Value.pointer none), (Value.int .i64 (.ofNat 0))] [(0, 1, .c a0)] enE h0)

theorem q67 (R : RnK) (N : Nat) (args : List Value) (h : Hs) : r67 R N args h = callT Tryz.prog N R 67 args h := by kernel_rfl

/-- (*lintel/tree.Tree).within -/
noncomputable def r68 (R : RnK) (N : Nat) (args : List Value) (h : Hs) : An := unC args fun a0 sq0 => unC sq0 fun a1 sq1 => unC sq1 fun a2 sq2 => enK h fun h0 =>
 jn (fun (x1 x2 : Value) (h3 : Hs) =>
 kI64 .eql x1 a2 (fun x4 =>
 clrK h x4 h3)) fun k0 =>
 lpT (T := Value → Value → Hs → An) (fun _ _ _ => none) N (fun k5 =>
 fun (x7 x8 : Value) (h9 : Hs) =>
 kI64 .neq x7 a2 (fun x10 =>
 gdT x10 h9 (fun k11 => k11 x7 h9) (fun x12 h13 =>
 gdT x10 h13 (fun k14 => kI64 .neq x12 (Value.int .i64 (.ofNat 1)) (fun x15 => k14 x15 h13)) (fun x16 h17 =>
 after (fun x18 h19 =>
 jn (fun (h21 : Hs) =>
 jn (fun (x23 : Value) (h24 : Hs) =>
 k5 x23 x18 h24) fun k22 =>
 kNil a0 (fun x25 =>
 kFieldA 1 x25 (fun x26 =>
 kLoad x26 h21 (fun x27 =>
 after (fun x28 h29 =>
 kNil x28 (fun x30 =>
 kFieldA 3 x30 (fun x31 =>
 kLoad x31 h29 (fun x32 =>
 k22 x32 h29)))) (ret1 h21 (lk1 true h21 (Value.pointer none) false x7 x27)))))) fun k20 =>
 cnd x18
 (k20 h19)
 (k0 x7 x18 h19)) (pickB (.c x16) (.c (Value.bool false)) enE h17 x10))))) a1 dunno h0

theorem q68 (R : RnK) (N : Nat) (args : List Value) (h : Hs) : r68 R N args h = callT Tryz.prog N R 68 args h := by kernel_rfl

/-- (*lintel/tree.Tree).find -/
noncomputable def r69 (R : RnK) (N : Nat) (args : List Value) (h : Hs) : An := unC args fun a0 sq0 => unC sq0 fun a1 sq1 => unC sq1 fun a2 sq2 => enK h fun h0 =>
 kI64 .eql a1 (Value.int .i64 (.ofNat 1)) (fun x0 =>
 gdT x0 h0 (fun k1 => k1 a2 h0) (fun x2 h3 =>
 gdT x0 h3 (fun k4 => obK (fun x5 => k4 x5 h3) (s2 .eql x2 (Value.string ⟨#[108, 111, 115, 116, 43, 102, 111, 117, 110, 100]⟩))) (fun x6 h7 =>
 after (fun x8 h9 =>
 jn (fun (x11 x12 : Value) (h13 : Hs) =>
 kNil a0 (fun x14 =>
 kFieldA 1 x14 (fun x15 =>
 kLoad x15 h13 (fun x16 =>
 after (fun x17 h18 =>
 kNil x17 (fun x19 =>
 kFieldA 2 x19 (fun x20 =>
 kLoad x20 h18 (fun x21 =>
 after (fun x22 h23 =>
 kExtr x22 0 (fun x24 =>
 kExtr x22 1 (fun x25 =>
 clrK h (Value.tuple #[x24, x25]) h23))) (ret1 h18 (lk1 false h18 (Value.int .i64 (.ofNat 0)) true a2 x21)))))) (ret1 h13 (lk1 true h13 (Value.pointer none) false a1 x16)))))) fun k10 =>
 cnd x8
 (clrK h (Value.tuple #[(Value.int .i64 (.ofNat 2)), (Value.bool true)]) h9)
 (k10 (Value.int .i64 (.ofNat 0)) (Value.bool false) h9)) (pickB (.c x6) (.c (Value.bool false)) enE h7 x0))))

theorem q69 (R : RnK) (N : Nat) (args : List Value) (h : Hs) : r69 R N args h = callT Tryz.prog N R 69 args h := by kernel_rfl

/-- (*lintel/tree.Tree).over -/
noncomputable def r70 (R : RnK) (N : Nat) (args : List Value) (h : Hs) : An := unC args fun a0 sq0 => unC sq0 fun a1 sq1 => unC sq1 fun a2 sq2 => enK h fun h0 =>
 kNil a0 (fun x0 =>
 kFieldA 1 x0 (fun x1 =>
 kLoad x1 (Hs.mk h0.hp h0.nx h0.nx) (fun x2 =>
 after (fun v106 u107 => dPut (fun x3 h4 =>
 kNil x3 (fun x5 =>
 kFieldA 0 x5 (fun x6 =>
 kLoad x6 (dHidS .light [true, true, true, true, true, true, true, true] [none, none, some (h0.nx, h4.nx), none, none, none, none, none] h4) (fun x7 =>
 kI64 .eql x7 (Value.int .i64 (.ofNat 2)) (fun x8 =>
 kNil a0 (fun x9 =>
 kFieldA 1 x9 (fun x10 =>
 kLoad x10 (dHidS .light [true, true, true, false, false, false, false, false, false, false, false, false, false] [none, none, none, none, none, none, none, some (h0.nx, h4.nx), none, none, none, none, none] h4) (fun x11 =>
 after (fun v104 u105 => dPut (fun x12 h13 =>
 kNil x12 (fun x14 =>
 kFieldA 0 x14 (fun x15 =>
 kLoad x15 (dHidS .light [true, true, true, true, true, true, true, true, false, false, false, false, false, false, false, false, false, false] [none, none, some (h4.nx, h13.nx), none, none, none, none, none, none, none, none, none, some (h0.nx, h4.nx), none, none, none, none, none] h13) (fun x16 =>
 kI64 .eql x16 (Value.int .i64 (.ofNat 2)) (fun x17 =>
 jn (fun (x19 x20 x21 x22 x23 : Value) (h24 : Hs) =>
 clrK h (Value.int .i64 (.ofNat 0)) h24) fun k18 =>
 kI64 .eql a2 (Value.int .i64 (.ofNat 2)) (fun x25 =>
 jn (fun (x27 x28 x29 x30 : Value) (h31 : Hs) =>
 k18 x25 x27 x28 x29 x30 h31) fun k26 =>
 cnd x25
 (clrK h (Value.int .i64 (.ofNat 12)) h13)
 (gdT x17 h13 (fun k32 => k32 x8 h13) (fun x33 h34 =>
 gdT x17 h34 (fun k35 => kNot x33 (fun x36 => k35 x36 h34)) (fun x37 h38 =>
 after (fun x39 h40 =>
 jn (fun (x42 x43 x44 : Value) (h45 : Hs) =>
 k26 x39 x42 x43 x44 h45) fun k41 =>
 cnd x39
 (clrK h (Value.int .i64 (.ofNat 5)) h40)
 (gdT x8 h40 (fun k46 => k46 x17 h40) (fun x47 h48 =>
 gdT x8 h48 (fun k49 => kNot x47 (fun x50 => k49 x50 h48)) (fun x51 h52 =>
 after (fun x53 h54 =>
 jn (fun (x56 x57 : Value) (h58 : Hs) =>
 k41 x53 x56 x57 h58) fun k55 =>
 cnd x53
 (clrK h (Value.int .i64 (.ofNat 4)) h54)
 (gdT x17 h54 (fun k59 => k59 a0 h54) (fun x60 h61 =>
 gdT x17 h61 (fun k62 => kNil x60 (fun x63 => k62 x63 h61)) (fun x64 h65 =>
 gdT x17 h65 (fun k66 => kFieldA 1 x64 (fun x67 => k66 x67 h65)) (fun x68 h69 =>
 gdT x17 h69 (fun k70 => kLoad x68 h69 (fun x71 => k70 x71 h69)) (fun x72 h73 =>
 gdT x17 h73 (fun k74 => k74 a2 h73) (fun x75 h76 =>
 gdT x17 h76 (fun k77 => after (k77) (ret1 h76 (lk1 true h76 (Value.pointer none) false x75 x72))) (fun x78 h79 =>
 gdT x17 h79 (fun k80 => kNil x78 (fun x81 => k80 x81 h79)) (fun x82 h83 =>
 gdT x17 h83 (fun k84 => kFieldA 2 x82 (fun x85 => k84 x85 h83)) (fun x86 h87 =>
 gdT x17 h87 (fun k88 => kLoad x86 h87 (fun x89 => k88 x89 h87)) (fun x90 h91 =>
 gdT x17 h91 (fun k92 => after (k92) (ret1 h91 (maplen1 h91 x90))) (fun x93 h94 =>
 gdT x17 h94 (fun k95 => kI64 .gtr x93 (Value.int .i64 (.ofNat 0)) (fun x96 => k95 x96 h94)) (fun x97 h98 =>
 after (fun x99 h100 =>
 jn (fun (x102 : Value) (h103 : Hs) =>
 k55 x99 x102 h103) fun k101 =>
 cnd x99
 (clrK h (Value.int .i64 (.ofNat 6)) h100)
 (k101 (Value.int .i64 (.ofNat 0)) h100)) (pickB (.c x97) (.c (Value.bool false)) enE h98 x17)))))))))))))) (pickB (.c x51) (.c (Value.bool false)) enE h52 x8))))) (pickB (.c x37) (.c (Value.bool false)) enE h38 x17)))))))))) v104 (dNext h4 u105 .light) (andB (dFit h4 u105 .light) (Nat.ble 0 u105.lo))) (ret1 (dHidS .light [true, true, true, true, true, false, false, false, false, false, false, false, false, false, false] [none, none, none, none, none, none, none, none, none, some (h0.nx, h4.nx), none, none, none, none, none] h4) (lk1 true (dHidS .light [true, true, true, true, true, false, false, false, false, false, false, false, false, false, false] [none, none, none, none, none, none, none, none, none, some (h0.nx, h4.nx), none, none, none, none, none] h4) (Value.pointer none) false a2 x11)))))))))) v106 (dNext h0 u107 .light) (andB (dFit h0 u107 .light) (Nat.ble 0 u107.lo))) (ret1 (Hs.mk h0.hp h0.nx h0.nx) (lk1 true (Hs.mk h0.hp h0.nx h0.nx) (Value.pointer none) false a1 x2)))))

theorem q70 (R : RnK) (N : Nat) (args : List Value) (h : Hs) : r70 R N args h = callT Tryz.prog N R 70 args h := by kernel_rfl

/-- (*lintel/tree.Tree).names -/
noncomputable def r71 (R : RnK) (N : Nat) (args : List Value) (h : Hs) : An := unC args fun a0 sq0 => unC sq0 fun a1 sq1 => enK h fun h0 =>
 kNil a0 (fun x0 =>
 kFieldA 1 x0 (fun x1 =>
 kLoad x1 h0 (fun x2 =>
 after (fun x3 h4 =>
 kNil x3 (fun x5 =>
 kFieldA 2 x5 (fun x6 =>
 kLoad x6 h4 (fun x7 =>
 kCall R 41 [x7] h4 (fun x8 h9 =>
 kCall R 78 [x8] h9 (fun x10 h11 =>
 kI64 .eql a1 (Value.int .i64 (.ofNat 1)) (fun x12 =>
 jn (fun (x14 : Value) (h15 : Hs) =>
 kCall R 79 [x14] h15 (fun x16 h17 =>
 clrK h x14 h17)) fun k13 =>
 cnd x12
 (after (fun x18 h19 =>
 after (fun x20 h21 =>
 k13 x20 h21) (app0 9 1 16 h19 x10 x18)) (oMkrow 9 1 1 [(Value.string ⟨#[]⟩)] [(0, 1, .c (Value.string ⟨#[108, 111, 115, 116, 43, 102, 111, 117, 110, 100]⟩))] enE h11))
 (k13 x10 h11)))))))) (ret1 h0 (lk1 true h0 (Value.pointer none) false a1 x2)))))

theorem q71 (R : RnK) (N : Nat) (args : List Value) (h : Hs) : r71 R N args h = callT Tryz.prog N R 71 args h := by kernel_rfl

/-- (*lintel/tree.item).size -/
noncomputable def r72 (R : RnK) (N : Nat) (args : List Value) (h : Hs) : An := unC args fun a0 sq0 => enK h fun h0 =>
 kNil a0 (fun x0 =>
 kFieldA 0 x0 (fun x1 =>
 kLoad x1 h0 (fun x2 =>
 kI64 .eql x2 (Value.int .i64 (.ofNat 2)) (fun x3 =>
 jn (fun (x5 : Value) (h6 : Hs) =>
 kNil a0 (fun x7 =>
 kFieldA 1 x7 (fun x8 =>
 kLoad x8 h6 (fun x9 =>
 kLenV x9 (fun x10 =>
 clrK h x10 h6))))) fun k4 =>
 cnd x3
 (kNil a0 (fun x11 =>
 kFieldA 2 x11 (fun x12 =>
 kLoad x12 h0 (fun x13 =>
 after (fun x14 h15 =>
 clrK h x14 h15) (ret1 h0 (maplen1 h0 x13))))))
 (k4 (Value.int .i64 (.ofNat 0)) h0)))))

theorem q72 (R : RnK) (N : Nat) (args : List Value) (h : Hs) : r72 R N args h = callT Tryz.prog N R 72 args h := by kernel_rfl

/-- (*lintel/tree.Tree).write -/
noncomputable def r73 (R : RnK) (N : Nat) (args : List Value) (h : Hs) : An := unC args fun a0 sq0 => unC sq0 fun a1 sq1 => unC sq1 fun a2 sq2 => enK h fun h0 =>
 after (fun x0 h1 =>
 after (fun x2 h3 =>
 kNil a0 (fun x4 =>
 kFieldA 1 x4 (fun x5 =>
 kLoad x5 h3 (fun x6 =>
 after (fun x7 h8 =>
 kFieldA 5 x0 (fun x9 =>
 kLoad x9 h8 (fun x10 =>
 kLenV x10 (fun x11 =>
 kI64 .gtr x11 (Value.int .i64 (.ofNat 0)) (fun x12 =>
 jn (fun (x14 : Value) (h15 : Hs) =>
 kNil x7 (fun x16 =>
 kFieldA 1 x16 (fun x17 =>
 kLoad x17 h15 (fun x18 =>
 kLenV x18 (fun x19 =>
 after (fun x20 h21 =>
 after (fun x22 h23 =>
 clearUp h (packR h23 (resV enE h23 [.cell (.c x2) 7 true]))) (store1 7 h21 (cellsL x20) (addrOf x2))) (oBuild [(Value.int .i64 (.ofNat 0)), (Value.int .i64 (.ofNat 0)), (Value.int .i64 (.ofNat 0)), (Value.int .i64 (.ofNat 0)), (Value.int .i64 (.ofNat 0)), (Value.slice none 0 0), (Value.slice none 0 0)] [(1, 1, .c a1), (4, 1, .c x19)] enE h15)))))) fun k13 =>
 cnd x12
 (kFieldA 3 x0 (fun x24 =>
 kLoad x24 h8 (fun x25 =>
 kI64 .gtr x25 (Value.int .i64 (.ofNat 4096)) (fun x26 =>
 gdF x26 h8 (fun k27 => kFieldA 5 x0 (fun x28 => k27 x28 h8)) (fun x29 h30 =>
 gdF x26 h30 (fun k31 => kLoad x29 h30 (fun x32 => k31 x32 h30)) (fun x33 h34 =>
 gdF x26 h34 (fun k35 => kLenV x33 (fun x36 => k35 x36 h34)) (fun x37 h38 =>
 gdF x26 h38 (fun k39 => kFieldA 3 x0 (fun x40 => k39 x40 h38)) (fun x41 h42 =>
 gdF x26 h42 (fun k43 => kLoad x41 h42 (fun x44 => k43 x44 h42)) (fun x45 h46 =>
 gdF x26 h46 (fun k47 => kI64 .sub (Value.int .i64 (.ofNat 4096)) x45 (fun x48 => k47 x48 h46)) (fun x49 h50 =>
 gdF x26 h50 (fun k51 => kI64 .gtr x37 x49 (fun x52 => k51 x52 h50)) (fun x53 h54 =>
 after (fun x55 h56 =>
 jn (fun (h58 : Hs) =>
 kNil x7 (fun x59 =>
 kFieldA 1 x59 (fun x60 =>
 kLoad x60 (Hs.mk h58.hp h58.nx h58.nx) (fun x61 =>
 kLenV x61 (fun x62 =>
 kFieldA 3 x0 (fun x63 =>
 kLoad x63 (Hs.mk h58.hp h58.nx h58.nx) (fun x64 =>
 kFieldA 5 x0 (fun x65 =>
 kLoad x65 (Hs.mk h58.hp h58.nx h58.nx) (fun x66 =>
 kLenV x66 (fun x67 =>
 kI64 .add x64 x67 (fun x68 =>
 after (fun v90 u91 => dPut (fun x69 h70 =>
 kCall R 74 [x7, x69] h70 (fun v88 u89 => dPut (fun x71 h72 =>
 kNil x7 (fun x73 =>
 kFieldA 1 x73 (fun x74 =>
 kLoad x74 (Hs.mk h72.hp h72.nx h72.nx) (fun x75 =>
 kFieldA 3 x0 (fun x76 =>
 kLoad x76 (Hs.mk h72.hp h72.nx h72.nx) (fun x77 =>
 after (fun v86 u87 => dPut (fun x78 h79 =>
 kFieldA 5 x0 (fun x80 =>
 kLoad x80 (dHidS .light [true, false, false, false, false, false, false, false] [none, some (h72.nx, h79.nx), none, none, none, none, none, none] h79) (fun x81 =>
 after (fun v84 u85 => dPut (fun x82 h83 =>
 k13 x55 h83) v84 (dNext h79 u85 .bar) (andB (dFit h79 u85 .bar) (Nat.ble 0 u85.lo))) (copy0 1 h79 x78 x81)))) v86 (dNext h72 u87 .light) (andB (dFit h72 u87 .light) (Nat.ble 0 u87.lo))) (oSlice 1 (.c x75) (some (.c x77)) none none enE (Hs.mk h72.hp h72.nx h72.nx)))))))) v88 (dNext h70 u89 .bar) (andB (dFit h70 u89 .bar) (Nat.ble 0 u89.lo)))) v90 (dNext h58 u91 .blind) (andB (dFit h58 u91 .blind) (Nat.ble 0 u91.lo))) (oMinmax true [.c x62, .c x68] enE (Hs.mk .e h58.nx h58.nx))))))))))))) fun k57 =>
 cnd x55
 (kCall R 30 [(Value.int .i64 (.ofNat 9))] h56 (fun x92 h93 =>
 after (fun x94 h95 =>
 clearUp h (packR h95 (resV enE h95 [.cell (.c x2) 7 true]))) (store1 7 h93 (cellsL x92) (addrOf x2))))
 (k57 h56)) (pickB (.c (Value.bool true)) (.c x53) enE h54 x26))))))))))))
 (k13 dunno h8)))))) (ret1 h3 (lk1 true h3 (Value.pointer none) false a1 x6)))))) (oAlloc 29 [(Value.int .i64 (.ofNat 0)), (Value.int .i64 (.ofNat 0)), (Value.int .i64 (.ofNat 0)), (Value.int .i64 (.ofNat 0)), (Value.int .i64 (.ofNat 0)), (Value.slice none 0 0), (Value.slice none 0 0)] enE h1)) (oBox 32 (.c a2) enE h0)

theorem q73 (R : RnK) (N : Nat) (args : List Value) (h : Hs) : r73 R N args h = callT Tryz.prog N R 73 args h := by kernel_rfl

/-- (*lintel/tree.item).fit -/
noncomputable def r74 (R : RnK) (N : Nat) (args : List Value) (h : Hs) : An := unC args fun a0 sq0 => unC sq0 fun a1 sq1 => enK h fun h0 =>
 after (fun x0 h1 =>
 kNil a0 (fun x2 =>
 kFieldA 1 x2 (fun x3 =>
 kLoad x3 h1 (fun x4 =>
 after (fun x5 h6 =>
 kNil a0 (fun x7 =>
 kFieldA 1 x7 (fun x8 =>
 kStore1 x8 x0 h6 (fun x9 h10 =>
 clrK h (Value.tuple #[]) h10)))) (copy0 1 h1 x0 x4))))) (mkslice1 5 1 1 [(Value.int .u8 (.ofNat 0))] h0 (natOf a1) (natOf a1))

theorem q74 (R : RnK) (N : Nat) (args : List Value) (h : Hs) : r74 R N args h = callT Tryz.prog N R 74 args h := by kernel_rfl

/-- lintel/path.Name -/
noncomputable def r95 (R : RnK) (N : Nat) (args : List Value) (h : Hs) : An := unC args fun a0 sq0 => enK h fun h0 =>
 obK (fun x0 =>
 gdT x0 h0 (fun k1 => k1 a0 h0) (fun x2 h3 =>
 gdT x0 h3 (fun k4 => kLenS x2 (fun x5 => k4 x5 h3)) (fun x6 h7 =>
 gdT x0 h7 (fun k8 => kI64 .leq x6 (Value.int .i64 (.ofNat 40)) (fun x9 => k8 x9 h7)) (fun x10 h11 =>
 after (fun x12 h13 =>
 gdT x12 h13 (fun k14 => k14 a0 h13) (fun x15 h16 =>
 gdT x12 h16 (fun k17 => obK (fun x18 => k17 x18 h16) (s2 .neq x15 (Value.string ⟨#[46]⟩))) (fun x19 h20 =>
 after (fun x21 h22 =>
 gdT x21 h22 (fun k23 => k23 a0 h22) (fun x24 h25 =>
 gdT x21 h25 (fun k26 => obK (fun x27 => k26 x27 h25) (s2 .neq x24 (Value.string ⟨#[46, 46]⟩))) (fun x28 h29 =>
 after (fun x30 h31 =>
 gdT x30 h31 (fun k32 => k32 a0 h31) (fun x33 h34 =>
 gdT x30 h34 (fun k35 => kCall R 110 [x33, (Value.string ⟨#[47]⟩)] h34 (k35)) (fun x36 h37 =>
 gdT x30 h37 (fun k38 => kNot x36 (fun x39 => k38 x39 h37)) (fun x40 h41 =>
 after (fun x42 h43 =>
 gdT x42 h43 (fun k44 => k44 a0 h43) (fun x45 h46 =>
 gdT x42 h46 (fun k47 => kCall R 110 [x45, (Value.string ⟨#[0]⟩)] h46 (k47)) (fun x48 h49 =>
 gdT x42 h49 (fun k50 => kNot x48 (fun x51 => k50 x51 h49)) (fun x52 h53 =>
 after (fun x54 h55 =>
 clrK h x54 h55) (pickB (.c x52) (.c (Value.bool false)) enE h53 x42))))) (pickB (.c x40) (.c (Value.bool false)) enE h41 x30))))) (pickB (.c x28) (.c (Value.bool false)) enE h29 x21)))) (pickB (.c x19) (.c (Value.bool false)) enE h20 x12)))) (pickB (.c x10) (.c (Value.bool false)) enE h11 x0))))) (s2 .neq a0 (Value.string ⟨#[]⟩))

theorem q95 (R : RnK) (N : Nat) (args : List Value) (h : Hs) : r95 R N args h = callT Tryz.prog N R 95 args h := by kernel_rfl

/-- (*lintel/tree.walker).way -/
noncomputable def r97 (R : RnK) (N : Nat) (args : List Value) (h : Hs) : An := unC args fun a0 sq0 => unC sq0 fun a1 sq1 => unC sq1 fun a2 sq2 => unC sq2 fun a3 sq3 => enK h fun h0 =>
 kCall R 98 [a2] h0 (fun x0 h1 =>
 kExtr x0 0 (fun x2 =>
 kExtr x0 1 (fun x3 =>
 kI64 .neq x3 (Value.int .i64 (.ofNat 0)) (fun x4 =>
 jn (fun (x6 x7 : Value) (h8 : Hs) =>
 after (fun x9 h10 =>
 kU8 .eql x9 (Value.int .u8 (.ofNat 47)) (fun x11 =>
 jn (fun (x13 : Value) (h14 : Hs) =>
 kCall R 100 [a0, x13, x2, a3] h14 (fun x15 h16 =>
 kExtr x15 0 (fun x17 =>
 kExtr x15 1 (fun x18 =>
 clrK h (Value.tuple #[x17, x18]) h16)))) fun k12 =>
 cnd x11
 (k12 (Value.int .i64 (.ofNat 1)) h10)
 (k12 a1 h10))) (oIdxS (.c a2) (.c (Value.int .i64 (.ofNat 0))) enE h8)) fun k5 =>
 cnd x4
 (clrK h (Value.tuple #[(Value.int .i64 (.ofNat 0)), x3]) h1)
 (k5 (Value.int .i64 (.ofNat 0)) (Value.int .i64 (.ofNat 0)) h1)))))

theorem q97 (R : RnK) (N : Nat) (args : List Value) (h : Hs) : r97 R N args h = callT Tryz.prog N R 97 args h := by kernel_rfl

/-- lintel/path.Split -/
noncomputable def r98 (R : RnK) (N : Nat) (args : List Value) (h : Hs) : An := unC args fun a0 sq0 => enK h fun h0 =>
 jn (fun (x1 x2 x3 x4 : Value) (h5 : Hs) =>
 kCall R 112 [a0, (Value.string ⟨#[47]⟩)] h5 (fun x6 h7 =>
 kLenV x6 (fun x8 =>
 jn (fun (x10 x11 x12 x13 x14 x15 x16 x17 : Value) (h18 : Hs) =>
 clrK h (Value.tuple #[x15, (Value.int .i64 (.ofNat 0))]) h18) fun k9 =>
 lpT (T := Value → Value → Value → Value → Value → Value → Value → Value → Hs → An) (fun _ _ _ _ _ _ _ _ _ => none) N (fun k19 =>
 fun (x21 x22 x23 x24 x25 x26 x27 x28 : Value) (h29 : Hs) =>
 kI64 .lss x21 x8 (fun x30 =>
 jn (fun (h32 : Hs) =>
 jn (fun (x34 x35 x36 x37 x38 x39 : Value) (h40 : Hs) =>
 kI64 .add x21 (Value.int .i64 (.ofNat 1)) (fun x41 =>
 k19 x41 x30 x34 x35 x36 x37 x38 x39 h40)) fun k33 =>
 kIdxA 1 x6 x21 (fun x42 =>
 kLoad x42 h32 (fun x43 =>
 jn (fun (x45 x46 x47 x48 x49 : Value) (h50 : Hs) =>
 k33 x43 x45 x46 x47 x48 x49 h50) fun k44 =>
 obK (fun x51 =>
 jn (fun (x53 : Value) (h54 : Hs) =>
 jn (fun (x56 x57 x58 x59 : Value) (h60 : Hs) =>
 k44 x53 x56 x57 x58 x59 h60) fun k55 =>
 cnd x53
 (k55 x25 x26 x27 x28 h54)
 (obK (fun x61 =>
 gdT x61 h54 (fun k62 => k62 x43 h54) (fun x63 h64 =>
 gdT x61 h64 (fun k65 => kCall R 95 [x63] h64 (k65)) (fun x66 h67 =>
 gdT x61 h67 (fun k68 => kNot x66 (fun x69 => k68 x69 h67)) (fun x70 h71 =>
 after (fun x72 h73 =>
 jn (fun (x75 x76 x77 : Value) (h78 : Hs) =>
 k55 x72 x75 x76 x77 h78) fun k74 =>
 cnd x72
 (clrK h (Value.tuple #[(Value.slice none 0 0), (Value.int .i64 (.ofNat 8))]) h73)
 (after (fun x79 h80 =>
 after (fun x81 h82 =>
 k74 x81 x27 x28 h82) (app0 9 1 16 h80 x26 x79)) (oMkrow 9 1 1 [(Value.string ⟨#[]⟩)] [(0, 1, .c x43)] enE h73))) (pickB (.c x70) (.c (Value.bool false)) enE h71 x61))))) (s2 .neq x43 (Value.string ⟨#[46, 46]⟩)))) fun k52 =>
 cnd x51
 (k52 x51 h32)
 (obK (fun x83 =>
 k52 x83 h32) (s2 .eql x43 (Value.string ⟨#[46]⟩)))) (s2 .eql x43 (Value.string ⟨#[]⟩))))) fun k31 =>
 cnd x30
 (k31 h29)
 (k9 x21 x30 x23 x24 x25 x26 x27 x28 h29))) (Value.int .i64 (.ofNat 0)) dunno dunno dunno dunno (Value.slice none 0 0) x3 x4 h7))) fun k0 =>
 obK (fun x84 =>
 jn (fun (x86 x87 x88 : Value) (h89 : Hs) =>
 k0 x84 x86 x87 x88 h89) fun k85 =>
 cnd x84
 (clrK h (Value.tuple #[(Value.slice none 0 0), (Value.int .i64 (.ofNat 1))]) h0)
 (kLenS a0 (fun x90 =>
 kI64 .gtr x90 (Value.int .i64 (.ofNat 400)) (fun x91 =>
 jn (fun (x93 x94 : Value) (h95 : Hs) =>
 k85 x91 x93 x94 h95) fun k92 =>
 cnd x91
 (clrK h (Value.tuple #[(Value.slice none 0 0), (Value.int .i64 (.ofNat 8))]) h0)
 (k92 (Value.slice none 0 0) (Value.int .i64 (.ofNat 0)) h0))))) (s2 .eql a0 (Value.string ⟨#[]⟩))

theorem q98 (R : RnK) (N : Nat) (args : List Value) (h : Hs) : r98 R N args h = callT Tryz.prog N R 98 args h := by kernel_rfl

/-- strings.HasSuffix -/
noncomputable def r99 (R : RnK) (N : Nat) (args : List Value) (h : Hs) : An := unC args fun a0 sq0 => unC sq0 fun a1 sq1 => enK h fun h0 =>
 kCall R 113 [a0, a1] h0 (fun x0 h1 =>
 clrK h x0 h1)

theorem q99 (R : RnK) (N : Nat) (args : List Value) (h : Hs) : r99 R N args h = callT Tryz.prog N R 99 args h := by kernel_rfl

/-- (*lintel/tree.walker).parts -/
noncomputable def r100 (R : RnK) (N : Nat) (args : List Value) (h : Hs) : An := unC args fun a0 sq0 => unC sq0 fun a1 sq1 => unC sq1 fun a2 sq2 => unC sq2 fun a3 sq3 => enK h fun h0 =>
 kLenV a2 (fun x0 =>
 jn (fun (x2 x3 x4 x5 x6 x7 x8 x9 x10 x11 x12 x13 x14 x15 : Value) (h16 : Hs) =>
 clrK h (Value.tuple #[x4, (Value.int .i64 (.ofNat 0))]) h16) fun k1 =>
 lpT (T := Value → Value → Value → Value → Value → Value → Value → Value → Value → Value → Value → Value → Value → Value → Hs → An) (fun _ _ _ _ _ _ _ _ _ _ _ _ _ _ _ => none) N (fun k17 =>
 fun (x19 x20 x21 x22 x23 x24 x25 x26 x27 x28 x29 x30 x31 x32 : Value) (h33 : Hs) =>
 kI64 .lss x19 x0 (fun x34 =>
 jn (fun (h36 : Hs) =>
 jn (fun (x38 x39 x40 x41 x42 x43 x44 x45 x46 x47 x48 x49 : Value) (h50 : Hs) =>
 kI64 .add x19 (Value.int .i64 (.ofNat 1)) (fun x51 =>
 k17 x51 x34 x38 x39 x40 x41 x42 x43 x44 x45 x46 x47 x48 x49 h50)) fun k37 =>
 kIdxA 1 a2 x19 (fun x52 =>
 kLoad x52 h36 (fun x53 =>
 kCall R 114 [a0, x21, x53] h36 (fun x54 h55 =>
 kExtr x54 0 (fun x56 =>
 kExtr x54 1 (fun x57 =>
 kI64 .neq x57 (Value.int .i64 (.ofNat 0)) (fun x58 =>
 jn (fun (x60 x61 : Value) (h62 : Hs) =>
 kNil a0 (fun x63 =>
 kFieldA 0 x63 (fun x64 =>
 kLoad x64 h62 (fun x65 =>
 kNil x65 (fun x66 =>
 kFieldA 1 x66 (fun x67 =>
 kLoad x67 h62 (fun x68 =>
 after (fun x69 h70 =>
 kNil x69 (fun x71 =>
 kFieldA 0 x71 (fun x72 =>
 kLoad x72 h70 (fun x73 =>
 kI64 .eql x73 (Value.int .i64 (.ofNat 3)) (fun x74 =>
 gdT x74 h70 (fun k75 => k75 a3 h70) (fun x76 h77 =>
 gdT x74 h77 (fun k78 => k78 x76 h77) (fun x79 h80 =>
 gdF x79 h80 (fun k81 => k81 x19 h80) (fun x82 h83 =>
 gdF x79 h83 (fun k84 => k84 a2 h83) (fun x85 h86 =>
 gdF x79 h86 (fun k87 => kLenV x85 (fun x88 => k87 x88 h86)) (fun x89 h90 =>
 gdF x79 h90 (fun k91 => kI64 .sub x89 (Value.int .i64 (.ofNat 1)) (fun x92 => k91 x92 h90)) (fun x93 h94 =>
 gdF x79 h94 (fun k95 => kI64 .lss x82 x93 (fun x96 => k95 x96 h94)) (fun x97 h98 =>
 gdT x74 h98 (fun k99 => after (k99) (pickB (.c (Value.bool true)) (.c x97) enE h98 x79)) (fun x100 h101 =>
 after (fun x102 h103 =>
 jn (fun (x105 x106 x107 x108 x109 x110 : Value) (h111 : Hs) =>
 k37 x106 x53 x105 x58 x106 x69 x19 x102 x107 x108 x109 x110 h111) fun k104 =>
 cnd x102
 (kNil a0 (fun x112 =>
 kFieldA 1 x112 (fun x113 =>
 kLoad x113 h103 (fun x114 =>
 kI64 .add x114 (Value.int .i64 (.ofNat 1)) (fun x115 =>
 kNil a0 (fun x116 =>
 kFieldA 1 x116 (fun x117 =>
 kStore1 x117 x115 h103 (fun x118 h119 =>
 kNil a0 (fun x120 =>
 kFieldA 1 x120 (fun x121 =>
 kLoad x121 h119 (fun x122 =>
 kI64 .gtr x122 (Value.int .i64 (.ofNat 8)) (fun x123 =>
 jn (fun (x125 x126 : Value) (h127 : Hs) =>
 kNil x69 (fun x128 =>
 kFieldA 1 x128 (fun x129 =>
 kLoad x129 h127 (fun x130 =>
 after (fun x131 h132 =>
 kCall R 97 [a0, x21, x131, (Value.bool true)] h132 (fun x133 h134 =>
 kExtr x133 0 (fun x135 =>
 kExtr x133 1 (fun x136 =>
 kI64 .neq x136 (Value.int .i64 (.ofNat 0)) (fun x137 =>
 jn (fun (x139 x140 : Value) (h141 : Hs) =>
 k104 x136 x135 x123 x137 x139 x140 h141) fun k138 =>
 cnd x137
 (clrK h (Value.tuple #[(Value.int .i64 (.ofNat 0)), x136]) h134)
 (k138 x125 x126 h134)))))) (ret1 h127 (toStr1 h127 x130)))))) fun k124 =>
 cnd x123
 (clrK h (Value.tuple #[(Value.int .i64 (.ofNat 0)), (Value.int .i64 (.ofNat 11))]) h119)
 (k124 x60 x61 h119)))))))))))))
 (k104 x57 x56 x29 x30 x60 x61 h103)) (pickB (.c x100) (.c (Value.bool false)) enE h101 x74)))))))))))))) (ret1 h62 (lk1 true h62 (Value.pointer none) false x56 x68))))))))) fun k59 =>
 cnd x58
 (clrK h (Value.tuple #[(Value.int .i64 (.ofNat 0)), x57]) h55)
 (k59 x31 x32 h55)))))))) fun k35 =>
 cnd x34
 (k35 h33)
 (k1 x19 x34 x21 x22 x23 x24 x25 x26 x27 x28 x29 x30 x31 x32 h33))) (Value.int .i64 (.ofNat 0)) dunno a1 dunno dunno dunno dunno dunno dunno dunno dunno dunno (Value.int .i64 (.ofNat 0)) (Value.int .i64 (.ofNat 0)) h0)

theorem q100 (R : RnK) (N : Nat) (args : List Value) (h : Hs) : r100 R N args h = callT Tryz.prog N R 100 args h := by kernel_rfl

/-- math/bits.Len -/
noncomputable def r103 (R : RnK) (N : Nat) (args : List Value) (h : Hs) : An := unC args fun a0 sq0 => enK h fun h0 =>
 jn (fun (x1 : Value) (h2 : Hs) =>
 kCall R 125 [a0] h2 (fun x3 h4 =>
 clrK h x3 h4)) fun k0 =>
 cnd (Value.bool false)
 (obK (fun x5 =>
 kCall R 124 [x5] h0 (fun x6 h7 =>
 clrK h x6 h7)) (convI1 .u32 a0))
 (k0 (Value.int .i64 (.ofNat 0)) h0)

theorem q103 (R : RnK) (N : Nat) (args : List Value) (h : Hs) : r103 R N args h = callT Tryz.prog N R 103 args h := by kernel_rfl

/-- strings.Contains -/
noncomputable def r110 (R : RnK) (N : Nat) (args : List Value) (h : Hs) : An := unC args fun a0 sq0 => unC sq0 fun a1 sq1 => enK h fun h0 =>
 kCall R 136 [a0, a1] h0 (fun x0 h1 =>
 kI64 .geq x0 (Value.int .i64 (.ofNat 0)) (fun x2 =>
 clrK h x2 h1))

theorem q110 (R : RnK) (N : Nat) (args : List Value) (h : Hs) : r110 R N args h = callT Tryz.prog N R 110 args h := by kernel_rfl

/-- strings.Split -/
noncomputable def r112 (R : RnK) (N : Nat) (args : List Value) (h : Hs) : An := unC args fun a0 sq0 => unC sq0 fun a1 sq1 => enK h fun h0 =>
 kCall R 138 [a0, a1, (Value.int .i64 (.ofNat 0)), (Value.int .i64 (.negSucc 0))] h0 (fun x0 h1 =>
 clrK h x0 h1)

theorem q112 (R : RnK) (N : Nat) (args : List Value) (h : Hs) : r112 R N args h = callT Tryz.prog N R 112 args h := by kernel_rfl

/-- internal/stringslite.HasSuffix -/
noncomputable def r113 (R : RnK) (N : Nat) (args : List Value) (h : Hs) : An := unC args fun a0 sq0 => unC sq0 fun a1 sq1 => enK h fun h0 =>
 kLenS a0 (fun x0 =>
 kLenS a1 (fun x1 =>
 kI64 .geq x0 x1 (fun x2 =>
 gdT x2 h0 (fun k3 => k3 a0 h0) (fun x4 h5 =>
 gdT x2 h5 (fun k6 => k6 a0 h5) (fun x7 h8 =>
 gdT x2 h8 (fun k9 => kLenS x7 (fun x10 => k9 x10 h8)) (fun x11 h12 =>
 gdT x2 h12 (fun k13 => k13 a1 h12) (fun x14 h15 =>
 gdT x2 h15 (fun k16 => kLenS x14 (fun x17 => k16 x17 h15)) (fun x18 h19 =>
 gdT x2 h19 (fun k20 => kI64 .sub x11 x18 (fun x21 => k20 x21 h19)) (fun x22 h23 =>
 gdT x2 h23 (fun k24 => after (k24) (oCutstr (.c x4) (some (.c x22)) none enE h23)) (fun x25 h26 =>
 gdT x2 h26 (fun k27 => k27 a1 h26) (fun x28 h29 =>
 gdT x2 h29 (fun k30 => obK (fun x31 => k30 x31 h29) (s2 .eql x25 x28)) (fun x32 h33 =>
 after (fun x34 h35 =>
 clrK h x34 h35) (pickB (.c x32) (.c (Value.bool false)) enE h33 x2)))))))))))))

theorem q113 (R : RnK) (N : Nat) (args : List Value) (h : Hs) : r113 R N args h = callT Tryz.prog N R 113 args h := by kernel_rfl

/-- (*lintel/tree.walker).part -/
noncomputable def r114 (R : RnK) (N : Nat) (args : List Value) (h : Hs) : An := unC args fun a0 sq0 => unC sq0 fun a1 sq1 => unC sq1 fun a2 sq2 => enK h fun h0 =>
 kNil a0 (fun x0 =>
 kFieldA 0 x0 (fun x1 =>
 kLoad x1 h0 (fun x2 =>
 kNil x2 (fun x3 =>
 kFieldA 1 x3 (fun x4 =>
 kLoad x4 h0 (fun x5 =>
 after (fun x6 h7 =>
 jn (fun (x9 x10 x11 x12 : Value) (h13 : Hs) =>
 kNil a0 (fun x14 =>
 kFieldA 0 x14 (fun x15 =>
 kLoad x15 h13 (fun x16 =>
 kCall R 69 [x16, a1, a2] h13 (fun x17 h18 =>
 kExtr x17 0 (fun x19 =>
 kExtr x17 1 (fun x20 =>
 kNot x20 (fun x21 =>
 jn (fun (x23 x24 : Value) (h25 : Hs) =>
 clrK h (Value.tuple #[x19, (Value.int .i64 (.ofNat 0))]) h25) fun k22 =>
 cnd x21
 (clrK h (Value.tuple #[(Value.int .i64 (.ofNat 0)), (Value.int .i64 (.ofNat 2))]) h18)
 (k22 x11 x12 h18))))))))) fun k8 =>
 kNil x6 (fun x26 =>
 kFieldA 0 x26 (fun x27 =>
 kLoad x27 h7 (fun x28 =>
 kI64 .neq x28 (Value.int .i64 (.ofNat 2)) (fun x29 =>
 jn (fun (x31 x32 x33 : Value) (h34 : Hs) =>
 k8 x29 x31 x32 x33 h34) fun k30 =>
 cnd x29
 (clrK h (Value.tuple #[(Value.int .i64 (.ofNat 0)), (Value.int .i64 (.ofNat 4))]) h7)
 (obK (fun x35 =>
 jn (fun (x37 x38 : Value) (h39 : Hs) =>
 k30 x35 x37 x38 h39) fun k36 =>
 cnd x35
 (kNil x6 (fun x40 =>
 kFieldA 3 x40 (fun x41 =>
 kLoad x41 h7 (fun x42 =>
 clrK h (Value.tuple #[x42, (Value.int .i64 (.ofNat 0))]) h7))))
 (k36 (Value.int .i64 (.ofNat 0)) (Value.int .i64 (.ofNat 0)) h7)) (s2 .eql a2 (Value.string ⟨#[46, 46]⟩)))))))) (ret1 h0 (lk1 true h0 (Value.pointer none) false a1 x5))))))))

theorem q114 (R : RnK) (N : Nat) (args : List Value) (h : Hs) : r114 R N args h = callT Tryz.prog N R 114 args h := by kernel_rfl

/-- math/bits.Len32 -/
noncomputable def r124 (R : RnK) (N : Nat) (args : List Value) (h : Hs) : An := unC args fun a0 sq0 => enK h fun h0 =>
 obK (fun x0 =>
 jn (fun (x2 x3 : Value) (h4 : Hs) =>
 obK (fun x5 =>
 jn (fun (x7 x8 : Value) (h9 : Hs) =>
 kTo8 x7 (fun x10 =>
 after (fun x11 h12 =>
 kTo64 x11 (fun x13 =>
 kI64 .add x8 x13 (fun x14 =>
 clrK h x14 h12))) (oIdxS (.c (Value.string ⟨#[0, 1, 2, 2, 3, 3, 3, 3, 4, 4, 4, 4, 4, 4, 4, 4, 5, 5, 5, 5, 5, 5, 5, 5, 5, 5, 5, 5, 5, 5, 5, 5, 6, 6, 6, 6, 6, 6, 6, 6, 6, 6, 6, 6, 6, 6, 6, 6, 6, 6, 6, 6, 6, 6, 6, 6, 6, 6, 6, 6, 6, 6, 6, 6, 7, 7, 7, 7, 7, 7, 7, 7, 7, 7, 7, 7, 7, 7, 7, 7, 7, 7, 7, 7, 7, 7, 7, 7, 7, 7, 7, 7, 7, 7, 7, 7, 7, 7, 7, 7, 7, 7, 7, 7, 7, 7, 7, 7, 7, 7, 7, 7, 7, 7, 7, 7, 7, 7, 7, 7, 7, 7, 7, 7, 7, 7, 7, 7, 8, 8, 8, 8, 8, 8, 8, 8, 8, 8, 8, 8, 8, 8, 8, 8, 8, 8, 8, 8, 8, 8, 8, 8, 8, 8, 8, 8, 8, 8, 8, 8, 8, 8, 8, 8, 8, 8, 8, 8, 8, 8, 8, 8, 8, 8, 8, 8, 8, 8, 8, 8, 8, 8, 8, 8, 8, 8, 8, 8, 8, 8, 8, 8, 8, 8, 8, 8, 8, 8, 8, 8, 8, 8, 8, 8, 8, 8, 8, 8, 8, 8, 8, 8, 8, 8, 8, 8, 8, 8, 8, 8, 8, 8, 8, 8, 8, 8, 8, 8, 8, 8, 8, 8, 8, 8, 8, 8, 8, 8, 8, 8, 8, 8, 8, 8, 8, 8, 8, 8, 8, 8, 8, 8, 8, 8, 8, 8]⟩)) (.c x10) enE h9))) fun k6 =>
 cnd x5
 (kShr x2 (Value.int .u64 (.ofNat 8)) (fun x15 =>
 kI64 .add x3 (Value.int .i64 (.ofNat 8)) (fun x16 =>
 k6 x15 x16 h4)))
 (k6 x2 x3 h4)) (i2 (fOf .geq) x2 (Value.int .u32 (.ofNat 256)))) fun k1 =>
 cnd x0
 (kShr a0 (Value.int .u64 (.ofNat 16)) (fun x17 =>
 k1 x17 (Value.int .i64 (.ofNat 16)) h0))
 (k1 a0 (Value.int .i64 (.ofNat 0)) h0)) (i2 (fOf .geq) a0 (Value.int .u32 (.ofNat 65536)))

theorem q124 (R : RnK) (N : Nat) (args : List Value) (h : Hs) : r124 R N args h = callT Tryz.prog N R 124 args h := by kernel_rfl

/-- math/bits.Len64 -/
noncomputable def r125 (R : RnK) (N : Nat) (args : List Value) (h : Hs) : An := unC args fun a0 sq0 => enK h fun h0 =>
 kU64 .geq a0 (Value.int .u64 (.ofNat 4294967296)) (fun x0 =>
 jn (fun (x2 x3 : Value) (h4 : Hs) =>
 kU64 .geq x2 (Value.int .u64 (.ofNat 65536)) (fun x5 =>
 jn (fun (x7 x8 : Value) (h9 : Hs) =>
 kU64 .geq x7 (Value.int .u64 (.ofNat 256)) (fun x10 =>
 jn (fun (x12 x13 : Value) (h14 : Hs) =>
 kTo8 x12 (fun x15 =>
 after (fun x16 h17 =>
 kTo64 x16 (fun x18 =>
 kI64 .add x13 x18 (fun x19 =>
 clrK h x19 h17))) (oIdxS (.c (Value.string ⟨#[0, 1, 2, 2, 3, 3, 3, 3, 4, 4, 4, 4, 4, 4, 4, 4, 5, 5, 5, 5, 5, 5, 5, 5, 5, 5, 5, 5, 5, 5, 5, 5, 6, 6, 6, 6, 6, 6, 6, 6, 6, 6, 6, 6, 6, 6, 6, 6, 6, 6, 6, 6, 6, 6, 6, 6, 6, 6, 6, 6, 6, 6, 6, 6, 7, 7, 7, 7, 7, 7, 7, 7, 7, 7, 7, 7, 7, 7, 7, 7, 7, 7, 7, 7, 7, 7, 7, 7, 7, 7, 7, 7, 7, 7, 7, 7, 7, 7, 7, 7, 7, 7, 7, 7, 7, 7, 7, 7, 7, 7, 7, 7, 7, 7, 7, 7, 7, 7, 7, 7, 7, 7, 7, 7, 7, 7, 7, 7, 8, 8, 8, 8, 8, 8, 8, 8, 8, 8, 8, 8, 8, 8, 8, 8, 8, 8, 8, 8, 8, 8, 8, 8, 8, 8, 8, 8, 8, 8, 8, 8, 8, 8, 8, 8, 8, 8, 8, 8, 8, 8, 8, 8, 8, 8, 8, 8, 8, 8, 8, 8, 8, 8, 8, 8, 8, 8, 8, 8, 8, 8, 8, 8, 8, 8, 8, 8, 8, 8, 8, 8, 8, 8, 8, 8, 8, 8, 8, 8, 8, 8, 8, 8, 8, 8, 8, 8, 8, 8, 8, 8, 8, 8, 8, 8, 8, 8, 8, 8, 8, 8, 8, 8, 8, 8, 8, 8, 8, 8, 8, 8, 8, 8, 8, 8, 8, 8, 8, 8, 8, 8, 8, 8, 8, 8, 8, 8]⟩)) (.c x15) enE h14))) fun k11 =>
 cnd x10
 (kShr x7 (Value.int .u64 (.ofNat 8)) (fun x20 =>
 kI64 .add x8 (Value.int .i64 (.ofNat 8)) (fun x21 =>
 k11 x20 x21 h9)))
 (k11 x7 x8 h9))) fun k6 =>
 cnd x5
 (kShr x2 (Value.int .u64 (.ofNat 16)) (fun x22 =>
 kI64 .add x3 (Value.int .i64 (.ofNat 16)) (fun x23 =>
 k6 x22 x23 h4)))
 (k6 x2 x3 h4))) fun k1 =>
 cnd x0
 (kShr a0 (Value.int .u64 (.ofNat 32)) (fun x24 =>
 k1 x24 (Value.int .i64 (.ofNat 32)) h0))
 (k1 a0 (Value.int .i64 (.ofNat 0)) h0))

theorem q125 (R : RnK) (N : Nat) (args : List Value) (h : Hs) : r125 R N args h = callT Tryz.prog N R 125 args h := by kernel_rfl

/-- strings.Index -/
noncomputable def r136 (R : RnK) (N : Nat) (args : List Value) (h : Hs) : An := unC args fun a0 sq0 => unC sq0 fun a1 sq1 => enK h fun h0 =>
 kCall R 149 [a0, a1] h0 (fun x0 h1 =>
 clrK h x0 h1)

theorem q136 (R : RnK) (N : Nat) (args : List Value) (h : Hs) : r136 R N args h = callT Tryz.prog N R 136 args h := by kernel_rfl

/-- strings.genSplit -/
noncomputable def r138 (R : RnK) (N : Nat) (args : List Value) (h : Hs) : An := unC args fun a0 sq0 => unC sq0 fun a1 sq1 => unC sq1 fun a2 sq2 => unC sq2 fun a3 sq3 => enK h fun h0 =>
 kI64 .eql a3 (Value.int .i64 (.ofNat 0)) (fun x0 =>
 jn (fun (x2 : Value) (h3 : Hs) =>
 obK (fun x4 =>
 jn (fun (x6 : Value) (h7 : Hs) =>
 kI64 .lss a3 (Value.int .i64 (.ofNat 0)) (fun x8 =>
 jn (fun (x10 : Value) (h11 : Hs) =>
 kLenS a0 (fun x12 =>
 kI64 .add x12 (Value.int .i64 (.ofNat 1)) (fun x13 =>
 after (fun x14 h15 =>
 after (fun x16 h17 =>
 kI64 .sub x14 (Value.int .i64 (.ofNat 1)) (fun x18 =>
 jn (fun (x20 x21 x22 x23 x24 : Value) (h25 : Hs) =>
 kIdxA 1 x16 x21 (fun x26 =>
 kStore1 x26 x20 h25 (fun x27 h28 =>
 kI64 .add x21 (Value.int .i64 (.ofNat 1)) (fun x29 =>
 after (fun x30 h31 =>
 clrK h x30 h31) (oSlice 1 (.c x16) none (some (.c x29)) none enE h28))))) fun k19 =>
 lpT (T := Value → Value → Value → Value → Value → Hs → An) (fun _ _ _ _ _ _ => none) N (fun k32 =>
 fun (x34 x35 x36 x37 x38 : Value) (h39 : Hs) =>
 kI64 .lss x35 x18 (fun x40 =>
 jn (fun (h42 : Hs) =>
 jn (fun (x44 x45 x46 x47 : Value) (h48 : Hs) =>
 k32 x44 x45 x40 x46 x47 h48) fun k43 =>
 kCall R 136 [x34, a1] h42 (fun x49 h50 =>
 kI64 .lss x49 (Value.int .i64 (.ofNat 0)) (fun x51 =>
 jn (fun (h53 : Hs) =>
 kI64 .add x49 a2 (fun x54 =>
 after (fun x55 h56 =>
 kIdxA 1 x16 x35 (fun x57 =>
 kStore1 x57 x55 h56 (fun x58 h59 =>
 kLenS a1 (fun x60 =>
 kI64 .add x49 x60 (fun x61 =>
 after (fun x62 h63 =>
 kI64 .add x35 (Value.int .i64 (.ofNat 1)) (fun x64 =>
 k43 x62 x64 x49 x51 h63)) (oCutstr (.c x34) (some (.c x61)) none enE h59)))))) (oCutstr (.c x34) none (some (.c x54)) enE h53))) fun k52 =>
 cnd x51
 (k19 x34 x35 x40 x49 x51 h50)
 (k52 h50)))) fun k41 =>
 cnd x40
 (k41 h39)
 (k19 x34 x35 x40 x37 x38 h39))) a0 (Value.int .i64 (.ofNat 0)) dunno dunno dunno h17)) (mkslice1 9 1 16 [(Value.string ⟨#[]⟩)] h15 (natOf x14) (natOf x14))) (oMinmax false [.c x10, .c x13] enE h11)))) fun k9 =>
 cnd x8
 (kCall R 155 [a0, a1] h7 (fun x65 h66 =>
 kI64 .add x65 (Value.int .i64 (.ofNat 1)) (fun x67 =>
 k9 x67 h66)))
 (k9 a3 h7))) fun k5 =>
 cnd x4
 (kCall R 154 [a0, a3] h3 (fun x68 h69 =>
 clrK h x68 h69))
 (k5 x2 h3)) (s2 .eql a1 (Value.string ⟨#[]⟩))) fun k1 =>
 cnd x0
 (clrK h (Value.slice none 0 0) h0)
 (k1 (Value.slice none 0 0) h0))

theorem q138 (R : RnK) (N : Nat) (args : List Value) (h : Hs) : r138 R N args h = callT Tryz.prog N R 138 args h := by kernel_rfl

/-- slices.nextPowerOfTwo -/
noncomputable def r140 (R : RnK) (N : Nat) (args : List Value) (h : Hs) : An := unC args fun a0 sq0 => enK h fun h0 =>
 kToU a0 (fun x0 =>
 kCall R 103 [x0] h0 (fun x1 h2 =>
 kShl (Value.int .u64 (.ofNat 1)) x1 (fun x3 =>
 clrK h x3 h2)))

theorem q140 (R : RnK) (N : Nat) (args : List Value) (h : Hs) : r140 R N args h = callT Tryz.prog N R 140 args h := by kernel_rfl

/-- (*slices.xorshift).Next -/
noncomputable def r141 (R : RnK) (N : Nat) (args : List Value) (h : Hs) : An := unC args fun a0 sq0 => enK h fun h0 =>
 kNil a0 (fun x0 =>
 kLoad x0 (Hs.mk h0.hp h0.nx h0.nx) (fun x1 =>
 kNil a0 (fun x2 =>
 kLoad x2 (Hs.mk h0.hp h0.nx h0.nx) (fun x3 =>
 kShl x3 (Value.int .u64 (.ofNat 13)) (fun x4 =>
 kU64 .xor x1 x4 (fun x5 =>
 kNil a0 (fun x6 =>
 kStore1 x6 x5 h0 (fun v33 u34 => dPut (fun x7 h8 =>
 kNil a0 (fun x9 =>
 kLoad x9 (Hs.mk h8.hp h8.nx h8.nx) (fun x10 =>
 kNil a0 (fun x11 =>
 kLoad x11 (Hs.mk h8.hp h8.nx h8.nx) (fun x12 =>
 kShr x12 (Value.int .u64 (.ofNat 7)) (fun x13 =>
 kU64 .xor x10 x13 (fun x14 =>
 kNil a0 (fun x15 =>
 kStore1 x15 x14 h8 (fun v31 u32 => dPut (fun x16 h17 =>
 kNil a0 (fun x18 =>
 kLoad x18 (Hs.mk h17.hp h17.nx h17.nx) (fun x19 =>
 kNil a0 (fun x20 =>
 kLoad x20 (Hs.mk h17.hp h17.nx h17.nx) (fun x21 =>
 kShl x21 (Value.int .u64 (.ofNat 17)) (fun x22 =>
 kU64 .xor x19 x22 (fun x23 =>
 kNil a0 (fun x24 =>
 kStore1 x24 x23 h17 (fun v29 u30 => dPut (fun x25 h26 =>
 kNil a0 (fun x27 =>
 kLoad x27 h26 (fun x28 =>
 clrK h x28 h26))) v29 (dNext h17 u30 .bar) (andB (dFit h17 u30 .bar) (Nat.ble 0 u30.lo))))))))))) v31 (dNext h8 u32 .bar) (andB (dFit h8 u32 .bar) (Nat.ble 0 u32.lo))))))))))) v33 (dNext h0 u34 .bar) (andB (dFit h0 u34 .bar) (Nat.ble 0 u34.lo))))))))))

theorem q141 (R : RnK) (N : Nat) (args : List Value) (h : Hs) : r141 R N args h = callT Tryz.prog N R 141 args h := by kernel_rfl

/-- cmp.isNaN[int] -/
noncomputable def r144 (R : RnK) (N : Nat) (args : List Value) (h : Hs) : An := unC args fun a0 sq0 => enK h fun h0 =>
 kI64 .neq a0 a0 (fun x0 =>
 clrK h x0 h0)

theorem q144 (R : RnK) (N : Nat) (args : List Value) (h : Hs) : r144 R N args h = callT Tryz.prog N R 144 args h := by kernel_rfl

/-- cmp.isNaN[string] -/
noncomputable def r148 (R : RnK) (N : Nat) (args : List Value) (h : Hs) : An := unC args fun a0 sq0 => enK h fun h0 =>
 obK (fun x0 =>
 clrK h x0 h0) (s2 .neq a0 a0)

theorem q148 (R : RnK) (N : Nat) (args : List Value) (h : Hs) : r148 R N args h = callT Tryz.prog N R 148 args h := by kernel_rfl

/-- internal/stringslite.Index -/
noncomputable def r149 (R : RnK) (N : Nat) (args : List Value) (h : Hs) : An := unC args fun a0 sq0 => unC sq0 fun a1 sq1 => enK h fun h0 =>
 kLenS a1 (fun x0 =>
 jn (fun (x2 x3 x4 x5 x6 : Value) (h7 : Hs) =>
 after (fun x8 h9 =>
 after (fun x10 h11 =>
 kLenS a0 (fun x12 =>
 kI64 .sub x12 x0 (fun x13 =>
 kI64 .add x13 (Value.int .i64 (.ofNat 1)) (fun x14 =>
 jn (fun (x16 x17 x18 x19 x20 x21 x22 x23 x24 x25 x26 x27 x28 x29 : Value) (h30 : Hs) =>
 clrK h (Value.int .i64 (.negSucc 0)) h30) fun k15 =>
 lpT (T := Value → Value → Value → Value → Value → Value → Value → Value → Value → Value → Value → Value → Value → Value → Hs → An) (fun _ _ _ _ _ _ _ _ _ _ _ _ _ _ _ => none) N (fun k31 =>
 fun (x33 x34 x35 x36 x37 x38 x39 x40 x41 x42 x43 x44 x45 x46 : Value) (h47 : Hs) =>
 kI64 .lss x33 x14 (fun x48 =>
 jn (fun (h50 : Hs) =>
 jn (fun (x52 x53 x54 x55 x56 x57 x58 x59 x60 x61 x62 x63 x64 : Value) (h65 : Hs) =>
 k31 x52 x48 x53 x54 x55 x56 x57 x58 x59 x60 x61 x62 x63 x64 h65) fun k51 =>
 after (fun x66 h67 =>
 kU8 .neq x66 x8 (fun x68 =>
 jn (fun (x70 x71 x72 x73 : Value) (h74 : Hs) =>
 kI64 .add x70 (Value.int .i64 (.ofNat 1)) (fun x75 =>
 after (fun x76 h77 =>
 kU8 .eql x76 x10 (fun x78 =>
 gdT x78 h77 (fun k79 => k79 a0 h77) (fun x80 h81 =>
 gdT x78 h81 (fun k82 => k82 x70 h81) (fun x83 h84 =>
 gdT x78 h84 (fun k85 => k85 x70 h84) (fun x86 h87 =>
 gdT x78 h87 (fun k88 => k88 x0 h87) (fun x89 h90 =>
 gdT x78 h90 (fun k91 => kI64 .add x86 x89 (fun x92 => k91 x92 h90)) (fun x93 h94 =>
 gdT x78 h94 (fun k95 => after (k95) (oCutstr (.c x80) (some (.c x83)) (some (.c x93)) enE h94)) (fun x96 h97 =>
 gdT x78 h97 (fun k98 => k98 a1 h97) (fun x99 h100 =>
 gdT x78 h100 (fun k101 => obK (fun x102 => k101 x102 h100) (s2 .eql x96 x99)) (fun x103 h104 =>
 after (fun x105 h106 =>
 jn (fun (x108 : Value) (h109 : Hs) =>
 kI64 .add x70 (Value.int .i64 (.ofNat 1)) (fun x110 =>
 kI64 .add x39 (Value.int .i64 (.ofNat 1)) (fun x111 =>
 none))) fun k107 =>
 cnd x105
 (clrK h x70 h106)
 (k107 x73 h106)) (pickB (.c x103) (.c (Value.bool false)) enE h104 x78))))))))))) (oIdxS (.c a0) (.c x75) enE h74))) fun k69 =>
 cnd x68
 (kI64 .add x33 (Value.int .i64 (.ofNat 1)) (fun x196 =>
 after (fun x197 h198 =>
 kCall R 158 [x197, x8] h198 (fun x199 h200 =>
 kI64 .lss x199 (Value.int .i64 (.ofNat 0)) (fun x201 =>
 jn (fun (x203 : Value) (h204 : Hs) =>
 kI64 .add x199 (Value.int .i64 (.ofNat 1)) (fun x205 =>
 kI64 .add x33 x205 (fun x206 =>
 k69 x206 x199 x201 x203 h204))) fun k202 =>
 cnd x201
 (clrK h (Value.int .i64 (.negSucc 0)) h200)
 (k202 x46 h200)))) (oCutstr (.c a0) (some (.c x196)) (some (.c x14)) enE h67)))
 (k69 x33 x36 x37 x46 h67))) (oIdxS (.c a0) (.c x33) enE h50)) fun k49 =>
 cnd x48
 (k49 h47)
 (k15 x33 x48 x35 x36 x37 x38 x39 x40 x41 x42 x43 x44 x45 x46 h47))) (Value.int .i64 (.ofNat 0)) dunno dunno dunno dunno dunno (Value.int .i64 (.ofNat 0)) dunno dunno dunno dunno dunno dunno x6 h11)))) (oIdxS (.c a1) (.c (Value.int .i64 (.ofNat 1))) enE h9)) (oIdxS (.c a1) (.c (Value.int .i64 (.ofNat 0))) enE h7)) fun k1 =>
 kI64 .eql x0 (Value.int .i64 (.ofNat 0)) (fun x207 =>
 gdF x207 h0 (fun k208 => k208 a1 h0) (fun x209 h210 =>
 gdF x207 h210 (fun k211 => k211 a0 h210) (fun x212 h213 =>
 gdF x207 h213 (fun k214 => obK (fun x215 => k214 x215 h213) (s2 .eql x209 x212)) (fun x216 h217 =>
 after (fun x218 h219 =>
 jn (fun (x221 x222 x223 x224 : Value) (h225 : Hs) =>
 k1 x218 x221 x222 x223 x224 h225) fun k220 =>
 cnd x218
 (clrK h (Value.int .i64 (.ofNat 0)) h219)
 (kI64 .eql x0 (Value.int .i64 (.ofNat 1)) (fun x226 =>
 jn (fun (x228 x229 x230 : Value) (h231 : Hs) =>
 k220 x226 x228 x229 x230 h231) fun k227 =>
 cnd x226
 (after (fun x232 h233 =>
 kCall R 158 [a0, x232] h233 (fun x234 h235 =>
 clrK h x234 h235)) (oIdxS (.c a1) (.c (Value.int .i64 (.ofNat 0))) enE h219))
 (kLenS a0 (fun x236 =>
 kI64 .geq x0 x236 (fun x237 =>
 jn (fun (x239 x240 : Value) (h241 : Hs) =>
 k227 x237 x239 x240 h241) fun k238 =>
 cnd x237
 (clrK h (Value.int .i64 (.negSucc 0)) h219)
 (none))))))) (pickB (.c (Value.bool true)) (.c x216) enE h217 x207))))))

theorem q149 (R : RnK) (N : Nat) (args : List Value) (h : Hs) : r149 R N args h = callT Tryz.prog N R 149 args h := by kernel_rfl

/-- strings.explode -/
noncomputable def r154 (R : RnK) (N : Nat) (args : List Value) (h : Hs) : An := unC args fun a0 sq0 => unC sq0 fun a1 sq1 => enK h fun h0 =>
 kCall R 166 [a0] h0 (fun x0 h1 =>
 kI64 .lss a1 (Value.int .i64 (.ofNat 0)) (fun x2 =>
 gdF x2 h1 (fun k3 => k3 a1 h1) (fun x4 h5 =>
 gdF x2 h5 (fun k6 => k6 x0 h5) (fun x7 h8 =>
 gdF x2 h8 (fun k9 => kI64 .gtr x4 x7 (fun x10 => k9 x10 h8)) (fun x11 h12 =>
 after (fun x13 h14 =>
 jn (fun (x16 : Value) (h17 : Hs) =>
 after (fun x18 h19 =>
 jn (fun (x21 x22 x23 x24 : Value) (h25 : Hs) =>
 kI64 .gtr x16 (Value.int .i64 (.ofNat 0)) (fun x26 =>
 jn (fun (h28 : Hs) =>
 clrK h x18 h28) fun k27 =>
 cnd x26
 (kI64 .sub x16 (Value.int .i64 (.ofNat 1)) (fun x29 =>
 kIdxA 1 x18 x29 (fun x30 =>
 kStore1 x30 x21 h25 (fun x31 h32 =>
 k27 h32))))
 (k27 h25))) fun k20 =>
 lpT (T := Value → Value → Value → Value → Hs → An) (fun _ _ _ _ _ => none) N (fun k33 =>
 fun (x35 x36 x37 x38 : Value) (h39 : Hs) =>
 kI64 .sub x16 (Value.int .i64 (.ofNat 1)) (fun x40 =>
 kI64 .lss x36 x40 (fun x41 =>
 jn (fun (h43 : Hs) =>
 jn (fun (x45 x46 : Value) (h47 : Hs) =>
 kI64 .add x36 (Value.int .i64 (.ofNat 1)) (fun x48 =>
 k33 x45 x48 x41 x46 h47)) fun k44 =>
 kCall R 167 [x35] h43 (fun x49 h50 =>
 kExtr x49 0 (fun x51 =>
 kExtr x49 1 (fun x52 =>
 after (fun x53 h54 =>
 kIdxA 1 x18 x36 (fun x55 =>
 kStore1 x55 x53 h54 (fun x56 h57 =>
 after (fun x58 h59 =>
 k44 x58 x52 h59) (oCutstr (.c x35) (some (.c x52)) none enE h57)))) (oCutstr (.c x35) none (some (.c x52)) enE h50))))) fun k42 =>
 cnd x41
 (k42 h39)
 (k20 x35 x36 x41 x38 h39)))) a0 (Value.int .i64 (.ofNat 0)) dunno dunno h19) (mkslice1 9 1 16 [(Value.string ⟨#[]⟩)] h17 (natOf x16) (natOf x16))) fun k15 =>
 cnd x13
 (k15 x0 h14)
 (k15 a1 h14)) (pickB (.c (Value.bool true)) (.c x11) enE h12 x2))))))

theorem q154 (R : RnK) (N : Nat) (args : List Value) (h : Hs) : r154 R N args h = callT Tryz.prog N R 154 args h := by kernel_rfl

/-- strings.Count -/
noncomputable def r155 (R : RnK) (N : Nat) (args : List Value) (h : Hs) : An := unC args fun a0 sq0 => unC sq0 fun a1 sq1 => enK h fun h0 =>
 kLenS a1 (fun x0 =>
 kI64 .eql x0 (Value.int .i64 (.ofNat 0)) (fun x1 =>
 jn (fun (x3 : Value) (h4 : Hs) =>
 kLenS a1 (fun x5 =>
 kI64 .eql x5 (Value.int .i64 (.ofNat 1)) (fun x6 =>
 jn (fun (x8 : Value) (h9 : Hs) =>
 jn (fun (x11 x12 x13 x14 x15 : Value) (h16 : Hs) =>
 clrK h x15 h16) fun k10 =>
 lpT (T := Value → Value → Value → Value → Value → Hs → An) (fun _ _ _ _ _ _ => none) N (fun k17 =>
 fun (x19 x20 x21 x22 x23 : Value) (h24 : Hs) =>
 jn (fun (x26 x27 x28 x29 x30 : Value) (h31 : Hs) =>
 k17 x26 x27 x28 x29 x30 h31) fun k25 =>
 kCall R 136 [x19, a1] h24 (fun x32 h33 =>
 kI64 .eql x32 (Value.int .i64 (.negSucc 0)) (fun x34 =>
 jn (fun (x36 : Value) (h37 : Hs) =>
 kI64 .add x22 (Value.int .i64 (.ofNat 1)) (fun x38 =>
 kLenS a1 (fun x39 =>
 kI64 .add x32 x39 (fun x40 =>
 after (fun x41 h42 =>
 k25 x41 x32 x34 x38 x36 h42) (oCutstr (.c x19) (some (.c x40)) none enE h37))))) fun k35 =>
 cnd x34
 (clrK h x22 h33)
 (k35 x23 h33)))) a0 dunno dunno (Value.int .i64 (.ofNat 0)) x8 h9) fun k7 =>
 cnd x6
 (after (fun x43 h44 =>
 after (fun x45 h46 =>
 clrK h x45 h46) (ret1 h44 (cntB1 a0 x43))) (oIdxS (.c a1) (.c (Value.int .i64 (.ofNat 0))) enE h4))
 (k7 x3 h4)))) fun k2 =>
 cnd x1
 (kCall R 166 [a0] h0 (fun x47 h48 =>
 kI64 .add x47 (Value.int .i64 (.ofNat 1)) (fun x49 =>
 clrK h x49 h48)))
 (k2 (Value.int .i64 (.ofNat 0)) h0)))

theorem q155 (R : RnK) (N : Nat) (args : List Value) (h : Hs) : r155 R N args h = callT Tryz.prog N R 155 args h := by kernel_rfl

/-- internal/stringslite.IndexByte -/
noncomputable def r158 (R : RnK) (N : Nat) (args : List Value) (h : Hs) : An := unC args fun a0 sq0 => unC sq0 fun a1 sq1 => enK h fun h0 =>
 after (fun x0 h1 =>
 clrK h x0 h1) (ret1 h0 (idxB1 a0 a1))

theorem q158 (R : RnK) (N : Nat) (args : List Value) (h : Hs) : r158 R N args h = callT Tryz.prog N R 158 args h := by kernel_rfl

/-- internal/bytealg.Cutover -/
noncomputable def r160 (R : RnK) (N : Nat) (args : List Value) (h : Hs) : An := unC args fun a0 sq0 => enK h fun h0 =>
 kI64 .add a0 (Value.int .i64 (.ofNat 16)) (fun x0 =>
 kI64 .quo x0 (Value.int .i64 (.ofNat 8)) (fun x1 =>
 clrK h x1 h0))

theorem q160 (R : RnK) (N : Nat) (args : List Value) (h : Hs) : r160 R N args h = callT Tryz.prog N R 160 args h := by kernel_rfl

/-- internal/bytealg.IndexRabinKarp[string] -/
noncomputable def r161 (R : RnK) (N : Nat) (args : List Value) (h : Hs) : An := unC args fun a0 sq0 => unC sq0 fun a1 sq1 => enK h fun h0 =>
 kCall R 170 [a1] h0 (fun x0 h1 =>
 kExtr x0 0 (fun x2 =>
 kExtr x0 1 (fun x3 =>
 kLenS a1 (fun x4 =>
 jn (fun (x6 x7 x8 : Value) (h9 : Hs) =>
 obK (fun x10 =>
 gdT x10 h9 (fun k11 => k11 a0 h9) (fun x12 h13 =>
 gdT x10 h13 (fun k14 => k14 x4 h13) (fun x15 h16 =>
 gdT x10 h16 (fun k17 => after (k17) (oCutstr (.c x12) none (some (.c x15)) enE h16)) (fun x18 h19 =>
 gdT x10 h19 (fun k20 => k20 a1 h19) (fun x21 h22 =>
 gdT x10 h22 (fun k23 => obK (fun x24 => k23 x24 h22) (s2 .eql x18 x21)) (fun x25 h26 =>
 after (fun x27 h28 =>
 jn (fun (x30 : Value) (h31 : Hs) =>
 jn (fun (x33 x34 x35 x36 x37 : Value) (h38 : Hs) =>
 clrK h (Value.int .i64 (.negSucc 0)) h38) fun k32 =>
 lpT (T := Value → Value → Value → Value → Value → Hs → An) (fun _ _ _ _ _ _ => none) N (fun k39 =>
 fun (x41 x42 x43 x44 x45 : Value) (h46 : Hs) =>
 kLenS a0 (fun x47 =>
 kI64 .lss x42 x47 (fun x48 =>
 jn (fun (h50 : Hs) =>
 jn (fun (x52 x53 x54 x55 : Value) (h56 : Hs) =>
 k39 x52 x53 x48 x54 x55 h56) fun k51 =>
 obK (fun x57 =>
 after (fun x58 h59 =>
 obK (fun x60 =>
 obK (fun x61 =>
 kI64 .sub x42 x4 (fun x62 =>
 after (fun x63 h64 =>
 obK (fun x65 =>
 obK (fun x66 =>
 obK (fun x67 =>
 kI64 .add x42 (Value.int .i64 (.ofNat 1)) (fun x68 =>
 obK (fun x69 =>
 gdT x69 h64 (fun k70 => k70 a0 h64) (fun x71 h72 =>
 gdT x69 h72 (fun k73 => k73 x68 h72) (fun x74 h75 =>
 gdT x69 h75 (fun k76 => k76 x4 h75) (fun x77 h78 =>
 gdT x69 h78 (fun k79 => kI64 .sub x74 x77 (fun x80 => k79 x80 h78)) (fun x81 h82 =>
 gdT x69 h82 (fun k83 => k83 x68 h82) (fun x84 h85 =>
 gdT x69 h85 (fun k86 => after (k86) (oCutstr (.c x71) (some (.c x81)) (some (.c x84)) enE h85)) (fun x87 h88 =>
 gdT x69 h88 (fun k89 => k89 a1 h88) (fun x90 h91 =>
 gdT x69 h91 (fun k92 => obK (fun x93 => k92 x93 h91) (s2 .eql x87 x90)) (fun x94 h95 =>
 after (fun x96 h97 =>
 jn (fun (x99 : Value) (h100 : Hs) =>
 k51 x67 x68 x96 x99 h100) fun k98 =>
 cnd x96
 (kI64 .sub x68 x4 (fun x101 =>
 clrK h x101 h97))
 (k98 x45 h97)) (pickB (.c x94) (.c (Value.bool false)) enE h95 x69)))))))))) (i2 (fOf .eql) x67 x2))) (i2 (fOf .sub) x61 x66)) (i2 (fOf .mul) x3 x65)) (convI1 .u32 x63)) (oIdxS (.c a0) (.c x62) enE h59))) (i2 (fOf .add) x57 x60)) (convI1 .u32 x58)) (oIdxS (.c a0) (.c x42) enE h50)) (i2 (fOf .mul) x41 (Value.int .u32 (.ofNat 16777619)))) fun k49 =>
 cnd x48
 (k49 h46)
 (k32 x41 x42 x48 x44 x45 h46)))) x8 x4 dunno dunno x30 h31) fun k29 =>
 cnd x27
 (clrK h (Value.int .i64 (.ofNat 0)) h28)
 (k29 (Value.int .i64 (.ofNat 0)) h28)) (pickB (.c x25) (.c (Value.bool false)) enE h26 x10))))))) (i2 (fOf .eql) x8 x2)) fun k5 =>
 lpT (T := Value → Value → Value → Hs → An) (fun _ _ _ _ => none) N (fun k102 =>
 fun (x104 x105 x106 : Value) (h107 : Hs) =>
 kI64 .lss x104 x4 (fun x108 =>
 jn (fun (h110 : Hs) =>
 jn (fun (x112 : Value) (h113 : Hs) =>
 kI64 .add x104 (Value.int .i64 (.ofNat 1)) (fun x114 =>
 k102 x114 x108 x112 h113)) fun k111 =>
 obK (fun x115 =>
 after (fun x116 h117 =>
 obK (fun x118 =>
 obK (fun x119 =>
 k111 x119 h117) (i2 (fOf .add) x115 x118)) (convI1 .u32 x116)) (oIdxS (.c a0) (.c x104) enE h110)) (i2 (fOf .mul) x106 (Value.int .u32 (.ofNat 16777619)))) fun k109 =>
 cnd x108
 (k109 h107)
 (k5 x104 x108 x106 h107))) (Value.int .i64 (.ofNat 0)) dunno (Value.int .u32 (.ofNat 0)) h1))))

theorem q161 (R : RnK) (N : Nat) (args : List Value) (h : Hs) : r161 R N args h = callT Tryz.prog N R 161 args h := by kernel_rfl

/-- unicode/utf8.RuneCountInString -/
noncomputable def r166 (R : RnK) (N : Nat) (args : List Value) (h : Hs) : An := unC args fun a0 sq0 => enK h fun h0 =>
 none

theorem q166 (R : RnK) (N : Nat) (args : List Value) (h : Hs) : r166 R N args h = callT Tryz.prog N R 166 args h := by kernel_rfl

/-- unicode/utf8.DecodeRuneInString -/
noncomputable def r167 (R : RnK) (N : Nat) (args : List Value) (h : Hs) : An := unC args fun a0 sq0 => enK h fun h0 =>
 obK (fun x0 =>
 gdT x0 h0 (fun k1 => k1 a0 h0) (fun x2 h3 =>
 gdT x0 h3 (fun k4 => after (k4) (oIdxS (.c x2) (.c (Value.int .i64 (.ofNat 0))) enE h3)) (fun x5 h6 =>
 gdT x0 h6 (fun k7 => kU8 .lss x5 (Value.int .u8 (.ofNat 128)) (fun x8 => k7 x8 h6)) (fun x9 h10 =>
 after (fun x11 h12 =>
 jn (fun (x14 x15 : Value) (h16 : Hs) =>
 clrK h (Value.tuple #[x14, x15]) h16) fun k13 =>
 cnd x11
 (after (fun x17 h18 =>
 obK (fun x19 =>
 clrK h (Value.tuple #[x19, (Value.int .i64 (.ofNat 1))]) h18) (convI1 .i32 x17)) (oIdxS (.c a0) (.c (Value.int .i64 (.ofNat 0))) enE h12))
 (kCall R 173 [a0] h12 (fun x20 h21 =>
 kExtr x20 0 (fun x22 =>
 kExtr x20 1 (fun x23 =>
 k13 x22 x23 h21))))) (pickB (.c x9) (.c (Value.bool false)) enE h10 x0))))) (s2 .neq a0 (Value.string ⟨#[]⟩))

theorem q167 (R : RnK) (N : Nat) (args : List Value) (h : Hs) : r167 R N args h = callT Tryz.prog N R 167 args h := by kernel_rfl

/-- internal/bytealg.hashStr[string] -/
noncomputable def r170 (R : RnK) (N : Nat) (args : List Value) (h : Hs) : An := unC args fun a0 sq0 => enK h fun h0 =>
 jn (fun (x1 x2 x3 : Value) (h4 : Hs) =>
 kLenS a0 (fun x5 =>
 jn (fun (x7 x8 x9 x10 x11 : Value) (h12 : Hs) =>
 clrK h (Value.tuple #[x3, x10]) h12) fun k6 =>
 lpT (T := Value → Value → Value → Value → Value → Hs → An) (fun _ _ _ _ _ _ => none) N (fun k13 =>
 fun (x15 x16 x17 x18 x19 : Value) (h20 : Hs) =>
 kI64 .gtr x15 (Value.int .i64 (.ofNat 0)) (fun x21 =>
 jn (fun (h23 : Hs) =>
 jn (fun (x25 x26 x27 : Value) (h28 : Hs) =>
 kShr x15 (Value.int .u64 (.ofNat 1)) (fun x29 =>
 k13 x29 x21 x25 x26 x27 h28)) fun k24 =>
 kI64 .and x15 (Value.int .i64 (.ofNat 1)) (fun x30 =>
 kI64 .neq x30 (Value.int .i64 (.ofNat 0)) (fun x31 =>
 jn (fun (x33 : Value) (h34 : Hs) =>
 obK (fun x35 =>
 k24 x31 x33 x35 h34) (i2 (fOf .mul) x19 x19)) fun k32 =>
 cnd x31
 (obK (fun x36 =>
 k32 x36 h23) (i2 (fOf .mul) x18 x19))
 (k32 x18 h23)))) fun k22 =>
 cnd x21
 (k22 h20)
 (k6 x15 x21 x17 x18 x19 h20))) x5 dunno dunno (Value.int .u32 (.ofNat 1)) (Value.int .u32 (.ofNat 16777619)) h4)) fun k0 =>
 lpT (T := Value → Value → Value → Hs → An) (fun _ _ _ _ => none) N (fun k37 =>
 fun (x39 x40 x41 : Value) (h42 : Hs) =>
 kLenS a0 (fun x43 =>
 kI64 .lss x39 x43 (fun x44 =>
 jn (fun (h46 : Hs) =>
 jn (fun (x48 : Value) (h49 : Hs) =>
 kI64 .add x39 (Value.int .i64 (.ofNat 1)) (fun x50 =>
 k37 x50 x44 x48 h49)) fun k47 =>
 obK (fun x51 =>
 after (fun x52 h53 =>
 obK (fun x54 =>
 obK (fun x55 =>
 k47 x55 h53) (i2 (fOf .add) x51 x54)) (convI1 .u32 x52)) (oIdxS (.c a0) (.c x39) enE h46)) (i2 (fOf .mul) x41 (Value.int .u32 (.ofNat 16777619)))) fun k45 =>
 cnd x44
 (k45 h42)
 (k0 x39 x44 x41 h42)))) (Value.int .i64 (.ofNat 0)) dunno (Value.int .u32 (.ofNat 0)) h0

theorem q170 (R : RnK) (N : Nat) (args : List Value) (h : Hs) : r170 R N args h = callT Tryz.prog N R 170 args h := by kernel_rfl

/-- unicode/utf8.decodeRuneInStringSlow -/
noncomputable def r173 (R : RnK) (N : Nat) (args : List Value) (h : Hs) : An := unC args fun a0 sq0 => enK h fun h0 =>
 kLenS a0 (fun x0 =>
 kI64 .lss x0 (Value.int .i64 (.ofNat 1)) (fun x1 =>
 jn (fun (x3 x4 : Value) (h5 : Hs) =>
 after (fun x6 h7 =>
 none) (oIdxS (.c a0) (.c (Value.int .i64 (.ofNat 0))) enE h5)) fun k2 =>
 cnd x1
 (clrK h (Value.tuple #[(Value.int .i32 (.ofNat 65533)), (Value.int .i64 (.ofNat 0))]) h0)
 (k2 (Value.int .i32 (.ofNat 0)) (Value.int .i64 (.ofNat 0)) h0)))

theorem q173 (R : RnK) (N : Nat) (args : List Value) (h : Hs) : r173 R N args h = callT Tryz.prog N R 173 args h := by kernel_rfl

noncomputable def entries : List (Nat × FnK) := [(4, r4), (11, r11), (12, r12), (13, r13), (14, r14), (28, r28), (29, r29), (30, r30), (31, r31), (32, r32), (33, r33), (34, r34), (35, r35), (36, r36), (37, r37), (39, r39), (41, r41), (60, r60), (61, r61), (62, r62), (63, r63), (64, r64), (65, r65), (66, r66), (67, r67), (68, r68), (69, r69), (70, r70), (71, r71), (72, r72), (73, r73), (74, r74), (95, r95), (97, r97), (98, r98), (99, r99), (100, r100), (103, r103), (110, r110), (112, r112), (113, r113), (114, r114), (124, r124), (125, r125), (136, r136), (138, r138), (140, r140), (141, r141), (144, r144), (148, r148), (149, r149), (154, r154), (155, r155), (158, r158), (160, r160), (161, r161), (166, r166), (167, r167), (170, r170), (173, r173)]
theorem entries_ok : AllOk Tryz.prog entries := ⟨q4, q11, q12, q13, q14, q28, q29, q30, q31, q32, q33, q34, q35, q36, q37, q39, q41, q60, q61, q62, q63, q64, q65, q66, q67, q68, q69, q70, q71, q72, q73, q74, q95, q97, q98, q99, q100, q103, q110, q112, q113, q114, q124, q125, q136, q138, q140, q141, q144, q148, q149, q154, q155, q158, q160, q161, q166, q167, q170, q173, trivial⟩
end Go.Proofs.YtegldcmibgeihaaGreatDoor.treeDirs
