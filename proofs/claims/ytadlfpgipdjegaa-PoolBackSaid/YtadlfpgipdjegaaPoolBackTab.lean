/- The functions that 'PoolBack' reaches, in the fast evaluator's form, each held against the program's own text by the kernel. Written by a program. -/
import Derived.Test.YtadlfpgipdjegaaGevKM
import Derived.Test.YtadlfpgipdjegaaProg
import Derived.KernelRfl
namespace Go.Proofs.Ytadlfpgipdjegaa.poolBack
open Go.Gev
set_option linter.unusedVariables false
/-- lintel/lintellaw12.PoolBack -/
noncomputable def r3 (R : RnK) (N : Nat) (args : List Value) (h : Hs) : An := unC args fun a0 sq0 => enK h fun h0 =>
 kCall R 4 [] h0 (fun x0 h1 =>
 kNot x0 (fun x2 =>
 jn (fun (x4 : Value) (h5 : Hs) =>
 kLenV a0 (fun x6 =>
 kI64 .gtr x6 (Value.int .i64 (.ofNat 15)) (fun x7 =>
 jn (fun (x9 : Value) (h10 : Hs) =>
 kCall R 5 [(Value.int .i64 (.ofNat 80))] h10 (fun x11 h12 =>
 after (fun x13 h14 =>
 after (fun x15 h16 =>
 kLoads 4 x13 (Hs.mk h16.hp h16.nx h16.nx) (fun x17 =>
 kLoads 4 x13 (Hs.mk h16.hp h16.nx h16.nx) (fun x18 =>
 kCall R 7 [x18] (Hs.mk h16.hp h16.nx h16.nx) (fun v187 u188 => dPut (fun x19 h20 =>
 kCall R 6 [x17, x19] h20 (fun v185 u186 => dPut (fun x21 h22 =>
 kExtr x21 0 (fun x23 =>
 kExtr x21 1 (fun x24 =>
 kI64 .neq x24 (Value.int .i64 (.ofNat 0)) (fun x25 =>
 gdF x25 h22 (fun k26 => k26 x23 h22) (fun x27 h28 =>
 gdF x25 h28 (fun k29 => obK (fun x30 => k29 x30 h28) (e2 false qP x27 (Value.pointer none))) (fun x31 h32 =>
 after (fun x33 h34 =>
 jn (fun (x36 : Value) (h37 : Hs) =>
 kCall R 8 [x23] h37 (fun x38 h39 =>
 jn (fun (x41 x42 x43 x44 x45 x46 x47 x48 : Value) (h49 : Hs) =>
 kCall R 8 [x23] h49 (fun v89 u90 => dPut (fun x50 h51 =>
 kI64 .eql x50 x38 (fun x52 =>
 gdT x52 h51 (fun k53 => k53 x23 h51) (fun x54 _ =>
 gdT x52 h51 (fun k56 => kCall R 12 [x54] (dHidS .light [true, true, true, true, true, true] [none, none, none, none, some (h49.nx, h51.nx), none] h51) (fun v57 u58 => dPut k56 v57 (dNext h51 u58 .light) (andB (dFit h51 u58 .light) (Nat.ble 0 u58.lo)))) (fun x59 h60 =>
 gdT x52 h60 (fun k61 => kCall R 11 [x59] (dHidS .light [true, true, true, true, true, true, true] [some (h51.nx, h60.nx), none, none, none, none, some (h49.nx, h51.nx), none] h60) (fun v62 u63 => dPut k61 v62 (dNext h60 u63 .light) (andB (dFit h60 u63 .light) (Nat.ble 0 u63.lo)))) (fun x64 h65 =>
 gdT x52 h65 (fun k66 => kFieldA 0 x13 (fun x67 => k66 x67 h65)) (fun x68 _ =>
 gdT x52 h65 (fun k70 => kLoad x68 (dHidS .light [true, false, false, false, true, true, true, true, true] [none, some (h60.nx, h65.nx), some (h51.nx, h60.nx), none, none, none, none, some (h49.nx, h51.nx), none] h65) (fun x71 => k70 x71 h65)) (fun x72 _ =>
 gdT x52 h65 (fun k74 => k74 x38 h65) (fun x75 _ =>
 gdT x52 h65 (fun k77 => kI64 .sub x72 x75 (fun x78 => k77 x78 h65)) (fun x79 _ =>
 gdT x52 h65 (fun k81 => kI64 .eql x64 x79 (fun x82 => k81 x82 h65)) (fun x83 _ =>
 after (fun v87 u88 => dPut (fun x85 h86 =>
 clrK h x85 h86) v87 (dNext h65 u88 .blind) (andB (dFit h65 u88 .blind) (Nat.ble 0 u88.lo))) (pickB (.c x83) (.c (Value.bool false)) enE (Hs.mk .e h65.nx h65.nx) x52))))))))))) v89 (dNext h49 u90 .bar) (andB (dFit h49 u90 .bar) (Nat.ble 0 u90.lo)))) fun k40 =>
 lpT (T := Value → Value → Value → Value → Value → Value → Value → Value → Hs → An) (fun _ _ _ _ _ _ _ _ _ => none) N (fun k91 =>
 fun (x93 x94 x95 x96 x97 x98 x99 x100 : Value) (h101 : Hs) =>
 kLenV a0 (fun x102 =>
 kI64 .lss x93 x102 (fun x103 =>
 jn (fun (h105 : Hs) =>
 jn (fun (x107 x108 x109 x110 x111 x112 : Value) (h113 : Hs) =>
 kI64 .add x93 (Value.int .i64 (.ofNat 1)) (fun x114 =>
 k91 x114 x103 x107 x108 x109 x110 x111 x112 h113)) fun k106 =>
 kIdxA 1 a0 x93 (fun x115 =>
 kLoad x115 h105 (fun x116 =>
 kCall R 9 [x23, (Value.int .i64 (.ofNat 0)), x116, (Value.int .i64 (.ofNat 4))] h105 (fun x117 h118 =>
 kExtr x117 0 (fun x119 =>
 kExtr x117 1 (fun x120 =>
 kI64 .neq x120 (Value.int .i64 (.ofNat 0)) (fun x121 =>
 jn (fun (x123 x124 : Value) (h125 : Hs) =>
 kCall R 8 [x23] (Hs.mk h125.hp h125.nx h125.nx) (fun v154 u155 => dPut (fun x126 h127 =>
 kIdxA 1 a0 x93 (fun x128 =>
 kLoad x128 (dHidS .light [true, true, true, false, false, false] [none, none, none, none, some (h125.nx, h127.nx), none] h127) (fun x129 =>
 kI64 .sub x38 x129 (fun x130 =>
 kI64 .neq x126 x130 (fun x131 =>
 gdF x131 h127 (fun k132 => k132 x23 h127) (fun x133 _ =>
 gdF x131 h127 (fun k135 => k135 x119 h127) (fun x136 _ =>
 gdF x131 h127 (fun k138 => kCall R 10 [x133, x136] h127 (fun v139 u140 => dPut k138 v139 (dNext h127 u140 .bar) (andB (dFit h127 u140 .bar) (Nat.ble 0 u140.lo)))) (fun x141 h142 =>
 gdF x131 h142 (fun k143 => kI64 .neq x141 (Value.int .i64 (.ofNat 0)) (fun x144 => k143 x144 h142)) (fun x145 _ =>
 after (fun v152 u153 => dPut (fun x147 h148 =>
 jn (fun (x150 : Value) (h151 : Hs) =>
 k106 x120 x121 x123 x119 x147 x150 h151) fun k149 =>
 cnd x147
 (clrK h (Value.bool false) h148)
 (k149 x124 h148)) v152 (dNext h142 u153 .blind) (andB (dFit h142 u153 .blind) (Nat.ble 0 u153.lo))) (pickB (.c (Value.bool true)) (.c x145) enE (Hs.mk .e h142.nx h142.nx) x131)))))))))) v154 (dNext h125 u155 .light) (andB (dFit h125 u155 .light) (Nat.ble 0 u155.lo)))) fun k122 =>
 cnd x121
 (kIdxA 1 a0 x93 (fun x156 =>
 kLoad x156 h118 (fun x157 =>
 kI64 .geq x157 (Value.int .i64 (.ofNat 0)) (fun x158 =>
 gdT x158 h118 (fun k159 => k159 a0 h118) (fun x160 h161 =>
 gdT x158 h161 (fun k162 => k162 x93 h161) (fun x163 h164 =>
 gdT x158 h164 (fun k165 => kIdxA 1 x160 x163 (fun x166 => k165 x166 h164)) (fun x167 h168 =>
 gdT x158 h168 (fun k169 => kLoad x167 h168 (fun x170 => k169 x170 h168)) (fun x171 h172 =>
 gdT x158 h172 (fun k173 => k173 x38 h172) (fun x174 h175 =>
 gdT x158 h175 (fun k176 => kI64 .leq x171 x174 (fun x177 => k176 x177 h175)) (fun x178 h179 =>
 after (fun x180 h181 =>
 jn (fun (x183 : Value) (h184 : Hs) =>
 k106 x120 x121 x180 x119 x99 x183 h184) fun k182 =>
 cnd x180
 (clrK h (Value.bool false) h181)
 (k182 x100 h181)) (pickB (.c x178) (.c (Value.bool false)) enE h179 x158)))))))))))
 (k122 x97 x100 h118)))))))) fun k104 =>
 cnd x103
 (k104 h101)
 (k40 x93 x103 x95 x96 x97 x98 x99 x100 h101)))) (Value.int .i64 (.ofNat 0)) dunno dunno dunno dunno dunno dunno x36 h39)) fun k35 =>
 cnd x33
 (clrK h (Value.bool false) h34)
 (k35 x9 h34)) (pickB (.c (Value.bool true)) (.c x31) enE h32 x25))))))) v185 (dNext h20 u186 .bar) (andB (dFit h20 u186 .bar) (Nat.ble 0 u186.lo)))) v187 (dNext h16 u188 .light) (andB (dFit h16 u188 .light) (Nat.ble 0 u188.lo)))))) (store1 4 h14 (cellsL x11) (addrOf x13))) (oAlloc 25 [(Value.int .i64 (.ofNat 0)), (Value.int .i64 (.ofNat 0)), (Value.int .i64 (.ofNat 0)), (Value.int .i64 (.ofNat 0))] enE h12))) fun k8 =>
 cnd x7
 (clrK h (Value.bool true) h5)
 (k8 x4 h5)))) fun k3 =>
 cnd x2
 (clrK h (Value.bool false) h1)
 (k3 (Value.bool false) h1)))

theorem q3 (R : RnK) (N : Nat) (args : List Value) (h : Hs) : r3 R N args h = callT Try.prog N R 3 args h := by kernel_rfl

/-- lintel/geom.Plain -/
noncomputable def r5 (R : RnK) (N : Nat) (args : List Value) (h : Hs) : An := unC args fun a0 sq0 => enK h fun h0 =>
 after (fun x0 h1 =>
 after (fun x2 h3 =>
 after (fun x4 h5 =>
 clearUp h (packR h5 (resV enE h5 [.cell (.c x0) 4 true]))) (store1 4 h3 (cellsL x2) (addrOf x0))) (oBuild [(Value.int .i64 (.ofNat 0)), (Value.int .i64 (.ofNat 0)), (Value.int .i64 (.ofNat 0)), (Value.int .i64 (.ofNat 0))] [(0, 1, .c a0), (1, 1, .c (Value.int .i64 (.ofNat 10))), (2, 1, .c (Value.int .i64 (.ofNat 1))), (3, 1, .c (Value.int .i64 (.ofNat 20)))] enE h1)) (oAlloc 25 [(Value.int .i64 (.ofNat 0)), (Value.int .i64 (.ofNat 0)), (Value.int .i64 (.ofNat 0)), (Value.int .i64 (.ofNat 0))] enE h0)

theorem q5 (R : RnK) (N : Nat) (args : List Value) (h : Hs) : r5 R N args h = callT Try.prog N R 5 args h := by kernel_rfl

/-- lintel/pool.New -/
noncomputable def r6 (R : RnK) (N : Nat) (args : List Value) (h : Hs) : An := unC args fun a0 sq0 => unC sq0 fun a1 sq1 => enK h fun h0 =>
 after (fun x0 h1 =>
 after (fun x2 h3 =>
 kLoads 4 x0 h3 (fun x4 =>
 kCall R 13 [x4] h3 (fun x5 h6 =>
 kNot x5 (fun x7 =>
 gdF x7 h6 (fun k8 => kFieldA 0 x2 (fun x9 => k8 x9 h6)) (fun x10 h11 =>
 gdF x7 h11 (fun k12 => kLoad x10 h11 (fun x13 => k12 x13 h11)) (fun x14 h15 =>
 gdF x7 h15 (fun k16 => kLenV x14 (fun x17 => k16 x17 h15)) (fun x18 h19 =>
 gdF x7 h19 (fun k20 => kFieldA 0 x0 (fun x21 => k20 x21 h19)) (fun x22 h23 =>
 gdF x7 h23 (fun k24 => kLoad x22 h23 (fun x25 => k24 x25 h23)) (fun x26 h27 =>
 gdF x7 h27 (fun k28 => kI64 .add x26 (Value.int .i64 (.ofNat 64)) (fun x29 => k28 x29 h27)) (fun x30 h31 =>
 gdF x7 h31 (fun k32 => kI64 .sub x30 (Value.int .i64 (.ofNat 1)) (fun x33 => k32 x33 h31)) (fun x34 h35 =>
 gdF x7 h35 (fun k36 => kI64 .quo x34 (Value.int .i64 (.ofNat 64)) (fun x37 => k36 x37 h35)) (fun x38 h39 =>
 gdF x7 h39 (fun k40 => kI64 .lss x18 x38 (fun x41 => k40 x41 h39)) (fun x42 h43 =>
 after (fun x44 h45 =>
 jn (fun (x47 x48 : Value) (h49 : Hs) =>
 kLoads 4 x0 (Hs.mk h49.hp h49.nx h49.nx) (fun x50 =>
 kLoads 1 x2 (Hs.mk h49.hp h49.nx h49.nx) (fun x51 =>
 kCall R 14 [x51, (Value.bool true), (Value.slice none 0 0)] (Hs.mk h49.hp h49.nx h49.nx) (fun v62 u63 => dPut (fun x52 h53 =>
 after (fun v60 u61 => dPut (fun x54 h55 =>
 after (fun v58 u59 => dPut (fun x56 h57 =>
 clrK h (Value.tuple #[x56, (Value.int .i64 (.ofNat 0))]) h57) v58 (dNext h55 u59 .make) (andB (dFit h55 u59 .make) (Nat.ble 0 u59.lo))) (oBox 48 (.c x54) enE (Hs.mk .e h55.nx h55.nx))) v60 (dNext h53 u61 .blind) (andB (dFit h53 u61 .blind) (Nat.ble 0 u61.lo))) (oBuild [(Value.int .i64 (.ofNat 0)), (Value.int .i64 (.ofNat 0)), (Value.int .i64 (.ofNat 0)), (Value.int .i64 (.ofNat 0)), (Value.slice none 0 0)] [(0, 4, .c x50), (4, 1, .c x52)] enE (Hs.mk .e h53.nx h53.nx))) v62 (dNext h49 u63 .light) (andB (dFit h49 u63 .light) (Nat.ble 0 u63.lo)))))) fun k46 =>
 cnd x44
 (clrK h (Value.tuple #[(Value.pointer none), (Value.int .i64 (.ofNat 1))]) h45)
 (k46 (Value.pointer none) (Value.int .i64 (.ofNat 0)) h45)) (pickB (.c (Value.bool true)) (.c x42) enE h43 x7)))))))))))))) (oBox 33 (.c a1) enE h1)) (oBox 25 (.c a0) enE h0)

theorem q6 (R : RnK) (N : Nat) (args : List Value) (h : Hs) : r6 R N args h = callT Try.prog N R 6 args h := by kernel_rfl

/-- lintel/lintellaw12.empty -/
noncomputable def r7 (R : RnK) (N : Nat) (args : List Value) (h : Hs) : An := unC args fun a0 sq0 => enK h fun h0 =>
 after (fun x0 h1 =>
 after (fun x2 h3 =>
 kLoads 4 x0 h3 (fun x4 =>
 kCall R 15 [x4] h3 (fun x5 h6 =>
 kExtr x5 0 (fun x7 =>
 kExtr x5 1 (fun x8 =>
 kFieldA 0 x0 (fun x9 =>
 kLoad x9 h6 (fun x10 =>
 kCall R 16 [x10] h6 (fun x11 h12 =>
 after (fun x13 h14 =>
 kStore1 x13 x11 h14 (fun x15 h16 =>
 jn (fun (x18 x19 x20 : Value) (h21 : Hs) =>
 kLoads 1 x13 h21 (fun x22 =>
 kStore1 x2 x22 h21 (fun x23 h24 =>
 clearUp h (packR h24 (resV enE h24 [.cell (.c x2) 1 true]))))) fun k17 =>
 lpT (T := Value → Value → Value → Hs → An) (fun _ _ _ _ => none) N (fun k25 =>
 fun (x27 x28 x29 : Value) (h30 : Hs) =>
 kFieldA 0 x0 (fun x31 =>
 kLoad x31 h30 (fun x32 =>
 kI64 .lss x27 x32 (fun x33 =>
 jn (fun (h35 : Hs) =>
 jn (fun (x37 : Value) (h38 : Hs) =>
 kI64 .add x27 (Value.int .i64 (.ofNat 1)) (fun x39 =>
 k25 x39 x33 x37 h38)) fun k36 =>
 kI64 .lss x27 x7 (fun x40 =>
 gdF x40 h35 (fun k41 => k41 x27 h35) (fun x42 h43 =>
 gdF x40 h43 (fun k44 => k44 x7 h43) (fun x45 h46 =>
 gdF x40 h46 (fun k47 => k47 x8 h46) (fun x48 h49 =>
 gdF x40 h49 (fun k50 => kI64 .add x45 x48 (fun x51 => k50 x51 h49)) (fun x52 h53 =>
 gdF x40 h53 (fun k54 => kI64 .geq x42 x52 (fun x55 => k54 x55 h53)) (fun x56 h57 =>
 after (fun x58 h59 =>
 jn (fun (h61 : Hs) =>
 k36 x58 h61) fun k60 =>
 cnd x58
 (kLoads 1 x13 h59 (fun x62 =>
 after (fun x63 h64 =>
 kCall R 14 [x62, (Value.bool true), x63] h64 (fun x65 h66 =>
 kStore1 x13 x65 h66 (fun x67 h68 =>
 k60 h68))) (oMkrow 3 1 1 [(Value.int .i64 (.ofNat 0))] [(0, 1, .c x27)] enE h59)))
 (k60 h59)) (pickB (.c (Value.bool true)) (.c x56) enE h57 x40)))))))) fun k34 =>
 cnd x33
 (k34 h30)
 (k17 x27 x33 x29 h30))))) (Value.int .i64 (.ofNat 0)) dunno dunno h16)) (oAlloc 33 [(Value.slice none 0 0)] enE h12))))))))) (oAlloc 33 [(Value.slice none 0 0)] enE h1)) (oBox 25 (.c a0) enE h0)

theorem q7 (R : RnK) (N : Nat) (args : List Value) (h : Hs) : r7 R N args h = callT Try.prog N R 7 args h := by kernel_rfl

/-- (*lintel/pool.Pool).Free -/
noncomputable def r8 (R : RnK) (N : Nat) (args : List Value) (h : Hs) : An := unC args fun a0 sq0 => enK h fun h0 =>
 kCall R 18 [a0] h0 (fun x0 h1 =>
 kCall R 17 [x0] h1 (fun x2 h3 =>
 clrK h x2 h3))

theorem q8 (R : RnK) (N : Nat) (args : List Value) (h : Hs) : r8 R N args h = callT Try.prog N R 8 args h := by kernel_rfl

/-- (*lintel/pool.Pool).Take -/
noncomputable def r9 (R : RnK) (N : Nat) (args : List Value) (h : Hs) : An := unC args fun a0 sq0 => unC sq0 fun a1 sq1 => unC sq1 fun a2 sq2 => unC sq2 fun a3 sq3 => enK h fun h0 =>
 after (fun x0 h1 =>
 kCall R 19 [a0, a1] h1 (fun x2 h3 =>
 kExtr x2 0 (fun x4 =>
 kExtr x2 1 (fun x5 =>
 after (fun x6 h7 =>
 after (fun x8 h9 =>
 kStore1 x6 x4 h9 (fun x10 h11 =>
 kStore1 x8 x5 h11 (fun x12 h13 =>
 kI64 .lss a1 (Value.int .i64 (.ofNat 0)) (fun x14 =>
 gdF x14 h13 (fun k15 => k15 a1 h13) (fun x16 h17 =>
 gdF x14 h17 (fun k18 => k18 a0 h17) (fun x19 h20 =>
 gdF x14 h20 (fun k21 => kNil x19 (fun x22 => k21 x22 h20)) (fun x23 h24 =>
 gdF x14 h24 (fun k25 => kFieldA 0 x23 (fun x26 => k25 x26 h24)) (fun x27 h28 =>
 gdF x14 h28 (fun k29 => kFieldA 2 x27 (fun x30 => k29 x30 h28)) (fun x31 h32 =>
 gdF x14 h32 (fun k33 => kLoad x31 h32 (fun x34 => k33 x34 h32)) (fun x35 h36 =>
 gdF x14 h36 (fun k37 => kI64 .geq x16 x35 (fun x38 => k37 x38 h36)) (fun x39 h40 =>
 after (fun x41 h42 =>
 gdF x41 h42 (fun k43 => kLoad x0 h42 (fun x44 => k43 x44 h42)) (fun x45 h46 =>
 gdF x41 h46 (fun k47 => kI64 .lss x45 (Value.int .i64 (.ofNat 0)) (fun x48 => k47 x48 h46)) (fun x49 h50 =>
 after (fun x51 h52 =>
 gdF x51 h52 (fun k53 => k53 a3 h52) (fun x54 h55 =>
 gdF x51 h55 (fun k56 => kI64 .lss x54 (Value.int .i64 (.ofNat 1)) (fun x57 => k56 x57 h55)) (fun x58 h59 =>
 after (fun x60 h61 =>
 jn (fun (x63 x64 : Value) (h65 : Hs) =>
 kCall R 18 [a0] h65 (fun x66 h67 =>
 after (fun x68 h69 =>
 after (fun x70 h71 =>
 kStore1 x70 x68 h71 (fun x72 h73 =>
 after (fun x74 h75 =>
 kCall R 21 [x66, x74] h75 (fun x76 h77 =>
 kLoad x0 h77 (fun x78 =>
 kCall R 24 [x66, x78] h77 (fun x79 h80 =>
 kCall R 17 [x79] (Hs.mk h80.hp h80.nx h80.nx) (fun v109 u110 => dPut (fun x81 h82 =>
 kLoad x0 (dHidS .light [false, false] [some (h80.nx, h82.nx), none] h82) (fun x83 =>
 kI64 .lss x81 x83 (fun x84 =>
 gdF x84 h82 (fun k85 => k85 x79 h82) (fun x86 _ =>
 gdF x84 h82 (fun k88 => kLenV x86 (fun x89 => k88 x89 h82)) (fun x90 _ =>
 gdF x84 h82 (fun k92 => k92 a3 h82) (fun x93 _ =>
 gdF x84 h82 (fun k95 => kI64 .gtr x90 x93 (fun x96 => k95 x96 h82)) (fun x97 _ =>
 after (fun v107 u108 => dPut (fun x99 h100 =>
 jn (fun (x102 x103 : Value) (h104 : Hs) =>
 kCall R 25 [a0, (Value.bool true), x79] h104 (fun x105 h106 =>
 clrK h (Value.tuple #[x79, (Value.int .i64 (.ofNat 0))]) h106)) fun k101 =>
 cnd x99
 (clrK h (Value.tuple #[(Value.slice none 0 0), (Value.int .i64 (.ofNat 7))]) h100)
 (k101 x63 x64 h100)) v107 (dNext h82 u108 .blind) (andB (dFit h82 u108 .blind) (Nat.ble 0 u108.lo))) (pickB (.c (Value.bool true)) (.c x97) enE (Hs.mk .e h82.nx h82.nx) x84)))))))) v109 (dNext h80 u110 .light) (andB (dFit h80 u110 .light) (Nat.ble 0 u110.lo))))))) (oMkfunc (.func 22) [] [.c x0, .c x70] enE h73))) (oAlloc 55 [Value.nilFunc] enE h69)) (oMkfunc (.func 20) [] [.c x6, .c x8] enE h67))) fun k62 =>
 cnd x60
 (clrK h (Value.tuple #[(Value.slice none 0 0), (Value.int .i64 (.ofNat 1))]) h61)
 (k62 (Value.slice none 0 0) (Value.int .i64 (.ofNat 0)) h61)) (pickB (.c (Value.bool true)) (.c x58) enE h59 x51)))) (pickB (.c (Value.bool true)) (.c x49) enE h50 x41)))) (pickB (.c (Value.bool true)) (.c x39) enE h40 x14)))))))))))) (oAlloc 3 [(Value.int .i64 (.ofNat 0))] enE h7)) (oAlloc 3 [(Value.int .i64 (.ofNat 0))] enE h3))))) (oBox 3 (.c a2) enE h0)

theorem q9 (R : RnK) (N : Nat) (args : List Value) (h : Hs) : r9 R N args h = callT Try.prog N R 9 args h := by kernel_rfl

/-- (*lintel/pool.Pool).Give -/
noncomputable def r10 (R : RnK) (N : Nat) (args : List Value) (h : Hs) : An := unC args fun a0 sq0 => unC sq0 fun a1 sq1 => enK h fun h0 =>
 kNil a0 (fun x0 =>
 kFieldA 0 x0 (fun x1 =>
 kLoads 4 x1 h0 (fun x2 =>
 kCall R 15 [x2] h0 (fun x3 h4 =>
 kExtr x3 0 (fun x5 =>
 kExtr x3 1 (fun x6 =>
 kLenV a1 (fun x7 =>
 jn (fun (x9 x10 x11 x12 x13 x14 x15 x16 x17 : Value) (h18 : Hs) =>
 kCall R 25 [a0, (Value.bool false), a1] h18 (fun x19 h20 =>
 clrK h (Value.int .i64 (.ofNat 0)) h20)) fun k8 =>
 lpT (T := Value → Value → Value → Value → Value → Value → Value → Value → Value → Hs → An) (fun _ _ _ _ _ _ _ _ _ _ => none) N (fun k21 =>
 fun (x23 x24 x25 x26 x27 x28 x29 x30 x31 : Value) (h32 : Hs) =>
 kI64 .lss x23 x7 (fun x33 =>
 jn (fun (h35 : Hs) =>
 jn (fun (x37 x38 x39 x40 x41 x42 x43 : Value) (h44 : Hs) =>
 kI64 .add x23 (Value.int .i64 (.ofNat 1)) (fun x45 =>
 k21 x45 x33 x37 x38 x39 x40 x41 x42 x43 h44)) fun k36 =>
 kIdxA 2 a1 x23 (fun x46 =>
 kLoads 2 x46 h35 (fun x47 =>
 after (fun x48 h49 =>
 after (fun x50 h51 =>
 kFieldA 1 x48 (fun x52 =>
 kLoad x52 h51 (fun x53 =>
 kI64 .lss x53 (Value.int .i64 (.ofNat 1)) (fun x54 =>
 jn (fun (h56 : Hs) =>
 kFieldA 0 x48 (fun x57 =>
 kLoad x57 h56 (fun x58 =>
 kI64 .lss x58 x5 (fun x59 =>
 gdF x59 h56 (fun k60 => kFieldA 0 x48 (fun x61 => k60 x61 h56)) (fun x62 h63 =>
 gdF x59 h63 (fun k64 => kLoad x62 h63 (fun x65 => k64 x65 h63)) (fun x66 h67 =>
 gdF x59 h67 (fun k68 => k68 x5 h67) (fun x69 h70 =>
 gdF x59 h70 (fun k71 => kI64 .sub x66 x69 (fun x72 => k71 x72 h70)) (fun x73 h74 =>
 gdF x59 h74 (fun k75 => k75 x6 h74) (fun x76 h77 =>
 gdF x59 h77 (fun k78 => kI64 .geq x73 x76 (fun x79 => k78 x79 h77)) (fun x80 h81 =>
 after (fun x82 h83 =>
 gdF x82 h83 (fun k84 => kFieldA 1 x48 (fun x85 => k84 x85 h83)) (fun x86 h87 =>
 gdF x82 h87 (fun k88 => kLoad x86 h87 (fun x89 => k88 x89 h87)) (fun x90 h91 =>
 gdF x82 h91 (fun k92 => k92 x6 h91) (fun x93 h94 =>
 gdF x82 h94 (fun k95 => kFieldA 0 x48 (fun x96 => k95 x96 h94)) (fun x97 h98 =>
 gdF x82 h98 (fun k99 => kLoad x97 h98 (fun x100 => k99 x100 h98)) (fun x101 h102 =>
 gdF x82 h102 (fun k103 => k103 x5 h102) (fun x104 h105 =>
 gdF x82 h105 (fun k106 => kI64 .sub x101 x104 (fun x107 => k106 x107 h105)) (fun x108 h109 =>
 gdF x82 h109 (fun k110 => kI64 .sub x93 x108 (fun x111 => k110 x111 h109)) (fun x112 h113 =>
 gdF x82 h113 (fun k114 => kI64 .gtr x90 x112 (fun x115 => k114 x115 h113)) (fun x116 h117 =>
 after (fun x118 h119 =>
 gdF x118 h119 (fun k120 => k120 a1 h119) (fun x121 h122 =>
 gdF x118 h122 (fun k123 => k123 x23 h122) (fun x124 h125 =>
 gdF x118 h125 (fun k126 => kI64 .add x124 (Value.int .i64 (.ofNat 1)) (fun x127 => k126 x127 h125)) (fun x128 h129 =>
 gdF x118 h129 (fun k130 => after (k130) (oSlice 2 (.c x121) none (some (.c x128)) none enE h129)) (fun x131 h132 =>
 gdF x118 h132 (fun k133 => kCall R 26 [x131] h132 (k133)) (fun x134 h135 =>
 gdF x118 h135 (fun k136 => kNot x134 (fun x137 => k136 x137 h135)) (fun x138 h139 =>
 after (fun x140 h141 =>
 jn (fun (x143 : Value) (h144 : Hs) =>
 kNil a0 (fun x145 =>
 kFieldA 4 x145 (fun x146 =>
 kLoads 1 x146 (Hs.mk h144.hp h144.nx h144.nx) (fun x147 =>
 kFieldA 0 x48 (fun x148 =>
 kLoad x148 (Hs.mk h144.hp h144.nx h144.nx) (fun x149 =>
 kFieldA 0 x48 (fun x150 =>
 kLoad x150 (Hs.mk h144.hp h144.nx h144.nx) (fun x151 =>
 kFieldA 1 x48 (fun x152 =>
 kLoad x152 (Hs.mk h144.hp h144.nx h144.nx) (fun x153 =>
 kI64 .add x151 x153 (fun x154 =>
 kCall R 27 [x147, (Value.bool false), x149, x154] h144 (fun v162 u163 => dPut (fun x155 h156 =>
 kExtr x155 0 (fun x157 =>
 kExtr x155 1 (fun x158 =>
 jn (fun (x160 : Value) (h161 : Hs) =>
 k36 x48 x54 x23 x140 x158 x158 x160 h161) fun k159 =>
 cnd x158
 (clrK h (Value.int .i64 (.ofNat 1)) h156)
 (k159 x143 h156)))) v162 (dNext h144 u163 .bar) (andB (dFit h144 u163 .bar) (Nat.ble 0 u163.lo)))))))))))))) fun k142 =>
 cnd x140
 (clrK h (Value.int .i64 (.ofNat 1)) h141)
 (k142 x31 h141)) (pickB (.c (Value.bool true)) (.c x138) enE h139 x118)))))))) (pickB (.c (Value.bool true)) (.c x116) enE h117 x82))))))))))) (pickB (.c (Value.bool true)) (.c x80) enE h81 x59))))))))))) fun k55 =>
 cnd x54
 (k36 x48 x54 x23 x28 x29 x30 x31 h51)
 (k55 h51))))) (store1 2 h49 (cellsL x47) (addrOf x48))) (oAlloc 44 [(Value.int .i64 (.ofNat 0)), (Value.int .i64 (.ofNat 0))] enE h35)))) fun k34 =>
 cnd x33
 (k34 h32)
 (k8 x23 x33 x25 x26 x27 x28 x29 x30 x31 h32))) (Value.int .i64 (.ofNat 0)) dunno dunno dunno dunno dunno dunno dunno (Value.int .i64 (.ofNat 0)) h4)))))))

theorem q10 (R : RnK) (N : Nat) (args : List Value) (h : Hs) : r10 R N args h = callT Try.prog N R 10 args h := by kernel_rfl

/-- lintel/bits.Count -/
noncomputable def r11 (R : RnK) (N : Nat) (args : List Value) (h : Hs) : An := unC args fun a0 sq0 => enK h fun h0 =>
 after (fun x0 h1 =>
 kFieldA 0 x0 (fun x2 =>
 kLoad x2 h1 (fun x3 =>
 kLenV x3 (fun x4 =>
 kI64 .mul (Value.int .i64 (.ofNat 64)) x4 (fun x5 =>
 jn (fun (x7 x8 x9 x10 x11 : Value) (h12 : Hs) =>
 clrK h x11 h12) fun k6 =>
 lpT (T := Value → Value → Value → Value → Value → Hs → An) (fun _ _ _ _ _ _ => none) N (fun k13 =>
 fun (x15 x16 x17 x18 x19 : Value) (h20 : Hs) =>
 kI64 .lss x15 x5 (fun x21 =>
 jn (fun (h23 : Hs) =>
 jn (fun (x25 x26 x27 : Value) (h28 : Hs) =>
 kI64 .add x15 (Value.int .i64 (.ofNat 1)) (fun x29 =>
 k13 x29 x21 x25 x26 x27 h28)) fun k24 =>
 kLoads 1 x0 h23 (fun x30 =>
 kCall R 28 [x30, x15] h23 (fun x31 h32 =>
 jn (fun (x34 : Value) (h35 : Hs) =>
 k24 x15 x31 x34 h35) fun k33 =>
 cnd x31
 (kI64 .add x19 (Value.int .i64 (.ofNat 1)) (fun x36 =>
 k33 x36 h32))
 (k33 x19 h32)))) fun k22 =>
 cnd x21
 (k22 h20)
 (k6 x15 x21 x17 x18 x19 h20))) (Value.int .i64 (.ofNat 0)) dunno dunno dunno (Value.int .i64 (.ofNat 0)) h1))))) (oBox 33 (.c a0) enE h0)

theorem q11 (R : RnK) (N : Nat) (args : List Value) (h : Hs) : r11 R N args h = callT Try.prog N R 11 args h := by kernel_rfl

/-- (*lintel/pool.Pool).Bits -/
noncomputable def r12 (R : RnK) (N : Nat) (args : List Value) (h : Hs) : An := unC args fun a0 sq0 => enK h fun h0 =>
 after (fun x0 h1 =>
 kNil a0 (fun x2 =>
 kFieldA 4 x2 (fun x3 =>
 kLoads 1 x3 h1 (fun x4 =>
 kCall R 14 [x4, (Value.bool true), (Value.slice none 0 0)] h1 (fun x5 h6 =>
 kStore1 x0 x5 h6 (fun x7 h8 =>
 clearUp h (packR h8 (resV enE h8 [.cell (.c x0) 1 true])))))))) (oAlloc 33 [(Value.slice none 0 0)] enE h0)

theorem q12 (R : RnK) (N : Nat) (args : List Value) (h : Hs) : r12 R N args h = callT Try.prog N R 12 args h := by kernel_rfl

/-- lintel/geom.Good -/
noncomputable def r13 (R : RnK) (N : Nat) (args : List Value) (h : Hs) : An := unC args fun a0 sq0 => enK h fun h0 =>
 after (fun x0 h1 =>
 kFieldA 0 x0 (fun x2 =>
 kLoad x2 h1 (fun x3 =>
 kCall R 29 [x3, (Value.int .i64 (.ofNat 64)), (Value.int .i64 (.ofNat 1024))] h1 (fun x4 h5 =>
 kNot x4 (fun x6 =>
 gdF x6 h5 (fun k7 => kFieldA 1 x0 (fun x8 => k7 x8 h5)) (fun x9 h10 =>
 gdF x6 h10 (fun k11 => kLoad x9 h10 (fun x12 => k11 x12 h10)) (fun x13 h14 =>
 gdF x6 h14 (fun k15 => kCall R 29 [x13, (Value.int .i64 (.ofNat 4)), (Value.int .i64 (.ofNat 64))] h14 (k15)) (fun x16 h17 =>
 gdF x6 h17 (fun k18 => kNot x16 (fun x19 => k18 x19 h17)) (fun x20 h21 =>
 after (fun x22 h23 =>
 gdF x22 h23 (fun k24 => kFieldA 2 x0 (fun x25 => k24 x25 h23)) (fun x26 h27 =>
 gdF x22 h27 (fun k28 => kLoad x26 h27 (fun x29 => k28 x29 h27)) (fun x30 h31 =>
 gdF x22 h31 (fun k32 => kCall R 29 [x30, (Value.int .i64 (.ofNat 1)), (Value.int .i64 (.ofNat 8))] h31 (k32)) (fun x33 h34 =>
 gdF x22 h34 (fun k35 => kNot x33 (fun x36 => k35 x36 h34)) (fun x37 h38 =>
 after (fun x39 h40 =>
 gdF x39 h40 (fun k41 => kFieldA 3 x0 (fun x42 => k41 x42 h40)) (fun x43 h44 =>
 gdF x39 h44 (fun k45 => kLoad x43 h44 (fun x46 => k45 x46 h44)) (fun x47 h48 =>
 gdF x39 h48 (fun k49 => kCall R 29 [x47, (Value.int .i64 (.ofNat 16)), (Value.int .i64 (.ofNat 110))] h48 (k49)) (fun x50 h51 =>
 gdF x39 h51 (fun k52 => kNot x50 (fun x53 => k52 x53 h51)) (fun x54 h55 =>
 after (fun x56 h57 =>
 jn (fun (x59 : Value) (h60 : Hs) =>
 kLoads 4 x0 h60 (fun x61 =>
 kCall R 30 [x61] h60 (fun x62 h63 =>
 kExtr x62 0 (fun x64 =>
 kExtr x62 1 (fun x65 =>
 kI64 .geq x65 (Value.int .i64 (.ofNat 1)) (fun x66 =>
 clrK h x66 h63)))))) fun k58 =>
 cnd x56
 (clrK h (Value.bool false) h57)
 (k58 (Value.bool false) h57)) (pickB (.c (Value.bool true)) (.c x54) enE h55 x39)))))) (pickB (.c (Value.bool true)) (.c x37) enE h38 x22)))))) (pickB (.c (Value.bool true)) (.c x20) enE h21 x6)))))))))) (oBox 25 (.c a0) enE h0)

theorem q13 (R : RnK) (N : Nat) (args : List Value) (h : Hs) : r13 R N args h = callT Try.prog N R 13 args h := by kernel_rfl

/-- lintel/bits.Set -/
noncomputable def r14 (R : RnK) (N : Nat) (args : List Value) (h : Hs) : An := unC args fun a0 sq0 => unC sq0 fun a1 sq1 => unC sq1 fun a2 sq2 => enK h fun h0 =>
 after (fun x0 h1 =>
 after (fun x2 h3 =>
 kFieldA 0 x0 (fun x4 =>
 kLoad x4 h3 (fun x5 =>
 kCall R 31 [x5] h3 (fun x6 h7 =>
 after (fun x8 h9 =>
 after (fun x10 h11 =>
 kStore1 x10 x8 h11 (fun x12 h13 =>
 kLenV a2 (fun x14 =>
 jn (fun (x16 x17 x18 x19 x20 : Value) (h21 : Hs) =>
 kLoads 1 x10 h21 (fun x22 =>
 kStore1 x2 x22 h21 (fun x23 h24 =>
 clearUp h (packR h24 (resV enE h24 [.cell (.c x2) 1 true]))))) fun k15 =>
 lpT (T := Value → Value → Value → Value → Value → Hs → An) (fun _ _ _ _ _ _ => none) N (fun k25 =>
 fun (x27 x28 x29 x30 x31 : Value) (h32 : Hs) =>
 kI64 .lss x27 x14 (fun x33 =>
 jn (fun (h35 : Hs) =>
 jn (fun (x37 x38 x39 : Value) (h40 : Hs) =>
 kI64 .add x27 (Value.int .i64 (.ofNat 1)) (fun x41 =>
 k25 x41 x33 x37 x38 x39 h40)) fun k36 =>
 kIdxA 1 a2 x27 (fun x42 =>
 kLoad x42 h35 (fun x43 =>
 kLoads 1 x0 h35 (fun x44 =>
 kCall R 32 [x44, x43] h35 (fun x45 h46 =>
 kNot x45 (fun x47 =>
 jn (fun (h49 : Hs) =>
 kFieldA 0 x10 (fun x50 =>
 kLoad x50 h49 (fun x51 =>
 kI64 .quo x43 (Value.int .i64 (.ofNat 64)) (fun x52 =>
 kIdxA 1 x51 x52 (fun x53 =>
 kLoad x53 h49 (fun x54 =>
 kI64 .rem x43 (Value.int .i64 (.ofNat 64)) (fun x55 =>
 kShl (Value.int .u64 (.ofNat 1)) x55 (fun x56 =>
 kU64 .andNot x54 x56 (fun x57 =>
 kIdxA 1 x51 x52 (fun x58 =>
 kStore1 x58 x57 h49 (fun v76 u77 => dPut (fun x59 h60 =>
 jn (fun (h62 : Hs) =>
 k36 x43 x47 a1 h62) fun k61 =>
 cnd a1
 (kFieldA 0 x10 (fun x63 =>
 kLoad x63 h60 (fun x64 =>
 kI64 .quo x43 (Value.int .i64 (.ofNat 64)) (fun x65 =>
 kIdxA 1 x64 x65 (fun x66 =>
 kLoad x66 h60 (fun x67 =>
 kI64 .rem x43 (Value.int .i64 (.ofNat 64)) (fun x68 =>
 kShl (Value.int .u64 (.ofNat 1)) x68 (fun x69 =>
 kU64 .or x67 x69 (fun x70 =>
 kIdxA 1 x64 x65 (fun x71 =>
 kStore1 x71 x70 h60 (fun v74 u75 => dPut (fun x72 h73 =>
 k61 h73) v74 (dNext h60 u75 .bar) (andB (dFit h60 u75 .bar) (Nat.ble 0 u75.lo)))))))))))))
 (k61 h60)) v76 (dNext h49 u77 .bar) (andB (dFit h49 u77 .bar) (Nat.ble 0 u77.lo))))))))))))) fun k48 =>
 cnd x47
 (k36 x43 x47 x31 h46)
 (k48 h46))))))) fun k34 =>
 cnd x33
 (k34 h32)
 (k15 x27 x33 x29 x30 x31 h32))) (Value.int .i64 (.ofNat 0)) dunno dunno dunno dunno h13))) (oAlloc 33 [(Value.slice none 0 0)] enE h9)) (oBuild [(Value.slice none 0 0)] [(0, 1, .c x6)] enE h7))))) (oAlloc 33 [(Value.slice none 0 0)] enE h1)) (oBox 33 (.c a0) enE h0)

theorem q14 (R : RnK) (N : Nat) (args : List Value) (h : Hs) : r14 R N args h = callT Try.prog N R 14 args h := by kernel_rfl

/-- lintel/geom.Data -/
noncomputable def r15 (R : RnK) (N : Nat) (args : List Value) (h : Hs) : An := unC args fun a0 sq0 => enK h fun h0 =>
 after (fun x0 h1 =>
 kLoads 4 x0 h1 (fun x2 =>
 kCall R 13 [x2] h1 (fun x3 h4 =>
 kNot x3 (fun x5 =>
 jn (fun (x7 x8 : Value) (h9 : Hs) =>
 kLoads 4 x0 h9 (fun x10 =>
 kCall R 30 [x10] h9 (fun x11 h12 =>
 kExtr x11 0 (fun x13 =>
 kExtr x11 1 (fun x14 =>
 clrK h (Value.tuple #[x13, x14]) h12))))) fun k6 =>
 cnd x5
 (clrK h (Value.tuple #[(Value.int .i64 (.ofNat 0)), (Value.int .i64 (.ofNat 0))]) h4)
 (k6 (Value.int .i64 (.ofNat 0)) (Value.int .i64 (.ofNat 0)) h4))))) (oBox 25 (.c a0) enE h0)

theorem q15 (R : RnK) (N : Nat) (args : List Value) (h : Hs) : r15 R N args h = callT Try.prog N R 15 args h := by kernel_rfl

/-- lintel/bits.New -/
noncomputable def r16 (R : RnK) (N : Nat) (args : List Value) (h : Hs) : An := unC args fun a0 sq0 => enK h fun h0 =>
 after (fun x0 h1 =>
 after (fun x2 h3 =>
 after (fun x4 h5 =>
 kI64 .add x4 (Value.int .i64 (.ofNat 64)) (fun x6 =>
 kI64 .sub x6 (Value.int .i64 (.ofNat 1)) (fun x7 =>
 kI64 .quo x7 (Value.int .i64 (.ofNat 64)) (fun x8 =>
 after (fun x9 h10 =>
 after (fun x11 h12 =>
 kStore1 x0 x11 h12 (fun x13 h14 =>
 clearUp h (packR h14 (resV enE h14 [.cell (.c x0) 1 true])))) (oBuild [(Value.slice none 0 0)] [(0, 1, .c x9)] enE h10)) (mkslice1 68 1 8 [(Value.int .u64 (.ofNat 0))] h5 (natOf x8) (natOf x8)))))) (oMinmax false [.c x2, .c (Value.int .i64 (.ofNat 65536))] enE h3)) (oMinmax true [.c a0, .c (Value.int .i64 (.ofNat 0))] enE h1)) (oAlloc 33 [(Value.slice none 0 0)] enE h0)

theorem q16 (R : RnK) (N : Nat) (args : List Value) (h : Hs) : r16 R N args h = callT Try.prog N R 16 args h := by kernel_rfl

/-- lintel/runs.Total -/
noncomputable def r17 (R : RnK) (N : Nat) (args : List Value) (h : Hs) : An := unC args fun a0 sq0 => enK h fun h0 =>
 kCall R 33 [a0] h0 (fun x0 h1 =>
 kLenV x0 (fun x2 =>
 jn (fun (x4 x5 x6 x7 : Value) (h8 : Hs) =>
 clrK h x6 h8) fun k3 =>
 lpT (T := Value → Value → Value → Value → Hs → An) (fun _ _ _ _ _ => none) N (fun k9 =>
 fun (x11 x12 x13 x14 : Value) (h15 : Hs) =>
 kI64 .lss x11 x2 (fun x16 =>
 jn (fun (h18 : Hs) =>
 jn (fun (x20 x21 : Value) (h22 : Hs) =>
 kI64 .add x11 (Value.int .i64 (.ofNat 1)) (fun x23 =>
 k9 x23 x16 x20 x21 h22)) fun k19 =>
 kIdxA 2 x0 x11 (fun x24 =>
 kLoads 2 x24 h18 (fun x25 =>
 after (fun x26 h27 =>
 after (fun x28 h29 =>
 kFieldA 1 x26 (fun x30 =>
 kLoad x30 h29 (fun x31 =>
 kI64 .add x13 x31 (fun x32 =>
 k19 x32 x26 h29)))) (store1 2 h27 (cellsL x25) (addrOf x26))) (oAlloc 44 [(Value.int .i64 (.ofNat 0)), (Value.int .i64 (.ofNat 0))] enE h18)))) fun k17 =>
 cnd x16
 (k17 h15)
 (k3 x11 x16 x13 x14 h15))) (Value.int .i64 (.ofNat 0)) dunno (Value.int .i64 (.ofNat 0)) dunno h1))

theorem q17 (R : RnK) (N : Nat) (args : List Value) (h : Hs) : r17 R N args h = callT Try.prog N R 17 args h := by kernel_rfl

/-- (*lintel/pool.Pool).rows -/
noncomputable def r18 (R : RnK) (N : Nat) (args : List Value) (h : Hs) : An := unC args fun a0 sq0 => enK h fun h0 =>
 kNil a0 (fun x0 =>
 kFieldA 0 x0 (fun x1 =>
 kLoads 4 x1 h0 (fun x2 =>
 kCall R 15 [x2] h0 (fun x3 h4 =>
 kExtr x3 0 (fun x5 =>
 kExtr x3 1 (fun x6 =>
 kI64 .add x5 x6 (fun x7 =>
 jn (fun (x9 x10 x11 x12 x13 x14 x15 : Value) (h16 : Hs) =>
 clrK h x15 h16) fun k8 =>
 lpT (T := Value → Value → Value → Value → Value → Value → Value → Hs → An) (fun _ _ _ _ _ _ _ _ => none) N (fun k17 =>
 fun (x19 x20 x21 x22 x23 x24 x25 : Value) (h26 : Hs) =>
 jn (fun (x28 x29 x30 x31 x32 x33 x34 : Value) (h35 : Hs) =>
 k17 x28 x29 x30 x31 x32 x33 x34 h35) fun k27 =>
 kNil a0 (fun x36 =>
 kFieldA 4 x36 (fun x37 =>
 kLoads 1 x37 h26 (fun x38 =>
 kCall R 27 [x38, (Value.bool false), x19, x7] h26 (fun x39 h40 =>
 kExtr x39 0 (fun x41 =>
 kExtr x39 1 (fun x42 =>
 kNot x42 (fun x43 =>
 jn (fun (x45 : Value) (h46 : Hs) =>
 kNil a0 (fun x47 =>
 kFieldA 4 x47 (fun x48 =>
 kLoads 1 x48 h46 (fun x49 =>
 kCall R 27 [x49, (Value.bool true), x41, x7] h46 (fun x50 h51 =>
 kExtr x50 0 (fun x52 =>
 kExtr x50 1 (fun x53 =>
 kNot x53 (fun x54 =>
 jn (fun (x56 : Value) (h57 : Hs) =>
 kI64 .sub x56 x41 (fun x58 =>
 after (fun x59 h60 =>
 after (fun x61 h62 =>
 after (fun x63 h64 =>
 k27 x56 x53 x43 x63 x41 x54 x45 h64) (app0 44 2 16 h62 x22 x61)) (oMkrow 44 2 1 [(Value.int .i64 (.ofNat 0)), (Value.int .i64 (.ofNat 0))] [(0, 2, .c x59)] enE h60)) (oBuild [(Value.int .i64 (.ofNat 0)), (Value.int .i64 (.ofNat 0))] [(0, 1, .c x41), (1, 1, .c x58)] enE h57))) fun k55 =>
 cnd x54
 (k55 x7 h51)
 (k55 x52 h51))))))))) fun k44 =>
 cnd x43
 (clrK h x22 h40)
 (k44 x25 h40))))))))) x5 dunno dunno (Value.slice none 0 0) dunno dunno (Value.slice none 0 0) h4)))))))

theorem q18 (R : RnK) (N : Nat) (args : List Value) (h : Hs) : r18 R N args h = callT Try.prog N R 18 args h := by kernel_rfl

/-- (*lintel/pool.Pool).Group -/
noncomputable def r19 (R : RnK) (N : Nat) (args : List Value) (h : Hs) : An := unC args fun a0 sq0 => unC sq0 fun a1 sq1 => enK h fun h0 =>
 kI64 .lss a1 (Value.int .i64 (.ofNat 0)) (fun x0 =>
 gdF x0 h0 (fun k1 => k1 a1 h0) (fun x2 h3 =>
 gdF x0 h3 (fun k4 => k4 a0 h3) (fun x5 h6 =>
 gdF x0 h6 (fun k7 => kNil x5 (fun x8 => k7 x8 h6)) (fun x9 h10 =>
 gdF x0 h10 (fun k11 => kFieldA 0 x9 (fun x12 => k11 x12 h10)) (fun x13 h14 =>
 gdF x0 h14 (fun k15 => kFieldA 2 x13 (fun x16 => k15 x16 h14)) (fun x17 h18 =>
 gdF x0 h18 (fun k19 => kLoad x17 h18 (fun x20 => k19 x20 h18)) (fun x21 h22 =>
 gdF x0 h22 (fun k23 => kI64 .geq x2 x21 (fun x24 => k23 x24 h22)) (fun x25 h26 =>
 after (fun x27 h28 =>
 jn (fun (x30 x31 : Value) (h32 : Hs) =>
 kNil a0 (fun x33 =>
 kFieldA 0 x33 (fun x34 =>
 kLoads 4 x34 h32 (fun x35 =>
 kCall R 15 [x35] h32 (fun x36 h37 =>
 kExtr x36 0 (fun x38 =>
 kExtr x36 1 (fun x39 =>
 kNil a0 (fun x40 =>
 kFieldA 0 x40 (fun x41 =>
 kFieldA 2 x41 (fun x42 =>
 kLoad x42 h37 (fun x43 =>
 kI64 .quo x39 x43 (fun x44 =>
 kI64 .mul a1 x44 (fun x45 =>
 kI64 .add x38 x45 (fun x46 =>
 kNil a0 (fun x47 =>
 kFieldA 0 x47 (fun x48 =>
 kFieldA 2 x48 (fun x49 =>
 kLoad x49 h37 (fun x50 =>
 kI64 .sub x50 (Value.int .i64 (.ofNat 1)) (fun x51 =>
 kI64 .eql a1 x51 (fun x52 =>
 jn (fun (x54 : Value) (h55 : Hs) =>
 clrK h (Value.tuple #[x46, x54]) h55) fun k53 =>
 cnd x52
 (kI64 .mul a1 x44 (fun x56 =>
 kI64 .sub x39 x56 (fun x57 =>
 k53 x57 h37)))
 (k53 x44 h37))))))))))))))))))))) fun k29 =>
 cnd x27
 (clrK h (Value.tuple #[(Value.int .i64 (.ofNat 0)), (Value.int .i64 (.ofNat 0))]) h28)
 (k29 (Value.int .i64 (.ofNat 0)) (Value.int .i64 (.ofNat 0)) h28)) (pickB (.c (Value.bool true)) (.c x25) enE h26 x0)))))))))

theorem q19 (R : RnK) (N : Nat) (args : List Value) (h : Hs) : r19 R N args h = callT Try.prog N R 19 args h := by kernel_rfl

/-- (*lintel/pool.Pool).Take$1 -/
noncomputable def r20 (R : RnK) (N : Nat) (args : List Value) (h : Hs) : An := unC args fun a0 sq0 => unC sq0 fun a1 sq1 => unC sq1 fun a2 sq2 => enK h fun h0 =>
 after (fun x0 h1 =>
 kFieldA 0 x0 (fun x2 =>
 kLoad x2 h1 (fun x3 =>
 kLoad a1 h1 (fun x4 =>
 kI64 .geq x3 x4 (fun x5 =>
 gdT x5 h1 (fun k6 => kFieldA 0 x0 (fun x7 => k6 x7 h1)) (fun x8 h9 =>
 gdT x5 h9 (fun k10 => kLoad x8 h9 (fun x11 => k10 x11 h9)) (fun x12 h13 =>
 gdT x5 h13 (fun k14 => kLoad a1 h13 (fun x15 => k14 x15 h13)) (fun x16 h17 =>
 gdT x5 h17 (fun k18 => kLoad a2 h17 (fun x19 => k18 x19 h17)) (fun x20 h21 =>
 gdT x5 h21 (fun k22 => kI64 .add x16 x20 (fun x23 => k22 x23 h21)) (fun x24 h25 =>
 gdT x5 h25 (fun k26 => kI64 .lss x12 x24 (fun x27 => k26 x27 h25)) (fun x28 h29 =>
 after (fun x30 h31 =>
 clrK h x30 h31) (pickB (.c x28) (.c (Value.bool false)) enE h29 x5)))))))))))) (oBox 44 (.c a0) enE h0)

theorem q20 (R : RnK) (N : Nat) (args : List Value) (h : Hs) : r20 R N args h = callT Try.prog N R 20 args h := by kernel_rfl

/-- slices.SortStableFunc[[]lintel/node.Run,lintel/node.Run] -/
noncomputable def r21 (R : RnK) (N : Nat) (args : List Value) (h : Hs) : An := unC args fun a0 sq0 => unC sq0 fun a1 sq1 => enK h fun h0 =>
 kLenV a0 (fun x0 =>
 kCall R 34 [a0, x0, a1] h0 (fun x1 h2 =>
 clrK h (Value.tuple #[]) h2))

theorem q21 (R : RnK) (N : Nat) (args : List Value) (h : Hs) : r21 R N args h = callT Try.prog N R 21 args h := by kernel_rfl

/-- (*lintel/pool.Pool).Take$2 -/
noncomputable def r22 (R : RnK) (N : Nat) (args : List Value) (h : Hs) : An := unC args fun a0 sq0 => unC sq0 fun a1 sq1 => unC sq1 fun a2 sq2 => unC sq2 fun a3 sq3 => enK h fun h0 =>
 after (fun x0 h1 =>
 after (fun x2 h3 =>
 kFieldA 1 x0 (fun x4 =>
 kLoad x4 (Hs.mk h3.hp h3.nx h3.nx) (fun x5 =>
 kLoad a2 (Hs.mk h3.hp h3.nx h3.nx) (fun x6 =>
 kI64 .geq x5 x6 (fun x7 =>
 gdT x7 h3 (fun k8 => kFieldA 1 x2 (fun x9 => k8 x9 h3)) (fun x10 _ =>
 gdT x7 h3 (fun k12 => kLoad x10 (Hs.mk h3.hp h3.nx h3.nx) (fun x13 => k12 x13 h3)) (fun x14 _ =>
 gdT x7 h3 (fun k16 => kLoad a2 (Hs.mk h3.hp h3.nx h3.nx) (fun x17 => k16 x17 h3)) (fun x18 _ =>
 gdT x7 h3 (fun k20 => kI64 .geq x14 x18 (fun x21 => k20 x21 h3)) (fun x22 _ =>
 after (fun v83 u84 => dPut (fun x24 h25 =>
 gdT x24 h25 (fun k26 => kLoad a3 (dHidS .light [true, true, true, true, true, true, true, true, true, true, true] [none, some (h3.nx, h25.nx), none, none, none, none, none, none, none, none, none] h25) (fun x27 => k26 x27 h25)) (fun x28 _ =>
 gdT x24 h25 (fun k30 => kLoads 2 x0 (dHidS .light [false, true, true, true, true, true, true, true, true, true, true, true] [none, none, some (h3.nx, h25.nx), none, none, none, none, none, none, none, none, none] h25) (fun x31 => k30 x31 h25)) (fun x32 _ =>
 gdT x24 h25 (fun k34 => isVal (fun v35 u36 => dPut k34 v35 (dNext h25 u36 .light) (andB (dFit h25 u36 .light) (Nat.ble 0 u36.lo))) (callV (toRn R) [x32] (dHidS .light [true, true, true, true, true, true, true, true, true, true, true, true, true] [none, none, none, some (h3.nx, h25.nx), none, none, none, none, none, none, none, none, none] h25) x28)) (fun x37 h38 =>
 gdT x24 h38 (fun k39 => kLoad a3 (dHidS .light [false, false, false, true, true, true, true, true, true, true, true, true, true, true] [some (h25.nx, h38.nx), none, none, none, some (h3.nx, h25.nx), none, none, none, none, none, none, none, none, none] h38) (fun x40 => k39 x40 h38)) (fun x41 _ =>
 gdT x24 h38 (fun k43 => kLoads 2 x2 (dHidS .light [false, false, false, false, true, true, true, true, true, true, true, true, true, true, true] [none, some (h25.nx, h38.nx), none, none, none, some (h3.nx, h25.nx), none, none, none, none, none, none, none, none, none] h38) (fun x44 => k43 x44 h38)) (fun x45 _ =>
 gdT x24 h38 (fun k47 => isVal (fun v48 u49 => dPut k47 v48 (dNext h38 u49 .bar) (andB (dFit h38 u49 .bar) (Nat.ble 0 u49.lo))) (callV (toRn R) [x45] h38 x41)) (fun x50 h51 =>
 gdT x24 h51 (fun k52 => obK (fun x53 => k52 x53 h51) (e2 true qB x37 x50)) (fun x54 _ =>
 after (fun v81 u82 => dPut (fun x56 h57 =>
 jn (fun (x59 x60 : Value) (h61 : Hs) =>
 kFieldA 1 x2 (fun x62 =>
 kLoad x62 h61 (fun x63 =>
 kLoad a2 h61 (fun x64 =>
 after (fun x65 h66 =>
 kFieldA 1 x0 (fun x67 =>
 kLoad x67 h66 (fun x68 =>
 kLoad a2 h66 (fun x69 =>
 after (fun x70 h71 =>
 kCall R 23 [x65, x70] h71 (fun x72 h73 =>
 clrK h x72 h73)) (oMinmax false [.c x68, .c x69] enE h66))))) (oMinmax false [.c x63, .c x64] enE h61))))) fun k58 =>
 cnd x56
 (kLoad a3 h57 (fun x74 =>
 kLoads 2 x0 h57 (fun x75 =>
 kCallV R x74 [x75] h57 (fun x76 h77 =>
 jn (fun (x79 : Value) (h80 : Hs) =>
 clrK h (Value.int .i64 (.ofNat 1)) h80) fun k78 =>
 cnd x76
 (clrK h (Value.int .i64 (.negSucc 0)) h77)
 (k78 (Value.int .i64 (.ofNat 0)) h77)))))
 (k58 dunno (Value.int .i64 (.ofNat 0)) h57)) v81 (dNext h51 u82 .blind) (andB (dFit h51 u82 .blind) (Nat.ble 0 u82.lo))) (pickB (.c x54) (.c (Value.bool false)) enE (Hs.mk .e h51.nx h51.nx) x24))))))))) v83 (dNext h3 u84 .blind) (andB (dFit h3 u84 .blind) (Nat.ble 0 u84.lo))) (pickB (.c x22) (.c (Value.bool false)) enE (Hs.mk .e h3.nx h3.nx) x7)))))))))) (oBox 44 (.c a1) enE h1)) (oBox 44 (.c a0) enE h0)

theorem q22 (R : RnK) (N : Nat) (args : List Value) (h : Hs) : r22 R N args h = callT Try.prog N R 22 args h := by kernel_rfl

/-- cmp.Compare[int] -/
noncomputable def r23 (R : RnK) (N : Nat) (args : List Value) (h : Hs) : An := unC args fun a0 sq0 => unC sq0 fun a1 sq1 => enK h fun h0 =>
 kCall R 35 [a0] h0 (fun x0 h1 =>
 kCall R 35 [a1] h1 (fun x2 h3 =>
 jn (fun (x5 x6 : Value) (h7 : Hs) =>
 jn (fun (x9 : Value) (h10 : Hs) =>
 kI64 .lss a0 a1 (fun x11 =>
 jn (fun (x13 : Value) (h14 : Hs) =>
 kI64 .gtr a0 a1 (fun x15 =>
 jn (fun (x17 : Value) (h18 : Hs) =>
 clrK h (Value.int .i64 (.ofNat 0)) h18) fun k16 =>
 cnd x15
 (clrK h (Value.int .i64 (.ofNat 1)) h14)
 (k16 x13 h14))) fun k12 =>
 cnd x11
 (clrK h (Value.int .i64 (.negSucc 0)) h10)
 (k12 x9 h10))) fun k8 =>
 cnd x2
 (clrK h (Value.int .i64 (.ofNat 1)) h7)
 (k8 x6 h7)) fun k4 =>
 cnd x0
 (jn (fun (x20 : Value) (h21 : Hs) =>
 clrK h (Value.int .i64 (.negSucc 0)) h21) fun k19 =>
 cnd x2
 (clrK h (Value.int .i64 (.ofNat 0)) h3)
 (k19 (Value.int .i64 (.ofNat 0)) h3))
 (k4 dunno (Value.int .i64 (.ofNat 0)) h3)))

theorem q23 (R : RnK) (N : Nat) (args : List Value) (h : Hs) : r23 R N args h = callT Try.prog N R 23 args h := by kernel_rfl

/-- lintel/pool.enough -/
noncomputable def r24 (R : RnK) (N : Nat) (args : List Value) (h : Hs) : An := unC args fun a0 sq0 => unC sq0 fun a1 sq1 => enK h fun h0 =>
 kLenV a0 (fun x0 =>
 jn (fun (x2 x3 x4 x5 x6 x7 : Value) (h8 : Hs) =>
 clrK h x7 h8) fun k1 =>
 lpT (T := Value → Value → Value → Value → Value → Value → Hs → An) (fun _ _ _ _ _ _ _ => none) N (fun k9 =>
 fun (x11 x12 x13 x14 x15 x16 : Value) (h17 : Hs) =>
 kI64 .lss x11 x0 (fun x18 =>
 jn (fun (h20 : Hs) =>
 jn (fun (x22 x23 x24 x25 : Value) (h26 : Hs) =>
 kI64 .add x11 (Value.int .i64 (.ofNat 1)) (fun x27 =>
 k9 x27 x18 x22 x23 x24 x25 h26)) fun k21 =>
 kIdxA 2 a0 x11 (fun x28 =>
 kLoads 2 x28 h20 (fun x29 =>
 after (fun x30 h31 =>
 after (fun x32 h33 =>
 kI64 .eql x13 (Value.int .i64 (.ofNat 0)) (fun x34 =>
 jn (fun (h36 : Hs) =>
 kFieldA 1 x30 (fun x37 =>
 kLoad x37 h36 (fun x38 =>
 after (fun x39 h40 =>
 kFieldA 1 x30 (fun x41 =>
 kStore1 x41 x39 h40 (fun x42 h43 =>
 kFieldA 1 x30 (fun x44 =>
 kLoad x44 h43 (fun x45 =>
 kI64 .sub x13 x45 (fun x46 =>
 kLoads 2 x30 h43 (fun x47 =>
 after (fun x48 h49 =>
 after (fun x50 h51 =>
 k21 x46 x34 x30 x50 h51) (app0 44 2 16 h49 x16 x48)) (oMkrow 44 2 1 [(Value.int .i64 (.ofNat 0)), (Value.int .i64 (.ofNat 0))] [(0, 2, .c x47)] enE h43)))))))) (oMinmax false [.c x38, .c x13] enE h36)))) fun k35 =>
 cnd x34
 (k1 x11 x18 x13 x34 x30 x16 h33)
 (k35 h33))) (store1 2 h31 (cellsL x29) (addrOf x30))) (oAlloc 44 [(Value.int .i64 (.ofNat 0)), (Value.int .i64 (.ofNat 0))] enE h20)))) fun k19 =>
 cnd x18
 (k19 h17)
 (k1 x11 x18 x13 x14 x15 x16 h17))) (Value.int .i64 (.ofNat 0)) dunno a1 dunno dunno (Value.slice none 0 0) h0)

theorem q24 (R : RnK) (N : Nat) (args : List Value) (h : Hs) : r24 R N args h = callT Try.prog N R 24 args h := by kernel_rfl

/-- (*lintel/pool.Pool).mark -/
noncomputable def r25 (R : RnK) (N : Nat) (args : List Value) (h : Hs) : An := unC args fun a0 sq0 => unC sq0 fun a1 sq1 => unC sq1 fun a2 sq2 => enK h fun h0 =>
 kLenV a2 (fun x0 =>
 jn (fun (x2 x3 x4 x5 x6 x7 x8 : Value) (h9 : Hs) =>
 clrK h (Value.tuple #[]) h9) fun k1 =>
 lpT (T := Value → Value → Value → Value → Value → Value → Value → Hs → An) (fun _ _ _ _ _ _ _ _ => none) N (fun k10 =>
 fun (x12 x13 x14 x15 x16 x17 x18 : Value) (h19 : Hs) =>
 kI64 .lss x12 x0 (fun x20 =>
 jn (fun (h22 : Hs) =>
 jn (fun (x24 x25 x26 x27 x28 : Value) (h29 : Hs) =>
 kI64 .add x12 (Value.int .i64 (.ofNat 1)) (fun x30 =>
 k10 x30 x20 x24 x25 x26 x27 x28 h29)) fun k23 =>
 kIdxA 2 a2 x12 (fun x31 =>
 kLoads 2 x31 h22 (fun x32 =>
 after (fun x33 h34 =>
 after (fun x35 h36 =>
 kFieldA 1 x33 (fun x37 =>
 kLoad x37 h36 (fun x38 =>
 jn (fun (x40 x41 x42 : Value) (h43 : Hs) =>
 k23 x33 x40 x38 x41 x42 h43) fun k39 =>
 lpT (T := Value → Value → Value → Hs → An) (fun _ _ _ _ => none) N (fun k44 =>
 fun (x46 x47 x48 : Value) (h49 : Hs) =>
 kI64 .lss x46 x38 (fun x50 =>
 jn (fun (h52 : Hs) =>
 jn (fun (x54 : Value) (h55 : Hs) =>
 kI64 .add x46 (Value.int .i64 (.ofNat 1)) (fun x56 =>
 k44 x56 x50 x54 h55)) fun k53 =>
 kNil a0 (fun x57 =>
 kFieldA 4 x57 (fun x58 =>
 kLoads 1 x58 (Hs.mk h52.hp h52.nx h52.nx) (fun x59 =>
 kFieldA 0 x33 (fun x60 =>
 kLoad x60 (Hs.mk h52.hp h52.nx h52.nx) (fun x61 =>
 kI64 .add x61 x46 (fun x62 =>
 after (fun v75 u76 => dPut (fun x63 h64 =>
 kCall R 14 [x59, a1, x63] h64 (fun v73 u74 => dPut (fun x65 h66 =>
 kNil a0 (fun x67 =>
 kFieldA 4 x67 (fun x68 =>
 kStore1 x68 x65 h66 (fun v71 u72 => dPut (fun x69 h70 =>
 k53 x46 h70) v71 (dNext h66 u72 .bar) (andB (dFit h66 u72 .bar) (Nat.ble 0 u72.lo)))))) v73 (dNext h64 u74 .bar) (andB (dFit h64 u74 .bar) (Nat.ble 0 u74.lo)))) v75 (dNext h52 u76 .light) (andB (dFit h52 u76 .light) (Nat.ble 0 u76.lo))) (oMkrow 3 1 1 [(Value.int .i64 (.ofNat 0))] [(0, 1, .c x62)] enE (Hs.mk h52.hp h52.nx h52.nx))))))))) fun k51 =>
 cnd x50
 (k51 h49)
 (k39 x46 x50 x48 h49))) (Value.int .i64 (.ofNat 0)) x17 x18 h36))) (store1 2 h34 (cellsL x32) (addrOf x33))) (oAlloc 44 [(Value.int .i64 (.ofNat 0)), (Value.int .i64 (.ofNat 0))] enE h22)))) fun k21 =>
 cnd x20
 (k21 h19)
 (k1 x12 x20 x14 x15 x16 x17 x18 h19))) (Value.int .i64 (.ofNat 0)) dunno dunno dunno dunno dunno dunno h0)

theorem q25 (R : RnK) (N : Nat) (args : List Value) (h : Hs) : r25 R N args h = callT Try.prog N R 25 args h := by kernel_rfl

/-- lintel/runs.Apart -/
noncomputable def r26 (R : RnK) (N : Nat) (args : List Value) (h : Hs) : An := unC args fun a0 sq0 => enK h fun h0 =>
 kCall R 33 [a0] h0 (fun x0 h1 =>
 kCall R 36 [x0, (Value.func (.func 37) #[] #[])] h1 (fun x2 h3 =>
 jn (fun (x5 x6 x7 x8 : Value) (h9 : Hs) =>
 clrK h (Value.bool true) h9) fun k4 =>
 lpT (T := Value → Value → Value → Value → Hs → An) (fun _ _ _ _ _ => none) N (fun k10 =>
 fun (x12 x13 x14 x15 : Value) (h16 : Hs) =>
 kLenV x0 (fun x17 =>
 kI64 .lss x12 x17 (fun x18 =>
 jn (fun (h20 : Hs) =>
 jn (fun (x22 x23 : Value) (h24 : Hs) =>
 kI64 .add x12 (Value.int .i64 (.ofNat 1)) (fun x25 =>
 k10 x25 x18 x22 x23 h24)) fun k21 =>
 kI64 .sub x12 (Value.int .i64 (.ofNat 1)) (fun x26 =>
 kIdxA 2 x0 x26 (fun x27 =>
 kFieldA 0 x27 (fun x28 =>
 kLoad x28 (Hs.mk h20.hp h20.nx h20.nx) (fun x29 =>
 kI64 .sub x12 (Value.int .i64 (.ofNat 1)) (fun x30 =>
 kIdxA 2 x0 x30 (fun x31 =>
 kFieldA 1 x31 (fun x32 =>
 kLoad x32 (Hs.mk h20.hp h20.nx h20.nx) (fun x33 =>
 kI64 .add x29 x33 (fun x34 =>
 kIdxA 2 x0 x12 (fun x35 =>
 kFieldA 0 x35 (fun x36 =>
 kLoad x36 (Hs.mk h20.hp h20.nx h20.nx) (fun x37 =>
 kI64 .gtr x34 x37 (fun x38 =>
 jn (fun (x40 : Value) (h41 : Hs) =>
 k21 x38 x40 h41) fun k39 =>
 cnd x38
 (clrK h (Value.bool false) h20)
 (k39 x15 h20))))))))))))))) fun k19 =>
 cnd x18
 (k19 h16)
 (k4 x12 x18 x14 x15 h16)))) (Value.int .i64 (.ofNat 1)) dunno dunno (Value.bool false) h3))

theorem q26 (R : RnK) (N : Nat) (args : List Value) (h : Hs) : r26 R N args h = callT Try.prog N R 26 args h := by kernel_rfl

/-- lintel/bits.Next -/
noncomputable def r27 (R : RnK) (N : Nat) (args : List Value) (h : Hs) : An := unC args fun a0 sq0 => unC sq0 fun a1 sq1 => unC sq1 fun a2 sq2 => unC sq2 fun a3 sq3 => enK h fun h0 =>
 after (fun x0 h1 =>
 after (fun x2 h3 =>
 jn (fun (x5 x6 x7 x8 x9 : Value) (h10 : Hs) =>
 clrK h (Value.tuple #[(Value.int .i64 (.ofNat 0)), (Value.bool false)]) h10) fun k4 =>
 lpT (T := Value → Value → Value → Value → Value → Hs → An) (fun _ _ _ _ _ _ => none) N (fun k11 =>
 fun (x13 x14 x15 x16 x17 : Value) (h18 : Hs) =>
 kI64 .lss x13 a3 (fun x19 =>
 gdT x19 h18 (fun k20 => kLoads 1 x0 h18 (fun x21 => k20 x21 h18)) (fun x22 h23 =>
 gdT x19 h23 (fun k24 => k24 x13 h23) (fun x25 h26 =>
 gdT x19 h26 (fun k27 => kCall R 32 [x22, x25] h26 (k27)) (fun x28 h29 =>
 after (fun x30 h31 =>
 jn (fun (h33 : Hs) =>
 jn (fun (x35 x36 x37 : Value) (h38 : Hs) =>
 kI64 .add x13 (Value.int .i64 (.ofNat 1)) (fun x39 =>
 k11 x39 x30 x35 x36 x37 h38)) fun k34 =>
 kLoads 1 x0 h33 (fun x40 =>
 kCall R 28 [x40, x13] h33 (fun x41 h42 =>
 obK (fun x43 =>
 jn (fun (x45 x46 : Value) (h47 : Hs) =>
 k34 x43 x45 x46 h47) fun k44 =>
 cnd x43
 (clrK h (Value.tuple #[x13, (Value.bool true)]) h42)
 (k44 x16 x17 h42)) (e2 false qB x41 a1)))) fun k32 =>
 cnd x30
 (k32 h31)
 (k4 x13 x30 x15 x16 x17 h31)) (pickB (.c x28) (.c (Value.bool false)) enE h29 x19)))))) x2 dunno dunno (Value.int .i64 (.ofNat 0)) (Value.bool false) h3) (oMinmax true [.c a2, .c (Value.int .i64 (.ofNat 0))] enE h1)) (oBox 33 (.c a0) enE h0)

theorem q27 (R : RnK) (N : Nat) (args : List Value) (h : Hs) : r27 R N args h = callT Try.prog N R 27 args h := by kernel_rfl

/-- lintel/bits.Has -/
noncomputable def r28 (R : RnK) (N : Nat) (args : List Value) (h : Hs) : An := unC args fun a0 sq0 => unC sq0 fun a1 sq1 => enK h fun h0 =>
 after (fun x0 h1 =>
 kLoads 1 x0 h1 (fun x2 =>
 kCall R 32 [x2, a1] h1 (fun x3 h4 =>
 gdT x3 h4 (fun k5 => kFieldA 0 x0 (fun x6 => k5 x6 h4)) (fun x7 h8 =>
 gdT x3 h8 (fun k9 => kLoad x7 h8 (fun x10 => k9 x10 h8)) (fun x11 h12 =>
 gdT x3 h12 (fun k13 => k13 a1 h12) (fun x14 h15 =>
 gdT x3 h15 (fun k16 => kI64 .quo x14 (Value.int .i64 (.ofNat 64)) (fun x17 => k16 x17 h15)) (fun x18 h19 =>
 gdT x3 h19 (fun k20 => kIdxA 1 x11 x18 (fun x21 => k20 x21 h19)) (fun x22 h23 =>
 gdT x3 h23 (fun k24 => kLoad x22 h23 (fun x25 => k24 x25 h23)) (fun x26 h27 =>
 gdT x3 h27 (fun k28 => k28 a1 h27) (fun x29 h30 =>
 gdT x3 h30 (fun k31 => kI64 .rem x29 (Value.int .i64 (.ofNat 64)) (fun x32 => k31 x32 h30)) (fun x33 h34 =>
 gdT x3 h34 (fun k35 => kShr x26 x33 (fun x36 => k35 x36 h34)) (fun x37 h38 =>
 gdT x3 h38 (fun k39 => kU64 .and x37 (Value.int .u64 (.ofNat 1)) (fun x40 => k39 x40 h38)) (fun x41 h42 =>
 gdT x3 h42 (fun k43 => kU64 .eql x41 (Value.int .u64 (.ofNat 1)) (fun x44 => k43 x44 h42)) (fun x45 h46 =>
 after (fun x47 h48 =>
 clrK h x47 h48) (pickB (.c x45) (.c (Value.bool false)) enE h46 x3))))))))))))))) (oBox 33 (.c a0) enE h0)

theorem q28 (R : RnK) (N : Nat) (args : List Value) (h : Hs) : r28 R N args h = callT Try.prog N R 28 args h := by kernel_rfl

/-- lintel/geom.in -/
noncomputable def r29 (R : RnK) (N : Nat) (args : List Value) (h : Hs) : An := unC args fun a0 sq0 => unC sq0 fun a1 sq1 => unC sq1 fun a2 sq2 => enK h fun h0 =>
 kI64 .geq a0 a1 (fun x0 =>
 gdT x0 h0 (fun k1 => k1 a0 h0) (fun x2 h3 =>
 gdT x0 h3 (fun k4 => k4 a2 h3) (fun x5 h6 =>
 gdT x0 h6 (fun k7 => kI64 .leq x2 x5 (fun x8 => k7 x8 h6)) (fun x9 h10 =>
 after (fun x11 h12 =>
 clrK h x11 h12) (pickB (.c x9) (.c (Value.bool false)) enE h10 x0)))))

theorem q29 (R : RnK) (N : Nat) (args : List Value) (h : Hs) : r29 R N args h = callT Try.prog N R 29 args h := by kernel_rfl

/-- (lintel/geom.Geom).data -/
noncomputable def r30 (R : RnK) (N : Nat) (args : List Value) (h : Hs) : An := unC args fun a0 sq0 => enK h fun h0 =>
 after (fun x0 h1 =>
 kLoads 4 x0 h1 (fun x2 =>
 kCall R 38 [x2] h1 (fun x3 h4 =>
 kExtr x3 0 (fun x5 =>
 kExtr x3 1 (fun x6 =>
 kI64 .add x5 x6 (fun x7 =>
 kFieldA 1 x0 (fun x8 =>
 kLoad x8 h4 (fun x9 =>
 kI64 .mul (Value.int .i64 (.ofNat 2)) x9 (fun x10 =>
 kI64 .add x7 x10 (fun x11 =>
 kFieldA 0 x0 (fun x12 =>
 kLoad x12 h4 (fun x13 =>
 kI64 .sub x13 (Value.int .i64 (.ofNat 1)) (fun x14 =>
 kI64 .sub x14 x11 (fun x15 =>
 clrK h (Value.tuple #[x11, x15]) h4)))))))))))))) (oBox 25 (.c a0) enE h0)

theorem q30 (R : RnK) (N : Nat) (args : List Value) (h : Hs) : r30 R N args h = callT Try.prog N R 30 args h := by kernel_rfl

/-- slices.Clone[[]uint64,uint64] -/
noncomputable def r31 (R : RnK) (N : Nat) (args : List Value) (h : Hs) : An := unC args fun a0 sq0 => enK h fun h0 =>
 obK (fun x0 =>
 jn (fun (x2 : Value) (h3 : Hs) =>
 after (fun x4 h5 =>
 after (fun x6 h7 =>
 clrK h x6 h7) (app0 68 1 8 h5 x4 a0)) (oMkrow 68 1 0 [(Value.int .u64 (.ofNat 0))] [] enE h3)) fun k1 =>
 cnd x0
 (clrK h (Value.slice none 0 0) h0)
 (k1 (Value.slice none 0 0) h0)) (e2 false qS a0 (Value.slice none 0 0))

theorem q31 (R : RnK) (N : Nat) (args : List Value) (h : Hs) : r31 R N args h = callT Try.prog N R 31 args h := by kernel_rfl

/-- (lintel/bits.Bits).there -/
noncomputable def r32 (R : RnK) (N : Nat) (args : List Value) (h : Hs) : An := unC args fun a0 sq0 => unC sq0 fun a1 sq1 => enK h fun h0 =>
 after (fun x0 h1 =>
 kI64 .geq a1 (Value.int .i64 (.ofNat 0)) (fun x2 =>
 gdT x2 h1 (fun k3 => k3 a1 h1) (fun x4 h5 =>
 gdT x2 h5 (fun k6 => kI64 .quo x4 (Value.int .i64 (.ofNat 64)) (fun x7 => k6 x7 h5)) (fun x8 h9 =>
 gdT x2 h9 (fun k10 => kFieldA 0 x0 (fun x11 => k10 x11 h9)) (fun x12 h13 =>
 gdT x2 h13 (fun k14 => kLoad x12 h13 (fun x15 => k14 x15 h13)) (fun x16 h17 =>
 gdT x2 h17 (fun k18 => kLenV x16 (fun x19 => k18 x19 h17)) (fun x20 h21 =>
 gdT x2 h21 (fun k22 => kI64 .lss x8 x20 (fun x23 => k22 x23 h21)) (fun x24 h25 =>
 after (fun x26 h27 =>
 clrK h x26 h27) (pickB (.c x24) (.c (Value.bool false)) enE h25 x2))))))))) (oBox 33 (.c a0) enE h0)

theorem q32 (R : RnK) (N : Nat) (args : List Value) (h : Hs) : r32 R N args h = callT Try.prog N R 32 args h := by kernel_rfl

/-- lintel/runs.counts -/
noncomputable def r33 (R : RnK) (N : Nat) (args : List Value) (h : Hs) : An := unC args fun a0 sq0 => enK h fun h0 =>
 kLenV a0 (fun x0 =>
 jn (fun (x2 x3 x4 x5 x6 : Value) (h7 : Hs) =>
 clrK h x6 h7) fun k1 =>
 lpT (T := Value → Value → Value → Value → Value → Hs → An) (fun _ _ _ _ _ _ => none) N (fun k8 =>
 fun (x10 x11 x12 x13 x14 : Value) (h15 : Hs) =>
 kI64 .lss x10 x0 (fun x16 =>
 jn (fun (h18 : Hs) =>
 jn (fun (x20 x21 x22 : Value) (h23 : Hs) =>
 kI64 .add x10 (Value.int .i64 (.ofNat 1)) (fun x24 =>
 k8 x24 x16 x20 x21 x22 h23)) fun k19 =>
 kIdxA 2 a0 x10 (fun x25 =>
 kLoads 2 x25 h18 (fun x26 =>
 after (fun x27 h28 =>
 after (fun x29 h30 =>
 kFieldA 1 x27 (fun x31 =>
 kLoad x31 h30 (fun x32 =>
 kI64 .geq x32 (Value.int .i64 (.ofNat 1)) (fun x33 =>
 gdT x33 h30 (fun k34 => kFieldA 1 x27 (fun x35 => k34 x35 h30)) (fun x36 h37 =>
 gdT x33 h37 (fun k38 => kLoad x36 h37 (fun x39 => k38 x39 h37)) (fun x40 h41 =>
 gdT x33 h41 (fun k42 => kI64 .leq x40 (Value.int .i64 (.ofNat 1073741824)) (fun x43 => k42 x43 h41)) (fun x44 h45 =>
 after (fun x46 h47 =>
 gdT x46 h47 (fun k48 => kFieldA 0 x27 (fun x49 => k48 x49 h47)) (fun x50 h51 =>
 gdT x46 h51 (fun k52 => kLoad x50 h51 (fun x53 => k52 x53 h51)) (fun x54 h55 =>
 gdT x46 h55 (fun k56 => kI64 .geq x54 (Value.int .i64 (.ofNat 0)) (fun x57 => k56 x57 h55)) (fun x58 h59 =>
 after (fun x60 h61 =>
 gdT x60 h61 (fun k62 => kFieldA 0 x27 (fun x63 => k62 x63 h61)) (fun x64 h65 =>
 gdT x60 h65 (fun k66 => kLoad x64 h65 (fun x67 => k66 x67 h65)) (fun x68 h69 =>
 gdT x60 h69 (fun k70 => kI64 .leq x68 (Value.int .i64 (.ofNat 1073741824)) (fun x71 => k70 x71 h69)) (fun x72 h73 =>
 after (fun x74 h75 =>
 jn (fun (x77 : Value) (h78 : Hs) =>
 k19 x27 x74 x77 h78) fun k76 =>
 cnd x74
 (kLoads 2 x27 h75 (fun x79 =>
 after (fun x80 h81 =>
 after (fun x82 h83 =>
 k76 x82 h83) (app0 44 2 16 h81 x14 x80)) (oMkrow 44 2 1 [(Value.int .i64 (.ofNat 0)), (Value.int .i64 (.ofNat 0))] [(0, 2, .c x79)] enE h75)))
 (k76 x14 h75)) (pickB (.c x72) (.c (Value.bool false)) enE h73 x60))))) (pickB (.c x58) (.c (Value.bool false)) enE h59 x46))))) (pickB (.c x44) (.c (Value.bool false)) enE h45 x33)))))))) (store1 2 h28 (cellsL x26) (addrOf x27))) (oAlloc 44 [(Value.int .i64 (.ofNat 0)), (Value.int .i64 (.ofNat 0))] enE h18)))) fun k17 =>
 cnd x16
 (k17 h15)
 (k1 x10 x16 x12 x13 x14 h15))) (Value.int .i64 (.ofNat 0)) dunno dunno dunno (Value.slice none 0 0) h0)

theorem q33 (R : RnK) (N : Nat) (args : List Value) (h : Hs) : r33 R N args h = callT Try.prog N R 33 args h := by kernel_rfl

/-- slices.stableCmpFunc[lintel/node.Run] -/
noncomputable def r34 (R : RnK) (N : Nat) (args : List Value) (h : Hs) : An := unC args fun a0 sq0 => unC sq0 fun a1 sq1 => unC sq1 fun a2 sq2 => enK h fun h0 =>
 jn (fun (x1 x2 x3 : Value) (h4 : Hs) =>
 kCall R 39 [a0, x3, a1, a2] h4 (fun x5 h6 =>
 jn (fun (x8 x9 x10 x11 x12 x13 x14 : Value) (h15 : Hs) =>
 clrK h (Value.tuple #[]) h15) fun k7 =>
 lpT (T := Value → Value → Value → Value → Value → Value → Value → Hs → An) (fun _ _ _ _ _ _ _ _ => none) N (fun k16 =>
 fun (x18 x19 x20 x21 x22 x23 x24 : Value) (h25 : Hs) =>
 kI64 .lss x18 a1 (fun x26 =>
 jn (fun (h28 : Hs) =>
 jn (fun (x30 x31 x32 x33 x34 x35 : Value) (h36 : Hs) =>
 k16 x30 x31 x32 x26 x33 x34 x35 h36) fun k29 =>
 kI64 .mul (Value.int .i64 (.ofNat 2)) x18 (fun x37 =>
 jn (fun (x39 x40 x41 : Value) (h42 : Hs) =>
 kI64 .add x40 x18 (fun x43 =>
 kI64 .lss x43 a1 (fun x44 =>
 jn (fun (h46 : Hs) =>
 kI64 .mul x18 (Value.int .i64 (.ofNat 2)) (fun x47 =>
 k29 x47 x39 x40 x41 x43 x44 h46)) fun k45 =>
 cnd x44
 (kCall R 40 [a0, x40, x43, a1, a2] h42 (fun x48 h49 =>
 k45 h49))
 (k45 h42)))) fun k38 =>
 lpT (T := Value → Value → Value → Hs → An) (fun _ _ _ _ => none) N (fun k50 =>
 fun (x52 x53 x54 : Value) (h55 : Hs) =>
 kI64 .leq x52 a1 (fun x56 =>
 jn (fun (h58 : Hs) =>
 jn (fun (x60 x61 : Value) (h62 : Hs) =>
 k50 x60 x61 x56 h62) fun k59 =>
 kI64 .add x53 x18 (fun x63 =>
 kCall R 40 [a0, x53, x63, x52, a2] h58 (fun x64 h65 =>
 kI64 .mul (Value.int .i64 (.ofNat 2)) x18 (fun x66 =>
 kI64 .add x52 x66 (fun x67 =>
 k59 x67 x52 h65))))) fun k57 =>
 cnd x56
 (k57 h55)
 (k38 x52 x53 x56 h55))) x37 (Value.int .i64 (.ofNat 0)) x22 h28)) fun k27 =>
 cnd x26
 (k27 h25)
 (k7 x18 x19 x20 x26 x22 x23 x24 h25))) (Value.int .i64 (.ofNat 20)) x1 x3 dunno dunno dunno dunno h6)) fun k0 =>
 lpT (T := Value → Value → Value → Hs → An) (fun _ _ _ _ => none) N (fun k68 =>
 fun (x70 x71 x72 : Value) (h73 : Hs) =>
 kI64 .leq x70 a1 (fun x74 =>
 jn (fun (h76 : Hs) =>
 jn (fun (x78 x79 : Value) (h80 : Hs) =>
 k68 x78 x74 x79 h80) fun k77 =>
 kCall R 39 [a0, x72, x70, a2] h76 (fun x81 h82 =>
 kI64 .add x70 (Value.int .i64 (.ofNat 20)) (fun x83 =>
 k77 x83 x70 h82))) fun k75 =>
 cnd x74
 (k75 h73)
 (k0 x70 x74 x72 h73))) (Value.int .i64 (.ofNat 20)) dunno (Value.int .i64 (.ofNat 0)) h0

theorem q34 (R : RnK) (N : Nat) (args : List Value) (h : Hs) : r34 R N args h = callT Try.prog N R 34 args h := by kernel_rfl

/-- cmp.isNaN[int] -/
noncomputable def r35 (R : RnK) (N : Nat) (args : List Value) (h : Hs) : An := unC args fun a0 sq0 => enK h fun h0 =>
 kI64 .neq a0 a0 (fun x0 =>
 clrK h x0 h0)

theorem q35 (R : RnK) (N : Nat) (args : List Value) (h : Hs) : r35 R N args h = callT Try.prog N R 35 args h := by kernel_rfl

/-- slices.SortFunc[[]lintel/node.Run,lintel/node.Run] -/
noncomputable def r36 (R : RnK) (N : Nat) (args : List Value) (h : Hs) : An := unC args fun a0 sq0 => unC sq0 fun a1 sq1 => enK h fun h0 =>
 kLenV a0 (fun x0 =>
 kToU x0 (fun x1 =>
 kCall R 42 [x1] h0 (fun x2 h3 =>
 kCall R 41 [a0, (Value.int .i64 (.ofNat 0)), x0, x2, a1] h3 (fun x4 h5 =>
 clrK h (Value.tuple #[]) h5))))

theorem q36 (R : RnK) (N : Nat) (args : List Value) (h : Hs) : r36 R N args h = callT Try.prog N R 36 args h := by kernel_rfl

/-- lintel/runs.Apart$1 -/
noncomputable def r37 (R : RnK) (N : Nat) (args : List Value) (h : Hs) : An := unC args fun a0 sq0 => unC sq0 fun a1 sq1 => enK h fun h0 =>
 after (fun x0 h1 =>
 after (fun x2 h3 =>
 kFieldA 0 x0 (fun x4 =>
 kLoad x4 h3 (fun x5 =>
 kFieldA 0 x2 (fun x6 =>
 kLoad x6 h3 (fun x7 =>
 kI64 .sub x5 x7 (fun x8 =>
 clrK h x8 h3)))))) (oBox 44 (.c a1) enE h1)) (oBox 44 (.c a0) enE h0)

theorem q37 (R : RnK) (N : Nat) (args : List Value) (h : Hs) : r37 R N args h = callT Try.prog N R 37 args h := by kernel_rfl

/-- (lintel/geom.Geom).bits -/
noncomputable def r38 (R : RnK) (N : Nat) (args : List Value) (h : Hs) : An := unC args fun a0 sq0 => enK h fun h0 =>
 after (fun x0 h1 =>
 kFieldA 2 x0 (fun x2 =>
 kLoad x2 (Hs.mk h1.hp h1.nx h1.nx) (fun x3 =>
 kFieldA 3 x0 (fun x4 =>
 kLoad x4 (Hs.mk h1.hp h1.nx h1.nx) (fun x5 =>
 kI64 .mul x3 x5 (fun x6 =>
 kI64 .add (Value.int .i64 (.ofNat 1)) x6 (fun x7 =>
 kFieldA 0 x0 (fun x8 =>
 kLoad x8 (Hs.mk h1.hp h1.nx h1.nx) (fun x9 =>
 kI64 .add x9 (Value.int .i64 (.ofNat 512)) (fun x10 =>
 kI64 .sub x10 (Value.int .i64 (.ofNat 1)) (fun x11 =>
 kI64 .quo x11 (Value.int .i64 (.ofNat 512)) (fun x12 =>
 clrK h (Value.tuple #[x7, x12]) h1)))))))))))) (oBox 25 (.c a0) enE h0)

theorem q38 (R : RnK) (N : Nat) (args : List Value) (h : Hs) : r38 R N args h = callT Try.prog N R 38 args h := by kernel_rfl

/-- slices.insertionSortCmpFunc[lintel/node.Run] -/
noncomputable def r39 (R : RnK) (N : Nat) (args : List Value) (h : Hs) : An := unC args fun a0 sq0 => unC sq0 fun a1 sq1 => unC sq1 fun a2 sq2 => unC sq2 fun a3 sq3 => enK h fun h0 =>
 kI64 .add a1 (Value.int .i64 (.ofNat 1)) (fun x0 =>
 jn (fun (x2 x3 x4 x5 : Value) (h6 : Hs) =>
 clrK h (Value.tuple #[]) h6) fun k1 =>
 lpT (T := Value → Value → Value → Value → Hs → An) (fun _ _ _ _ _ => none) N (fun k7 =>
 fun (x9 x10 x11 x12 : Value) (h13 : Hs) =>
 kI64 .lss x9 a2 (fun x14 =>
 jn (fun (h16 : Hs) =>
 jn (fun (x18 x19 : Value) (h20 : Hs) =>
 kI64 .add x9 (Value.int .i64 (.ofNat 1)) (fun x21 =>
 k7 x21 x14 x18 x19 h20)) fun k17 =>
 jn (fun (x23 x24 : Value) (h25 : Hs) =>
 k17 x23 x24 h25) fun k22 =>
 lpT (T := Value → Value → Hs → An) (fun _ _ _ => none) N (fun k26 =>
 fun (x28 x29 : Value) (h30 : Hs) =>
 kI64 .gtr x28 a1 (fun x31 =>
 gdT x31 h30 (fun k32 => k32 a3 h30) (fun x33 _ =>
 gdT x31 h30 (fun k35 => k35 a0 h30) (fun x36 _ =>
 gdT x31 h30 (fun k38 => k38 x28 h30) (fun x39 _ =>
 gdT x31 h30 (fun k41 => kIdxA 2 x36 x39 (fun x42 => k41 x42 h30)) (fun x43 _ =>
 gdT x31 h30 (fun k45 => kLoads 2 x43 (Hs.mk h30.hp h30.nx h30.nx) (fun x46 => k45 x46 h30)) (fun x47 _ =>
 gdT x31 h30 (fun k49 => k49 a0 h30) (fun x50 _ =>
 gdT x31 h30 (fun k52 => k52 x28 h30) (fun x53 _ =>
 gdT x31 h30 (fun k55 => kI64 .sub x53 (Value.int .i64 (.ofNat 1)) (fun x56 => k55 x56 h30)) (fun x57 _ =>
 gdT x31 h30 (fun k59 => kIdxA 2 x50 x57 (fun x60 => k59 x60 h30)) (fun x61 _ =>
 gdT x31 h30 (fun k63 => kLoads 2 x61 (Hs.mk h30.hp h30.nx h30.nx) (fun x64 => k63 x64 h30)) (fun x65 _ =>
 gdT x31 h30 (fun k67 => isVal (fun v68 u69 => dPut k67 v68 (dNext h30 u69 .bar) (andB (dFit h30 u69 .bar) (Nat.ble 0 u69.lo))) (callV (toRn R) [x47, x65] h30 x33)) (fun x70 h71 =>
 gdT x31 h71 (fun k72 => kI64 .lss x70 (Value.int .i64 (.ofNat 0)) (fun x73 => k72 x73 h71)) (fun x74 _ =>
 after (fun v99 u100 => dPut (fun x76 h77 =>
 jn (fun (h79 : Hs) =>
 jn (fun (h81 : Hs) =>
 kI64 .sub x28 (Value.int .i64 (.ofNat 1)) (fun x82 =>
 k26 x82 x76 h81)) fun k80 =>
 kI64 .sub x28 (Value.int .i64 (.ofNat 1)) (fun x83 =>
 kI64 .sub x28 (Value.int .i64 (.ofNat 1)) (fun x84 =>
 kIdxA 2 a0 x84 (fun x85 =>
 kLoads 2 x85 (Hs.mk h79.hp h79.nx h79.nx) (fun x86 =>
 kIdxA 2 a0 x28 (fun x87 =>
 kLoads 2 x87 (Hs.mk h79.hp h79.nx h79.nx) (fun x88 =>
 kIdxA 2 a0 x28 (fun x89 =>
 after (fun v97 u98 => dPut (fun x90 h91 =>
 kIdxA 2 a0 x83 (fun x92 =>
 after (fun v95 u96 => dPut (fun x93 h94 =>
 k80 h94) v95 (dNext h91 u96 .bar) (andB (dFit h91 u96 .bar) (Nat.ble 0 u96.lo))) (store1 2 h91 (cellsL x88) (addrOf x92)))) v97 (dNext h79 u98 .bar) (andB (dFit h79 u98 .bar) (Nat.ble 0 u98.lo))) (store1 2 h79 (cellsL x86) (addrOf x89)))))))))) fun k78 =>
 cnd x76
 (k78 h77)
 (k22 x28 x76 h77)) v99 (dNext h71 u100 .blind) (andB (dFit h71 u100 .blind) (Nat.ble 0 u100.lo))) (pickB (.c x74) (.c (Value.bool false)) enE (Hs.mk .e h71.nx h71.nx) x31))))))))))))))) x9 x12 h16) fun k15 =>
 cnd x14
 (k15 h13)
 (k1 x9 x14 x11 x12 h13))) x0 dunno dunno dunno h0)

theorem q39 (R : RnK) (N : Nat) (args : List Value) (h : Hs) : r39 R N args h = callT Try.prog N R 39 args h := by kernel_rfl

/-- slices.symMergeCmpFunc[lintel/node.Run] -/
noncomputable def r40 (R : RnK) (N : Nat) (args : List Value) (h : Hs) : An := unC args fun a0 sq0 => unC sq0 fun a1 sq1 => unC sq1 fun a2 sq2 => unC sq2 fun a3 sq3 => unC sq3 fun a4 sq4 => enK h fun h0 =>
 kI64 .sub a2 a1 (fun x0 =>
 kI64 .eql x0 (Value.int .i64 (.ofNat 1)) (fun x1 =>
 jn (fun (x3 x4 x5 x6 x7 x8 x9 : Value) (h10 : Hs) =>
 kI64 .sub a3 a2 (fun x11 =>
 kI64 .eql x11 (Value.int .i64 (.ofNat 1)) (fun x12 =>
 jn (fun (x14 x15 x16 x17 x18 x19 x20 : Value) (h21 : Hs) =>
 kI64 .add a1 a3 (fun x22 =>
 kToU x22 (fun x23 =>
 kShr x23 (Value.int .u64 (.ofNat 1)) (fun x24 =>
 kTo64 x24 (fun x25 =>
 kI64 .add x25 a2 (fun x26 =>
 kI64 .gtr a2 x25 (fun x27 =>
 jn (fun (x29 x30 : Value) (h31 : Hs) =>
 kI64 .sub x26 (Value.int .i64 (.ofNat 1)) (fun x32 =>
 jn (fun (x34 x35 x36 x37 x38 : Value) (h39 : Hs) =>
 kI64 .sub x26 x34 (fun x40 =>
 kI64 .lss x34 a2 (fun x41 =>
 gdT x41 h39 (fun k42 => k42 a2 h39) (fun x43 h44 =>
 gdT x41 h44 (fun k45 => k45 x40 h44) (fun x46 h47 =>
 gdT x41 h47 (fun k48 => kI64 .lss x43 x46 (fun x49 => k48 x49 h47)) (fun x50 h51 =>
 after (fun x52 h53 =>
 jn (fun (h55 : Hs) =>
 kI64 .lss a1 x34 (fun x56 =>
 gdT x56 h55 (fun k57 => k57 x34 h55) (fun x58 h59 =>
 gdT x56 h59 (fun k60 => k60 x25 h59) (fun x61 h62 =>
 gdT x56 h62 (fun k63 => kI64 .lss x58 x61 (fun x64 => k63 x64 h62)) (fun x65 h66 =>
 after (fun x67 h68 =>
 jn (fun (h70 : Hs) =>
 kI64 .lss x25 x40 (fun x71 =>
 gdT x71 h70 (fun k72 => k72 x40 h70) (fun x73 h74 =>
 gdT x71 h74 (fun k75 => k75 a3 h74) (fun x76 h77 =>
 gdT x71 h77 (fun k78 => kI64 .lss x73 x76 (fun x79 => k78 x79 h77)) (fun x80 h81 =>
 after (fun x82 h83 =>
 jn (fun (h85 : Hs) =>
 clrK h (Value.tuple #[]) h85) fun k84 =>
 cnd x82
 (kCall R 40 [a0, x25, x40, a3, a4] h83 (fun x86 h87 =>
 k84 h87))
 (k84 h83)) (pickB (.c x80) (.c (Value.bool false)) enE h81 x71)))))) fun k69 =>
 cnd x67
 (kCall R 40 [a0, a1, x34, x25, a4] h68 (fun x88 h89 =>
 k69 h89))
 (k69 h68)) (pickB (.c x65) (.c (Value.bool false)) enE h66 x56)))))) fun k54 =>
 cnd x52
 (kCall R 43 [a0, x34, a2, x40, a4] h53 (fun x90 h91 =>
 k54 h91))
 (k54 h53)) (pickB (.c x50) (.c (Value.bool false)) enE h51 x41))))))) fun k33 =>
 lpT (T := Value → Value → Value → Value → Value → Hs → An) (fun _ _ _ _ _ _ => none) N (fun k92 =>
 fun (x94 x95 x96 x97 x98 : Value) (h99 : Hs) =>
 kI64 .lss x94 x95 (fun x100 =>
 jn (fun (h102 : Hs) =>
 jn (fun (x104 x105 x106 x107 : Value) (h108 : Hs) =>
 k92 x104 x105 x100 x106 x107 h108) fun k103 =>
 kI64 .add x94 x95 (fun x109 =>
 kToU x109 (fun x110 =>
 kShr x110 (Value.int .u64 (.ofNat 1)) (fun x111 =>
 kTo64 x111 (fun x112 =>
 kI64 .sub x32 x112 (fun x113 =>
 kIdxA 2 a0 x113 (fun x114 =>
 kLoads 2 x114 (Hs.mk h102.hp h102.nx h102.nx) (fun x115 =>
 kIdxA 2 a0 x112 (fun x116 =>
 kLoads 2 x116 (Hs.mk h102.hp h102.nx h102.nx) (fun x117 =>
 isVal (fun v127 u128 => dPut (fun x118 h119 =>
 kI64 .lss x118 (Value.int .i64 (.ofNat 0)) (fun x120 =>
 kNot x120 (fun x121 =>
 jn (fun (x123 x124 : Value) (h125 : Hs) =>
 k103 x123 x124 x112 x121 h125) fun k122 =>
 cnd x121
 (kI64 .add x112 (Value.int .i64 (.ofNat 1)) (fun x126 =>
 k122 x126 x95 h119))
 (k122 x94 x112 h119)))) v127 (dNext h102 u128 .bar) (andB (dFit h102 u128 .bar) (Nat.ble 0 u128.lo))) (callV (toRn R) [x115, x117] h102 a4))))))))))) fun k101 =>
 cnd x100
 (k101 h99)
 (k33 x94 x95 x100 x97 x98 h99))) x29 x30 dunno dunno dunno h31)) fun k28 =>
 cnd x27
 (kI64 .sub x26 a3 (fun x129 =>
 k28 x129 x25 h21))
 (k28 a1 a2 h21)))))))) fun k13 =>
 cnd x12
 (jn (fun (x131 x132 x133 x134 x135 : Value) (h136 : Hs) =>
 jn (fun (x138 x139 : Value) (h140 : Hs) =>
 clrK h (Value.tuple #[]) h140) fun k137 =>
 lpT (T := Value → Value → Hs → An) (fun _ _ _ => none) N (fun k141 =>
 fun (x143 x144 : Value) (h145 : Hs) =>
 kI64 .gtr x143 x131 (fun x146 =>
 jn (fun (h148 : Hs) =>
 jn (fun (h150 : Hs) =>
 kI64 .sub x143 (Value.int .i64 (.ofNat 1)) (fun x151 =>
 k141 x151 x146 h150)) fun k149 =>
 kI64 .sub x143 (Value.int .i64 (.ofNat 1)) (fun x152 =>
 kI64 .sub x143 (Value.int .i64 (.ofNat 1)) (fun x153 =>
 kIdxA 2 a0 x153 (fun x154 =>
 kLoads 2 x154 (Hs.mk h148.hp h148.nx h148.nx) (fun x155 =>
 kIdxA 2 a0 x143 (fun x156 =>
 kLoads 2 x156 (Hs.mk h148.hp h148.nx h148.nx) (fun x157 =>
 kIdxA 2 a0 x143 (fun x158 =>
 after (fun v166 u167 => dPut (fun x159 h160 =>
 kIdxA 2 a0 x152 (fun x161 =>
 after (fun v164 u165 => dPut (fun x162 h163 =>
 k149 h163) v164 (dNext h160 u165 .bar) (andB (dFit h160 u165 .bar) (Nat.ble 0 u165.lo))) (store1 2 h160 (cellsL x157) (addrOf x161)))) v166 (dNext h148 u167 .bar) (andB (dFit h148 u167 .bar) (Nat.ble 0 u167.lo))) (store1 2 h148 (cellsL x155) (addrOf x158)))))))))) fun k147 =>
 cnd x146
 (k147 h145)
 (k137 x143 x146 h145))) a2 dunno h136) fun k130 =>
 lpT (T := Value → Value → Value → Value → Value → Hs → An) (fun _ _ _ _ _ _ => none) N (fun k168 =>
 fun (x170 x171 x172 x173 x174 : Value) (h175 : Hs) =>
 kI64 .lss x170 x171 (fun x176 =>
 jn (fun (h178 : Hs) =>
 jn (fun (x180 x181 x182 x183 : Value) (h184 : Hs) =>
 k168 x180 x181 x176 x182 x183 h184) fun k179 =>
 kI64 .add x170 x171 (fun x185 =>
 kToU x185 (fun x186 =>
 kShr x186 (Value.int .u64 (.ofNat 1)) (fun x187 =>
 kTo64 x187 (fun x188 =>
 kIdxA 2 a0 a2 (fun x189 =>
 kLoads 2 x189 (Hs.mk h178.hp h178.nx h178.nx) (fun x190 =>
 kIdxA 2 a0 x188 (fun x191 =>
 kLoads 2 x191 (Hs.mk h178.hp h178.nx h178.nx) (fun x192 =>
 isVal (fun v202 u203 => dPut (fun x193 h194 =>
 kI64 .lss x193 (Value.int .i64 (.ofNat 0)) (fun x195 =>
 kNot x195 (fun x196 =>
 jn (fun (x198 x199 : Value) (h200 : Hs) =>
 k179 x198 x199 x188 x196 h200) fun k197 =>
 cnd x196
 (kI64 .add x188 (Value.int .i64 (.ofNat 1)) (fun x201 =>
 k197 x201 x171 h194))
 (k197 x170 x188 h194)))) v202 (dNext h178 u203 .bar) (andB (dFit h178 u203 .bar) (Nat.ble 0 u203.lo))) (callV (toRn R) [x190, x192] h178 a4)))))))))) fun k177 =>
 cnd x176
 (k177 h175)
 (k130 x170 x171 x176 x173 x174 h175))) a1 a2 dunno dunno dunno h10)
 (k13 dunno dunno dunno dunno dunno dunno dunno h10)))) fun k2 =>
 cnd x1
 (jn (fun (x205 x206 x207 x208 x209 : Value) (h210 : Hs) =>
 jn (fun (x212 x213 : Value) (h214 : Hs) =>
 clrK h (Value.tuple #[]) h214) fun k211 =>
 lpT (T := Value → Value → Hs → An) (fun _ _ _ => none) N (fun k215 =>
 fun (x217 x218 : Value) (h219 : Hs) =>
 kI64 .sub x205 (Value.int .i64 (.ofNat 1)) (fun x220 =>
 kI64 .lss x217 x220 (fun x221 =>
 jn (fun (h223 : Hs) =>
 jn (fun (h225 : Hs) =>
 kI64 .add x217 (Value.int .i64 (.ofNat 1)) (fun x226 =>
 k215 x226 x221 h225)) fun k224 =>
 kI64 .add x217 (Value.int .i64 (.ofNat 1)) (fun x227 =>
 kI64 .add x217 (Value.int .i64 (.ofNat 1)) (fun x228 =>
 kIdxA 2 a0 x228 (fun x229 =>
 kLoads 2 x229 (Hs.mk h223.hp h223.nx h223.nx) (fun x230 =>
 kIdxA 2 a0 x217 (fun x231 =>
 kLoads 2 x231 (Hs.mk h223.hp h223.nx h223.nx) (fun x232 =>
 kIdxA 2 a0 x217 (fun x233 =>
 after (fun v241 u242 => dPut (fun x234 h235 =>
 kIdxA 2 a0 x227 (fun x236 =>
 after (fun v239 u240 => dPut (fun x237 h238 =>
 k224 h238) v239 (dNext h235 u240 .bar) (andB (dFit h235 u240 .bar) (Nat.ble 0 u240.lo))) (store1 2 h235 (cellsL x232) (addrOf x236)))) v241 (dNext h223 u242 .bar) (andB (dFit h223 u242 .bar) (Nat.ble 0 u242.lo))) (store1 2 h223 (cellsL x230) (addrOf x233)))))))))) fun k222 =>
 cnd x221
 (k222 h219)
 (k211 x217 x221 h219)))) a1 dunno h210) fun k204 =>
 lpT (T := Value → Value → Value → Value → Value → Hs → An) (fun _ _ _ _ _ _ => none) N (fun k243 =>
 fun (x245 x246 x247 x248 x249 : Value) (h250 : Hs) =>
 kI64 .lss x245 x246 (fun x251 =>
 jn (fun (h253 : Hs) =>
 jn (fun (x255 x256 x257 x258 : Value) (h259 : Hs) =>
 k243 x255 x256 x251 x257 x258 h259) fun k254 =>
 kI64 .add x245 x246 (fun x260 =>
 kToU x260 (fun x261 =>
 kShr x261 (Value.int .u64 (.ofNat 1)) (fun x262 =>
 kTo64 x262 (fun x263 =>
 kIdxA 2 a0 x263 (fun x264 =>
 kLoads 2 x264 (Hs.mk h253.hp h253.nx h253.nx) (fun x265 =>
 kIdxA 2 a0 a1 (fun x266 =>
 kLoads 2 x266 (Hs.mk h253.hp h253.nx h253.nx) (fun x267 =>
 isVal (fun v276 u277 => dPut (fun x268 h269 =>
 kI64 .lss x268 (Value.int .i64 (.ofNat 0)) (fun x270 =>
 jn (fun (x272 x273 : Value) (h274 : Hs) =>
 k254 x272 x273 x263 x270 h274) fun k271 =>
 cnd x270
 (kI64 .add x263 (Value.int .i64 (.ofNat 1)) (fun x275 =>
 k271 x275 x246 h269))
 (k271 x245 x263 h269))) v276 (dNext h253 u277 .bar) (andB (dFit h253 u277 .bar) (Nat.ble 0 u277.lo))) (callV (toRn R) [x265, x267] h253 a4)))))))))) fun k252 =>
 cnd x251
 (k252 h250)
 (k204 x245 x246 x251 x248 x249 h250))) a2 a3 dunno dunno dunno h0)
 (k2 dunno dunno dunno dunno dunno dunno dunno h0)))

theorem q40 (R : RnK) (N : Nat) (args : List Value) (h : Hs) : r40 R N args h = callT Try.prog N R 40 args h := by kernel_rfl

/-- slices.pdqsortCmpFunc[lintel/node.Run] -/
noncomputable def r41 (R : RnK) (N : Nat) (args : List Value) (h : Hs) : An := unC args fun a0 sq0 => unC sq0 fun a1 sq1 => unC sq1 fun a2 sq2 => unC sq2 fun a3 sq3 => unC sq3 fun a4 sq4 => enK h fun h0 =>
 jn (fun (x1 x2 x3 x4 x5 x6 x7 x8 x9 x10 x11 x12 x13 x14 x15 x16 x17 x18 x19 x20 x21 x22 : Value) (h23 : Hs) =>
 clrK h (Value.tuple #[]) h23) fun k0 =>
 lpT (T := Value → Value → Value → Value → Value → Value → Value → Value → Value → Value → Value → Value → Value → Value → Value → Value → Value → Value → Value → Value → Value → Value → Hs → An) (fun _ _ _ _ _ _ _ _ _ _ _ _ _ _ _ _ _ _ _ _ _ _ _ => none) N (fun k24 =>
 fun (x26 x27 x28 x29 x30 x31 x32 x33 x34 x35 x36 x37 x38 x39 x40 x41 x42 x43 x44 x45 x46 x47 : Value) (h48 : Hs) =>
 jn (fun (x50 x51 x52 x53 x54 x55 x56 x57 x58 x59 x60 x61 x62 x63 x64 x65 x66 x67 x68 x69 x70 x71 : Value) (h72 : Hs) =>
 k24 x50 x51 x52 x53 x54 x55 x56 x57 x58 x59 x60 x61 x62 x63 x64 x65 x66 x67 x68 x69 x70 x71 h72) fun k49 =>
 kI64 .sub x26 x27 (fun x73 =>
 kI64 .leq x73 (Value.int .i64 (.ofNat 12)) (fun x74 =>
 jn (fun (h76 : Hs) =>
 kI64 .eql x30 (Value.int .i64 (.ofNat 0)) (fun x77 =>
 jn (fun (h79 : Hs) =>
 kNot x32 (fun x80 =>
 jn (fun (x82 : Value) (h83 : Hs) =>
 kCall R 46 [a0, x27, x26, a4] h83 (fun x84 h85 =>
 kExtr x84 0 (fun x86 =>
 kExtr x84 1 (fun x87 =>
 kI64 .eql x87 (Value.int .i64 (.ofNat 2)) (fun x88 =>
 jn (fun (x90 x91 : Value) (h92 : Hs) =>
 gdT x32 h92 (fun k93 => k93 x37 h92) (fun x94 h95 =>
 after (fun x96 h97 =>
 gdT x96 h97 (fun k98 => k98 x90 h97) (fun x99 h100 =>
 gdT x96 h100 (fun k101 => kI64 .eql x99 (Value.int .i64 (.ofNat 1)) (fun x102 => k101 x102 h100)) (fun x103 h104 =>
 after (fun x105 h106 =>
 jn (fun (x108 : Value) (h109 : Hs) =>
 kI64 .gtr x27 (Value.int .i64 (.ofNat 0)) (fun x110 =>
 gdT x110 h109 (fun k111 => k111 a4 h109) (fun x112 _ =>
 gdT x110 h109 (fun k114 => k114 a0 h109) (fun x115 _ =>
 gdT x110 h109 (fun k117 => k117 x27 h109) (fun x118 _ =>
 gdT x110 h109 (fun k120 => kI64 .sub x118 (Value.int .i64 (.ofNat 1)) (fun x121 => k120 x121 h109)) (fun x122 _ =>
 gdT x110 h109 (fun k124 => kIdxA 2 x115 x122 (fun x125 => k124 x125 h109)) (fun x126 _ =>
 gdT x110 h109 (fun k128 => kLoads 2 x126 (Hs.mk h109.hp h109.nx h109.nx) (fun x129 => k128 x129 h109)) (fun x130 _ =>
 gdT x110 h109 (fun k132 => k132 a0 h109) (fun x133 _ =>
 gdT x110 h109 (fun k135 => k135 x91 h109) (fun x136 _ =>
 gdT x110 h109 (fun k138 => kIdxA 2 x133 x136 (fun x139 => k138 x139 h109)) (fun x140 _ =>
 gdT x110 h109 (fun k142 => kLoads 2 x140 (Hs.mk h109.hp h109.nx h109.nx) (fun x143 => k142 x143 h109)) (fun x144 _ =>
 gdT x110 h109 (fun k146 => isVal (fun v147 u148 => dPut k146 v147 (dNext h109 u148 .bar) (andB (dFit h109 u148 .bar) (Nat.ble 0 u148.lo))) (callV (toRn R) [x130, x144] h109 x112)) (fun x149 h150 =>
 gdT x110 h150 (fun k151 => kI64 .lss x149 (Value.int .i64 (.ofNat 0)) (fun x152 => k151 x152 h150)) (fun x153 _ =>
 gdT x110 h150 (fun k155 => kNot x153 (fun x156 => k155 x156 h150)) (fun x157 _ =>
 after (fun v188 u189 => dPut (fun x159 h160 =>
 jn (fun (x162 x163 : Value) (h164 : Hs) =>
 kCall R 50 [a0, x162, x26, x91, a4] h164 (fun x165 h166 =>
 kExtr x165 0 (fun x167 =>
 kExtr x165 1 (fun x168 =>
 kI64 .sub x167 x162 (fun x169 =>
 kI64 .sub x26 x167 (fun x170 =>
 kI64 .quo x73 (Value.int .i64 (.ofNat 8)) (fun x171 =>
 kI64 .lss x169 x170 (fun x172 =>
 jn (fun (x174 x175 x176 : Value) (h177 : Hs) =>
 k49 x174 x175 x73 x74 x82 x77 x176 x80 x90 x88 x91 x168 x105 x108 x159 x163 x168 x167 x169 x170 x172 x171 h177) fun k173 =>
 cnd x172
 (kI64 .geq x169 x171 (fun x178 =>
 kCall R 41 [a0, x162, x167, x82, a4] h166 (fun x179 h180 =>
 kI64 .add x167 (Value.int .i64 (.ofNat 1)) (fun x181 =>
 k173 x26 x181 x178 h180))))
 (kI64 .geq x170 x171 (fun x182 =>
 kI64 .add x167 (Value.int .i64 (.ofNat 1)) (fun x183 =>
 kCall R 41 [a0, x183, x26, x82, a4] h166 (fun x184 h185 =>
 k173 x167 x162 x182 h185)))))))))))) fun k161 =>
 cnd x159
 (kCall R 49 [a0, x27, x26, x91, a4] h160 (fun x186 h187 =>
 k49 x26 x186 x73 x74 x82 x77 x32 x80 x90 x88 x91 x37 x105 x108 x159 x186 x42 x43 x44 x45 x46 x47 h187))
 (k161 x27 x41 h160)) v188 (dNext h150 u189 .blind) (andB (dFit h150 u189 .blind) (Nat.ble 0 u189.lo))) (pickB (.c x157) (.c (Value.bool false)) enE (Hs.mk .e h150.nx h150.nx) x110)))))))))))))))) fun k107 =>
 cnd x105
 (kCall R 48 [a0, x27, x26, a4] h106 (fun x190 h191 =>
 jn (fun (h193 : Hs) =>
 k107 x190 h193) fun k192 =>
 cnd x190
 (clrK h (Value.tuple #[]) h191)
 (k192 h191)))
 (k107 x39 h106)) (pickB (.c x103) (.c (Value.bool false)) enE h104 x96)))) (pickB (.c x94) (.c (Value.bool false)) enE h95 x32))) fun k89 =>
 cnd x88
 (kCall R 47 [a0, x27, x26, a4] h85 (fun x194 h195 =>
 kI64 .sub x26 (Value.int .i64 (.ofNat 1)) (fun x196 =>
 kI64 .sub x86 x27 (fun x197 =>
 kI64 .sub x196 x197 (fun x198 =>
 k89 (Value.int .i64 (.ofNat 1)) x198 h195)))))
 (k89 x87 x86 h85)))))) fun k81 =>
 cnd x80
 (kCall R 45 [a0, x27, x26, a4] h79 (fun x199 h200 =>
 kI64 .sub x30 (Value.int .i64 (.ofNat 1)) (fun x201 =>
 k81 x201 h200)))
 (k81 x30 h79))) fun k78 =>
 cnd x77
 (kCall R 44 [a0, x27, x26, a4] h76 (fun x202 h203 =>
 clrK h (Value.tuple #[]) h203))
 (k78 h76))) fun k75 =>
 cnd x74
 (kCall R 39 [a0, x27, x26, a4] h48 (fun x204 h205 =>
 clrK h (Value.tuple #[]) h205))
 (k75 h48)))) a2 a1 dunno dunno a3 dunno (Value.bool true) dunno dunno dunno dunno (Value.bool true) dunno dunno dunno dunno dunno dunno dunno dunno dunno dunno h0

theorem q41 (R : RnK) (N : Nat) (args : List Value) (h : Hs) : r41 R N args h = callT Try.prog N R 41 args h := by kernel_rfl

/-- math/bits.Len -/
noncomputable def r42 (R : RnK) (N : Nat) (args : List Value) (h : Hs) : An := unC args fun a0 sq0 => enK h fun h0 =>
 jn (fun (x1 : Value) (h2 : Hs) =>
 kCall R 52 [a0] h2 (fun x3 h4 =>
 clrK h x3 h4)) fun k0 =>
 cnd (Value.bool false)
 (obK (fun x5 =>
 kCall R 51 [x5] h0 (fun x6 h7 =>
 clrK h x6 h7)) (convI1 .u32 a0))
 (k0 (Value.int .i64 (.ofNat 0)) h0)

theorem q42 (R : RnK) (N : Nat) (args : List Value) (h : Hs) : r42 R N args h = callT Try.prog N R 42 args h := by kernel_rfl

/-- slices.rotateCmpFunc[lintel/node.Run] -/
noncomputable def r43 (R : RnK) (N : Nat) (args : List Value) (h : Hs) : An := unC args fun a0 sq0 => unC sq0 fun a1 sq1 => unC sq1 fun a2 sq2 => unC sq2 fun a3 sq3 => unC sq3 fun a4 sq4 => enK h fun h0 =>
 kI64 .sub a2 a1 (fun x0 =>
 kI64 .sub a3 a2 (fun x1 =>
 jn (fun (x3 x4 x5 x6 : Value) (h7 : Hs) =>
 kI64 .sub a2 x3 (fun x8 =>
 kCall R 53 [a0, x8, a2, x3, a4] h7 (fun x9 h10 =>
 clrK h (Value.tuple #[]) h10))) fun k2 =>
 lpT (T := Value → Value → Value → Value → Hs → An) (fun _ _ _ _ _ => none) N (fun k11 =>
 fun (x13 x14 x15 x16 : Value) (h17 : Hs) =>
 kI64 .neq x13 x14 (fun x18 =>
 jn (fun (h20 : Hs) =>
 jn (fun (x22 x23 x24 : Value) (h25 : Hs) =>
 k11 x22 x23 x18 x24 h25) fun k21 =>
 kI64 .gtr x13 x14 (fun x26 =>
 jn (fun (x28 x29 : Value) (h30 : Hs) =>
 k21 x28 x29 x26 h30) fun k27 =>
 cnd x26
 (kI64 .sub a2 x13 (fun x31 =>
 kCall R 53 [a0, x31, a2, x14, a4] h20 (fun x32 h33 =>
 kI64 .sub x13 x14 (fun x34 =>
 k27 x34 x14 h33))))
 (kI64 .sub a2 x13 (fun x35 =>
 kI64 .add a2 x14 (fun x36 =>
 kI64 .sub x36 x13 (fun x37 =>
 kCall R 53 [a0, x35, x37, x13, a4] h20 (fun x38 h39 =>
 kI64 .sub x14 x13 (fun x40 =>
 k27 x13 x40 h39)))))))) fun k19 =>
 cnd x18
 (k19 h17)
 (k2 x13 x14 x18 x16 h17))) x0 x1 dunno dunno h0))

theorem q43 (R : RnK) (N : Nat) (args : List Value) (h : Hs) : r43 R N args h = callT Try.prog N R 43 args h := by kernel_rfl

/-- slices.heapSortCmpFunc[lintel/node.Run] -/
noncomputable def r44 (R : RnK) (N : Nat) (args : List Value) (h : Hs) : An := unC args fun a0 sq0 => unC sq0 fun a1 sq1 => unC sq1 fun a2 sq2 => unC sq2 fun a3 sq3 => enK h fun h0 =>
 kI64 .sub a2 a1 (fun x0 =>
 kI64 .sub x0 (Value.int .i64 (.ofNat 1)) (fun x1 =>
 kI64 .quo x1 (Value.int .i64 (.ofNat 2)) (fun x2 =>
 jn (fun (x4 x5 : Value) (h6 : Hs) =>
 kI64 .sub x0 (Value.int .i64 (.ofNat 1)) (fun x7 =>
 jn (fun (x9 x10 : Value) (h11 : Hs) =>
 clrK h (Value.tuple #[]) h11) fun k8 =>
 lpT (T := Value → Value → Hs → An) (fun _ _ _ => none) N (fun k12 =>
 fun (x14 x15 : Value) (h16 : Hs) =>
 kI64 .geq x14 (Value.int .i64 (.ofNat 0)) (fun x17 =>
 jn (fun (h19 : Hs) =>
 jn (fun (h21 : Hs) =>
 kI64 .sub x14 (Value.int .i64 (.ofNat 1)) (fun x22 =>
 k12 x22 x17 h21)) fun k20 =>
 kI64 .add a1 x14 (fun x23 =>
 kI64 .add a1 x14 (fun x24 =>
 kIdxA 2 a0 x24 (fun x25 =>
 kLoads 2 x25 (Hs.mk h19.hp h19.nx h19.nx) (fun x26 =>
 kIdxA 2 a0 a1 (fun x27 =>
 kLoads 2 x27 (Hs.mk h19.hp h19.nx h19.nx) (fun x28 =>
 kIdxA 2 a0 a1 (fun x29 =>
 after (fun v39 u40 => dPut (fun x30 h31 =>
 kIdxA 2 a0 x23 (fun x32 =>
 after (fun v37 u38 => dPut (fun x33 h34 =>
 kCall R 54 [a0, (Value.int .i64 (.ofNat 0)), x14, a1, a3] h34 (fun x35 h36 =>
 k20 h36)) v37 (dNext h31 u38 .bar) (andB (dFit h31 u38 .bar) (Nat.ble 0 u38.lo))) (store1 2 h31 (cellsL x28) (addrOf x32)))) v39 (dNext h19 u40 .bar) (andB (dFit h19 u40 .bar) (Nat.ble 0 u40.lo))) (store1 2 h19 (cellsL x26) (addrOf x29)))))))))) fun k18 =>
 cnd x17
 (k18 h16)
 (k8 x14 x17 h16))) x7 dunno h6)) fun k3 =>
 lpT (T := Value → Value → Hs → An) (fun _ _ _ => none) N (fun k41 =>
 fun (x43 x44 : Value) (h45 : Hs) =>
 kI64 .geq x43 (Value.int .i64 (.ofNat 0)) (fun x46 =>
 jn (fun (h48 : Hs) =>
 jn (fun (h50 : Hs) =>
 kI64 .sub x43 (Value.int .i64 (.ofNat 1)) (fun x51 =>
 k41 x51 x46 h50)) fun k49 =>
 kCall R 54 [a0, x43, x0, a1, a3] h48 (fun x52 h53 =>
 k49 h53)) fun k47 =>
 cnd x46
 (k47 h45)
 (k3 x43 x46 h45))) x2 dunno h0)))

theorem q44 (R : RnK) (N : Nat) (args : List Value) (h : Hs) : r44 R N args h = callT Try.prog N R 44 args h := by kernel_rfl

/-- slices.breakPatternsCmpFunc[lintel/node.Run] -/
noncomputable def r45 (R : RnK) (N : Nat) (args : List Value) (h : Hs) : An := unC args fun a0 sq0 => unC sq0 fun a1 sq1 => unC sq1 fun a2 sq2 => unC sq2 fun a3 sq3 => enK h fun h0 =>
 kI64 .sub a2 a1 (fun x0 =>
 kI64 .geq x0 (Value.int .i64 (.ofNat 8)) (fun x1 =>
 jn (fun (x3 x4 x5 x6 x7 x8 : Value) (h9 : Hs) =>
 clrK h (Value.tuple #[]) h9) fun k2 =>
 cnd x1
 (kToU x0 (fun x10 =>
 after (fun x11 h12 =>
 kStore1 x11 x10 h12 (fun x13 h14 =>
 kCall R 55 [x0] h14 (fun x15 h16 =>
 kI64 .quo x0 (Value.int .i64 (.ofNat 4)) (fun x17 =>
 kI64 .mul x17 (Value.int .i64 (.ofNat 2)) (fun x18 =>
 kI64 .add a1 x18 (fun x19 =>
 kI64 .sub x19 (Value.int .i64 (.ofNat 1)) (fun x20 =>
 jn (fun (x22 x23 x24 x25 : Value) (h26 : Hs) =>
 k2 x22 x23 x11 x15 x24 x25 h26) fun k21 =>
 lpT (T := Value → Value → Value → Value → Hs → An) (fun _ _ _ _ _ => none) N (fun k27 =>
 fun (x29 x30 x31 x32 : Value) (h33 : Hs) =>
 kI64 .quo x0 (Value.int .i64 (.ofNat 4)) (fun x34 =>
 kI64 .mul x34 (Value.int .i64 (.ofNat 2)) (fun x35 =>
 kI64 .add a1 x35 (fun x36 =>
 kI64 .add x36 (Value.int .i64 (.ofNat 1)) (fun x37 =>
 kI64 .leq x29 x37 (fun x38 =>
 jn (fun (h40 : Hs) =>
 jn (fun (x42 x43 : Value) (h44 : Hs) =>
 kI64 .add x29 (Value.int .i64 (.ofNat 1)) (fun x45 =>
 k27 x45 x38 x42 x43 h44)) fun k41 =>
 kCall R 56 [x11] h40 (fun x46 h47 =>
 kU64 .sub x15 (Value.int .u64 (.ofNat 1)) (fun x48 =>
 kU64 .and x46 x48 (fun x49 =>
 kTo64 x49 (fun x50 =>
 kI64 .geq x50 x0 (fun x51 =>
 jn (fun (x53 : Value) (h54 : Hs) =>
 kI64 .add a1 x53 (fun x55 =>
 kI64 .add a1 x53 (fun x56 =>
 kIdxA 2 a0 x56 (fun x57 =>
 kLoads 2 x57 (Hs.mk h54.hp h54.nx h54.nx) (fun x58 =>
 kIdxA 2 a0 x29 (fun x59 =>
 kLoads 2 x59 (Hs.mk h54.hp h54.nx h54.nx) (fun x60 =>
 kIdxA 2 a0 x29 (fun x61 =>
 after (fun v69 u70 => dPut (fun x62 h63 =>
 kIdxA 2 a0 x55 (fun x64 =>
 after (fun v67 u68 => dPut (fun x65 h66 =>
 k41 x53 x51 h66) v67 (dNext h63 u68 .bar) (andB (dFit h63 u68 .bar) (Nat.ble 0 u68.lo))) (store1 2 h63 (cellsL x60) (addrOf x64)))) v69 (dNext h54 u70 .bar) (andB (dFit h54 u70 .bar) (Nat.ble 0 u70.lo))) (store1 2 h54 (cellsL x58) (addrOf x61)))))))))) fun k52 =>
 cnd x51
 (kI64 .sub x50 x0 (fun x71 =>
 k52 x71 h47))
 (k52 x50 h47))))))) fun k39 =>
 cnd x38
 (k39 h33)
 (k21 x29 x38 x31 x32 h33))))))) x20 dunno dunno dunno h16))))))) (oAlloc 85 [(Value.int .u64 (.ofNat 0))] enE h0)))
 (k2 dunno dunno dunno dunno dunno dunno h0)))

theorem q45 (R : RnK) (N : Nat) (args : List Value) (h : Hs) : r45 R N args h = callT Try.prog N R 45 args h := by kernel_rfl

/-- slices.choosePivotCmpFunc[lintel/node.Run] -/
noncomputable def r46 (R : RnK) (N : Nat) (args : List Value) (h : Hs) : An := unC args fun a0 sq0 => unC sq0 fun a1 sq1 => unC sq1 fun a2 sq2 => unC sq2 fun a3 sq3 => enK h fun h0 =>
 kI64 .sub a2 a1 (fun x0 =>
 after (fun x1 h2 =>
 kI64 .quo x0 (Value.int .i64 (.ofNat 4)) (fun x3 =>
 kI64 .mul x3 (Value.int .i64 (.ofNat 1)) (fun x4 =>
 kI64 .add a1 x4 (fun x5 =>
 kI64 .quo x0 (Value.int .i64 (.ofNat 4)) (fun x6 =>
 kI64 .mul x6 (Value.int .i64 (.ofNat 2)) (fun x7 =>
 kI64 .add a1 x7 (fun x8 =>
 kI64 .quo x0 (Value.int .i64 (.ofNat 4)) (fun x9 =>
 kI64 .mul x9 (Value.int .i64 (.ofNat 3)) (fun x10 =>
 kI64 .add a1 x10 (fun x11 =>
 kI64 .geq x0 (Value.int .i64 (.ofNat 8)) (fun x12 =>
 jn (fun (x14 x15 x16 x17 : Value) (h18 : Hs) =>
 kLoad x1 h18 (fun x19 =>
 jn (fun (x21 x22 x23 x24 : Value) (h25 : Hs) =>
 clrK h (Value.tuple #[x23, x24]) h25) fun k20 =>
 kI64 .eql x19 (Value.int .i64 (.ofNat 0)) (fun x26 =>
 jn (fun (x28 x29 x30 : Value) (h31 : Hs) =>
 k20 x26 x28 x29 x30 h31) fun k27 =>
 cnd x26
 (clrK h (Value.tuple #[x16, (Value.int .i64 (.ofNat 1))]) h18)
 (kI64 .eql x19 (Value.int .i64 (.ofNat 12)) (fun x32 =>
 jn (fun (x34 x35 : Value) (h36 : Hs) =>
 k27 x32 x34 x35 h36) fun k33 =>
 cnd x32
 (clrK h (Value.tuple #[x16, (Value.int .i64 (.ofNat 2))]) h18)
 (clrK h (Value.tuple #[x16, (Value.int .i64 (.ofNat 0))]) h18)))))) fun k13 =>
 cnd x12
 (kI64 .geq x0 (Value.int .i64 (.ofNat 50)) (fun x37 =>
 jn (fun (x39 x40 x41 : Value) (h42 : Hs) =>
 kCall R 58 [a0, x39, x40, x41, x1, a3] h42 (fun x43 h44 =>
 k13 x37 x39 x43 x41 h44)) fun k38 =>
 cnd x37
 (kCall R 57 [a0, x5, x1, a3] h2 (fun x45 h46 =>
 kCall R 57 [a0, x8, x1, a3] h46 (fun x47 h48 =>
 kCall R 57 [a0, x11, x1, a3] h48 (fun x49 h50 =>
 k38 x45 x47 x49 h50))))
 (k38 x5 x8 x11 h2)))
 (k13 dunno x5 x8 x11 h2)))))))))))) (oAlloc 3 [(Value.int .i64 (.ofNat 0))] enE h0))

theorem q46 (R : RnK) (N : Nat) (args : List Value) (h : Hs) : r46 R N args h = callT Try.prog N R 46 args h := by kernel_rfl

/-- slices.reverseRangeCmpFunc[lintel/node.Run] -/
noncomputable def r47 (R : RnK) (N : Nat) (args : List Value) (h : Hs) : An := unC args fun a0 sq0 => unC sq0 fun a1 sq1 => unC sq1 fun a2 sq2 => unC sq2 fun a3 sq3 => enK h fun h0 =>
 kI64 .sub a2 (Value.int .i64 (.ofNat 1)) (fun x0 =>
 jn (fun (x2 x3 x4 : Value) (h5 : Hs) =>
 clrK h (Value.tuple #[]) h5) fun k1 =>
 lpT (T := Value → Value → Value → Hs → An) (fun _ _ _ _ => none) N (fun k6 =>
 fun (x8 x9 x10 : Value) (h11 : Hs) =>
 kI64 .lss x8 x9 (fun x12 =>
 jn (fun (h14 : Hs) =>
 jn (fun (x16 x17 : Value) (h18 : Hs) =>
 k6 x16 x17 x12 h18) fun k15 =>
 kIdxA 2 a0 x9 (fun x19 =>
 kLoads 2 x19 (Hs.mk h14.hp h14.nx h14.nx) (fun x20 =>
 kIdxA 2 a0 x8 (fun x21 =>
 kLoads 2 x21 (Hs.mk h14.hp h14.nx h14.nx) (fun x22 =>
 kIdxA 2 a0 x8 (fun x23 =>
 after (fun v33 u34 => dPut (fun x24 h25 =>
 kIdxA 2 a0 x9 (fun x26 =>
 after (fun v31 u32 => dPut (fun x27 h28 =>
 kI64 .add x8 (Value.int .i64 (.ofNat 1)) (fun x29 =>
 kI64 .sub x9 (Value.int .i64 (.ofNat 1)) (fun x30 =>
 k15 x29 x30 h28))) v31 (dNext h25 u32 .bar) (andB (dFit h25 u32 .bar) (Nat.ble 0 u32.lo))) (store1 2 h25 (cellsL x22) (addrOf x26)))) v33 (dNext h14 u34 .bar) (andB (dFit h14 u34 .bar) (Nat.ble 0 u34.lo))) (store1 2 h14 (cellsL x20) (addrOf x23)))))))) fun k13 =>
 cnd x12
 (k13 h11)
 (k1 x8 x9 x12 h11))) a1 x0 dunno h0)

theorem q47 (R : RnK) (N : Nat) (args : List Value) (h : Hs) : r47 R N args h = callT Try.prog N R 47 args h := by kernel_rfl

/-- slices.partialInsertionSortCmpFunc[lintel/node.Run] -/
noncomputable def r48 (R : RnK) (N : Nat) (args : List Value) (h : Hs) : An := unC args fun a0 sq0 => unC sq0 fun a1 sq1 => unC sq1 fun a2 sq2 => unC sq2 fun a3 sq3 => enK h fun h0 =>
 kI64 .add a1 (Value.int .i64 (.ofNat 1)) (fun x0 =>
 jn (fun (x2 x3 x4 x5 x6 x7 x8 x9 x10 x11 x12 x13 x14 x15 x16 : Value) (h17 : Hs) =>
 clrK h (Value.bool false) h17) fun k1 =>
 lpT (T := Value → Value → Value → Value → Value → Value → Value → Value → Value → Value → Value → Value → Value → Value → Value → Hs → An) (fun _ _ _ _ _ _ _ _ _ _ _ _ _ _ _ _ => none) N (fun k18 =>
 fun (x20 x21 x22 x23 x24 x25 x26 x27 x28 x29 x30 x31 x32 x33 x34 : Value) (h35 : Hs) =>
 kI64 .lss x20 (Value.int .i64 (.ofNat 5)) (fun x36 =>
 jn (fun (h38 : Hs) =>
 jn (fun (x40 x41 x42 x43 x44 x45 x46 x47 x48 x49 x50 x51 x52 : Value) (h53 : Hs) =>
 kI64 .add x20 (Value.int .i64 (.ofNat 1)) (fun x54 =>
 k18 x54 x36 x40 x41 x42 x43 x44 x45 x46 x47 x48 x49 x50 x51 x52 h53)) fun k39 =>
 jn (fun (x56 x57 : Value) (h58 : Hs) =>
 kI64 .eql x56 a2 (fun x59 =>
 jn (fun (x61 : Value) (h62 : Hs) =>
 kI64 .sub a2 a1 (fun x63 =>
 kI64 .lss x63 (Value.int .i64 (.ofNat 50)) (fun x64 =>
 jn (fun (x66 : Value) (h67 : Hs) =>
 kI64 .sub x56 (Value.int .i64 (.ofNat 1)) (fun x68 =>
 kI64 .sub x56 (Value.int .i64 (.ofNat 1)) (fun x69 =>
 kIdxA 2 a0 x69 (fun x70 =>
 kLoads 2 x70 (Hs.mk h67.hp h67.nx h67.nx) (fun x71 =>
 kIdxA 2 a0 x56 (fun x72 =>
 kLoads 2 x72 (Hs.mk h67.hp h67.nx h67.nx) (fun x73 =>
 kIdxA 2 a0 x56 (fun x74 =>
 after (fun v192 u193 => dPut (fun x75 h76 =>
 kIdxA 2 a0 x68 (fun x77 =>
 after (fun v190 u191 => dPut (fun x78 h79 =>
 kI64 .sub x56 a1 (fun x80 =>
 kI64 .geq x80 (Value.int .i64 (.ofNat 2)) (fun x81 =>
 jn (fun (x83 x84 x85 : Value) (h86 : Hs) =>
 kI64 .sub a2 x56 (fun x87 =>
 kI64 .geq x87 (Value.int .i64 (.ofNat 2)) (fun x88 =>
 jn (fun (x90 x91 x92 : Value) (h93 : Hs) =>
 k39 x56 x57 x59 x64 x81 x83 x84 x85 x88 x90 x91 x92 x66 h93) fun k89 =>
 cnd x88
 (kI64 .add x56 (Value.int .i64 (.ofNat 1)) (fun x94 =>
 jn (fun (x96 x97 x98 : Value) (h99 : Hs) =>
 k89 x96 x97 x98 h99) fun k95 =>
 lpT (T := Value → Value → Value → Hs → An) (fun _ _ _ _ => none) N (fun k100 =>
 fun (x102 x103 x104 : Value) (h105 : Hs) =>
 kI64 .lss x102 a2 (fun x106 =>
 jn (fun (h108 : Hs) =>
 jn (fun (x110 : Value) (h111 : Hs) =>
 kI64 .add x102 (Value.int .i64 (.ofNat 1)) (fun x112 =>
 k100 x112 x106 x110 h111)) fun k109 =>
 kIdxA 2 a0 x102 (fun x113 =>
 kLoads 2 x113 (Hs.mk h108.hp h108.nx h108.nx) (fun x114 =>
 kI64 .sub x102 (Value.int .i64 (.ofNat 1)) (fun x115 =>
 kIdxA 2 a0 x115 (fun x116 =>
 kLoads 2 x116 (Hs.mk h108.hp h108.nx h108.nx) (fun x117 =>
 isVal (fun v140 u141 => dPut (fun x118 h119 =>
 kI64 .lss x118 (Value.int .i64 (.ofNat 0)) (fun x120 =>
 kNot x120 (fun x121 =>
 jn (fun (h123 : Hs) =>
 kI64 .sub x102 (Value.int .i64 (.ofNat 1)) (fun x124 =>
 kI64 .sub x102 (Value.int .i64 (.ofNat 1)) (fun x125 =>
 kIdxA 2 a0 x125 (fun x126 =>
 kLoads 2 x126 (Hs.mk h123.hp h123.nx h123.nx) (fun x127 =>
 kIdxA 2 a0 x102 (fun x128 =>
 kLoads 2 x128 (Hs.mk h123.hp h123.nx h123.nx) (fun x129 =>
 kIdxA 2 a0 x102 (fun x130 =>
 after (fun v138 u139 => dPut (fun x131 h132 =>
 kIdxA 2 a0 x124 (fun x133 =>
 after (fun v136 u137 => dPut (fun x134 h135 =>
 k109 x121 h135) v136 (dNext h132 u137 .bar) (andB (dFit h132 u137 .bar) (Nat.ble 0 u137.lo))) (store1 2 h132 (cellsL x129) (addrOf x133)))) v138 (dNext h123 u139 .bar) (andB (dFit h123 u139 .bar) (Nat.ble 0 u139.lo))) (store1 2 h123 (cellsL x127) (addrOf x130)))))))))) fun k122 =>
 cnd x121
 (k95 x102 x106 x121 h119)
 (k122 h119)))) v140 (dNext h108 u141 .bar) (andB (dFit h108 u141 .bar) (Nat.ble 0 u141.lo))) (callV (toRn R) [x114, x117] h108 a3))))))) fun k107 =>
 cnd x106
 (k107 h105)
 (k95 x102 x106 x104 h105))) x94 x32 x33 h86))
 (k89 x31 x32 x33 h86)))) fun k82 =>
 cnd x81
 (kI64 .sub x56 (Value.int .i64 (.ofNat 1)) (fun x142 =>
 jn (fun (x144 x145 x146 : Value) (h147 : Hs) =>
 k82 x144 x145 x146 h147) fun k143 =>
 lpT (T := Value → Value → Value → Hs → An) (fun _ _ _ _ => none) N (fun k148 =>
 fun (x150 x151 x152 : Value) (h153 : Hs) =>
 kI64 .geq x150 (Value.int .i64 (.ofNat 1)) (fun x154 =>
 jn (fun (h156 : Hs) =>
 jn (fun (x158 : Value) (h159 : Hs) =>
 kI64 .sub x150 (Value.int .i64 (.ofNat 1)) (fun x160 =>
 k148 x160 x154 x158 h159)) fun k157 =>
 kIdxA 2 a0 x150 (fun x161 =>
 kLoads 2 x161 (Hs.mk h156.hp h156.nx h156.nx) (fun x162 =>
 kI64 .sub x150 (Value.int .i64 (.ofNat 1)) (fun x163 =>
 kIdxA 2 a0 x163 (fun x164 =>
 kLoads 2 x164 (Hs.mk h156.hp h156.nx h156.nx) (fun x165 =>
 isVal (fun v188 u189 => dPut (fun x166 h167 =>
 kI64 .lss x166 (Value.int .i64 (.ofNat 0)) (fun x168 =>
 kNot x168 (fun x169 =>
 jn (fun (h171 : Hs) =>
 kI64 .sub x150 (Value.int .i64 (.ofNat 1)) (fun x172 =>
 kI64 .sub x150 (Value.int .i64 (.ofNat 1)) (fun x173 =>
 kIdxA 2 a0 x173 (fun x174 =>
 kLoads 2 x174 (Hs.mk h171.hp h171.nx h171.nx) (fun x175 =>
 kIdxA 2 a0 x150 (fun x176 =>
 kLoads 2 x176 (Hs.mk h171.hp h171.nx h171.nx) (fun x177 =>
 kIdxA 2 a0 x150 (fun x178 =>
 after (fun v186 u187 => dPut (fun x179 h180 =>
 kIdxA 2 a0 x172 (fun x181 =>
 after (fun v184 u185 => dPut (fun x182 h183 =>
 k157 x169 h183) v184 (dNext h180 u185 .bar) (andB (dFit h180 u185 .bar) (Nat.ble 0 u185.lo))) (store1 2 h180 (cellsL x177) (addrOf x181)))) v186 (dNext h171 u187 .bar) (andB (dFit h171 u187 .bar) (Nat.ble 0 u187.lo))) (store1 2 h171 (cellsL x175) (addrOf x178)))))))))) fun k170 =>
 cnd x169
 (k143 x150 x154 x169 h167)
 (k170 h167)))) v188 (dNext h156 u189 .bar) (andB (dFit h156 u189 .bar) (Nat.ble 0 u189.lo))) (callV (toRn R) [x162, x165] h156 a3))))))) fun k155 =>
 cnd x154
 (k155 h153)
 (k143 x150 x154 x152 h153))) x142 x28 x29 h79))
 (k82 x27 x28 x29 h79)))) v190 (dNext h76 u191 .bar) (andB (dFit h76 u191 .bar) (Nat.ble 0 u191.lo))) (store1 2 h76 (cellsL x73) (addrOf x77)))) v192 (dNext h67 u193 .bar) (andB (dFit h67 u193 .bar) (Nat.ble 0 u193.lo))) (store1 2 h67 (cellsL x71) (addrOf x74)))))))))) fun k65 =>
 cnd x64
 (clrK h (Value.bool false) h62)
 (k65 x61 h62)))) fun k60 =>
 cnd x59
 (clrK h (Value.bool true) h58)
 (k60 x34 h58))) fun k55 =>
 lpT (T := Value → Value → Hs → An) (fun _ _ _ => none) N (fun k194 =>
 fun (x196 x197 : Value) (h198 : Hs) =>
 kI64 .lss x196 a2 (fun x199 =>
 gdT x199 h198 (fun k200 => k200 a3 h198) (fun x201 _ =>
 gdT x199 h198 (fun k203 => k203 a0 h198) (fun x204 _ =>
 gdT x199 h198 (fun k206 => k206 x196 h198) (fun x207 _ =>
 gdT x199 h198 (fun k209 => kIdxA 2 x204 x207 (fun x210 => k209 x210 h198)) (fun x211 _ =>
 gdT x199 h198 (fun k213 => kLoads 2 x211 (Hs.mk h198.hp h198.nx h198.nx) (fun x214 => k213 x214 h198)) (fun x215 _ =>
 gdT x199 h198 (fun k217 => k217 a0 h198) (fun x218 _ =>
 gdT x199 h198 (fun k220 => k220 x196 h198) (fun x221 _ =>
 gdT x199 h198 (fun k223 => kI64 .sub x221 (Value.int .i64 (.ofNat 1)) (fun x224 => k223 x224 h198)) (fun x225 _ =>
 gdT x199 h198 (fun k227 => kIdxA 2 x218 x225 (fun x228 => k227 x228 h198)) (fun x229 _ =>
 gdT x199 h198 (fun k231 => kLoads 2 x229 (Hs.mk h198.hp h198.nx h198.nx) (fun x232 => k231 x232 h198)) (fun x233 _ =>
 gdT x199 h198 (fun k235 => isVal (fun v236 u237 => dPut k235 v236 (dNext h198 u237 .bar) (andB (dFit h198 u237 .bar) (Nat.ble 0 u237.lo))) (callV (toRn R) [x215, x233] h198 x201)) (fun x238 h239 =>
 gdT x199 h239 (fun k240 => kI64 .lss x238 (Value.int .i64 (.ofNat 0)) (fun x241 => k240 x241 h239)) (fun x242 _ =>
 gdT x199 h239 (fun k244 => kNot x242 (fun x245 => k244 x245 h239)) (fun x246 _ =>
 after (fun v256 u257 => dPut (fun x248 h249 =>
 jn (fun (h251 : Hs) =>
 jn (fun (x253 : Value) (h254 : Hs) =>
 k194 x253 x248 h254) fun k252 =>
 kI64 .add x196 (Value.int .i64 (.ofNat 1)) (fun x255 =>
 k252 x255 h251)) fun k250 =>
 cnd x248
 (k250 h249)
 (k55 x196 x248 h249)) v256 (dNext h239 u257 .blind) (andB (dFit h239 u257 .blind) (Nat.ble 0 u257.lo))) (pickB (.c x246) (.c (Value.bool false)) enE (Hs.mk .e h239.nx h239.nx) x199)))))))))))))))) x22 x23 h38) fun k37 =>
 cnd x36
 (k37 h35)
 (k1 x20 x36 x22 x23 x24 x25 x26 x27 x28 x29 x30 x31 x32 x33 x34 h35))) (Value.int .i64 (.ofNat 0)) dunno x0 dunno dunno dunno dunno dunno dunno dunno dunno dunno dunno dunno (Value.bool false) h0)

theorem q48 (R : RnK) (N : Nat) (args : List Value) (h : Hs) : r48 R N args h = callT Try.prog N R 48 args h := by kernel_rfl

/-- slices.partitionEqualCmpFunc[lintel/node.Run] -/
noncomputable def r49 (R : RnK) (N : Nat) (args : List Value) (h : Hs) : An := unC args fun a0 sq0 => unC sq0 fun a1 sq1 => unC sq1 fun a2 sq2 => unC sq2 fun a3 sq3 => unC sq3 fun a4 sq4 => enK h fun h0 =>
 kIdxA 2 a0 a3 (fun x0 =>
 kLoads 2 x0 (Hs.mk h0.hp h0.nx h0.nx) (fun x1 =>
 kIdxA 2 a0 a1 (fun x2 =>
 kLoads 2 x2 (Hs.mk h0.hp h0.nx h0.nx) (fun x3 =>
 kIdxA 2 a0 a1 (fun x4 =>
 after (fun v179 u180 => dPut (fun x5 h6 =>
 kIdxA 2 a0 a3 (fun x7 =>
 after (fun v177 u178 => dPut (fun x8 h9 =>
 kI64 .add a1 (Value.int .i64 (.ofNat 1)) (fun x10 =>
 kI64 .sub a2 (Value.int .i64 (.ofNat 1)) (fun x11 =>
 jn (fun (x13 x14 x15 x16 x17 : Value) (h18 : Hs) =>
 clrK h x13 h18) fun k12 =>
 lpT (T := Value → Value → Value → Value → Value → Hs → An) (fun _ _ _ _ _ _ => none) N (fun k19 =>
 fun (x21 x22 x23 x24 x25 : Value) (h26 : Hs) =>
 jn (fun (x28 x29 x30 x31 x32 : Value) (h33 : Hs) =>
 k19 x28 x29 x30 x31 x32 h33) fun k27 =>
 jn (fun (x35 x36 : Value) (h37 : Hs) =>
 jn (fun (x39 x40 : Value) (h41 : Hs) =>
 kI64 .gtr x35 x39 (fun x42 =>
 jn (fun (h44 : Hs) =>
 kIdxA 2 a0 x39 (fun x45 =>
 kLoads 2 x45 (Hs.mk h44.hp h44.nx h44.nx) (fun x46 =>
 kIdxA 2 a0 x35 (fun x47 =>
 kLoads 2 x47 (Hs.mk h44.hp h44.nx h44.nx) (fun x48 =>
 kIdxA 2 a0 x35 (fun x49 =>
 after (fun v59 u60 => dPut (fun x50 h51 =>
 kIdxA 2 a0 x39 (fun x52 =>
 after (fun v57 u58 => dPut (fun x53 h54 =>
 kI64 .add x35 (Value.int .i64 (.ofNat 1)) (fun x55 =>
 kI64 .sub x39 (Value.int .i64 (.ofNat 1)) (fun x56 =>
 k27 x55 x56 x36 x40 x42 h54))) v57 (dNext h51 u58 .bar) (andB (dFit h51 u58 .bar) (Nat.ble 0 u58.lo))) (store1 2 h51 (cellsL x48) (addrOf x52)))) v59 (dNext h44 u60 .bar) (andB (dFit h44 u60 .bar) (Nat.ble 0 u60.lo))) (store1 2 h44 (cellsL x46) (addrOf x49)))))))) fun k43 =>
 cnd x42
 (k12 x35 x39 x36 x40 x42 h41)
 (k43 h41))) fun k38 =>
 lpT (T := Value → Value → Hs → An) (fun _ _ _ => none) N (fun k61 =>
 fun (x63 x64 : Value) (h65 : Hs) =>
 kI64 .leq x35 x63 (fun x66 =>
 gdT x66 h65 (fun k67 => k67 a4 h65) (fun x68 _ =>
 gdT x66 h65 (fun k70 => k70 a0 h65) (fun x71 _ =>
 gdT x66 h65 (fun k73 => k73 a1 h65) (fun x74 _ =>
 gdT x66 h65 (fun k76 => kIdxA 2 x71 x74 (fun x77 => k76 x77 h65)) (fun x78 _ =>
 gdT x66 h65 (fun k80 => kLoads 2 x78 (Hs.mk h65.hp h65.nx h65.nx) (fun x81 => k80 x81 h65)) (fun x82 _ =>
 gdT x66 h65 (fun k84 => k84 a0 h65) (fun x85 _ =>
 gdT x66 h65 (fun k87 => k87 x63 h65) (fun x88 _ =>
 gdT x66 h65 (fun k90 => kIdxA 2 x85 x88 (fun x91 => k90 x91 h65)) (fun x92 _ =>
 gdT x66 h65 (fun k94 => kLoads 2 x92 (Hs.mk h65.hp h65.nx h65.nx) (fun x95 => k94 x95 h65)) (fun x96 _ =>
 gdT x66 h65 (fun k98 => isVal (fun v99 u100 => dPut k98 v99 (dNext h65 u100 .bar) (andB (dFit h65 u100 .bar) (Nat.ble 0 u100.lo))) (callV (toRn R) [x82, x96] h65 x68)) (fun x101 h102 =>
 gdT x66 h102 (fun k103 => kI64 .lss x101 (Value.int .i64 (.ofNat 0)) (fun x104 => k103 x104 h102)) (fun x105 _ =>
 after (fun v115 u116 => dPut (fun x107 h108 =>
 jn (fun (h110 : Hs) =>
 jn (fun (x112 : Value) (h113 : Hs) =>
 k61 x112 x107 h113) fun k111 =>
 kI64 .sub x63 (Value.int .i64 (.ofNat 1)) (fun x114 =>
 k111 x114 h110)) fun k109 =>
 cnd x107
 (k109 h108)
 (k38 x63 x107 h108)) v115 (dNext h102 u116 .blind) (andB (dFit h102 u116 .blind) (Nat.ble 0 u116.lo))) (pickB (.c x105) (.c (Value.bool false)) enE (Hs.mk .e h102.nx h102.nx) x66)))))))))))))) x22 x24 h37) fun k34 =>
 lpT (T := Value → Value → Hs → An) (fun _ _ _ => none) N (fun k117 =>
 fun (x119 x120 : Value) (h121 : Hs) =>
 kI64 .leq x119 x22 (fun x122 =>
 gdT x122 h121 (fun k123 => k123 a4 h121) (fun x124 _ =>
 gdT x122 h121 (fun k126 => k126 a0 h121) (fun x127 _ =>
 gdT x122 h121 (fun k129 => k129 a1 h121) (fun x130 _ =>
 gdT x122 h121 (fun k132 => kIdxA 2 x127 x130 (fun x133 => k132 x133 h121)) (fun x134 _ =>
 gdT x122 h121 (fun k136 => kLoads 2 x134 (Hs.mk h121.hp h121.nx h121.nx) (fun x137 => k136 x137 h121)) (fun x138 _ =>
 gdT x122 h121 (fun k140 => k140 a0 h121) (fun x141 _ =>
 gdT x122 h121 (fun k143 => k143 x119 h121) (fun x144 _ =>
 gdT x122 h121 (fun k146 => kIdxA 2 x141 x144 (fun x147 => k146 x147 h121)) (fun x148 _ =>
 gdT x122 h121 (fun k150 => kLoads 2 x148 (Hs.mk h121.hp h121.nx h121.nx) (fun x151 => k150 x151 h121)) (fun x152 _ =>
 gdT x122 h121 (fun k154 => isVal (fun v155 u156 => dPut k154 v155 (dNext h121 u156 .bar) (andB (dFit h121 u156 .bar) (Nat.ble 0 u156.lo))) (callV (toRn R) [x138, x152] h121 x124)) (fun x157 h158 =>
 gdT x122 h158 (fun k159 => kI64 .lss x157 (Value.int .i64 (.ofNat 0)) (fun x160 => k159 x160 h158)) (fun x161 _ =>
 gdT x122 h158 (fun k163 => kNot x161 (fun x164 => k163 x164 h158)) (fun x165 _ =>
 after (fun v175 u176 => dPut (fun x167 h168 =>
 jn (fun (h170 : Hs) =>
 jn (fun (x172 : Value) (h173 : Hs) =>
 k117 x172 x167 h173) fun k171 =>
 kI64 .add x119 (Value.int .i64 (.ofNat 1)) (fun x174 =>
 k171 x174 h170)) fun k169 =>
 cnd x167
 (k169 h168)
 (k34 x119 x167 h168)) v175 (dNext h158 u176 .blind) (andB (dFit h158 u176 .blind) (Nat.ble 0 u176.lo))) (pickB (.c x165) (.c (Value.bool false)) enE (Hs.mk .e h158.nx h158.nx) x122))))))))))))))) x21 x23 h26) x10 x11 dunno dunno dunno h9))) v177 (dNext h6 u178 .bar) (andB (dFit h6 u178 .bar) (Nat.ble 0 u178.lo))) (store1 2 h6 (cellsL x3) (addrOf x7)))) v179 (dNext h0 u180 .bar) (andB (dFit h0 u180 .bar) (Nat.ble 0 u180.lo))) (store1 2 h0 (cellsL x1) (addrOf x4)))))))

theorem q49 (R : RnK) (N : Nat) (args : List Value) (h : Hs) : r49 R N args h = callT Try.prog N R 49 args h := by kernel_rfl

/-- slices.partitionCmpFunc[lintel/node.Run] -/
noncomputable def r50 (R : RnK) (N : Nat) (args : List Value) (h : Hs) : An := unC args fun a0 sq0 => unC sq0 fun a1 sq1 => unC sq1 fun a2 sq2 => unC sq2 fun a3 sq3 => unC sq3 fun a4 sq4 => enK h fun h0 =>
 kIdxA 2 a0 a3 (fun x0 =>
 kLoads 2 x0 (Hs.mk h0.hp h0.nx h0.nx) (fun x1 =>
 kIdxA 2 a0 a1 (fun x2 =>
 kLoads 2 x2 (Hs.mk h0.hp h0.nx h0.nx) (fun x3 =>
 kIdxA 2 a0 a1 (fun x4 =>
 after (fun v352 u353 => dPut (fun x5 h6 =>
 kIdxA 2 a0 a3 (fun x7 =>
 after (fun v350 u351 => dPut (fun x8 h9 =>
 kI64 .add a1 (Value.int .i64 (.ofNat 1)) (fun x10 =>
 kI64 .sub a2 (Value.int .i64 (.ofNat 1)) (fun x11 =>
 jn (fun (x13 x14 : Value) (h15 : Hs) =>
 jn (fun (x17 x18 : Value) (h19 : Hs) =>
 kI64 .gtr x13 x17 (fun x20 =>
 jn (fun (x22 x23 : Value) (h24 : Hs) =>
 kIdxA 2 a0 x17 (fun x25 =>
 kLoads 2 x25 (Hs.mk h24.hp h24.nx h24.nx) (fun x26 =>
 kIdxA 2 a0 x13 (fun x27 =>
 kLoads 2 x27 (Hs.mk h24.hp h24.nx h24.nx) (fun x28 =>
 kIdxA 2 a0 x13 (fun x29 =>
 after (fun v218 u219 => dPut (fun x30 h31 =>
 kIdxA 2 a0 x17 (fun x32 =>
 after (fun v216 u217 => dPut (fun x33 h34 =>
 kI64 .add x13 (Value.int .i64 (.ofNat 1)) (fun x35 =>
 kI64 .sub x17 (Value.int .i64 (.ofNat 1)) (fun x36 =>
 jn (fun (x38 x39 x40 x41 x42 : Value) (h43 : Hs) =>
 kIdxA 2 a0 a1 (fun x44 =>
 kLoads 2 x44 (Hs.mk h43.hp h43.nx h43.nx) (fun x45 =>
 kIdxA 2 a0 x39 (fun x46 =>
 kLoads 2 x46 (Hs.mk h43.hp h43.nx h43.nx) (fun x47 =>
 kIdxA 2 a0 x39 (fun x48 =>
 after (fun v56 u57 => dPut (fun x49 h50 =>
 kIdxA 2 a0 a1 (fun x51 =>
 after (fun v54 u55 => dPut (fun x52 h53 =>
 clrK h (Value.tuple #[x39, (Value.bool false)]) h53) v54 (dNext h50 u55 .bar) (andB (dFit h50 u55 .bar) (Nat.ble 0 u55.lo))) (store1 2 h50 (cellsL x47) (addrOf x51)))) v56 (dNext h43 u57 .bar) (andB (dFit h43 u57 .bar) (Nat.ble 0 u57.lo))) (store1 2 h43 (cellsL x45) (addrOf x48)))))))) fun k37 =>
 lpT (T := Value → Value → Value → Value → Value → Hs → An) (fun _ _ _ _ _ _ => none) N (fun k58 =>
 fun (x60 x61 x62 x63 x64 : Value) (h65 : Hs) =>
 jn (fun (x67 x68 x69 x70 x71 : Value) (h72 : Hs) =>
 k58 x67 x68 x69 x70 x71 h72) fun k66 =>
 jn (fun (x74 x75 : Value) (h76 : Hs) =>
 jn (fun (x78 x79 : Value) (h80 : Hs) =>
 kI64 .gtr x74 x78 (fun x81 =>
 jn (fun (h83 : Hs) =>
 kIdxA 2 a0 x78 (fun x84 =>
 kLoads 2 x84 (Hs.mk h83.hp h83.nx h83.nx) (fun x85 =>
 kIdxA 2 a0 x74 (fun x86 =>
 kLoads 2 x86 (Hs.mk h83.hp h83.nx h83.nx) (fun x87 =>
 kIdxA 2 a0 x74 (fun x88 =>
 after (fun v98 u99 => dPut (fun x89 h90 =>
 kIdxA 2 a0 x78 (fun x91 =>
 after (fun v96 u97 => dPut (fun x92 h93 =>
 kI64 .add x74 (Value.int .i64 (.ofNat 1)) (fun x94 =>
 kI64 .sub x78 (Value.int .i64 (.ofNat 1)) (fun x95 =>
 k66 x94 x95 x75 x79 x81 h93))) v96 (dNext h90 u97 .bar) (andB (dFit h90 u97 .bar) (Nat.ble 0 u97.lo))) (store1 2 h90 (cellsL x87) (addrOf x91)))) v98 (dNext h83 u99 .bar) (andB (dFit h83 u99 .bar) (Nat.ble 0 u99.lo))) (store1 2 h83 (cellsL x85) (addrOf x88)))))))) fun k82 =>
 cnd x81
 (k37 x74 x78 x75 x79 x81 h80)
 (k82 h80))) fun k77 =>
 lpT (T := Value → Value → Hs → An) (fun _ _ _ => none) N (fun k100 =>
 fun (x102 x103 : Value) (h104 : Hs) =>
 kI64 .leq x74 x102 (fun x105 =>
 gdT x105 h104 (fun k106 => k106 a4 h104) (fun x107 _ =>
 gdT x105 h104 (fun k109 => k109 a0 h104) (fun x110 _ =>
 gdT x105 h104 (fun k112 => k112 x102 h104) (fun x113 _ =>
 gdT x105 h104 (fun k115 => kIdxA 2 x110 x113 (fun x116 => k115 x116 h104)) (fun x117 _ =>
 gdT x105 h104 (fun k119 => kLoads 2 x117 (Hs.mk h104.hp h104.nx h104.nx) (fun x120 => k119 x120 h104)) (fun x121 _ =>
 gdT x105 h104 (fun k123 => k123 a0 h104) (fun x124 _ =>
 gdT x105 h104 (fun k126 => k126 a1 h104) (fun x127 _ =>
 gdT x105 h104 (fun k129 => kIdxA 2 x124 x127 (fun x130 => k129 x130 h104)) (fun x131 _ =>
 gdT x105 h104 (fun k133 => kLoads 2 x131 (Hs.mk h104.hp h104.nx h104.nx) (fun x134 => k133 x134 h104)) (fun x135 _ =>
 gdT x105 h104 (fun k137 => isVal (fun v138 u139 => dPut k137 v138 (dNext h104 u139 .bar) (andB (dFit h104 u139 .bar) (Nat.ble 0 u139.lo))) (callV (toRn R) [x121, x135] h104 x107)) (fun x140 h141 =>
 gdT x105 h141 (fun k142 => kI64 .lss x140 (Value.int .i64 (.ofNat 0)) (fun x143 => k142 x143 h141)) (fun x144 _ =>
 gdT x105 h141 (fun k146 => kNot x144 (fun x147 => k146 x147 h141)) (fun x148 _ =>
 after (fun v158 u159 => dPut (fun x150 h151 =>
 jn (fun (h153 : Hs) =>
 jn (fun (x155 : Value) (h156 : Hs) =>
 k100 x155 x150 h156) fun k154 =>
 kI64 .sub x102 (Value.int .i64 (.ofNat 1)) (fun x157 =>
 k154 x157 h153)) fun k152 =>
 cnd x150
 (k152 h151)
 (k77 x102 x150 h151)) v158 (dNext h141 u159 .blind) (andB (dFit h141 u159 .blind) (Nat.ble 0 u159.lo))) (pickB (.c x148) (.c (Value.bool false)) enE (Hs.mk .e h141.nx h141.nx) x105))))))))))))))) x61 x63 h76) fun k73 =>
 lpT (T := Value → Value → Hs → An) (fun _ _ _ => none) N (fun k160 =>
 fun (x162 x163 : Value) (h164 : Hs) =>
 kI64 .leq x162 x61 (fun x165 =>
 gdT x165 h164 (fun k166 => k166 a4 h164) (fun x167 _ =>
 gdT x165 h164 (fun k169 => k169 a0 h164) (fun x170 _ =>
 gdT x165 h164 (fun k172 => k172 x162 h164) (fun x173 _ =>
 gdT x165 h164 (fun k175 => kIdxA 2 x170 x173 (fun x176 => k175 x176 h164)) (fun x177 _ =>
 gdT x165 h164 (fun k179 => kLoads 2 x177 (Hs.mk h164.hp h164.nx h164.nx) (fun x180 => k179 x180 h164)) (fun x181 _ =>
 gdT x165 h164 (fun k183 => k183 a0 h164) (fun x184 _ =>
 gdT x165 h164 (fun k186 => k186 a1 h164) (fun x187 _ =>
 gdT x165 h164 (fun k189 => kIdxA 2 x184 x187 (fun x190 => k189 x190 h164)) (fun x191 _ =>
 gdT x165 h164 (fun k193 => kLoads 2 x191 (Hs.mk h164.hp h164.nx h164.nx) (fun x194 => k193 x194 h164)) (fun x195 _ =>
 gdT x165 h164 (fun k197 => isVal (fun v198 u199 => dPut k197 v198 (dNext h164 u199 .bar) (andB (dFit h164 u199 .bar) (Nat.ble 0 u199.lo))) (callV (toRn R) [x181, x195] h164 x167)) (fun x200 h201 =>
 gdT x165 h201 (fun k202 => kI64 .lss x200 (Value.int .i64 (.ofNat 0)) (fun x203 => k202 x203 h201)) (fun x204 _ =>
 after (fun v214 u215 => dPut (fun x206 h207 =>
 jn (fun (h209 : Hs) =>
 jn (fun (x211 : Value) (h212 : Hs) =>
 k160 x211 x206 h212) fun k210 =>
 kI64 .add x162 (Value.int .i64 (.ofNat 1)) (fun x213 =>
 k210 x213 h209)) fun k208 =>
 cnd x206
 (k208 h207)
 (k73 x162 x206 h207)) v214 (dNext h201 u215 .blind) (andB (dFit h201 u215 .blind) (Nat.ble 0 u215.lo))) (pickB (.c x204) (.c (Value.bool false)) enE (Hs.mk .e h201.nx h201.nx) x165)))))))))))))) x60 x62 h65) x35 x36 dunno dunno dunno h34))) v216 (dNext h31 u217 .bar) (andB (dFit h31 u217 .bar) (Nat.ble 0 u217.lo))) (store1 2 h31 (cellsL x28) (addrOf x32)))) v218 (dNext h24 u219 .bar) (andB (dFit h24 u219 .bar) (Nat.ble 0 u219.lo))) (store1 2 h24 (cellsL x26) (addrOf x29)))))))) fun k21 =>
 cnd x20
 (kIdxA 2 a0 a1 (fun x220 =>
 kLoads 2 x220 (Hs.mk h19.hp h19.nx h19.nx) (fun x221 =>
 kIdxA 2 a0 x17 (fun x222 =>
 kLoads 2 x222 (Hs.mk h19.hp h19.nx h19.nx) (fun x223 =>
 kIdxA 2 a0 x17 (fun x224 =>
 after (fun v232 u233 => dPut (fun x225 h226 =>
 kIdxA 2 a0 a1 (fun x227 =>
 after (fun v230 u231 => dPut (fun x228 h229 =>
 clrK h (Value.tuple #[x17, (Value.bool true)]) h229) v230 (dNext h226 u231 .bar) (andB (dFit h226 u231 .bar) (Nat.ble 0 u231.lo))) (store1 2 h226 (cellsL x223) (addrOf x227)))) v232 (dNext h19 u233 .bar) (andB (dFit h19 u233 .bar) (Nat.ble 0 u233.lo))) (store1 2 h19 (cellsL x221) (addrOf x224))))))))
 (k21 (Value.int .i64 (.ofNat 0)) (Value.bool false) h19))) fun k16 =>
 lpT (T := Value → Value → Hs → An) (fun _ _ _ => none) N (fun k234 =>
 fun (x236 x237 : Value) (h238 : Hs) =>
 kI64 .leq x13 x236 (fun x239 =>
 gdT x239 h238 (fun k240 => k240 a4 h238) (fun x241 _ =>
 gdT x239 h238 (fun k243 => k243 a0 h238) (fun x244 _ =>
 gdT x239 h238 (fun k246 => k246 x236 h238) (fun x247 _ =>
 gdT x239 h238 (fun k249 => kIdxA 2 x244 x247 (fun x250 => k249 x250 h238)) (fun x251 _ =>
 gdT x239 h238 (fun k253 => kLoads 2 x251 (Hs.mk h238.hp h238.nx h238.nx) (fun x254 => k253 x254 h238)) (fun x255 _ =>
 gdT x239 h238 (fun k257 => k257 a0 h238) (fun x258 _ =>
 gdT x239 h238 (fun k260 => k260 a1 h238) (fun x261 _ =>
 gdT x239 h238 (fun k263 => kIdxA 2 x258 x261 (fun x264 => k263 x264 h238)) (fun x265 _ =>
 gdT x239 h238 (fun k267 => kLoads 2 x265 (Hs.mk h238.hp h238.nx h238.nx) (fun x268 => k267 x268 h238)) (fun x269 _ =>
 gdT x239 h238 (fun k271 => isVal (fun v272 u273 => dPut k271 v272 (dNext h238 u273 .bar) (andB (dFit h238 u273 .bar) (Nat.ble 0 u273.lo))) (callV (toRn R) [x255, x269] h238 x241)) (fun x274 h275 =>
 gdT x239 h275 (fun k276 => kI64 .lss x274 (Value.int .i64 (.ofNat 0)) (fun x277 => k276 x277 h275)) (fun x278 _ =>
 gdT x239 h275 (fun k280 => kNot x278 (fun x281 => k280 x281 h275)) (fun x282 _ =>
 after (fun v292 u293 => dPut (fun x284 h285 =>
 jn (fun (h287 : Hs) =>
 jn (fun (x289 : Value) (h290 : Hs) =>
 k234 x289 x284 h290) fun k288 =>
 kI64 .sub x236 (Value.int .i64 (.ofNat 1)) (fun x291 =>
 k288 x291 h287)) fun k286 =>
 cnd x284
 (k286 h285)
 (k16 x236 x284 h285)) v292 (dNext h275 u293 .blind) (andB (dFit h275 u293 .blind) (Nat.ble 0 u293.lo))) (pickB (.c x282) (.c (Value.bool false)) enE (Hs.mk .e h275.nx h275.nx) x239))))))))))))))) x11 dunno h15) fun k12 =>
 lpT (T := Value → Value → Hs → An) (fun _ _ _ => none) N (fun k294 =>
 fun (x296 x297 : Value) (h298 : Hs) =>
 kI64 .leq x296 x11 (fun x299 =>
 gdT x299 h298 (fun k300 => k300 a4 h298) (fun x301 _ =>
 gdT x299 h298 (fun k303 => k303 a0 h298) (fun x304 _ =>
 gdT x299 h298 (fun k306 => k306 x296 h298) (fun x307 _ =>
 gdT x299 h298 (fun k309 => kIdxA 2 x304 x307 (fun x310 => k309 x310 h298)) (fun x311 _ =>
 gdT x299 h298 (fun k313 => kLoads 2 x311 (Hs.mk h298.hp h298.nx h298.nx) (fun x314 => k313 x314 h298)) (fun x315 _ =>
 gdT x299 h298 (fun k317 => k317 a0 h298) (fun x318 _ =>
 gdT x299 h298 (fun k320 => k320 a1 h298) (fun x321 _ =>
 gdT x299 h298 (fun k323 => kIdxA 2 x318 x321 (fun x324 => k323 x324 h298)) (fun x325 _ =>
 gdT x299 h298 (fun k327 => kLoads 2 x325 (Hs.mk h298.hp h298.nx h298.nx) (fun x328 => k327 x328 h298)) (fun x329 _ =>
 gdT x299 h298 (fun k331 => isVal (fun v332 u333 => dPut k331 v332 (dNext h298 u333 .bar) (andB (dFit h298 u333 .bar) (Nat.ble 0 u333.lo))) (callV (toRn R) [x315, x329] h298 x301)) (fun x334 h335 =>
 gdT x299 h335 (fun k336 => kI64 .lss x334 (Value.int .i64 (.ofNat 0)) (fun x337 => k336 x337 h335)) (fun x338 _ =>
 after (fun v348 u349 => dPut (fun x340 h341 =>
 jn (fun (h343 : Hs) =>
 jn (fun (x345 : Value) (h346 : Hs) =>
 k294 x345 x340 h346) fun k344 =>
 kI64 .add x296 (Value.int .i64 (.ofNat 1)) (fun x347 =>
 k344 x347 h343)) fun k342 =>
 cnd x340
 (k342 h341)
 (k12 x296 x340 h341)) v348 (dNext h335 u349 .blind) (andB (dFit h335 u349 .blind) (Nat.ble 0 u349.lo))) (pickB (.c x338) (.c (Value.bool false)) enE (Hs.mk .e h335.nx h335.nx) x299)))))))))))))) x10 dunno h9))) v350 (dNext h6 u351 .bar) (andB (dFit h6 u351 .bar) (Nat.ble 0 u351.lo))) (store1 2 h6 (cellsL x3) (addrOf x7)))) v352 (dNext h0 u353 .bar) (andB (dFit h0 u353 .bar) (Nat.ble 0 u353.lo))) (store1 2 h0 (cellsL x1) (addrOf x4)))))))

theorem q50 (R : RnK) (N : Nat) (args : List Value) (h : Hs) : r50 R N args h = callT Try.prog N R 50 args h := by kernel_rfl

/-- math/bits.Len32 -/
noncomputable def r51 (R : RnK) (N : Nat) (args : List Value) (h : Hs) : An := unC args fun a0 sq0 => enK h fun h0 =>
 obK (fun x0 =>
 jn (fun (x2 x3 : Value) (h4 : Hs) =>
 obK (fun x5 =>
 jn (fun (x7 x8 : Value) (h9 : Hs) =>
 kTo8 x7 (fun x10 =>
 after (fun x11 h12 =>
 kTo64 x11 (fun x13 =>
 kI64 .add x8 x13 (fun x14 =>
 clrK h x14 h12))) (oIdxS (.c (Value.string ⟨#[0, 1, 2, 2, 3, 3, 3, 3, 4, 4, 4, 4, 4, 4, 4, 4, 5, 5, 5, 5, 5, 5, 5, 5, 5, 5, 5, 5, 5, 5, 5, 5, 6, 6, 6, 6, 6, 6, 6, 6, 6, 6, 6, 6, 6, 6, 6, 6, 6, 6, 6, 6, 6, 6, 6, 6, 6, 6, 6, 6, 6, 6, 6, 6, 7, 7, 7, 7, 7, 7, 7, 7, 7, 7, 7, 7, 7, 7, 7, 7, 7, 7, 7, 7, 7, 7, 7, 7, 7, 7, 7, 7, 7, 7, 7, 7, 7, 7, 7, 7, 7, 7, 7, 7, 7, 7, 7, 7, 7, 7, 7, 7, 7, 7, 7, 7, 7, 7, 7, 7, 7, 7, 7, 7, 7, 7, 7, 7, 8, 8, 8, 8, 8, 8, 8, 8, 8, 8, 8, 8, 8, 8, 8, 8, 8, 8, 8, 8, 8, 8, 8, 8, 8, 8, 8, 8, 8, 8, 8, 8, 8, 8, 8, 8, 8, 8, 8, 8, 8, 8, 8, 8, 8, 8, 8, 8, 8, 8, 8, 8, 8, 8, 8, 8, 8, 8, 8, 8, 8, 8, 8, 8, 8, 8, 8, 8, 8, 8, 8, 8, 8, 8, 8, 8, 8, 8, 8, 8, 8, 8, 8, 8, 8, 8, 8, 8, 8, 8, 8, 8, 8, 8, 8, 8, 8, 8, 8, 8, 8, 8, 8, 8, 8, 8, 8, 8, 8, 8, 8, 8, 8, 8, 8, 8, 8, 8, 8, 8, 8, 8, 8, 8, 8, 8, 8, 8]⟩)) (.c x10) enE h9))) fun k6 =>
 cnd x5
 (kShr x2 (Value.int .u64 (.ofNat 8)) (fun x15 =>
 kI64 .add x3 (Value.int .i64 (.ofNat 8)) (fun x16 =>
 k6 x15 x16 h4)))
 (k6 x2 x3 h4)) (i2 (fOf .geq) x2 (Value.int .u32 (.ofNat 256)))) fun k1 =>
 cnd x0
 (kShr a0 (Value.int .u64 (.ofNat 16)) (fun x17 =>
 k1 x17 (Value.int .i64 (.ofNat 16)) h0))
 (k1 a0 (Value.int .i64 (.ofNat 0)) h0)) (i2 (fOf .geq) a0 (Value.int .u32 (.ofNat 65536)))

theorem q51 (R : RnK) (N : Nat) (args : List Value) (h : Hs) : r51 R N args h = callT Try.prog N R 51 args h := by kernel_rfl

/-- math/bits.Len64 -/
noncomputable def r52 (R : RnK) (N : Nat) (args : List Value) (h : Hs) : An := unC args fun a0 sq0 => enK h fun h0 =>
 kU64 .geq a0 (Value.int .u64 (.ofNat 4294967296)) (fun x0 =>
 jn (fun (x2 x3 : Value) (h4 : Hs) =>
 kU64 .geq x2 (Value.int .u64 (.ofNat 65536)) (fun x5 =>
 jn (fun (x7 x8 : Value) (h9 : Hs) =>
 kU64 .geq x7 (Value.int .u64 (.ofNat 256)) (fun x10 =>
 jn (fun (x12 x13 : Value) (h14 : Hs) =>
 kTo8 x12 (fun x15 =>
 after (fun x16 h17 =>
 kTo64 x16 (fun x18 =>
 kI64 .add x13 x18 (fun x19 =>
 clrK h x19 h17))) (oIdxS (.c (Value.string ⟨#[0, 1, 2, 2, 3, 3, 3, 3, 4, 4, 4, 4, 4, 4, 4, 4, 5, 5, 5, 5, 5, 5, 5, 5, 5, 5, 5, 5, 5, 5, 5, 5, 6, 6, 6, 6, 6, 6, 6, 6, 6, 6, 6, 6, 6, 6, 6, 6, 6, 6, 6, 6, 6, 6, 6, 6, 6, 6, 6, 6, 6, 6, 6, 6, 7, 7, 7, 7, 7, 7, 7, 7, 7, 7, 7, 7, 7, 7, 7, 7, 7, 7, 7, 7, 7, 7, 7, 7, 7, 7, 7, 7, 7, 7, 7, 7, 7, 7, 7, 7, 7, 7, 7, 7, 7, 7, 7, 7, 7, 7, 7, 7, 7, 7, 7, 7, 7, 7, 7, 7, 7, 7, 7, 7, 7, 7, 7, 7, 8, 8, 8, 8, 8, 8, 8, 8, 8, 8, 8, 8, 8, 8, 8, 8, 8, 8, 8, 8, 8, 8, 8, 8, 8, 8, 8, 8, 8, 8, 8, 8, 8, 8, 8, 8, 8, 8, 8, 8, 8, 8, 8, 8, 8, 8, 8, 8, 8, 8, 8, 8, 8, 8, 8, 8, 8, 8, 8, 8, 8, 8, 8, 8, 8, 8, 8, 8, 8, 8, 8, 8, 8, 8, 8, 8, 8, 8, 8, 8, 8, 8, 8, 8, 8, 8, 8, 8, 8, 8, 8, 8, 8, 8, 8, 8, 8, 8, 8, 8, 8, 8, 8, 8, 8, 8, 8, 8, 8, 8, 8, 8, 8, 8, 8, 8, 8, 8, 8, 8, 8, 8, 8, 8, 8, 8, 8, 8]⟩)) (.c x15) enE h14))) fun k11 =>
 cnd x10
 (kShr x7 (Value.int .u64 (.ofNat 8)) (fun x20 =>
 kI64 .add x8 (Value.int .i64 (.ofNat 8)) (fun x21 =>
 k11 x20 x21 h9)))
 (k11 x7 x8 h9))) fun k6 =>
 cnd x5
 (kShr x2 (Value.int .u64 (.ofNat 16)) (fun x22 =>
 kI64 .add x3 (Value.int .i64 (.ofNat 16)) (fun x23 =>
 k6 x22 x23 h4)))
 (k6 x2 x3 h4))) fun k1 =>
 cnd x0
 (kShr a0 (Value.int .u64 (.ofNat 32)) (fun x24 =>
 k1 x24 (Value.int .i64 (.ofNat 32)) h0))
 (k1 a0 (Value.int .i64 (.ofNat 0)) h0))

theorem q52 (R : RnK) (N : Nat) (args : List Value) (h : Hs) : r52 R N args h = callT Try.prog N R 52 args h := by kernel_rfl

/-- slices.swapRangeCmpFunc[lintel/node.Run] -/
noncomputable def r53 (R : RnK) (N : Nat) (args : List Value) (h : Hs) : An := unC args fun a0 sq0 => unC sq0 fun a1 sq1 => unC sq1 fun a2 sq2 => unC sq2 fun a3 sq3 => unC sq3 fun a4 sq4 => enK h fun h0 =>
 jn (fun (x1 x2 : Value) (h3 : Hs) =>
 clrK h (Value.tuple #[]) h3) fun k0 =>
 lpT (T := Value → Value → Hs → An) (fun _ _ _ => none) N (fun k4 =>
 fun (x6 x7 : Value) (h8 : Hs) =>
 kI64 .lss x6 a3 (fun x9 =>
 jn (fun (h11 : Hs) =>
 jn (fun (h13 : Hs) =>
 kI64 .add x6 (Value.int .i64 (.ofNat 1)) (fun x14 =>
 k4 x14 x9 h13)) fun k12 =>
 kI64 .add a1 x6 (fun x15 =>
 kI64 .add a2 x6 (fun x16 =>
 kI64 .add a2 x6 (fun x17 =>
 kIdxA 2 a0 x17 (fun x18 =>
 kLoads 2 x18 (Hs.mk h11.hp h11.nx h11.nx) (fun x19 =>
 kI64 .add a1 x6 (fun x20 =>
 kIdxA 2 a0 x20 (fun x21 =>
 kLoads 2 x21 (Hs.mk h11.hp h11.nx h11.nx) (fun x22 =>
 kIdxA 2 a0 x15 (fun x23 =>
 after (fun v31 u32 => dPut (fun x24 h25 =>
 kIdxA 2 a0 x16 (fun x26 =>
 after (fun v29 u30 => dPut (fun x27 h28 =>
 k12 h28) v29 (dNext h25 u30 .bar) (andB (dFit h25 u30 .bar) (Nat.ble 0 u30.lo))) (store1 2 h25 (cellsL x22) (addrOf x26)))) v31 (dNext h11 u32 .bar) (andB (dFit h11 u32 .bar) (Nat.ble 0 u32.lo))) (store1 2 h11 (cellsL x19) (addrOf x23)))))))))))) fun k10 =>
 cnd x9
 (k10 h8)
 (k0 x6 x9 h8))) (Value.int .i64 (.ofNat 0)) dunno h0

theorem q53 (R : RnK) (N : Nat) (args : List Value) (h : Hs) : r53 R N args h = callT Try.prog N R 53 args h := by kernel_rfl

/-- slices.siftDownCmpFunc[lintel/node.Run] -/
noncomputable def r54 (R : RnK) (N : Nat) (args : List Value) (h : Hs) : An := unC args fun a0 sq0 => unC sq0 fun a1 sq1 => unC sq1 fun a2 sq2 => unC sq2 fun a3 sq3 => unC sq3 fun a4 sq4 => enK h fun h0 =>
 jn (fun (x1 x2 x3 x4 x5 : Value) (h6 : Hs) =>
 clrK h (Value.tuple #[]) h6) fun k0 =>
 lpT (T := Value → Value → Value → Value → Value → Hs → An) (fun _ _ _ _ _ _ => none) N (fun k7 =>
 fun (x9 x10 x11 x12 x13 : Value) (h14 : Hs) =>
 jn (fun (x16 x17 x18 x19 x20 : Value) (h21 : Hs) =>
 k7 x16 x17 x18 x19 x20 h21) fun k15 =>
 kI64 .mul (Value.int .i64 (.ofNat 2)) x9 (fun x22 =>
 kI64 .add x22 (Value.int .i64 (.ofNat 1)) (fun x23 =>
 kI64 .geq x23 a2 (fun x24 =>
 jn (fun (h26 : Hs) =>
 kI64 .add x23 (Value.int .i64 (.ofNat 1)) (fun x27 =>
 kI64 .lss x27 a2 (fun x28 =>
 gdT x28 h26 (fun k29 => k29 a4 h26) (fun x30 _ =>
 gdT x28 h26 (fun k32 => k32 a0 h26) (fun x33 _ =>
 gdT x28 h26 (fun k35 => k35 a3 h26) (fun x36 _ =>
 gdT x28 h26 (fun k38 => k38 x23 h26) (fun x39 _ =>
 gdT x28 h26 (fun k41 => kI64 .add x36 x39 (fun x42 => k41 x42 h26)) (fun x43 _ =>
 gdT x28 h26 (fun k45 => kIdxA 2 x33 x43 (fun x46 => k45 x46 h26)) (fun x47 _ =>
 gdT x28 h26 (fun k49 => kLoads 2 x47 (Hs.mk h26.hp h26.nx h26.nx) (fun x50 => k49 x50 h26)) (fun x51 _ =>
 gdT x28 h26 (fun k53 => k53 a0 h26) (fun x54 _ =>
 gdT x28 h26 (fun k56 => k56 a3 h26) (fun x57 _ =>
 gdT x28 h26 (fun k59 => k59 x23 h26) (fun x60 _ =>
 gdT x28 h26 (fun k62 => kI64 .add x57 x60 (fun x63 => k62 x63 h26)) (fun x64 _ =>
 gdT x28 h26 (fun k66 => kI64 .add x64 (Value.int .i64 (.ofNat 1)) (fun x67 => k66 x67 h26)) (fun x68 _ =>
 gdT x28 h26 (fun k70 => kIdxA 2 x54 x68 (fun x71 => k70 x71 h26)) (fun x72 _ =>
 gdT x28 h26 (fun k74 => kLoads 2 x72 (Hs.mk h26.hp h26.nx h26.nx) (fun x75 => k74 x75 h26)) (fun x76 _ =>
 gdT x28 h26 (fun k78 => isVal (fun v79 u80 => dPut k78 v79 (dNext h26 u80 .bar) (andB (dFit h26 u80 .bar) (Nat.ble 0 u80.lo))) (callV (toRn R) [x51, x76] h26 x30)) (fun x81 h82 =>
 gdT x28 h82 (fun k83 => kI64 .lss x81 (Value.int .i64 (.ofNat 0)) (fun x84 => k83 x84 h82)) (fun x85 _ =>
 after (fun v125 u126 => dPut (fun x87 h88 =>
 jn (fun (x90 : Value) (h91 : Hs) =>
 kI64 .add a3 x9 (fun x92 =>
 kIdxA 2 a0 x92 (fun x93 =>
 kLoads 2 x93 (Hs.mk h91.hp h91.nx h91.nx) (fun x94 =>
 kI64 .add a3 x90 (fun x95 =>
 kIdxA 2 a0 x95 (fun x96 =>
 kLoads 2 x96 (Hs.mk h91.hp h91.nx h91.nx) (fun x97 =>
 isVal (fun v122 u123 => dPut (fun x98 h99 =>
 kI64 .lss x98 (Value.int .i64 (.ofNat 0)) (fun x100 =>
 kNot x100 (fun x101 =>
 jn (fun (h103 : Hs) =>
 kI64 .add a3 x9 (fun x104 =>
 kI64 .add a3 x90 (fun x105 =>
 kI64 .add a3 x90 (fun x106 =>
 kIdxA 2 a0 x106 (fun x107 =>
 kLoads 2 x107 (Hs.mk h103.hp h103.nx h103.nx) (fun x108 =>
 kI64 .add a3 x9 (fun x109 =>
 kIdxA 2 a0 x109 (fun x110 =>
 kLoads 2 x110 (Hs.mk h103.hp h103.nx h103.nx) (fun x111 =>
 kIdxA 2 a0 x104 (fun x112 =>
 after (fun v120 u121 => dPut (fun x113 h114 =>
 kIdxA 2 a0 x105 (fun x115 =>
 after (fun v118 u119 => dPut (fun x116 h117 =>
 k15 x90 x90 x24 x87 x101 h117) v118 (dNext h114 u119 .bar) (andB (dFit h114 u119 .bar) (Nat.ble 0 u119.lo))) (store1 2 h114 (cellsL x111) (addrOf x115)))) v120 (dNext h103 u121 .bar) (andB (dFit h103 u121 .bar) (Nat.ble 0 u121.lo))) (store1 2 h103 (cellsL x108) (addrOf x112)))))))))))) fun k102 =>
 cnd x101
 (clrK h (Value.tuple #[]) h99)
 (k102 h99)))) v122 (dNext h91 u123 .bar) (andB (dFit h91 u123 .bar) (Nat.ble 0 u123.lo))) (callV (toRn R) [x94, x97] h91 a4)))))))) fun k89 =>
 cnd x87
 (kI64 .add x23 (Value.int .i64 (.ofNat 1)) (fun x124 =>
 k89 x124 h88))
 (k89 x23 h88)) v125 (dNext h82 u126 .blind) (andB (dFit h82 u126 .blind) (Nat.ble 0 u126.lo))) (pickB (.c x85) (.c (Value.bool false)) enE (Hs.mk .e h82.nx h82.nx) x28)))))))))))))))))))) fun k25 =>
 cnd x24
 (k0 x9 x23 x24 x12 x13 h14)
 (k25 h14))))) a1 dunno dunno dunno dunno h0

theorem q54 (R : RnK) (N : Nat) (args : List Value) (h : Hs) : r54 R N args h = callT Try.prog N R 54 args h := by kernel_rfl

/-- slices.nextPowerOfTwo -/
noncomputable def r55 (R : RnK) (N : Nat) (args : List Value) (h : Hs) : An := unC args fun a0 sq0 => enK h fun h0 =>
 kToU a0 (fun x0 =>
 kCall R 42 [x0] h0 (fun x1 h2 =>
 kShl (Value.int .u64 (.ofNat 1)) x1 (fun x3 =>
 clrK h x3 h2)))

theorem q55 (R : RnK) (N : Nat) (args : List Value) (h : Hs) : r55 R N args h = callT Try.prog N R 55 args h := by kernel_rfl

/-- (*slices.xorshift).Next -/
noncomputable def r56 (R : RnK) (N : Nat) (args : List Value) (h : Hs) : An := unC args fun a0 sq0 => enK h fun h0 =>
 kNil a0 (fun x0 =>
 kLoad x0 (Hs.mk h0.hp h0.nx h0.nx) (fun x1 =>
 kNil a0 (fun x2 =>
 kLoad x2 (Hs.mk h0.hp h0.nx h0.nx) (fun x3 =>
 kShl x3 (Value.int .u64 (.ofNat 13)) (fun x4 =>
 kU64 .xor x1 x4 (fun x5 =>
 kNil a0 (fun x6 =>
 kStore1 x6 x5 h0 (fun v33 u34 => dPut (fun x7 h8 =>
 kNil a0 (fun x9 =>
 kLoad x9 (Hs.mk h8.hp h8.nx h8.nx) (fun x10 =>
 kNil a0 (fun x11 =>
 kLoad x11 (Hs.mk h8.hp h8.nx h8.nx) (fun x12 =>
 kShr x12 (Value.int .u64 (.ofNat 7)) (fun x13 =>
 kU64 .xor x10 x13 (fun x14 =>
 kNil a0 (fun x15 =>
 kStore1 x15 x14 h8 (fun v31 u32 => dPut (fun x16 h17 =>
 kNil a0 (fun x18 =>
 kLoad x18 (Hs.mk h17.hp h17.nx h17.nx) (fun x19 =>
 kNil a0 (fun x20 =>
 kLoad x20 (Hs.mk h17.hp h17.nx h17.nx) (fun x21 =>
 kShl x21 (Value.int .u64 (.ofNat 17)) (fun x22 =>
 kU64 .xor x19 x22 (fun x23 =>
 kNil a0 (fun x24 =>
 kStore1 x24 x23 h17 (fun v29 u30 => dPut (fun x25 h26 =>
 kNil a0 (fun x27 =>
 kLoad x27 h26 (fun x28 =>
 clrK h x28 h26))) v29 (dNext h17 u30 .bar) (andB (dFit h17 u30 .bar) (Nat.ble 0 u30.lo))))))))))) v31 (dNext h8 u32 .bar) (andB (dFit h8 u32 .bar) (Nat.ble 0 u32.lo))))))))))) v33 (dNext h0 u34 .bar) (andB (dFit h0 u34 .bar) (Nat.ble 0 u34.lo))))))))))

theorem q56 (R : RnK) (N : Nat) (args : List Value) (h : Hs) : r56 R N args h = callT Try.prog N R 56 args h := by kernel_rfl

/-- slices.medianAdjacentCmpFunc[lintel/node.Run] -/
noncomputable def r57 (R : RnK) (N : Nat) (args : List Value) (h : Hs) : An := unC args fun a0 sq0 => unC sq0 fun a1 sq1 => unC sq1 fun a2 sq2 => unC sq2 fun a3 sq3 => enK h fun h0 =>
 kI64 .sub a1 (Value.int .i64 (.ofNat 1)) (fun x0 =>
 kI64 .add a1 (Value.int .i64 (.ofNat 1)) (fun x1 =>
 kCall R 58 [a0, x0, a1, x1, a2, a3] h0 (fun x2 h3 =>
 clrK h x2 h3)))

theorem q57 (R : RnK) (N : Nat) (args : List Value) (h : Hs) : r57 R N args h = callT Try.prog N R 57 args h := by kernel_rfl

/-- slices.medianCmpFunc[lintel/node.Run] -/
noncomputable def r58 (R : RnK) (N : Nat) (args : List Value) (h : Hs) : An := unC args fun a0 sq0 => unC sq0 fun a1 sq1 => unC sq1 fun a2 sq2 => unC sq2 fun a3 sq3 => unC sq3 fun a4 sq4 => unC sq4 fun a5 sq5 => enK h fun h0 =>
 kCall R 59 [a0, a1, a2, a4, a5] h0 (fun x0 h1 =>
 kExtr x0 0 (fun x2 =>
 kExtr x0 1 (fun x3 =>
 kCall R 59 [a0, x3, a3, a4, a5] h1 (fun x4 h5 =>
 kExtr x4 0 (fun x6 =>
 kExtr x4 1 (fun x7 =>
 kCall R 59 [a0, x2, x6, a4, a5] h5 (fun x8 h9 =>
 kExtr x8 0 (fun x10 =>
 kExtr x8 1 (fun x11 =>
 clrK h x11 h9)))))))))

theorem q58 (R : RnK) (N : Nat) (args : List Value) (h : Hs) : r58 R N args h = callT Try.prog N R 58 args h := by kernel_rfl

/-- slices.order2CmpFunc[lintel/node.Run] -/
noncomputable def r59 (R : RnK) (N : Nat) (args : List Value) (h : Hs) : An := unC args fun a0 sq0 => unC sq0 fun a1 sq1 => unC sq1 fun a2 sq2 => unC sq2 fun a3 sq3 => unC sq3 fun a4 sq4 => enK h fun h0 =>
 kIdxA 2 a0 a2 (fun x0 =>
 kLoads 2 x0 (Hs.mk h0.hp h0.nx h0.nx) (fun x1 =>
 kIdxA 2 a0 a1 (fun x2 =>
 kLoads 2 x2 (Hs.mk h0.hp h0.nx h0.nx) (fun x3 =>
 isVal (fun v17 u18 => dPut (fun x4 h5 =>
 kI64 .lss x4 (Value.int .i64 (.ofNat 0)) (fun x6 =>
 jn (fun (x8 x9 : Value) (h10 : Hs) =>
 clrK h (Value.tuple #[a1, a2]) h10) fun k7 =>
 cnd x6
 (kNil a3 (fun x11 =>
 kLoad x11 h5 (fun x12 =>
 kI64 .add x12 (Value.int .i64 (.ofNat 1)) (fun x13 =>
 kNil a3 (fun x14 =>
 kStore1 x14 x13 h5 (fun x15 h16 =>
 clrK h (Value.tuple #[a2, a1]) h16))))))
 (k7 (Value.int .i64 (.ofNat 0)) (Value.int .i64 (.ofNat 0)) h5))) v17 (dNext h0 u18 .bar) (andB (dFit h0 u18 .bar) (Nat.ble 0 u18.lo))) (callV (toRn R) [x1, x3] h0 a4)))))

theorem q59 (R : RnK) (N : Nat) (args : List Value) (h : Hs) : r59 R N args h = callT Try.prog N R 59 args h := by kernel_rfl

noncomputable def entries : List (Nat × FnK) := [(3, r3), (5, r5), (6, r6), (7, r7), (8, r8), (9, r9), (10, r10), (11, r11), (12, r12), (13, r13), (14, r14), (15, r15), (16, r16), (17, r17), (18, r18), (19, r19), (20, r20), (21, r21), (22, r22), (23, r23), (24, r24), (25, r25), (26, r26), (27, r27), (28, r28), (29, r29), (30, r30), (31, r31), (32, r32), (33, r33), (34, r34), (35, r35), (36, r36), (37, r37), (38, r38), (39, r39), (40, r40), (41, r41), (42, r42), (43, r43), (44, r44), (45, r45), (46, r46), (47, r47), (48, r48), (49, r49), (50, r50), (51, r51), (52, r52), (53, r53), (54, r54), (55, r55), (56, r56), (57, r57), (58, r58), (59, r59)]
theorem entries_ok : AllOk Try.prog entries := ⟨q3, q5, q6, q7, q8, q9, q10, q11, q12, q13, q14, q15, q16, q17, q18, q19, q20, q21, q22, q23, q24, q25, q26, q27, q28, q29, q30, q31, q32, q33, q34, q35, q36, q37, q38, q39, q40, q41, q42, q43, q44, q45, q46, q47, q48, q49, q50, q51, q52, q53, q54, q55, q56, q57, q58, q59, trivial⟩
end Go.Proofs.Ytadlfpgipdjegaa.poolBack
