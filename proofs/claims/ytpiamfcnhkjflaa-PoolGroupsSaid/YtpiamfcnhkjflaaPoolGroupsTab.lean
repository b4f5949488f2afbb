/- The functions that 'PoolGroups' reaches, in the fast evaluator's form, each held against the program's own text by the kernel. Written by a program. -/
import Derived.Test.YtpiamfcnhkjflaaGevKM
import Derived.Test.YtpiamfcnhkjflaaProg
import Derived.KernelRfl
namespace Go.Proofs.Ytpiamfcnhkjflaa.poolGroups
open Go.Gev
set_option linter.unusedVariables false
/-- lintel/lintellaw12.PoolGroups -/
noncomputable def r3 (R : RnK) (N : Nat) (args : List Value) (h : Hs) : An := unC args fun a0 sq0 => unC sq0 fun a1 sq1 => enK h fun h0 =>
 after (fun x0 h1 =>
 kCall R 6 [] h1 (fun x2 h3 =>
 kNot x2 (fun x4 =>
 jn (fun (x6 : Value) (h7 : Hs) =>
 kLoads 4 x0 h7 (fun x8 =>
 kCall R 7 [x8] h7 (fun x9 h10 =>
 kNot x9 (fun x11 =>
 jn (fun (x13 : Value) (h14 : Hs) =>
 kLoads 4 x0 (Hs.mk h14.hp h14.nx h14.nx) (fun x15 =>
 kLoads 4 x0 (Hs.mk h14.hp h14.nx h14.nx) (fun x16 =>
 kCall R 9 [x16] (Hs.mk h14.hp h14.nx h14.nx) (fun v219 u220 => dPut (fun x17 h18 =>
 kCall R 8 [x15, x17] h18 (fun v217 u218 => dPut (fun x19 h20 =>
 kExtr x19 0 (fun x21 =>
 kExtr x19 1 (fun x22 =>
 kI64 .neq x22 (Value.int .i64 (.ofNat 0)) (fun x23 =>
 gdF x23 h20 (fun k24 => k24 x21 h20) (fun x25 h26 =>
 gdF x23 h26 (fun k27 => obK (fun x28 => k27 x28 h26) (e2 false qP x25 (Value.pointer none))) (fun x29 h30 =>
 after (fun x31 h32 =>
 jn (fun (x34 : Value) (h35 : Hs) =>
 kLoads 4 x0 h35 (fun x36 =>
 kCall R 10 [x36] h35 (fun x37 h38 =>
 kExtr x37 0 (fun x39 =>
 kExtr x37 1 (fun x40 =>
 jn (fun (x42 x43 x44 x45 x46 x47 x48 : Value) (h49 : Hs) =>
 kCall R 11 [x21, a1] h49 (fun x50 h51 =>
 kExtr x50 0 (fun x52 =>
 kExtr x50 1 (fun x53 =>
 kI64 .add x39 x40 (fun x54 =>
 kI64 .eql x45 x54 (fun x55 =>
 gdT x55 h51 (fun k56 => k56 a1 h51) (fun x57 h58 =>
 gdT x55 h58 (fun k59 => kI64 .geq x57 (Value.int .i64 (.ofNat 0)) (fun x60 => k59 x60 h58)) (fun x61 h62 =>
 gdT x55 h62 (fun k63 => k63 x61 h62) (fun x64 h65 =>
 gdT x64 h65 (fun k66 => k66 a1 h65) (fun x67 h68 =>
 gdT x64 h68 (fun k69 => kFieldA 2 x0 (fun x70 => k69 x70 h68)) (fun x71 h72 =>
 gdT x64 h72 (fun k73 => kLoad x71 h72 (fun x74 => k73 x74 h72)) (fun x75 h76 =>
 gdT x64 h76 (fun k77 => kI64 .lss x67 x75 (fun x78 => k77 x78 h76)) (fun x79 h80 =>
 gdT x55 h80 (fun k81 => after (k81) (pickB (.c x79) (.c (Value.bool false)) enE h80 x64)) (fun x82 h83 =>
 gdT x55 h83 (fun k84 => k84 x82 h83) (fun x85 h86 =>
 gdF x85 h86 (fun k87 => k87 x52 h86) (fun x88 h89 =>
 gdF x85 h89 (fun k90 => kI64 .eql x88 (Value.int .i64 (.ofNat 0)) (fun x91 => k90 x91 h89)) (fun x92 h93 =>
 gdF x85 h93 (fun k94 => k94 x92 h93) (fun x95 h96 =>
 gdT x95 h96 (fun k97 => k97 x53 h96) (fun x98 h99 =>
 gdT x95 h99 (fun k100 => kI64 .eql x98 (Value.int .i64 (.ofNat 0)) (fun x101 => k100 x101 h99)) (fun x102 h103 =>
 gdF x85 h103 (fun k104 => after (k104) (pickB (.c x102) (.c (Value.bool false)) enE h103 x95)) (fun x105 h106 =>
 gdT x55 h106 (fun k107 => after (k107) (pickB (.c (Value.bool true)) (.c x105) enE h106 x85)) (fun x108 h109 =>
 after (fun x110 h111 =>
 clrK h x110 h111) (pickB (.c x108) (.c (Value.bool false)) enE h109 x55))))))))))))))))))))))) fun k41 =>
 lpT (T := Value → Value → Value → Value → Value → Value → Value → Hs → An) (fun _ _ _ _ _ _ _ _ => none) N (fun k112 =>
 fun (x114 x115 x116 x117 x118 x119 x120 : Value) (h121 : Hs) =>
 kFieldA 2 x0 (fun x122 =>
 kLoad x122 h121 (fun x123 =>
 kI64 .lss x114 x123 (fun x124 =>
 jn (fun (h126 : Hs) =>
 jn (fun (x128 x129 x130 x131 x132 : Value) (h133 : Hs) =>
 kI64 .add x114 (Value.int .i64 (.ofNat 1)) (fun x134 =>
 k112 x134 x124 x128 x129 x130 x131 x132 h133)) fun k127 =>
 kCall R 11 [x21, x114] h126 (fun x135 h136 =>
 kExtr x135 0 (fun x137 =>
 kExtr x135 1 (fun x138 =>
 kI64 .neq x137 x117 (fun x139 =>
 gdF x139 h136 (fun k140 => k140 x138 h136) (fun x141 h142 =>
 gdF x139 h142 (fun k143 => k143 x40 h142) (fun x144 h145 =>
 gdF x139 h145 (fun k146 => kFieldA 2 x0 (fun x147 => k146 x147 h145)) (fun x148 h149 =>
 gdF x139 h149 (fun k150 => kLoad x148 h149 (fun x151 => k150 x151 h149)) (fun x152 h153 =>
 gdF x139 h153 (fun k154 => kI64 .quo x144 x152 (fun x155 => k154 x155 h153)) (fun x156 h157 =>
 gdF x139 h157 (fun k158 => kI64 .lss x141 x156 (fun x159 => k158 x159 h157)) (fun x160 h161 =>
 after (fun x162 h163 =>
 gdF x162 h163 (fun k164 => k164 x114 h163) (fun x165 h166 =>
 gdF x162 h166 (fun k167 => kI64 .add x165 (Value.int .i64 (.ofNat 1)) (fun x168 => k167 x168 h166)) (fun x169 h170 =>
 gdF x162 h170 (fun k171 => kFieldA 2 x0 (fun x172 => k171 x172 h170)) (fun x173 h174 =>
 gdF x162 h174 (fun k175 => kLoad x173 h174 (fun x176 => k175 x176 h174)) (fun x177 h178 =>
 gdF x162 h178 (fun k179 => kI64 .lss x169 x177 (fun x180 => k179 x180 h178)) (fun x181 h182 =>
 gdF x162 h182 (fun k183 => k183 x181 h182) (fun x184 h185 =>
 gdT x184 h185 (fun k186 => k186 x138 h185) (fun x187 h188 =>
 gdT x184 h188 (fun k189 => k189 x40 h188) (fun x190 h191 =>
 gdT x184 h191 (fun k192 => kFieldA 2 x0 (fun x193 => k192 x193 h191)) (fun x194 h195 =>
 gdT x184 h195 (fun k196 => kLoad x194 h195 (fun x197 => k196 x197 h195)) (fun x198 h199 =>
 gdT x184 h199 (fun k200 => kI64 .quo x190 x198 (fun x201 => k200 x201 h199)) (fun x202 h203 =>
 gdT x184 h203 (fun k204 => kI64 .neq x187 x202 (fun x205 => k204 x205 h203)) (fun x206 h207 =>
 gdF x162 h207 (fun k208 => after (k208) (pickB (.c x206) (.c (Value.bool false)) enE h207 x184)) (fun x209 h210 =>
 after (fun x211 h212 =>
 jn (fun (x214 : Value) (h215 : Hs) =>
 kI64 .add x117 x138 (fun x216 =>
 k127 x137 x216 x138 x211 x214 h215)) fun k213 =>
 cnd x211
 (clrK h (Value.bool false) h212)
 (k213 x120 h212)) (pickB (.c (Value.bool true)) (.c x209) enE h210 x162))))))))))))))) (pickB (.c (Value.bool true)) (.c x160) enE h161 x139)))))))))))) fun k125 =>
 cnd x124
 (k125 h121)
 (k41 x114 x124 x116 x117 x118 x119 x120 h121))))) (Value.int .i64 (.ofNat 0)) dunno dunno x39 dunno dunno x34 h38))))) fun k33 =>
 cnd x31
 (clrK h (Value.bool false) h32)
 (k33 x13 h32)) (pickB (.c (Value.bool true)) (.c x29) enE h30 x23))))))) v217 (dNext h18 u218 .bar) (andB (dFit h18 u218 .bar) (Nat.ble 0 u218.lo)))) v219 (dNext h14 u220 .light) (andB (dFit h14 u220 .light) (Nat.ble 0 u220.lo)))))) fun k12 =>
 cnd x11
 (clrK h (Value.bool true) h10)
 (k12 x6 h10))))) fun k5 =>
 cnd x4
 (clrK h (Value.bool false) h3)
 (k5 (Value.bool false) h3)))) (oBox 23 (.c a0) enE h0)

theorem q3 (R : RnK) (N : Nat) (args : List Value) (h : Hs) : r3 R N args h = callT Try.prog N R 3 args h := by kernel_rfl

/-- lintel/geom.Good -/
noncomputable def r7 (R : RnK) (N : Nat) (args : List Value) (h : Hs) : An := unC args fun a0 sq0 => enK h fun h0 =>
 after (fun x0 h1 =>
 kFieldA 0 x0 (fun x2 =>
 kLoad x2 h1 (fun x3 =>
 kCall R 26 [x3, (Value.int .i64 (.ofNat 64)), (Value.int .i64 (.ofNat 1024))] h1 (fun x4 h5 =>
 kNot x4 (fun x6 =>
 gdF x6 h5 (fun k7 => kFieldA 1 x0 (fun x8 => k7 x8 h5)) (fun x9 h10 =>
 gdF x6 h10 (fun k11 => kLoad x9 h10 (fun x12 => k11 x12 h10)) (fun x13 h14 =>
 gdF x6 h14 (fun k15 => kCall R 26 [x13, (Value.int .i64 (.ofNat 4)), (Value.int .i64 (.ofNat 64))] h14 (k15)) (fun x16 h17 =>
 gdF x6 h17 (fun k18 => kNot x16 (fun x19 => k18 x19 h17)) (fun x20 h21 =>
 after (fun x22 h23 =>
 gdF x22 h23 (fun k24 => kFieldA 2 x0 (fun x25 => k24 x25 h23)) (fun x26 h27 =>
 gdF x22 h27 (fun k28 => kLoad x26 h27 (fun x29 => k28 x29 h27)) (fun x30 h31 =>
 gdF x22 h31 (fun k32 => kCall R 26 [x30, (Value.int .i64 (.ofNat 1)), (Value.int .i64 (.ofNat 8))] h31 (k32)) (fun x33 h34 =>
 gdF x22 h34 (fun k35 => kNot x33 (fun x36 => k35 x36 h34)) (fun x37 h38 =>
 after (fun x39 h40 =>
 gdF x39 h40 (fun k41 => kFieldA 3 x0 (fun x42 => k41 x42 h40)) (fun x43 h44 =>
 gdF x39 h44 (fun k45 => kLoad x43 h44 (fun x46 => k45 x46 h44)) (fun x47 h48 =>
 gdF x39 h48 (fun k49 => kCall R 26 [x47, (Value.int .i64 (.ofNat 16)), (Value.int .i64 (.ofNat 110))] h48 (k49)) (fun x50 h51 =>
 gdF x39 h51 (fun k52 => kNot x50 (fun x53 => k52 x53 h51)) (fun x54 h55 =>
 after (fun x56 h57 =>
 jn (fun (x59 : Value) (h60 : Hs) =>
 kLoads 4 x0 h60 (fun x61 =>
 kCall R 27 [x61] h60 (fun x62 h63 =>
 kExtr x62 0 (fun x64 =>
 kExtr x62 1 (fun x65 =>
 kI64 .geq x65 (Value.int .i64 (.ofNat 1)) (fun x66 =>
 clrK h x66 h63)))))) fun k58 =>
 cnd x56
 (clrK h (Value.bool false) h57)
 (k58 (Value.bool false) h57)) (pickB (.c (Value.bool true)) (.c x54) enE h55 x39)))))) (pickB (.c (Value.bool true)) (.c x37) enE h38 x22)))))) (pickB (.c (Value.bool true)) (.c x20) enE h21 x6)))))))))) (oBox 23 (.c a0) enE h0)

theorem q7 (R : RnK) (N : Nat) (args : List Value) (h : Hs) : r7 R N args h = callT Try.prog N R 7 args h := by kernel_rfl

/-- lintel/pool.New -/
noncomputable def r8 (R : RnK) (N : Nat) (args : List Value) (h : Hs) : An := unC args fun a0 sq0 => unC sq0 fun a1 sq1 => enK h fun h0 =>
 after (fun x0 h1 =>
 after (fun x2 h3 =>
 kLoads 4 x0 h3 (fun x4 =>
 kCall R 7 [x4] h3 (fun x5 h6 =>
 kNot x5 (fun x7 =>
 gdF x7 h6 (fun k8 => kFieldA 0 x2 (fun x9 => k8 x9 h6)) (fun x10 h11 =>
 gdF x7 h11 (fun k12 => kLoad x10 h11 (fun x13 => k12 x13 h11)) (fun x14 h15 =>
 gdF x7 h15 (fun k16 => kLenV x14 (fun x17 => k16 x17 h15)) (fun x18 h19 =>
 gdF x7 h19 (fun k20 => kFieldA 0 x0 (fun x21 => k20 x21 h19)) (fun x22 h23 =>
 gdF x7 h23 (fun k24 => kLoad x22 h23 (fun x25 => k24 x25 h23)) (fun x26 h27 =>
 gdF x7 h27 (fun k28 => kI64 .add x26 (Value.int .i64 (.ofNat 64)) (fun x29 => k28 x29 h27)) (fun x30 h31 =>
 gdF x7 h31 (fun k32 => kI64 .sub x30 (Value.int .i64 (.ofNat 1)) (fun x33 => k32 x33 h31)) (fun x34 h35 =>
 gdF x7 h35 (fun k36 => kI64 .quo x34 (Value.int .i64 (.ofNat 64)) (fun x37 => k36 x37 h35)) (fun x38 h39 =>
 gdF x7 h39 (fun k40 => kI64 .lss x18 x38 (fun x41 => k40 x41 h39)) (fun x42 h43 =>
 after (fun x44 h45 =>
 jn (fun (x47 x48 : Value) (h49 : Hs) =>
 kLoads 4 x0 (Hs.mk h49.hp h49.nx h49.nx) (fun x50 =>
 kLoads 1 x2 (Hs.mk h49.hp h49.nx h49.nx) (fun x51 =>
 kCall R 20 [x51, (Value.bool true), (Value.slice none 0 0)] (Hs.mk h49.hp h49.nx h49.nx) (fun v62 u63 => dPut (fun x52 h53 =>
 after (fun v60 u61 => dPut (fun x54 h55 =>
 after (fun v58 u59 => dPut (fun x56 h57 =>
 clrK h (Value.tuple #[x56, (Value.int .i64 (.ofNat 0))]) h57) v58 (dNext h55 u59 .make) (andB (dFit h55 u59 .make) (Nat.ble 0 u59.lo))) (oBox 69 (.c x54) enE (Hs.mk .e h55.nx h55.nx))) v60 (dNext h53 u61 .blind) (andB (dFit h53 u61 .blind) (Nat.ble 0 u61.lo))) (oBuild [(Value.int .i64 (.ofNat 0)), (Value.int .i64 (.ofNat 0)), (Value.int .i64 (.ofNat 0)), (Value.int .i64 (.ofNat 0)), (Value.slice none 0 0)] [(0, 4, .c x50), (4, 1, .c x52)] enE (Hs.mk .e h53.nx h53.nx))) v62 (dNext h49 u63 .light) (andB (dFit h49 u63 .light) (Nat.ble 0 u63.lo)))))) fun k46 =>
 cnd x44
 (clrK h (Value.tuple #[(Value.pointer none), (Value.int .i64 (.ofNat 1))]) h45)
 (k46 (Value.pointer none) (Value.int .i64 (.ofNat 0)) h45)) (pickB (.c (Value.bool true)) (.c x42) enE h43 x7)))))))))))))) (oBox 32 (.c a1) enE h1)) (oBox 23 (.c a0) enE h0)

theorem q8 (R : RnK) (N : Nat) (args : List Value) (h : Hs) : r8 R N args h = callT Try.prog N R 8 args h := by kernel_rfl

/-- lintel/lintellaw12.empty -/
noncomputable def r9 (R : RnK) (N : Nat) (args : List Value) (h : Hs) : An := unC args fun a0 sq0 => enK h fun h0 =>
 after (fun x0 h1 =>
 after (fun x2 h3 =>
 kLoads 4 x0 h3 (fun x4 =>
 kCall R 10 [x4] h3 (fun x5 h6 =>
 kExtr x5 0 (fun x7 =>
 kExtr x5 1 (fun x8 =>
 kFieldA 0 x0 (fun x9 =>
 kLoad x9 h6 (fun x10 =>
 kCall R 28 [x10] h6 (fun x11 h12 =>
 after (fun x13 h14 =>
 kStore1 x13 x11 h14 (fun x15 h16 =>
 jn (fun (x18 x19 x20 : Value) (h21 : Hs) =>
 kLoads 1 x13 h21 (fun x22 =>
 kStore1 x2 x22 h21 (fun x23 h24 =>
 clearUp h (packR h24 (resV enE h24 [.cell (.c x2) 1 true]))))) fun k17 =>
 lpT (T := Value → Value → Value → Hs → An) (fun _ _ _ _ => none) N (fun k25 =>
 fun (x27 x28 x29 : Value) (h30 : Hs) =>
 kFieldA 0 x0 (fun x31 =>
 kLoad x31 h30 (fun x32 =>
 kI64 .lss x27 x32 (fun x33 =>
 jn (fun (h35 : Hs) =>
 jn (fun (x37 : Value) (h38 : Hs) =>
 kI64 .add x27 (Value.int .i64 (.ofNat 1)) (fun x39 =>
 k25 x39 x33 x37 h38)) fun k36 =>
 kI64 .lss x27 x7 (fun x40 =>
 gdF x40 h35 (fun k41 => k41 x27 h35) (fun x42 h43 =>
 gdF x40 h43 (fun k44 => k44 x7 h43) (fun x45 h46 =>
 gdF x40 h46 (fun k47 => k47 x8 h46) (fun x48 h49 =>
 gdF x40 h49 (fun k50 => kI64 .add x45 x48 (fun x51 => k50 x51 h49)) (fun x52 h53 =>
 gdF x40 h53 (fun k54 => kI64 .geq x42 x52 (fun x55 => k54 x55 h53)) (fun x56 h57 =>
 after (fun x58 h59 =>
 jn (fun (h61 : Hs) =>
 k36 x58 h61) fun k60 =>
 cnd x58
 (kLoads 1 x13 h59 (fun x62 =>
 after (fun x63 h64 =>
 kCall R 20 [x62, (Value.bool true), x63] h64 (fun x65 h66 =>
 kStore1 x13 x65 h66 (fun x67 h68 =>
 k60 h68))) (oMkrow 3 1 1 [(Value.int .i64 (.ofNat 0))] [(0, 1, .c x27)] enE h59)))
 (k60 h59)) (pickB (.c (Value.bool true)) (.c x56) enE h57 x40)))))))) fun k34 =>
 cnd x33
 (k34 h30)
 (k17 x27 x33 x29 h30))))) (Value.int .i64 (.ofNat 0)) dunno dunno h16)) (oAlloc 32 [(Value.slice none 0 0)] enE h12))))))))) (oAlloc 32 [(Value.slice none 0 0)] enE h1)) (oBox 23 (.c a0) enE h0)

theorem q9 (R : RnK) (N : Nat) (args : List Value) (h : Hs) : r9 R N args h = callT Try.prog N R 9 args h := by kernel_rfl

/-- lintel/geom.Data -/
noncomputable def r10 (R : RnK) (N : Nat) (args : List Value) (h : Hs) : An := unC args fun a0 sq0 => enK h fun h0 =>
 after (fun x0 h1 =>
 kLoads 4 x0 h1 (fun x2 =>
 kCall R 7 [x2] h1 (fun x3 h4 =>
 kNot x3 (fun x5 =>
 jn (fun (x7 x8 : Value) (h9 : Hs) =>
 kLoads 4 x0 h9 (fun x10 =>
 kCall R 27 [x10] h9 (fun x11 h12 =>
 kExtr x11 0 (fun x13 =>
 kExtr x11 1 (fun x14 =>
 clrK h (Value.tuple #[x13, x14]) h12))))) fun k6 =>
 cnd x5
 (clrK h (Value.tuple #[(Value.int .i64 (.ofNat 0)), (Value.int .i64 (.ofNat 0))]) h4)
 (k6 (Value.int .i64 (.ofNat 0)) (Value.int .i64 (.ofNat 0)) h4))))) (oBox 23 (.c a0) enE h0)

theorem q10 (R : RnK) (N : Nat) (args : List Value) (h : Hs) : r10 R N args h = callT Try.prog N R 10 args h := by kernel_rfl

/-- (*lintel/pool.Pool).Group -/
noncomputable def r11 (R : RnK) (N : Nat) (args : List Value) (h : Hs) : An := unC args fun a0 sq0 => unC sq0 fun a1 sq1 => enK h fun h0 =>
 kI64 .lss a1 (Value.int .i64 (.ofNat 0)) (fun x0 =>
 gdF x0 h0 (fun k1 => k1 a1 h0) (fun x2 h3 =>
 gdF x0 h3 (fun k4 => k4 a0 h3) (fun x5 h6 =>
 gdF x0 h6 (fun k7 => kNil x5 (fun x8 => k7 x8 h6)) (fun x9 h10 =>
 gdF x0 h10 (fun k11 => kFieldA 0 x9 (fun x12 => k11 x12 h10)) (fun x13 h14 =>
 gdF x0 h14 (fun k15 => kFieldA 2 x13 (fun x16 => k15 x16 h14)) (fun x17 h18 =>
 gdF x0 h18 (fun k19 => kLoad x17 h18 (fun x20 => k19 x20 h18)) (fun x21 h22 =>
 gdF x0 h22 (fun k23 => kI64 .geq x2 x21 (fun x24 => k23 x24 h22)) (fun x25 h26 =>
 after (fun x27 h28 =>
 jn (fun (x30 x31 : Value) (h32 : Hs) =>
 kNil a0 (fun x33 =>
 kFieldA 0 x33 (fun x34 =>
 kLoads 4 x34 h32 (fun x35 =>
 kCall R 10 [x35] h32 (fun x36 h37 =>
 kExtr x36 0 (fun x38 =>
 kExtr x36 1 (fun x39 =>
 kNil a0 (fun x40 =>
 kFieldA 0 x40 (fun x41 =>
 kFieldA 2 x41 (fun x42 =>
 kLoad x42 h37 (fun x43 =>
 kI64 .quo x39 x43 (fun x44 =>
 kI64 .mul a1 x44 (fun x45 =>
 kI64 .add x38 x45 (fun x46 =>
 kNil a0 (fun x47 =>
 kFieldA 0 x47 (fun x48 =>
 kFieldA 2 x48 (fun x49 =>
 kLoad x49 h37 (fun x50 =>
 kI64 .sub x50 (Value.int .i64 (.ofNat 1)) (fun x51 =>
 kI64 .eql a1 x51 (fun x52 =>
 jn (fun (x54 : Value) (h55 : Hs) =>
 clrK h (Value.tuple #[x46, x54]) h55) fun k53 =>
 cnd x52
 (kI64 .mul a1 x44 (fun x56 =>
 kI64 .sub x39 x56 (fun x57 =>
 k53 x57 h37)))
 (k53 x44 h37))))))))))))))))))))) fun k29 =>
 cnd x27
 (clrK h (Value.tuple #[(Value.int .i64 (.ofNat 0)), (Value.int .i64 (.ofNat 0))]) h28)
 (k29 (Value.int .i64 (.ofNat 0)) (Value.int .i64 (.ofNat 0)) h28)) (pickB (.c (Value.bool true)) (.c x25) enE h26 x0)))))))))

theorem q11 (R : RnK) (N : Nat) (args : List Value) (h : Hs) : r11 R N args h = callT Try.prog N R 11 args h := by kernel_rfl

/-- (*lintel/pool.Pool).Take -/
noncomputable def r12 (R : RnK) (N : Nat) (args : List Value) (h : Hs) : An := unC args fun a0 sq0 => unC sq0 fun a1 sq1 => unC sq1 fun a2 sq2 => unC sq2 fun a3 sq3 => enK h fun h0 =>
 after (fun x0 h1 =>
 kCall R 11 [a0, a1] h1 (fun x2 h3 =>
 kExtr x2 0 (fun x4 =>
 kExtr x2 1 (fun x5 =>
 after (fun x6 h7 =>
 after (fun x8 h9 =>
 kStore1 x6 x4 h9 (fun x10 h11 =>
 kStore1 x8 x5 h11 (fun x12 h13 =>
 kI64 .lss a1 (Value.int .i64 (.ofNat 0)) (fun x14 =>
 gdF x14 h13 (fun k15 => k15 a1 h13) (fun x16 h17 =>
 gdF x14 h17 (fun k18 => k18 a0 h17) (fun x19 h20 =>
 gdF x14 h20 (fun k21 => kNil x19 (fun x22 => k21 x22 h20)) (fun x23 h24 =>
 gdF x14 h24 (fun k25 => kFieldA 0 x23 (fun x26 => k25 x26 h24)) (fun x27 h28 =>
 gdF x14 h28 (fun k29 => kFieldA 2 x27 (fun x30 => k29 x30 h28)) (fun x31 h32 =>
 gdF x14 h32 (fun k33 => kLoad x31 h32 (fun x34 => k33 x34 h32)) (fun x35 h36 =>
 gdF x14 h36 (fun k37 => kI64 .geq x16 x35 (fun x38 => k37 x38 h36)) (fun x39 h40 =>
 after (fun x41 h42 =>
 gdF x41 h42 (fun k43 => kLoad x0 h42 (fun x44 => k43 x44 h42)) (fun x45 h46 =>
 gdF x41 h46 (fun k47 => kI64 .lss x45 (Value.int .i64 (.ofNat 0)) (fun x48 => k47 x48 h46)) (fun x49 h50 =>
 after (fun x51 h52 =>
 gdF x51 h52 (fun k53 => k53 a3 h52) (fun x54 h55 =>
 gdF x51 h55 (fun k56 => kI64 .lss x54 (Value.int .i64 (.ofNat 1)) (fun x57 => k56 x57 h55)) (fun x58 h59 =>
 after (fun x60 h61 =>
 jn (fun (x63 x64 : Value) (h65 : Hs) =>
 kCall R 29 [a0] h65 (fun x66 h67 =>
 after (fun x68 h69 =>
 after (fun x70 h71 =>
 kStore1 x70 x68 h71 (fun x72 h73 =>
 after (fun x74 h75 =>
 kCall R 31 [x66, x74] h75 (fun x76 h77 =>
 kLoad x0 h77 (fun x78 =>
 kCall R 34 [x66, x78] h77 (fun x79 h80 =>
 kCall R 35 [x79] (Hs.mk h80.hp h80.nx h80.nx) (fun v109 u110 => dPut (fun x81 h82 =>
 kLoad x0 (dHidS .light [false, false] [some (h80.nx, h82.nx), none] h82) (fun x83 =>
 kI64 .lss x81 x83 (fun x84 =>
 gdF x84 h82 (fun k85 => k85 x79 h82) (fun x86 _ =>
 gdF x84 h82 (fun k88 => kLenV x86 (fun x89 => k88 x89 h82)) (fun x90 _ =>
 gdF x84 h82 (fun k92 => k92 a3 h82) (fun x93 _ =>
 gdF x84 h82 (fun k95 => kI64 .gtr x90 x93 (fun x96 => k95 x96 h82)) (fun x97 _ =>
 after (fun v107 u108 => dPut (fun x99 h100 =>
 jn (fun (x102 x103 : Value) (h104 : Hs) =>
 kCall R 36 [a0, (Value.bool true), x79] h104 (fun x105 h106 =>
 clrK h (Value.tuple #[x79, (Value.int .i64 (.ofNat 0))]) h106)) fun k101 =>
 cnd x99
 (clrK h (Value.tuple #[(Value.slice none 0 0), (Value.int .i64 (.ofNat 7))]) h100)
 (k101 x63 x64 h100)) v107 (dNext h82 u108 .blind) (andB (dFit h82 u108 .blind) (Nat.ble 0 u108.lo))) (pickB (.c (Value.bool true)) (.c x97) enE (Hs.mk .e h82.nx h82.nx) x84)))))))) v109 (dNext h80 u110 .light) (andB (dFit h80 u110 .light) (Nat.ble 0 u110.lo))))))) (oMkfunc (.func 32) [] [.c x0, .c x70] enE h73))) (oAlloc 72 [Value.nilFunc] enE h69)) (oMkfunc (.func 30) [] [.c x6, .c x8] enE h67))) fun k62 =>
 cnd x60
 (clrK h (Value.tuple #[(Value.slice none 0 0), (Value.int .i64 (.ofNat 1))]) h61)
 (k62 (Value.slice none 0 0) (Value.int .i64 (.ofNat 0)) h61)) (pickB (.c (Value.bool true)) (.c x58) enE h59 x51)))) (pickB (.c (Value.bool true)) (.c x49) enE h50 x41)))) (pickB (.c (Value.bool true)) (.c x39) enE h40 x14)))))))))))) (oAlloc 3 [(Value.int .i64 (.ofNat 0))] enE h7)) (oAlloc 3 [(Value.int .i64 (.ofNat 0))] enE h3))))) (oBox 3 (.c a2) enE h0)

theorem q12 (R : RnK) (N : Nat) (args : List Value) (h : Hs) : r12 R N args h = callT Try.prog N R 12 args h := by kernel_rfl

/-- lintel/bits.Has -/
noncomputable def r19 (R : RnK) (N : Nat) (args : List Value) (h : Hs) : An := unC args fun a0 sq0 => unC sq0 fun a1 sq1 => enK h fun h0 =>
 after (fun x0 h1 =>
 kLoads 1 x0 h1 (fun x2 =>
 kCall R 39 [x2, a1] h1 (fun x3 h4 =>
 gdT x3 h4 (fun k5 => kFieldA 0 x0 (fun x6 => k5 x6 h4)) (fun x7 h8 =>
 gdT x3 h8 (fun k9 => kLoad x7 h8 (fun x10 => k9 x10 h8)) (fun x11 h12 =>
 gdT x3 h12 (fun k13 => k13 a1 h12) (fun x14 h15 =>
 gdT x3 h15 (fun k16 => kI64 .quo x14 (Value.int .i64 (.ofNat 64)) (fun x17 => k16 x17 h15)) (fun x18 h19 =>
 gdT x3 h19 (fun k20 => kIdxA 1 x11 x18 (fun x21 => k20 x21 h19)) (fun x22 h23 =>
 gdT x3 h23 (fun k24 => kLoad x22 h23 (fun x25 => k24 x25 h23)) (fun x26 h27 =>
 gdT x3 h27 (fun k28 => k28 a1 h27) (fun x29 h30 =>
 gdT x3 h30 (fun k31 => kI64 .rem x29 (Value.int .i64 (.ofNat 64)) (fun x32 => k31 x32 h30)) (fun x33 h34 =>
 gdT x3 h34 (fun k35 => kShr x26 x33 (fun x36 => k35 x36 h34)) (fun x37 h38 =>
 gdT x3 h38 (fun k39 => kU64 .and x37 (Value.int .u64 (.ofNat 1)) (fun x40 => k39 x40 h38)) (fun x41 h42 =>
 gdT x3 h42 (fun k43 => kU64 .eql x41 (Value.int .u64 (.ofNat 1)) (fun x44 => k43 x44 h42)) (fun x45 h46 =>
 after (fun x47 h48 =>
 clrK h x47 h48) (pickB (.c x45) (.c (Value.bool false)) enE h46 x3))))))))))))))) (oBox 32 (.c a0) enE h0)

theorem q19 (R : RnK) (N : Nat) (args : List Value) (h : Hs) : r19 R N args h = callT Try.prog N R 19 args h := by kernel_rfl

/-- lintel/bits.Set -/
noncomputable def r20 (R : RnK) (N : Nat) (args : List Value) (h : Hs) : An := unC args fun a0 sq0 => unC sq0 fun a1 sq1 => unC sq1 fun a2 sq2 => enK h fun h0 =>
 after (fun x0 h1 =>
 after (fun x2 h3 =>
 kFieldA 0 x0 (fun x4 =>
 kLoad x4 h3 (fun x5 =>
 kCall R 40 [x5] h3 (fun x6 h7 =>
 after (fun x8 h9 =>
 after (fun x10 h11 =>
 kStore1 x10 x8 h11 (fun x12 h13 =>
 kLenV a2 (fun x14 =>
 jn (fun (x16 x17 x18 x19 x20 : Value) (h21 : Hs) =>
 kLoads 1 x10 h21 (fun x22 =>
 kStore1 x2 x22 h21 (fun x23 h24 =>
 clearUp h (packR h24 (resV enE h24 [.cell (.c x2) 1 true]))))) fun k15 =>
 lpT (T := Value → Value → Value → Value → Value → Hs → An) (fun _ _ _ _ _ _ => none) N (fun k25 =>
 fun (x27 x28 x29 x30 x31 : Value) (h32 : Hs) =>
 kI64 .lss x27 x14 (fun x33 =>
 jn (fun (h35 : Hs) =>
 jn (fun (x37 x38 x39 : Value) (h40 : Hs) =>
 kI64 .add x27 (Value.int .i64 (.ofNat 1)) (fun x41 =>
 k25 x41 x33 x37 x38 x39 h40)) fun k36 =>
 kIdxA 1 a2 x27 (fun x42 =>
 kLoad x42 h35 (fun x43 =>
 kLoads 1 x0 h35 (fun x44 =>
 kCall R 39 [x44, x43] h35 (fun x45 h46 =>
 kNot x45 (fun x47 =>
 jn (fun (h49 : Hs) =>
 kFieldA 0 x10 (fun x50 =>
 kLoad x50 h49 (fun x51 =>
 kI64 .quo x43 (Value.int .i64 (.ofNat 64)) (fun x52 =>
 kIdxA 1 x51 x52 (fun x53 =>
 kLoad x53 h49 (fun x54 =>
 kI64 .rem x43 (Value.int .i64 (.ofNat 64)) (fun x55 =>
 kShl (Value.int .u64 (.ofNat 1)) x55 (fun x56 =>
 kU64 .andNot x54 x56 (fun x57 =>
 kIdxA 1 x51 x52 (fun x58 =>
 kStore1 x58 x57 h49 (fun v76 u77 => dPut (fun x59 h60 =>
 jn (fun (h62 : Hs) =>
 k36 x43 x47 a1 h62) fun k61 =>
 cnd a1
 (kFieldA 0 x10 (fun x63 =>
 kLoad x63 h60 (fun x64 =>
 kI64 .quo x43 (Value.int .i64 (.ofNat 64)) (fun x65 =>
 kIdxA 1 x64 x65 (fun x66 =>
 kLoad x66 h60 (fun x67 =>
 kI64 .rem x43 (Value.int .i64 (.ofNat 64)) (fun x68 =>
 kShl (Value.int .u64 (.ofNat 1)) x68 (fun x69 =>
 kU64 .or x67 x69 (fun x70 =>
 kIdxA 1 x64 x65 (fun x71 =>
 kStore1 x71 x70 h60 (fun v74 u75 => dPut (fun x72 h73 =>
 k61 h73) v74 (dNext h60 u75 .bar) (andB (dFit h60 u75 .bar) (Nat.ble 0 u75.lo)))))))))))))
 (k61 h60)) v76 (dNext h49 u77 .bar) (andB (dFit h49 u77 .bar) (Nat.ble 0 u77.lo))))))))))))) fun k48 =>
 cnd x47
 (k36 x43 x47 x31 h46)
 (k48 h46))))))) fun k34 =>
 cnd x33
 (k34 h32)
 (k15 x27 x33 x29 x30 x31 h32))) (Value.int .i64 (.ofNat 0)) dunno dunno dunno dunno h13))) (oAlloc 32 [(Value.slice none 0 0)] enE h9)) (oBuild [(Value.slice none 0 0)] [(0, 1, .c x6)] enE h7))))) (oAlloc 32 [(Value.slice none 0 0)] enE h1)) (oBox 32 (.c a0) enE h0)

theorem q20 (R : RnK) (N : Nat) (args : List Value) (h : Hs) : r20 R N args h = callT Try.prog N R 20 args h := by kernel_rfl

/-- (*lintel/pool.Pool).Free -/
noncomputable def r22 (R : RnK) (N : Nat) (args : List Value) (h : Hs) : An := unC args fun a0 sq0 => enK h fun h0 =>
 kCall R 29 [a0] h0 (fun x0 h1 =>
 kCall R 35 [x0] h1 (fun x2 h3 =>
 clrK h x2 h3))

theorem q22 (R : RnK) (N : Nat) (args : List Value) (h : Hs) : r22 R N args h = callT Try.prog N R 22 args h := by kernel_rfl

/-- lintel/geom.Plain -/
noncomputable def r25 (R : RnK) (N : Nat) (args : List Value) (h : Hs) : An := unC args fun a0 sq0 => enK h fun h0 =>
 after (fun x0 h1 =>
 after (fun x2 h3 =>
 after (fun x4 h5 =>
 clearUp h (packR h5 (resV enE h5 [.cell (.c x0) 4 true]))) (store1 4 h3 (cellsL x2) (addrOf x0))) (oBuild [(Value.int .i64 (.ofNat 0)), (Value.int .i64 (.ofNat 0)), (Value.int .i64 (.ofNat 0)), (Value.int .i64 (.ofNat 0))] [(0, 1, .c a0), (1, 1, .c (Value.int .i64 (.ofNat 10))), (2, 1, .c (Value.int .i64 (.ofNat 1))), (3, 1, .c (Value.int .i64 (.ofNat 20)))] enE h1)) (oAlloc 23 [(Value.int .i64 (.ofNat 0)), (Value.int .i64 (.ofNat 0)), (Value.int .i64 (.ofNat 0)), (Value.int .i64 (.ofNat 0))] enE h0)

theorem q25 (R : RnK) (N : Nat) (args : List Value) (h : Hs) : r25 R N args h = callT Try.prog N R 25 args h := by kernel_rfl

/-- lintel/geom.in -/
noncomputable def r26 (R : RnK) (N : Nat) (args : List Value) (h : Hs) : An := unC args fun a0 sq0 => unC sq0 fun a1 sq1 => unC sq1 fun a2 sq2 => enK h fun h0 =>
 kI64 .geq a0 a1 (fun x0 =>
 gdT x0 h0 (fun k1 => k1 a0 h0) (fun x2 h3 =>
 gdT x0 h3 (fun k4 => k4 a2 h3) (fun x5 h6 =>
 gdT x0 h6 (fun k7 => kI64 .leq x2 x5 (fun x8 => k7 x8 h6)) (fun x9 h10 =>
 after (fun x11 h12 =>
 clrK h x11 h12) (pickB (.c x9) (.c (Value.bool false)) enE h10 x0)))))

theorem q26 (R : RnK) (N : Nat) (args : List Value) (h : Hs) : r26 R N args h = callT Try.prog N R 26 args h := by kernel_rfl

/-- (lintel/geom.Geom).data -/
noncomputable def r27 (R : RnK) (N : Nat) (args : List Value) (h : Hs) : An := unC args fun a0 sq0 => enK h fun h0 =>
 after (fun x0 h1 =>
 kLoads 4 x0 h1 (fun x2 =>
 kCall R 43 [x2] h1 (fun x3 h4 =>
 kExtr x3 0 (fun x5 =>
 kExtr x3 1 (fun x6 =>
 kI64 .add x5 x6 (fun x7 =>
 kFieldA 1 x0 (fun x8 =>
 kLoad x8 h4 (fun x9 =>
 kI64 .mul (Value.int .i64 (.ofNat 2)) x9 (fun x10 =>
 kI64 .add x7 x10 (fun x11 =>
 kFieldA 0 x0 (fun x12 =>
 kLoad x12 h4 (fun x13 =>
 kI64 .sub x13 (Value.int .i64 (.ofNat 1)) (fun x14 =>
 kI64 .sub x14 x11 (fun x15 =>
 clrK h (Value.tuple #[x11, x15]) h4)))))))))))))) (oBox 23 (.c a0) enE h0)

theorem q27 (R : RnK) (N : Nat) (args : List Value) (h : Hs) : r27 R N args h = callT Try.prog N R 27 args h := by kernel_rfl

/-- lintel/bits.New -/
noncomputable def r28 (R : RnK) (N : Nat) (args : List Value) (h : Hs) : An := unC args fun a0 sq0 => enK h fun h0 =>
 after (fun x0 h1 =>
 after (fun x2 h3 =>
 after (fun x4 h5 =>
 kI64 .add x4 (Value.int .i64 (.ofNat 64)) (fun x6 =>
 kI64 .sub x6 (Value.int .i64 (.ofNat 1)) (fun x7 =>
 kI64 .quo x7 (Value.int .i64 (.ofNat 64)) (fun x8 =>
 after (fun x9 h10 =>
 after (fun x11 h12 =>
 kStore1 x0 x11 h12 (fun x13 h14 =>
 clearUp h (packR h14 (resV enE h14 [.cell (.c x0) 1 true])))) (oBuild [(Value.slice none 0 0)] [(0, 1, .c x9)] enE h10)) (mkslice1 60 1 8 [(Value.int .u64 (.ofNat 0))] h5 (natOf x8) (natOf x8)))))) (oMinmax false [.c x2, .c (Value.int .i64 (.ofNat 65536))] enE h3)) (oMinmax true [.c a0, .c (Value.int .i64 (.ofNat 0))] enE h1)) (oAlloc 32 [(Value.slice none 0 0)] enE h0)

theorem q28 (R : RnK) (N : Nat) (args : List Value) (h : Hs) : r28 R N args h = callT Try.prog N R 28 args h := by kernel_rfl

/-- (*lintel/pool.Pool).rows -/
noncomputable def r29 (R : RnK) (N : Nat) (args : List Value) (h : Hs) : An := unC args fun a0 sq0 => enK h fun h0 =>
 kNil a0 (fun x0 =>
 kFieldA 0 x0 (fun x1 =>
 kLoads 4 x1 h0 (fun x2 =>
 kCall R 10 [x2] h0 (fun x3 h4 =>
 kExtr x3 0 (fun x5 =>
 kExtr x3 1 (fun x6 =>
 kI64 .add x5 x6 (fun x7 =>
 jn (fun (x9 x10 x11 x12 x13 x14 x15 : Value) (h16 : Hs) =>
 clrK h x15 h16) fun k8 =>
 lpT (T := Value → Value → Value → Value → Value → Value → Value → Hs → An) (fun _ _ _ _ _ _ _ _ => none) N (fun k17 =>
 fun (x19 x20 x21 x22 x23 x24 x25 : Value) (h26 : Hs) =>
 jn (fun (x28 x29 x30 x31 x32 x33 x34 : Value) (h35 : Hs) =>
 k17 x28 x29 x30 x31 x32 x33 x34 h35) fun k27 =>
 kNil a0 (fun x36 =>
 kFieldA 4 x36 (fun x37 =>
 kLoads 1 x37 h26 (fun x38 =>
 kCall R 42 [x38, (Value.bool false), x19, x7] h26 (fun x39 h40 =>
 kExtr x39 0 (fun x41 =>
 kExtr x39 1 (fun x42 =>
 kNot x42 (fun x43 =>
 jn (fun (x45 : Value) (h46 : Hs) =>
 kNil a0 (fun x47 =>
 kFieldA 4 x47 (fun x48 =>
 kLoads 1 x48 h46 (fun x49 =>
 kCall R 42 [x49, (Value.bool true), x41, x7] h46 (fun x50 h51 =>
 kExtr x50 0 (fun x52 =>
 kExtr x50 1 (fun x53 =>
 kNot x53 (fun x54 =>
 jn (fun (x56 : Value) (h57 : Hs) =>
 kI64 .sub x56 x41 (fun x58 =>
 after (fun x59 h60 =>
 after (fun x61 h62 =>
 after (fun x63 h64 =>
 k27 x56 x53 x43 x63 x41 x54 x45 h64) (app0 54 2 16 h62 x22 x61)) (oMkrow 54 2 1 [(Value.int .i64 (.ofNat 0)), (Value.int .i64 (.ofNat 0))] [(0, 2, .c x59)] enE h60)) (oBuild [(Value.int .i64 (.ofNat 0)), (Value.int .i64 (.ofNat 0))] [(0, 1, .c x41), (1, 1, .c x58)] enE h57))) fun k55 =>
 cnd x54
 (k55 x7 h51)
 (k55 x52 h51))))))))) fun k44 =>
 cnd x43
 (clrK h x22 h40)
 (k44 x25 h40))))))))) x5 dunno dunno (Value.slice none 0 0) dunno dunno (Value.slice none 0 0) h4)))))))

theorem q29 (R : RnK) (N : Nat) (args : List Value) (h : Hs) : r29 R N args h = callT Try.prog N R 29 args h := by kernel_rfl

/-- (*lintel/pool.Pool).Take$1 -/
noncomputable def r30 (R : RnK) (N : Nat) (args : List Value) (h : Hs) : An := unC args fun a0 sq0 => unC sq0 fun a1 sq1 => unC sq1 fun a2 sq2 => enK h fun h0 =>
 after (fun x0 h1 =>
 kFieldA 0 x0 (fun x2 =>
 kLoad x2 h1 (fun x3 =>
 kLoad a1 h1 (fun x4 =>
 kI64 .geq x3 x4 (fun x5 =>
 gdT x5 h1 (fun k6 => kFieldA 0 x0 (fun x7 => k6 x7 h1)) (fun x8 h9 =>
 gdT x5 h9 (fun k10 => kLoad x8 h9 (fun x11 => k10 x11 h9)) (fun x12 h13 =>
 gdT x5 h13 (fun k14 => kLoad a1 h13 (fun x15 => k14 x15 h13)) (fun x16 h17 =>
 gdT x5 h17 (fun k18 => kLoad a2 h17 (fun x19 => k18 x19 h17)) (fun x20 h21 =>
 gdT x5 h21 (fun k22 => kI64 .add x16 x20 (fun x23 => k22 x23 h21)) (fun x24 h25 =>
 gdT x5 h25 (fun k26 => kI64 .lss x12 x24 (fun x27 => k26 x27 h25)) (fun x28 h29 =>
 after (fun x30 h31 =>
 clrK h x30 h31) (pickB (.c x28) (.c (Value.bool false)) enE h29 x5)))))))))))) (oBox 54 (.c a0) enE h0)

theorem q30 (R : RnK) (N : Nat) (args : List Value) (h : Hs) : r30 R N args h = callT Try.prog N R 30 args h := by kernel_rfl

/-- slices.SortStableFunc[[]lintel/node.Run,lintel/node.Run] -/
noncomputable def r31 (R : RnK) (N : Nat) (args : List Value) (h : Hs) : An := unC args fun a0 sq0 => unC sq0 fun a1 sq1 => enK h fun h0 =>
 kLenV a0 (fun x0 =>
 kCall R 44 [a0, x0, a1] h0 (fun x1 h2 =>
 clrK h (Value.tuple #[]) h2))

theorem q31 (R : RnK) (N : Nat) (args : List Value) (h : Hs) : r31 R N args h = callT Try.prog N R 31 args h := by kernel_rfl

/-- (*lintel/pool.Pool).Take$2 -/
noncomputable def r32 (R : RnK) (N : Nat) (args : List Value) (h : Hs) : An := unC args fun a0 sq0 => unC sq0 fun a1 sq1 => unC sq1 fun a2 sq2 => unC sq2 fun a3 sq3 => enK h fun h0 =>
 after (fun x0 h1 =>
 after (fun x2 h3 =>
 kFieldA 1 x0 (fun x4 =>
 kLoad x4 (Hs.mk h3.hp h3.nx h3.nx) (fun x5 =>
 kLoad a2 (Hs.mk h3.hp h3.nx h3.nx) (fun x6 =>
 kI64 .geq x5 x6 (fun x7 =>
 gdT x7 h3 (fun k8 => kFieldA 1 x2 (fun x9 => k8 x9 h3)) (fun x10 _ =>
 gdT x7 h3 (fun k12 => kLoad x10 (Hs.mk h3.hp h3.nx h3.nx) (fun x13 => k12 x13 h3)) (fun x14 _ =>
 gdT x7 h3 (fun k16 => kLoad a2 (Hs.mk h3.hp h3.nx h3.nx) (fun x17 => k16 x17 h3)) (fun x18 _ =>
 gdT x7 h3 (fun k20 => kI64 .geq x14 x18 (fun x21 => k20 x21 h3)) (fun x22 _ =>
 after (fun v83 u84 => dPut (fun x24 h25 =>
 gdT x24 h25 (fun k26 => kLoad a3 (dHidS .light [true, true, true, true, true, true, true, true, true, true, true] [none, some (h3.nx, h25.nx), none, none, none, none, none, none, none, none, none] h25) (fun x27 => k26 x27 h25)) (fun x28 _ =>
 gdT x24 h25 (fun k30 => kLoads 2 x0 (dHidS .light [false, true, true, true, true, true, true, true, true, true, true, true] [none, none, some (h3.nx, h25.nx), none, none, none, none, none, none, none, none, none] h25) (fun x31 => k30 x31 h25)) (fun x32 _ =>
 gdT x24 h25 (fun k34 => isVal (fun v35 u36 => dPut k34 v35 (dNext h25 u36 .light) (andB (dFit h25 u36 .light) (Nat.ble 0 u36.lo))) (callV (toRn R) [x32] (dHidS .light [true, true, true, true, true, true, true, true, true, true, true, true, true] [none, none, none, some (h3.nx, h25.nx), none, none, none, none, none, none, none, none, none] h25) x28)) (fun x37 h38 =>
 gdT x24 h38 (fun k39 => kLoad a3 (dHidS .light [false, false, false, true, true, true, true, true, true, true, true, true, true, true] [some (h25.nx, h38.nx), none, none, none, some (h3.nx, h25.nx), none, none, none, none, none, none, none, none, none] h38) (fun x40 => k39 x40 h38)) (fun x41 _ =>
 gdT x24 h38 (fun k43 => kLoads 2 x2 (dHidS .light [false, false, false, false, true, true, true, true, true, true, true, true, true, true, true] [none, some (h25.nx, h38.nx), none, none, none, some (h3.nx, h25.nx), none, none, none, none, none, none, none, none, none] h38) (fun x44 => k43 x44 h38)) (fun x45 _ =>
 gdT x24 h38 (fun k47 => isVal (fun v48 u49 => dPut k47 v48 (dNext h38 u49 .bar) (andB (dFit h38 u49 .bar) (Nat.ble 0 u49.lo))) (callV (toRn R) [x45] h38 x41)) (fun x50 h51 =>
 gdT x24 h51 (fun k52 => obK (fun x53 => k52 x53 h51) (e2 true qB x37 x50)) (fun x54 _ =>
 after (fun v81 u82 => dPut (fun x56 h57 =>
 jn (fun (x59 x60 : Value) (h61 : Hs) =>
 kFieldA 1 x2 (fun x62 =>
 kLoad x62 h61 (fun x63 =>
 kLoad a2 h61 (fun x64 =>
 after (fun x65 h66 =>
 kFieldA 1 x0 (fun x67 =>
 kLoad x67 h66 (fun x68 =>
 kLoad a2 h66 (fun x69 =>
 after (fun x70 h71 =>
 kCall R 33 [x65, x70] h71 (fun x72 h73 =>
 clrK h x72 h73)) (oMinmax false [.c x68, .c x69] enE h66))))) (oMinmax false [.c x63, .c x64] enE h61))))) fun k58 =>
 cnd x56
 (kLoad a3 h57 (fun x74 =>
 kLoads 2 x0 h57 (fun x75 =>
 isVal (fun x76 h77 =>
 jn (fun (x79 : Value) (h80 : Hs) =>
 clrK h (Value.int .i64 (.ofNat 1)) h80) fun k78 =>
 cnd x76
 (clrK h (Value.int .i64 (.negSucc 0)) h77)
 (k78 (Value.int .i64 (.ofNat 0)) h77)) (callV (toRn R) [x75] h57 x74))))
 (k58 dunno (Value.int .i64 (.ofNat 0)) h57)) v81 (dNext h51 u82 .blind) (andB (dFit h51 u82 .blind) (Nat.ble 0 u82.lo))) (pickB (.c x54) (.c (Value.bool false)) enE (Hs.mk .e h51.nx h51.nx) x24))))))))) v83 (dNext h3 u84 .blind) (andB (dFit h3 u84 .blind) (Nat.ble 0 u84.lo))) (pickB (.c x22) (.c (Value.bool false)) enE (Hs.mk .e h3.nx h3.nx) x7)))))))))) (oBox 54 (.c a1) enE h1)) (oBox 54 (.c a0) enE h0)

theorem q32 (R : RnK) (N : Nat) (args : List Value) (h : Hs) : r32 R N args h = callT Try.prog N R 32 args h := by kernel_rfl

/-- cmp.Compare[int] -/
noncomputable def r33 (R : RnK) (N : Nat) (args : List Value) (h : Hs) : An := unC args fun a0 sq0 => unC sq0 fun a1 sq1 => enK h fun h0 =>
 kCall R 45 [a0] h0 (fun x0 h1 =>
 kCall R 45 [a1] h1 (fun x2 h3 =>
 jn (fun (x5 x6 : Value) (h7 : Hs) =>
 jn (fun (x9 : Value) (h10 : Hs) =>
 kI64 .lss a0 a1 (fun x11 =>
 jn (fun (x13 : Value) (h14 : Hs) =>
 kI64 .gtr a0 a1 (fun x15 =>
 jn (fun (x17 : Value) (h18 : Hs) =>
 clrK h (Value.int .i64 (.ofNat 0)) h18) fun k16 =>
 cnd x15
 (clrK h (Value.int .i64 (.ofNat 1)) h14)
 (k16 x13 h14))) fun k12 =>
 cnd x11
 (clrK h (Value.int .i64 (.negSucc 0)) h10)
 (k12 x9 h10))) fun k8 =>
 cnd x2
 (clrK h (Value.int .i64 (.ofNat 1)) h7)
 (k8 x6 h7)) fun k4 =>
 cnd x0
 (jn (fun (x20 : Value) (h21 : Hs) =>
 clrK h (Value.int .i64 (.negSucc 0)) h21) fun k19 =>
 cnd x2
 (clrK h (Value.int .i64 (.ofNat 0)) h3)
 (k19 (Value.int .i64 (.ofNat 0)) h3))
 (k4 dunno (Value.int .i64 (.ofNat 0)) h3)))

theorem q33 (R : RnK) (N : Nat) (args : List Value) (h : Hs) : r33 R N args h = callT Try.prog N R 33 args h := by kernel_rfl

/-- lintel/pool.enough -/
noncomputable def r34 (R : RnK) (N : Nat) (args : List Value) (h : Hs) : An := unC args fun a0 sq0 => unC sq0 fun a1 sq1 => enK h fun h0 =>
 kLenV a0 (fun x0 =>
 jn (fun (x2 x3 x4 x5 x6 x7 : Value) (h8 : Hs) =>
 clrK h x7 h8) fun k1 =>
 lpT (T := Value → Value → Value → Value → Value → Value → Hs → An) (fun _ _ _ _ _ _ _ => none) N (fun k9 =>
 fun (x11 x12 x13 x14 x15 x16 : Value) (h17 : Hs) =>
 kI64 .lss x11 x0 (fun x18 =>
 jn (fun (h20 : Hs) =>
 jn (fun (x22 x23 x24 x25 : Value) (h26 : Hs) =>
 kI64 .add x11 (Value.int .i64 (.ofNat 1)) (fun x27 =>
 k9 x27 x18 x22 x23 x24 x25 h26)) fun k21 =>
 kIdxA 2 a0 x11 (fun x28 =>
 kLoads 2 x28 h20 (fun x29 =>
 after (fun x30 h31 =>
 after (fun x32 h33 =>
 kI64 .eql x13 (Value.int .i64 (.ofNat 0)) (fun x34 =>
 jn (fun (h36 : Hs) =>
 kFieldA 1 x30 (fun x37 =>
 kLoad x37 h36 (fun x38 =>
 after (fun x39 h40 =>
 kFieldA 1 x30 (fun x41 =>
 kStore1 x41 x39 h40 (fun x42 h43 =>
 kFieldA 1 x30 (fun x44 =>
 kLoad x44 h43 (fun x45 =>
 kI64 .sub x13 x45 (fun x46 =>
 kLoads 2 x30 h43 (fun x47 =>
 after (fun x48 h49 =>
 after (fun x50 h51 =>
 k21 x46 x34 x30 x50 h51) (app0 54 2 16 h49 x16 x48)) (oMkrow 54 2 1 [(Value.int .i64 (.ofNat 0)), (Value.int .i64 (.ofNat 0))] [(0, 2, .c x47)] enE h43)))))))) (oMinmax false [.c x38, .c x13] enE h36)))) fun k35 =>
 cnd x34
 (k1 x11 x18 x13 x34 x30 x16 h33)
 (k35 h33))) (store1 2 h31 (cellsL x29) (addrOf x30))) (oAlloc 54 [(Value.int .i64 (.ofNat 0)), (Value.int .i64 (.ofNat 0))] enE h20)))) fun k19 =>
 cnd x18
 (k19 h17)
 (k1 x11 x18 x13 x14 x15 x16 h17))) (Value.int .i64 (.ofNat 0)) dunno a1 dunno dunno (Value.slice none 0 0) h0)

theorem q34 (R : RnK) (N : Nat) (args : List Value) (h : Hs) : r34 R N args h = callT Try.prog N R 34 args h := by kernel_rfl

/-- lintel/runs.Total -/
noncomputable def r35 (R : RnK) (N : Nat) (args : List Value) (h : Hs) : An := unC args fun a0 sq0 => enK h fun h0 =>
 kCall R 46 [a0] h0 (fun x0 h1 =>
 kLenV x0 (fun x2 =>
 jn (fun (x4 x5 x6 x7 : Value) (h8 : Hs) =>
 clrK h x6 h8) fun k3 =>
 lpT (T := Value → Value → Value → Value → Hs → An) (fun _ _ _ _ _ => none) N (fun k9 =>
 fun (x11 x12 x13 x14 : Value) (h15 : Hs) =>
 kI64 .lss x11 x2 (fun x16 =>
 jn (fun (h18 : Hs) =>
 jn (fun (x20 x21 : Value) (h22 : Hs) =>
 kI64 .add x11 (Value.int .i64 (.ofNat 1)) (fun x23 =>
 k9 x23 x16 x20 x21 h22)) fun k19 =>
 kIdxA 2 x0 x11 (fun x24 =>
 kLoads 2 x24 h18 (fun x25 =>
 after (fun x26 h27 =>
 after (fun x28 h29 =>
 kFieldA 1 x26 (fun x30 =>
 kLoad x30 h29 (fun x31 =>
 kI64 .add x13 x31 (fun x32 =>
 k19 x32 x26 h29)))) (store1 2 h27 (cellsL x25) (addrOf x26))) (oAlloc 54 [(Value.int .i64 (.ofNat 0)), (Value.int .i64 (.ofNat 0))] enE h18)))) fun k17 =>
 cnd x16
 (k17 h15)
 (k3 x11 x16 x13 x14 h15))) (Value.int .i64 (.ofNat 0)) dunno (Value.int .i64 (.ofNat 0)) dunno h1))

theorem q35 (R : RnK) (N : Nat) (args : List Value) (h : Hs) : r35 R N args h = callT Try.prog N R 35 args h := by kernel_rfl

/-- (*lintel/pool.Pool).mark -/
noncomputable def r36 (R : RnK) (N : Nat) (args : List Value) (h : Hs) : An := unC args fun a0 sq0 => unC sq0 fun a1 sq1 => unC sq1 fun a2 sq2 => enK h fun h0 =>
 kLenV a2 (fun x0 =>
 jn (fun (x2 x3 x4 x5 x6 x7 x8 : Value) (h9 : Hs) =>
 clrK h (Value.tuple #[]) h9) fun k1 =>
 lpT (T := Value → Value → Value → Value → Value → Value → Value → Hs → An) (fun _ _ _ _ _ _ _ _ => none) N (fun k10 =>
 fun (x12 x13 x14 x15 x16 x17 x18 : Value) (h19 : Hs) =>
 kI64 .lss x12 x0 (fun x20 =>
 jn (fun (h22 : Hs) =>
 jn (fun (x24 x25 x26 x27 x28 : Value) (h29 : Hs) =>
 kI64 .add x12 (Value.int .i64 (.ofNat 1)) (fun x30 =>
 k10 x30 x20 x24 x25 x26 x27 x28 h29)) fun k23 =>
 kIdxA 2 a2 x12 (fun x31 =>
 kLoads 2 x31 h22 (fun x32 =>
 after (fun x33 h34 =>
 after (fun x35 h36 =>
 kFieldA 1 x33 (fun x37 =>
 kLoad x37 h36 (fun x38 =>
 jn (fun (x40 x41 x42 : Value) (h43 : Hs) =>
 k23 x33 x40 x38 x41 x42 h43) fun k39 =>
 lpT (T := Value → Value → Value → Hs → An) (fun _ _ _ _ => none) N (fun k44 =>
 fun (x46 x47 x48 : Value) (h49 : Hs) =>
 kI64 .lss x46 x38 (fun x50 =>
 jn (fun (h52 : Hs) =>
 jn (fun (x54 : Value) (h55 : Hs) =>
 kI64 .add x46 (Value.int .i64 (.ofNat 1)) (fun x56 =>
 k44 x56 x50 x54 h55)) fun k53 =>
 kNil a0 (fun x57 =>
 kFieldA 4 x57 (fun x58 =>
 kLoads 1 x58 (Hs.mk h52.hp h52.nx h52.nx) (fun x59 =>
 kFieldA 0 x33 (fun x60 =>
 kLoad x60 (Hs.mk h52.hp h52.nx h52.nx) (fun x61 =>
 kI64 .add x61 x46 (fun x62 =>
 after (fun v75 u76 => dPut (fun x63 h64 =>
 kCall R 20 [x59, a1, x63] h64 (fun v73 u74 => dPut (fun x65 h66 =>
 kNil a0 (fun x67 =>
 kFieldA 4 x67 (fun x68 =>
 kStore1 x68 x65 h66 (fun v71 u72 => dPut (fun x69 h70 =>
 k53 x46 h70) v71 (dNext h66 u72 .bar) (andB (dFit h66 u72 .bar) (Nat.ble 0 u72.lo)))))) v73 (dNext h64 u74 .bar) (andB (dFit h64 u74 .bar) (Nat.ble 0 u74.lo)))) v75 (dNext h52 u76 .light) (andB (dFit h52 u76 .light) (Nat.ble 0 u76.lo))) (oMkrow 3 1 1 [(Value.int .i64 (.ofNat 0))] [(0, 1, .c x62)] enE (Hs.mk h52.hp h52.nx h52.nx))))))))) fun k51 =>
 cnd x50
 (k51 h49)
 (k39 x46 x50 x48 h49))) (Value.int .i64 (.ofNat 0)) x17 x18 h36))) (store1 2 h34 (cellsL x32) (addrOf x33))) (oAlloc 54 [(Value.int .i64 (.ofNat 0)), (Value.int .i64 (.ofNat 0))] enE h22)))) fun k21 =>
 cnd x20
 (k21 h19)
 (k1 x12 x20 x14 x15 x16 x17 x18 h19))) (Value.int .i64 (.ofNat 0)) dunno dunno dunno dunno dunno dunno h0)

theorem q36 (R : RnK) (N : Nat) (args : List Value) (h : Hs) : r36 R N args h = callT Try.prog N R 36 args h := by kernel_rfl

/-- (lintel/bits.Bits).there -/
noncomputable def r39 (R : RnK) (N : Nat) (args : List Value) (h : Hs) : An := unC args fun a0 sq0 => unC sq0 fun a1 sq1 => enK h fun h0 =>
 after (fun x0 h1 =>
 kI64 .geq a1 (Value.int .i64 (.ofNat 0)) (fun x2 =>
 gdT x2 h1 (fun k3 => k3 a1 h1) (fun x4 h5 =>
 gdT x2 h5 (fun k6 => kI64 .quo x4 (Value.int .i64 (.ofNat 64)) (fun x7 => k6 x7 h5)) (fun x8 h9 =>
 gdT x2 h9 (fun k10 => kFieldA 0 x0 (fun x11 => k10 x11 h9)) (fun x12 h13 =>
 gdT x2 h13 (fun k14 => kLoad x12 h13 (fun x15 => k14 x15 h13)) (fun x16 h17 =>
 gdT x2 h17 (fun k18 => kLenV x16 (fun x19 => k18 x19 h17)) (fun x20 h21 =>
 gdT x2 h21 (fun k22 => kI64 .lss x8 x20 (fun x23 => k22 x23 h21)) (fun x24 h25 =>
 after (fun x26 h27 =>
 clrK h x26 h27) (pickB (.c x24) (.c (Value.bool false)) enE h25 x2))))))))) (oBox 32 (.c a0) enE h0)

theorem q39 (R : RnK) (N : Nat) (args : List Value) (h : Hs) : r39 R N args h = callT Try.prog N R 39 args h := by kernel_rfl

/-- slices.Clone[[]uint64,uint64] -/
noncomputable def r40 (R : RnK) (N : Nat) (args : List Value) (h : Hs) : An := unC args fun a0 sq0 => enK h fun h0 =>
 obK (fun x0 =>
 jn (fun (x2 : Value) (h3 : Hs) =>
 after (fun x4 h5 =>
 after (fun x6 h7 =>
 clrK h x6 h7) (app0 60 1 8 h5 x4 a0)) (oMkrow 60 1 0 [(Value.int .u64 (.ofNat 0))] [] enE h3)) fun k1 =>
 cnd x0
 (clrK h (Value.slice none 0 0) h0)
 (k1 (Value.slice none 0 0) h0)) (e2 false qS a0 (Value.slice none 0 0))

theorem q40 (R : RnK) (N : Nat) (args : List Value) (h : Hs) : r40 R N args h = callT Try.prog N R 40 args h := by kernel_rfl

/-- lintel/bits.Next -/
noncomputable def r42 (R : RnK) (N : Nat) (args : List Value) (h : Hs) : An := unC args fun a0 sq0 => unC sq0 fun a1 sq1 => unC sq1 fun a2 sq2 => unC sq2 fun a3 sq3 => enK h fun h0 =>
 after (fun x0 h1 =>
 after (fun x2 h3 =>
 jn (fun (x5 x6 x7 x8 x9 : Value) (h10 : Hs) =>
 clrK h (Value.tuple #[(Value.int .i64 (.ofNat 0)), (Value.bool false)]) h10) fun k4 =>
 lpT (T := Value → Value → Value → Value → Value → Hs → An) (fun _ _ _ _ _ _ => none) N (fun k11 =>
 fun (x13 x14 x15 x16 x17 : Value) (h18 : Hs) =>
 kI64 .lss x13 a3 (fun x19 =>
 gdT x19 h18 (fun k20 => kLoads 1 x0 h18 (fun x21 => k20 x21 h18)) (fun x22 h23 =>
 gdT x19 h23 (fun k24 => k24 x13 h23) (fun x25 h26 =>
 gdT x19 h26 (fun k27 => kCall R 39 [x22, x25] h26 (k27)) (fun x28 h29 =>
 after (fun x30 h31 =>
 jn (fun (h33 : Hs) =>
 jn (fun (x35 x36 x37 : Value) (h38 : Hs) =>
 kI64 .add x13 (Value.int .i64 (.ofNat 1)) (fun x39 =>
 k11 x39 x30 x35 x36 x37 h38)) fun k34 =>
 kLoads 1 x0 h33 (fun x40 =>
 kCall R 19 [x40, x13] h33 (fun x41 h42 =>
 obK (fun x43 =>
 jn (fun (x45 x46 : Value) (h47 : Hs) =>
 k34 x43 x45 x46 h47) fun k44 =>
 cnd x43
 (clrK h (Value.tuple #[x13, (Value.bool true)]) h42)
 (k44 x16 x17 h42)) (e2 false qB x41 a1)))) fun k32 =>
 cnd x30
 (k32 h31)
 (k4 x13 x30 x15 x16 x17 h31)) (pickB (.c x28) (.c (Value.bool false)) enE h29 x19)))))) x2 dunno dunno (Value.int .i64 (.ofNat 0)) (Value.bool false) h3) (oMinmax true [.c a2, .c (Value.int .i64 (.ofNat 0))] enE h1)) (oBox 32 (.c a0) enE h0)

theorem q42 (R : RnK) (N : Nat) (args : List Value) (h : Hs) : r42 R N args h = callT Try.prog N R 42 args h := by kernel_rfl

/-- (lintel/geom.Geom).bits -/
noncomputable def r43 (R : RnK) (N : Nat) (args : List Value) (h : Hs) : An := unC args fun a0 sq0 => enK h fun h0 =>
 after (fun x0 h1 =>
 kFieldA 2 x0 (fun x2 =>
 kLoad x2 (Hs.mk h1.hp h1.nx h1.nx) (fun x3 =>
 kFieldA 3 x0 (fun x4 =>
 kLoad x4 (Hs.mk h1.hp h1.nx h1.nx) (fun x5 =>
 kI64 .mul x3 x5 (fun x6 =>
 kI64 .add (Value.int .i64 (.ofNat 1)) x6 (fun x7 =>
 kFieldA 0 x0 (fun x8 =>
 kLoad x8 (Hs.mk h1.hp h1.nx h1.nx) (fun x9 =>
 kI64 .add x9 (Value.int .i64 (.ofNat 512)) (fun x10 =>
 kI64 .sub x10 (Value.int .i64 (.ofNat 1)) (fun x11 =>
 kI64 .quo x11 (Value.int .i64 (.ofNat 512)) (fun x12 =>
 clrK h (Value.tuple #[x7, x12]) h1)))))))))))) (oBox 23 (.c a0) enE h0)

theorem q43 (R : RnK) (N : Nat) (args : List Value) (h : Hs) : r43 R N args h = callT Try.prog N R 43 args h := by kernel_rfl

/-- slices.stableCmpFunc[lintel/node.Run] -/
noncomputable def r44 (R : RnK) (N : Nat) (args : List Value) (h : Hs) : An := unC args fun a0 sq0 => unC sq0 fun a1 sq1 => unC sq1 fun a2 sq2 => enK h fun h0 =>
 jn (fun (x1 x2 x3 : Value) (h4 : Hs) =>
 kCall R 49 [a0, x3, a1, a2] h4 (fun x5 h6 =>
 jn (fun (x8 x9 x10 x11 x12 x13 x14 : Value) (h15 : Hs) =>
 clrK h (Value.tuple #[]) h15) fun k7 =>
 lpT (T := Value → Value → Value → Value → Value → Value → Value → Hs → An) (fun _ _ _ _ _ _ _ _ => none) N (fun k16 =>
 fun (x18 x19 x20 x21 x22 x23 x24 : Value) (h25 : Hs) =>
 kI64 .lss x18 a1 (fun x26 =>
 jn (fun (h28 : Hs) =>
 jn (fun (x30 x31 x32 x33 x34 x35 : Value) (h36 : Hs) =>
 k16 x30 x31 x32 x26 x33 x34 x35 h36) fun k29 =>
 kI64 .mul (Value.int .i64 (.ofNat 2)) x18 (fun x37 =>
 jn (fun (x39 x40 x41 : Value) (h42 : Hs) =>
 kI64 .add x40 x18 (fun x43 =>
 kI64 .lss x43 a1 (fun x44 =>
 jn (fun (h46 : Hs) =>
 kI64 .mul x18 (Value.int .i64 (.ofNat 2)) (fun x47 =>
 k29 x47 x39 x40 x41 x43 x44 h46)) fun k45 =>
 cnd x44
 (kCall R 50 [a0, x40, x43, a1, a2] h42 (fun x48 h49 =>
 k45 h49))
 (k45 h42)))) fun k38 =>
 lpT (T := Value → Value → Value → Hs → An) (fun _ _ _ _ => none) N (fun k50 =>
 fun (x52 x53 x54 : Value) (h55 : Hs) =>
 kI64 .leq x52 a1 (fun x56 =>
 jn (fun (h58 : Hs) =>
 jn (fun (x60 x61 : Value) (h62 : Hs) =>
 k50 x60 x61 x56 h62) fun k59 =>
 kI64 .add x53 x18 (fun x63 =>
 kCall R 50 [a0, x53, x63, x52, a2] h58 (fun x64 h65 =>
 kI64 .mul (Value.int .i64 (.ofNat 2)) x18 (fun x66 =>
 kI64 .add x52 x66 (fun x67 =>
 k59 x67 x52 h65))))) fun k57 =>
 cnd x56
 (k57 h55)
 (k38 x52 x53 x56 h55))) x37 (Value.int .i64 (.ofNat 0)) x22 h28)) fun k27 =>
 cnd x26
 (k27 h25)
 (k7 x18 x19 x20 x26 x22 x23 x24 h25))) (Value.int .i64 (.ofNat 20)) x1 x3 dunno dunno dunno dunno h6)) fun k0 =>
 lpT (T := Value → Value → Value → Hs → An) (fun _ _ _ _ => none) N (fun k68 =>
 fun (x70 x71 x72 : Value) (h73 : Hs) =>
 kI64 .leq x70 a1 (fun x74 =>
 jn (fun (h76 : Hs) =>
 jn (fun (x78 x79 : Value) (h80 : Hs) =>
 k68 x78 x74 x79 h80) fun k77 =>
 kCall R 49 [a0, x72, x70, a2] h76 (fun x81 h82 =>
 kI64 .add x70 (Value.int .i64 (.ofNat 20)) (fun x83 =>
 k77 x83 x70 h82))) fun k75 =>
 cnd x74
 (k75 h73)
 (k0 x70 x74 x72 h73))) (Value.int .i64 (.ofNat 20)) dunno (Value.int .i64 (.ofNat 0)) h0

theorem q44 (R : RnK) (N : Nat) (args : List Value) (h : Hs) : r44 R N args h = callT Try.prog N R 44 args h := by kernel_rfl

/-- cmp.isNaN[int] -/
noncomputable def r45 (R : RnK) (N : Nat) (args : List Value) (h : Hs) : An := unC args fun a0 sq0 => enK h fun h0 =>
 kI64 .neq a0 a0 (fun x0 =>
 clrK h x0 h0)

theorem q45 (R : RnK) (N : Nat) (args : List Value) (h : Hs) : r45 R N args h = callT Try.prog N R 45 args h := by kernel_rfl

/-- lintel/runs.counts -/
noncomputable def r46 (R : RnK) (N : Nat) (args : List Value) (h : Hs) : An := unC args fun a0 sq0 => enK h fun h0 =>
 kLenV a0 (fun x0 =>
 jn (fun (x2 x3 x4 x5 x6 : Value) (h7 : Hs) =>
 clrK h x6 h7) fun k1 =>
 lpT (T := Value → Value → Value → Value → Value → Hs → An) (fun _ _ _ _ _ _ => none) N (fun k8 =>
 fun (x10 x11 x12 x13 x14 : Value) (h15 : Hs) =>
 kI64 .lss x10 x0 (fun x16 =>
 jn (fun (h18 : Hs) =>
 jn (fun (x20 x21 x22 : Value) (h23 : Hs) =>
 kI64 .add x10 (Value.int .i64 (.ofNat 1)) (fun x24 =>
 k8 x24 x16 x20 x21 x22 h23)) fun k19 =>
 kIdxA 2 a0 x10 (fun x25 =>
 kLoads 2 x25 h18 (fun x26 =>
 after (fun x27 h28 =>
 after (fun x29 h30 =>
 kFieldA 1 x27 (fun x31 =>
 kLoad x31 h30 (fun x32 =>
 kI64 .geq x32 (Value.int .i64 (.ofNat 1)) (fun x33 =>
 gdT x33 h30 (fun k34 => kFieldA 1 x27 (fun x35 => k34 x35 h30)) (fun x36 h37 =>
 gdT x33 h37 (fun k38 => kLoad x36 h37 (fun x39 => k38 x39 h37)) (fun x40 h41 =>
 gdT x33 h41 (fun k42 => kI64 .leq x40 (Value.int .i64 (.ofNat 1073741824)) (fun x43 => k42 x43 h41)) (fun x44 h45 =>
 after (fun x46 h47 =>
 gdT x46 h47 (fun k48 => kFieldA 0 x27 (fun x49 => k48 x49 h47)) (fun x50 h51 =>
 gdT x46 h51 (fun k52 => kLoad x50 h51 (fun x53 => k52 x53 h51)) (fun x54 h55 =>
 gdT x46 h55 (fun k56 => kI64 .geq x54 (Value.int .i64 (.ofNat 0)) (fun x57 => k56 x57 h55)) (fun x58 h59 =>
 after (fun x60 h61 =>
 gdT x60 h61 (fun k62 => kFieldA 0 x27 (fun x63 => k62 x63 h61)) (fun x64 h65 =>
 gdT x60 h65 (fun k66 => kLoad x64 h65 (fun x67 => k66 x67 h65)) (fun x68 h69 =>
 gdT x60 h69 (fun k70 => kI64 .leq x68 (Value.int .i64 (.ofNat 1073741824)) (fun x71 => k70 x71 h69)) (fun x72 h73 =>
 after (fun x74 h75 =>
 jn (fun (x77 : Value) (h78 : Hs) =>
 k19 x27 x74 x77 h78) fun k76 =>
 cnd x74
 (kLoads 2 x27 h75 (fun x79 =>
 after (fun x80 h81 =>
 after (fun x82 h83 =>
 k76 x82 h83) (app0 54 2 16 h81 x14 x80)) (oMkrow 54 2 1 [(Value.int .i64 (.ofNat 0)), (Value.int .i64 (.ofNat 0))] [(0, 2, .c x79)] enE h75)))
 (k76 x14 h75)) (pickB (.c x72) (.c (Value.bool false)) enE h73 x60))))) (pickB (.c x58) (.c (Value.bool false)) enE h59 x46))))) (pickB (.c x44) (.c (Value.bool false)) enE h45 x33)))))))) (store1 2 h28 (cellsL x26) (addrOf x27))) (oAlloc 54 [(Value.int .i64 (.ofNat 0)), (Value.int .i64 (.ofNat 0))] enE h18)))) fun k17 =>
 cnd x16
 (k17 h15)
 (k1 x10 x16 x12 x13 x14 h15))) (Value.int .i64 (.ofNat 0)) dunno dunno dunno (Value.slice none 0 0) h0)

theorem q46 (R : RnK) (N : Nat) (args : List Value) (h : Hs) : r46 R N args h = callT Try.prog N R 46 args h := by kernel_rfl

/-- slices.insertionSortCmpFunc[lintel/node.Run] -/
noncomputable def r49 (R : RnK) (N : Nat) (args : List Value) (h : Hs) : An := unC args fun a0 sq0 => unC sq0 fun a1 sq1 => unC sq1 fun a2 sq2 => unC sq2 fun a3 sq3 => enK h fun h0 =>
 kI64 .add a1 (Value.int .i64 (.ofNat 1)) (fun x0 =>
 jn (fun (x2 x3 x4 x5 : Value) (h6 : Hs) =>
 clrK h (Value.tuple #[]) h6) fun k1 =>
 lpT (T := Value → Value → Value → Value → Hs → An) (fun _ _ _ _ _ => none) N (fun k7 =>
 fun (x9 x10 x11 x12 : Value) (h13 : Hs) =>
 kI64 .lss x9 a2 (fun x14 =>
 jn (fun (h16 : Hs) =>
 jn (fun (x18 x19 : Value) (h20 : Hs) =>
 kI64 .add x9 (Value.int .i64 (.ofNat 1)) (fun x21 =>
 k7 x21 x14 x18 x19 h20)) fun k17 =>
 jn (fun (x23 x24 : Value) (h25 : Hs) =>
 k17 x23 x24 h25) fun k22 =>
 lpT (T := Value → Value → Hs → An) (fun _ _ _ => none) N (fun k26 =>
 fun (x28 x29 : Value) (h30 : Hs) =>
 kI64 .gtr x28 a1 (fun x31 =>
 gdT x31 h30 (fun k32 => k32 a3 h30) (fun x33 _ =>
 gdT x31 h30 (fun k35 => k35 a0 h30) (fun x36 _ =>
 gdT x31 h30 (fun k38 => k38 x28 h30) (fun x39 _ =>
 gdT x31 h30 (fun k41 => kIdxA 2 x36 x39 (fun x42 => k41 x42 h30)) (fun x43 _ =>
 gdT x31 h30 (fun k45 => kLoads 2 x43 (Hs.mk h30.hp h30.nx h30.nx) (fun x46 => k45 x46 h30)) (fun x47 _ =>
 gdT x31 h30 (fun k49 => k49 a0 h30) (fun x50 _ =>
 gdT x31 h30 (fun k52 => k52 x28 h30) (fun x53 _ =>
 gdT x31 h30 (fun k55 => kI64 .sub x53 (Value.int .i64 (.ofNat 1)) (fun x56 => k55 x56 h30)) (fun x57 _ =>
 gdT x31 h30 (fun k59 => kIdxA 2 x50 x57 (fun x60 => k59 x60 h30)) (fun x61 _ =>
 gdT x31 h30 (fun k63 => kLoads 2 x61 (Hs.mk h30.hp h30.nx h30.nx) (fun x64 => k63 x64 h30)) (fun x65 _ =>
 gdT x31 h30 (fun k67 => isVal (fun v68 u69 => dPut k67 v68 (dNext h30 u69 .bar) (andB (dFit h30 u69 .bar) (Nat.ble 0 u69.lo))) (callV (toRn R) [x47, x65] h30 x33)) (fun x70 h71 =>
 gdT x31 h71 (fun k72 => kI64 .lss x70 (Value.int .i64 (.ofNat 0)) (fun x73 => k72 x73 h71)) (fun x74 _ =>
 after (fun v99 u100 => dPut (fun x76 h77 =>
 jn (fun (h79 : Hs) =>
 jn (fun (h81 : Hs) =>
 kI64 .sub x28 (Value.int .i64 (.ofNat 1)) (fun x82 =>
 k26 x82 x76 h81)) fun k80 =>
 kI64 .sub x28 (Value.int .i64 (.ofNat 1)) (fun x83 =>
 kI64 .sub x28 (Value.int .i64 (.ofNat 1)) (fun x84 =>
 kIdxA 2 a0 x84 (fun x85 =>
 kLoads 2 x85 (Hs.mk h79.hp h79.nx h79.nx) (fun x86 =>
 kIdxA 2 a0 x28 (fun x87 =>
 kLoads 2 x87 (Hs.mk h79.hp h79.nx h79.nx) (fun x88 =>
 kIdxA 2 a0 x28 (fun x89 =>
 after (fun v97 u98 => dPut (fun x90 h91 =>
 kIdxA 2 a0 x83 (fun x92 =>
 after (fun v95 u96 => dPut (fun x93 h94 =>
 k80 h94) v95 (dNext h91 u96 .bar) (andB (dFit h91 u96 .bar) (Nat.ble 0 u96.lo))) (store1 2 h91 (cellsL x88) (addrOf x92)))) v97 (dNext h79 u98 .bar) (andB (dFit h79 u98 .bar) (Nat.ble 0 u98.lo))) (store1 2 h79 (cellsL x86) (addrOf x89)))))))))) fun k78 =>
 cnd x76
 (k78 h77)
 (k22 x28 x76 h77)) v99 (dNext h71 u100 .blind) (andB (dFit h71 u100 .blind) (Nat.ble 0 u100.lo))) (pickB (.c x74) (.c (Value.bool false)) enE (Hs.mk .e h71.nx h71.nx) x31))))))))))))))) x9 x12 h16) fun k15 =>
 cnd x14
 (k15 h13)
 (k1 x9 x14 x11 x12 h13))) x0 dunno dunno dunno h0)

theorem q49 (R : RnK) (N : Nat) (args : List Value) (h : Hs) : r49 R N args h = callT Try.prog N R 49 args h := by kernel_rfl

/-- slices.symMergeCmpFunc[lintel/node.Run] -/
noncomputable def r50 (R : RnK) (N : Nat) (args : List Value) (h : Hs) : An := unC args fun a0 sq0 => unC sq0 fun a1 sq1 => unC sq1 fun a2 sq2 => unC sq2 fun a3 sq3 => unC sq3 fun a4 sq4 => enK h fun h0 =>
 kI64 .sub a2 a1 (fun x0 =>
 kI64 .eql x0 (Value.int .i64 (.ofNat 1)) (fun x1 =>
 jn (fun (x3 x4 x5 x6 x7 x8 x9 : Value) (h10 : Hs) =>
 kI64 .sub a3 a2 (fun x11 =>
 kI64 .eql x11 (Value.int .i64 (.ofNat 1)) (fun x12 =>
 jn (fun (x14 x15 x16 x17 x18 x19 x20 : Value) (h21 : Hs) =>
 kI64 .add a1 a3 (fun x22 =>
 kToU x22 (fun x23 =>
 kShr x23 (Value.int .u64 (.ofNat 1)) (fun x24 =>
 kTo64 x24 (fun x25 =>
 kI64 .add x25 a2 (fun x26 =>
 kI64 .gtr a2 x25 (fun x27 =>
 jn (fun (x29 x30 : Value) (h31 : Hs) =>
 kI64 .sub x26 (Value.int .i64 (.ofNat 1)) (fun x32 =>
 jn (fun (x34 x35 x36 x37 x38 : Value) (h39 : Hs) =>
 kI64 .sub x26 x34 (fun x40 =>
 kI64 .lss x34 a2 (fun x41 =>
 gdT x41 h39 (fun k42 => k42 a2 h39) (fun x43 h44 =>
 gdT x41 h44 (fun k45 => k45 x40 h44) (fun x46 h47 =>
 gdT x41 h47 (fun k48 => kI64 .lss x43 x46 (fun x49 => k48 x49 h47)) (fun x50 h51 =>
 after (fun x52 h53 =>
 jn (fun (h55 : Hs) =>
 kI64 .lss a1 x34 (fun x56 =>
 gdT x56 h55 (fun k57 => k57 x34 h55) (fun x58 h59 =>
 gdT x56 h59 (fun k60 => k60 x25 h59) (fun x61 h62 =>
 gdT x56 h62 (fun k63 => kI64 .lss x58 x61 (fun x64 => k63 x64 h62)) (fun x65 h66 =>
 after (fun x67 h68 =>
 jn (fun (h70 : Hs) =>
 kI64 .lss x25 x40 (fun x71 =>
 gdT x71 h70 (fun k72 => k72 x40 h70) (fun x73 h74 =>
 gdT x71 h74 (fun k75 => k75 a3 h74) (fun x76 h77 =>
 gdT x71 h77 (fun k78 => kI64 .lss x73 x76 (fun x79 => k78 x79 h77)) (fun x80 h81 =>
 after (fun x82 h83 =>
 jn (fun (h85 : Hs) =>
 clrK h (Value.tuple #[]) h85) fun k84 =>
 cnd x82
 (kCall R 50 [a0, x25, x40, a3, a4] h83 (fun x86 h87 =>
 k84 h87))
 (k84 h83)) (pickB (.c x80) (.c (Value.bool false)) enE h81 x71)))))) fun k69 =>
 cnd x67
 (kCall R 50 [a0, a1, x34, x25, a4] h68 (fun x88 h89 =>
 k69 h89))
 (k69 h68)) (pickB (.c x65) (.c (Value.bool false)) enE h66 x56)))))) fun k54 =>
 cnd x52
 (kCall R 53 [a0, x34, a2, x40, a4] h53 (fun x90 h91 =>
 k54 h91))
 (k54 h53)) (pickB (.c x50) (.c (Value.bool false)) enE h51 x41))))))) fun k33 =>
 lpT (T := Value → Value → Value → Value → Value → Hs → An) (fun _ _ _ _ _ _ => none) N (fun k92 =>
 fun (x94 x95 x96 x97 x98 : Value) (h99 : Hs) =>
 kI64 .lss x94 x95 (fun x100 =>
 jn (fun (h102 : Hs) =>
 jn (fun (x104 x105 x106 x107 : Value) (h108 : Hs) =>
 k92 x104 x105 x100 x106 x107 h108) fun k103 =>
 kI64 .add x94 x95 (fun x109 =>
 kToU x109 (fun x110 =>
 kShr x110 (Value.int .u64 (.ofNat 1)) (fun x111 =>
 kTo64 x111 (fun x112 =>
 kI64 .sub x32 x112 (fun x113 =>
 kIdxA 2 a0 x113 (fun x114 =>
 kLoads 2 x114 (Hs.mk h102.hp h102.nx h102.nx) (fun x115 =>
 kIdxA 2 a0 x112 (fun x116 =>
 kLoads 2 x116 (Hs.mk h102.hp h102.nx h102.nx) (fun x117 =>
 isVal (fun v127 u128 => dPut (fun x118 h119 =>
 kI64 .lss x118 (Value.int .i64 (.ofNat 0)) (fun x120 =>
 kNot x120 (fun x121 =>
 jn (fun (x123 x124 : Value) (h125 : Hs) =>
 k103 x123 x124 x112 x121 h125) fun k122 =>
 cnd x121
 (kI64 .add x112 (Value.int .i64 (.ofNat 1)) (fun x126 =>
 k122 x126 x95 h119))
 (k122 x94 x112 h119)))) v127 (dNext h102 u128 .bar) (andB (dFit h102 u128 .bar) (Nat.ble 0 u128.lo))) (callV (toRn R) [x115, x117] h102 a4))))))))))) fun k101 =>
 cnd x100
 (k101 h99)
 (k33 x94 x95 x100 x97 x98 h99))) x29 x30 dunno dunno dunno h31)) fun k28 =>
 cnd x27
 (kI64 .sub x26 a3 (fun x129 =>
 k28 x129 x25 h21))
 (k28 a1 a2 h21)))))))) fun k13 =>
 cnd x12
 (jn (fun (x131 x132 x133 x134 x135 : Value) (h136 : Hs) =>
 jn (fun (x138 x139 : Value) (h140 : Hs) =>
 clrK h (Value.tuple #[]) h140) fun k137 =>
 lpT (T := Value → Value → Hs → An) (fun _ _ _ => none) N (fun k141 =>
 fun (x143 x144 : Value) (h145 : Hs) =>
 kI64 .gtr x143 x131 (fun x146 =>
 jn (fun (h148 : Hs) =>
 jn (fun (h150 : Hs) =>
 kI64 .sub x143 (Value.int .i64 (.ofNat 1)) (fun x151 =>
 k141 x151 x146 h150)) fun k149 =>
 kI64 .sub x143 (Value.int .i64 (.ofNat 1)) (fun x152 =>
 kI64 .sub x143 (Value.int .i64 (.ofNat 1)) (fun x153 =>
 kIdxA 2 a0 x153 (fun x154 =>
 kLoads 2 x154 (Hs.mk h148.hp h148.nx h148.nx) (fun x155 =>
 kIdxA 2 a0 x143 (fun x156 =>
 kLoads 2 x156 (Hs.mk h148.hp h148.nx h148.nx) (fun x157 =>
 kIdxA 2 a0 x143 (fun x158 =>
 after (fun v166 u167 => dPut (fun x159 h160 =>
 kIdxA 2 a0 x152 (fun x161 =>
 after (fun v164 u165 => dPut (fun x162 h163 =>
 k149 h163) v164 (dNext h160 u165 .bar) (andB (dFit h160 u165 .bar) (Nat.ble 0 u165.lo))) (store1 2 h160 (cellsL x157) (addrOf x161)))) v166 (dNext h148 u167 .bar) (andB (dFit h148 u167 .bar) (Nat.ble 0 u167.lo))) (store1 2 h148 (cellsL x155) (addrOf x158)))))))))) fun k147 =>
 cnd x146
 (k147 h145)
 (k137 x143 x146 h145))) a2 dunno h136) fun k130 =>
 lpT (T := Value → Value → Value → Value → Value → Hs → An) (fun _ _ _ _ _ _ => none) N (fun k168 =>
 fun (x170 x171 x172 x173 x174 : Value) (h175 : Hs) =>
 kI64 .lss x170 x171 (fun x176 =>
 jn (fun (h178 : Hs) =>
 jn (fun (x180 x181 x182 x183 : Value) (h184 : Hs) =>
 k168 x180 x181 x176 x182 x183 h184) fun k179 =>
 kI64 .add x170 x171 (fun x185 =>
 kToU x185 (fun x186 =>
 kShr x186 (Value.int .u64 (.ofNat 1)) (fun x187 =>
 kTo64 x187 (fun x188 =>
 kIdxA 2 a0 a2 (fun x189 =>
 kLoads 2 x189 (Hs.mk h178.hp h178.nx h178.nx) (fun x190 =>
 kIdxA 2 a0 x188 (fun x191 =>
 kLoads 2 x191 (Hs.mk h178.hp h178.nx h178.nx) (fun x192 =>
 isVal (fun v202 u203 => dPut (fun x193 h194 =>
 kI64 .lss x193 (Value.int .i64 (.ofNat 0)) (fun x195 =>
 kNot x195 (fun x196 =>
 jn (fun (x198 x199 : Value) (h200 : Hs) =>
 k179 x198 x199 x188 x196 h200) fun k197 =>
 cnd x196
 (kI64 .add x188 (Value.int .i64 (.ofNat 1)) (fun x201 =>
 k197 x201 x171 h194))
 (k197 x170 x188 h194)))) v202 (dNext h178 u203 .bar) (andB (dFit h178 u203 .bar) (Nat.ble 0 u203.lo))) (callV (toRn R) [x190, x192] h178 a4)))))))))) fun k177 =>
 cnd x176
 (k177 h175)
 (k130 x170 x171 x176 x173 x174 h175))) a1 a2 dunno dunno dunno h10)
 (k13 dunno dunno dunno dunno dunno dunno dunno h10)))) fun k2 =>
 cnd x1
 (jn (fun (x205 x206 x207 x208 x209 : Value) (h210 : Hs) =>
 jn (fun (x212 x213 : Value) (h214 : Hs) =>
 clrK h (Value.tuple #[]) h214) fun k211 =>
 lpT (T := Value → Value → Hs → An) (fun _ _ _ => none) N (fun k215 =>
 fun (x217 x218 : Value) (h219 : Hs) =>
 kI64 .sub x205 (Value.int .i64 (.ofNat 1)) (fun x220 =>
 kI64 .lss x217 x220 (fun x221 =>
 jn (fun (h223 : Hs) =>
 jn (fun (h225 : Hs) =>
 kI64 .add x217 (Value.int .i64 (.ofNat 1)) (fun x226 =>
 k215 x226 x221 h225)) fun k224 =>
 kI64 .add x217 (Value.int .i64 (.ofNat 1)) (fun x227 =>
 kI64 .add x217 (Value.int .i64 (.ofNat 1)) (fun x228 =>
 kIdxA 2 a0 x228 (fun x229 =>
 kLoads 2 x229 (Hs.mk h223.hp h223.nx h223.nx) (fun x230 =>
 kIdxA 2 a0 x217 (fun x231 =>
 kLoads 2 x231 (Hs.mk h223.hp h223.nx h223.nx) (fun x232 =>
 kIdxA 2 a0 x217 (fun x233 =>
 after (fun v241 u242 => dPut (fun x234 h235 =>
 kIdxA 2 a0 x227 (fun x236 =>
 after (fun v239 u240 => dPut (fun x237 h238 =>
 k224 h238) v239 (dNext h235 u240 .bar) (andB (dFit h235 u240 .bar) (Nat.ble 0 u240.lo))) (store1 2 h235 (cellsL x232) (addrOf x236)))) v241 (dNext h223 u242 .bar) (andB (dFit h223 u242 .bar) (Nat.ble 0 u242.lo))) (store1 2 h223 (cellsL x230) (addrOf x233)))))))))) fun k222 =>
 cnd x221
 (k222 h219)
 (k211 x217 x221 h219)))) a1 dunno h210) fun k204 =>
 lpT (T := Value → Value → Value → Value → Value → Hs → An) (fun _ _ _ _ _ _ => none) N (fun k243 =>
 fun (x245 x246 x247 x248 x249 : Value) (h250 : Hs) =>
 kI64 .lss x245 x246 (fun x251 =>
 jn (fun (h253 : Hs) =>
 jn (fun (x255 x256 x257 x258 : Value) (h259 : Hs) =>
 k243 x255 x256 x251 x257 x258 h259) fun k254 =>
 kI64 .add x245 x246 (fun x260 =>
 kToU x260 (fun x261 =>
 kShr x261 (Value.int .u64 (.ofNat 1)) (fun x262 =>
 kTo64 x262 (fun x263 =>
 kIdxA 2 a0 x263 (fun x264 =>
 kLoads 2 x264 (Hs.mk h253.hp h253.nx h253.nx) (fun x265 =>
 kIdxA 2 a0 a1 (fun x266 =>
 kLoads 2 x266 (Hs.mk h253.hp h253.nx h253.nx) (fun x267 =>
 isVal (fun v276 u277 => dPut (fun x268 h269 =>
 kI64 .lss x268 (Value.int .i64 (.ofNat 0)) (fun x270 =>
 jn (fun (x272 x273 : Value) (h274 : Hs) =>
 k254 x272 x273 x263 x270 h274) fun k271 =>
 cnd x270
 (kI64 .add x263 (Value.int .i64 (.ofNat 1)) (fun x275 =>
 k271 x275 x246 h269))
 (k271 x245 x263 h269))) v276 (dNext h253 u277 .bar) (andB (dFit h253 u277 .bar) (Nat.ble 0 u277.lo))) (callV (toRn R) [x265, x267] h253 a4)))))))))) fun k252 =>
 cnd x251
 (k252 h250)
 (k204 x245 x246 x251 x248 x249 h250))) a2 a3 dunno dunno dunno h0)
 (k2 dunno dunno dunno dunno dunno dunno dunno h0)))

theorem q50 (R : RnK) (N : Nat) (args : List Value) (h : Hs) : r50 R N args h = callT Try.prog N R 50 args h := by kernel_rfl

/-- slices.rotateCmpFunc[lintel/node.Run] -/
noncomputable def r53 (R : RnK) (N : Nat) (args : List Value) (h : Hs) : An := unC args fun a0 sq0 => unC sq0 fun a1 sq1 => unC sq1 fun a2 sq2 => unC sq2 fun a3 sq3 => unC sq3 fun a4 sq4 => enK h fun h0 =>
 kI64 .sub a2 a1 (fun x0 =>
 kI64 .sub a3 a2 (fun x1 =>
 jn (fun (x3 x4 x5 x6 : Value) (h7 : Hs) =>
 kI64 .sub a2 x3 (fun x8 =>
 kCall R 63 [a0, x8, a2, x3, a4] h7 (fun x9 h10 =>
 clrK h (Value.tuple #[]) h10))) fun k2 =>
 lpT (T := Value → Value → Value → Value → Hs → An) (fun _ _ _ _ _ => none) N (fun k11 =>
 fun (x13 x14 x15 x16 : Value) (h17 : Hs) =>
 kI64 .neq x13 x14 (fun x18 =>
 jn (fun (h20 : Hs) =>
 jn (fun (x22 x23 x24 : Value) (h25 : Hs) =>
 k11 x22 x23 x18 x24 h25) fun k21 =>
 kI64 .gtr x13 x14 (fun x26 =>
 jn (fun (x28 x29 : Value) (h30 : Hs) =>
 k21 x28 x29 x26 h30) fun k27 =>
 cnd x26
 (kI64 .sub a2 x13 (fun x31 =>
 kCall R 63 [a0, x31, a2, x14, a4] h20 (fun x32 h33 =>
 kI64 .sub x13 x14 (fun x34 =>
 k27 x34 x14 h33))))
 (kI64 .sub a2 x13 (fun x35 =>
 kI64 .add a2 x14 (fun x36 =>
 kI64 .sub x36 x13 (fun x37 =>
 kCall R 63 [a0, x35, x37, x13, a4] h20 (fun x38 h39 =>
 kI64 .sub x14 x13 (fun x40 =>
 k27 x13 x40 h39)))))))) fun k19 =>
 cnd x18
 (k19 h17)
 (k2 x13 x14 x18 x16 h17))) x0 x1 dunno dunno h0))

theorem q53 (R : RnK) (N : Nat) (args : List Value) (h : Hs) : r53 R N args h = callT Try.prog N R 53 args h := by kernel_rfl

/-- slices.swapRangeCmpFunc[lintel/node.Run] -/
noncomputable def r63 (R : RnK) (N : Nat) (args : List Value) (h : Hs) : An := unC args fun a0 sq0 => unC sq0 fun a1 sq1 => unC sq1 fun a2 sq2 => unC sq2 fun a3 sq3 => unC sq3 fun a4 sq4 => enK h fun h0 =>
 jn (fun (x1 x2 : Value) (h3 : Hs) =>
 clrK h (Value.tuple #[]) h3) fun k0 =>
 lpT (T := Value → Value → Hs → An) (fun _ _ _ => none) N (fun k4 =>
 fun (x6 x7 : Value) (h8 : Hs) =>
 kI64 .lss x6 a3 (fun x9 =>
 jn (fun (h11 : Hs) =>
 jn (fun (h13 : Hs) =>
 kI64 .add x6 (Value.int .i64 (.ofNat 1)) (fun x14 =>
 k4 x14 x9 h13)) fun k12 =>
 kI64 .add a1 x6 (fun x15 =>
 kI64 .add a2 x6 (fun x16 =>
 kI64 .add a2 x6 (fun x17 =>
 kIdxA 2 a0 x17 (fun x18 =>
 kLoads 2 x18 (Hs.mk h11.hp h11.nx h11.nx) (fun x19 =>
 kI64 .add a1 x6 (fun x20 =>
 kIdxA 2 a0 x20 (fun x21 =>
 kLoads 2 x21 (Hs.mk h11.hp h11.nx h11.nx) (fun x22 =>
 kIdxA 2 a0 x15 (fun x23 =>
 after (fun v31 u32 => dPut (fun x24 h25 =>
 kIdxA 2 a0 x16 (fun x26 =>
 after (fun v29 u30 => dPut (fun x27 h28 =>
 k12 h28) v29 (dNext h25 u30 .bar) (andB (dFit h25 u30 .bar) (Nat.ble 0 u30.lo))) (store1 2 h25 (cellsL x22) (addrOf x26)))) v31 (dNext h11 u32 .bar) (andB (dFit h11 u32 .bar) (Nat.ble 0 u32.lo))) (store1 2 h11 (cellsL x19) (addrOf x23)))))))))))) fun k10 =>
 cnd x9
 (k10 h8)
 (k0 x6 x9 h8))) (Value.int .i64 (.ofNat 0)) dunno h0

theorem q63 (R : RnK) (N : Nat) (args : List Value) (h : Hs) : r63 R N args h = callT Try.prog N R 63 args h := by kernel_rfl

noncomputable def entries : List (Nat × FnK) := [(3, r3), (7, r7), (8, r8), (9, r9), (10, r10), (11, r11), (12, r12), (19, r19), (20, r20), (22, r22), (25, r25), (26, r26), (27, r27), (28, r28), (29, r29), (30, r30), (31, r31), (32, r32), (33, r33), (34, r34), (35, r35), (36, r36), (39, r39), (40, r40), (42, r42), (43, r43), (44, r44), (45, r45), (46, r46), (49, r49), (50, r50), (53, r53), (63, r63)]
theorem entries_ok : AllOk Try.prog entries := ⟨q3, q7, q8, q9, q10, q11, q12, q19, q20, q22, q25, q26, q27, q28, q29, q30, q31, q32, q33, q34, q35, q36, q39, q40, q42, q43, q44, q45, q46, q49, q50, q53, q63, trivial⟩
end Go.Proofs.Ytpiamfcnhkjflaa.poolGroups
