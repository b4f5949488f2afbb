/- What the functions of 'PoolGroups' compute where their arguments are not known: by induction over their loops. -/
import Derived.Test.YtpiamfcnhkjflaaGevSy3
import Derived.Test.YtpiamfcnhkjflaaPoolGroupsTab
namespace Go.Proofs.Ytpiamfcnhkjflaa.poolGroups
open Go Go.Gev
set_option linter.unusedVariables false

noncomputable def g3_0 (R : RnK) (h : Hs) (k41 : Value → Value → Value → Value → Value → Value → Value → Hs → An) (x0 : Value) (x21 : Value) (x40 : Value) : (Value → Value → Value → Value → Value → Value → Value → Hs → An) → Value → Value → Value → Value → Value → Value → Value → Hs → An :=
 (fun k112 =>
 fun (x114 x115 x116 x117 x118 x119 x120 : Value) (h121 : Hs) =>
 kFieldA 2 x0 (fun x122 =>
 kLoad x122 h121 (fun x123 =>
 kI64 .lss x114 x123 (fun x124 =>
 jn (fun (h126 : Hs) =>
 jn (fun (x128 x129 x130 x131 x132 : Value) (h133 : Hs) =>
 kI64 .add x114 (Value.int .i64 (.ofNat 1)) (fun x134 =>
 k112 x134 x124 x128 x129 x130 x131 x132 h133)) fun k127 =>
 kCall R 11 [x21, x114] h126 (fun x135 h136 =>
 kExtr x135 0 (fun x137 =>
 kExtr x135 1 (fun x138 =>
 kI64 .neq x137 x117 (fun x139 =>
 gdF x139 h136 (fun k140 => k140 x138 h136) (fun x141 h142 =>
 gdF x139 h142 (fun k143 => k143 x40 h142) (fun x144 h145 =>
 gdF x139 h145 (fun k146 => kFieldA 2 x0 (fun x147 => k146 x147 h145)) (fun x148 h149 =>
 gdF x139 h149 (fun k150 => kLoad x148 h149 (fun x151 => k150 x151 h149)) (fun x152 h153 =>
 gdF x139 h153 (fun k154 => kI64 .quo x144 x152 (fun x155 => k154 x155 h153)) (fun x156 h157 =>
 gdF x139 h157 (fun k158 => kI64 .lss x141 x156 (fun x159 => k158 x159 h157)) (fun x160 h161 =>
 after (fun x162 h163 =>
 gdF x162 h163 (fun k164 => k164 x114 h163) (fun x165 h166 =>
 gdF x162 h166 (fun k167 => kI64 .add x165 (Value.int .i64 (.ofNat 1)) (fun x168 => k167 x168 h166)) (fun x169 h170 =>
 gdF x162 h170 (fun k171 => kFieldA 2 x0 (fun x172 => k171 x172 h170)) (fun x173 h174 =>
 gdF x162 h174 (fun k175 => kLoad x173 h174 (fun x176 => k175 x176 h174)) (fun x177 h178 =>
 gdF x162 h178 (fun k179 => kI64 .lss x169 x177 (fun x180 => k179 x180 h178)) (fun x181 h182 =>
 gdF x162 h182 (fun k183 => k183 x181 h182) (fun x184 h185 =>
 gdT x184 h185 (fun k186 => k186 x138 h185) (fun x187 h188 =>
 gdT x184 h188 (fun k189 => k189 x40 h188) (fun x190 h191 =>
 gdT x184 h191 (fun k192 => kFieldA 2 x0 (fun x193 => k192 x193 h191)) (fun x194 h195 =>
 gdT x184 h195 (fun k196 => kLoad x194 h195 (fun x197 => k196 x197 h195)) (fun x198 h199 =>
 gdT x184 h199 (fun k200 => kI64 .quo x190 x198 (fun x201 => k200 x201 h199)) (fun x202 h203 =>
 gdT x184 h203 (fun k204 => kI64 .neq x187 x202 (fun x205 => k204 x205 h203)) (fun x206 h207 =>
 gdF x162 h207 (fun k208 => after (k208) (pickB (.c x206) (.c (Value.bool false)) enE h207 x184)) (fun x209 h210 =>
 after (fun x211 h212 =>
 jn (fun (x214 : Value) (h215 : Hs) =>
 kI64 .add x117 x138 (fun x216 =>
 k127 x137 x216 x138 x211 x214 h215)) fun k213 =>
 cnd x211
 (clrK h (Value.bool false) h212)
 (k213 x120 h212)) (pickB (.c (Value.bool true)) (.c x209) enE h210 x162))))))))))))))) (pickB (.c (Value.bool true)) (.c x160) enE h161 x139)))))))))))) fun k125 =>
 cnd x124
 (k125 h121)
 (k41 x114 x124 x116 x117 x118 x119 x120 h121)))))

noncomputable def s3 (R : RnK) (N : Nat) (args : List Value) (h : Hs) : An := unC args fun a0 sq0 => unC sq0 fun a1 sq1 => enK h fun h0 =>
 after (fun x0 h1 =>
 kCall R 6 [] h1 (fun x2 h3 =>
 kNot x2 (fun x4 =>
 jn (fun (x6 : Value) (h7 : Hs) =>
 kLoads 4 x0 h7 (fun x8 =>
 kCall R 7 [x8] h7 (fun x9 h10 =>
 kNot x9 (fun x11 =>
 jn (fun (x13 : Value) (h14 : Hs) =>
 kLoads 4 x0 (Hs.mk h14.hp h14.nx h14.nx) (fun x15 =>
 kLoads 4 x0 (Hs.mk h14.hp h14.nx h14.nx) (fun x16 =>
 kCall R 9 [x16] (Hs.mk h14.hp h14.nx h14.nx) (fun v219 u220 => dPut (fun x17 h18 =>
 kCall R 8 [x15, x17] h18 (fun v217 u218 => dPut (fun x19 h20 =>
 kExtr x19 0 (fun x21 =>
 kExtr x19 1 (fun x22 =>
 kI64 .neq x22 (Value.int .i64 (.ofNat 0)) (fun x23 =>
 gdF x23 h20 (fun k24 => k24 x21 h20) (fun x25 h26 =>
 gdF x23 h26 (fun k27 => obK (fun x28 => k27 x28 h26) (e2 false qP x25 (Value.pointer none))) (fun x29 h30 =>
 after (fun x31 h32 =>
 jn (fun (x34 : Value) (h35 : Hs) =>
 kLoads 4 x0 h35 (fun x36 =>
 kCall R 10 [x36] h35 (fun x37 h38 =>
 kExtr x37 0 (fun x39 =>
 kExtr x37 1 (fun x40 =>
 jn (fun (x42 x43 x44 x45 x46 x47 x48 : Value) (h49 : Hs) =>
 kCall R 11 [x21, a1] h49 (fun x50 h51 =>
 kExtr x50 0 (fun x52 =>
 kExtr x50 1 (fun x53 =>
 kI64 .add x39 x40 (fun x54 =>
 kI64 .eql x45 x54 (fun x55 =>
 gdT x55 h51 (fun k56 => k56 a1 h51) (fun x57 h58 =>
 gdT x55 h58 (fun k59 => kI64 .geq x57 (Value.int .i64 (.ofNat 0)) (fun x60 => k59 x60 h58)) (fun x61 h62 =>
 gdT x55 h62 (fun k63 => k63 x61 h62) (fun x64 h65 =>
 gdT x64 h65 (fun k66 => k66 a1 h65) (fun x67 h68 =>
 gdT x64 h68 (fun k69 => kFieldA 2 x0 (fun x70 => k69 x70 h68)) (fun x71 h72 =>
 gdT x64 h72 (fun k73 => kLoad x71 h72 (fun x74 => k73 x74 h72)) (fun x75 h76 =>
 gdT x64 h76 (fun k77 => kI64 .lss x67 x75 (fun x78 => k77 x78 h76)) (fun x79 h80 =>
 gdT x55 h80 (fun k81 => after (k81) (pickB (.c x79) (.c (Value.bool false)) enE h80 x64)) (fun x82 h83 =>
 gdT x55 h83 (fun k84 => k84 x82 h83) (fun x85 h86 =>
 gdF x85 h86 (fun k87 => k87 x52 h86) (fun x88 h89 =>
 gdF x85 h89 (fun k90 => kI64 .eql x88 (Value.int .i64 (.ofNat 0)) (fun x91 => k90 x91 h89)) (fun x92 h93 =>
 gdF x85 h93 (fun k94 => k94 x92 h93) (fun x95 h96 =>
 gdT x95 h96 (fun k97 => k97 x53 h96) (fun x98 h99 =>
 gdT x95 h99 (fun k100 => kI64 .eql x98 (Value.int .i64 (.ofNat 0)) (fun x101 => k100 x101 h99)) (fun x102 h103 =>
 gdF x85 h103 (fun k104 => after (k104) (pickB (.c x102) (.c (Value.bool false)) enE h103 x95)) (fun x105 h106 =>
 gdT x55 h106 (fun k107 => after (k107) (pickB (.c (Value.bool true)) (.c x105) enE h106 x85)) (fun x108 h109 =>
 after (fun x110 h111 =>
 clrK h x110 h111) (pickB (.c x108) (.c (Value.bool false)) enE h109 x55))))))))))))))))))))))) fun k41 =>
 lpT (T := Value → Value → Value → Value → Value → Value → Value → Hs → An) (fun _ _ _ _ _ _ _ _ => none) N (g3_0 R h k41 x0 x21 x40) (Value.int .i64 (.ofNat 0)) dunno dunno x39 dunno dunno x34 h38))))) fun k33 =>
 cnd x31
 (clrK h (Value.bool false) h32)
 (k33 x13 h32)) (pickB (.c (Value.bool true)) (.c x29) enE h30 x23))))))) v217 (dNext h18 u218 .bar) (andB (dFit h18 u218 .bar) (Nat.ble 0 u218.lo)))) v219 (dNext h14 u220 .light) (andB (dFit h14 u220 .light) (Nat.ble 0 u220.lo)))))) fun k12 =>
 cnd x11
 (clrK h (Value.bool true) h10)
 (k12 x6 h10))))) fun k5 =>
 cnd x4
 (clrK h (Value.bool false) h3)
 (k5 (Value.bool false) h3)))) (oBox 23 (.c a0) enE h0)

theorem s3_eq (R : RnK) (N : Nat) (args : List Value) (h : Hs) : r3 R N args h = s3 R N args h := rfl

noncomputable def s7 (R : RnK) (N : Nat) (args : List Value) (h : Hs) : An := unC args fun a0 sq0 => enK h fun h0 =>
 after (fun x0 h1 =>
 kFieldA 0 x0 (fun x2 =>
 kLoad x2 h1 (fun x3 =>
 kCall R 26 [x3, (Value.int .i64 (.ofNat 64)), (Value.int .i64 (.ofNat 1024))] h1 (fun x4 h5 =>
 kNot x4 (fun x6 =>
 gdF x6 h5 (fun k7 => kFieldA 1 x0 (fun x8 => k7 x8 h5)) (fun x9 h10 =>
 gdF x6 h10 (fun k11 => kLoad x9 h10 (fun x12 => k11 x12 h10)) (fun x13 h14 =>
 gdF x6 h14 (fun k15 => kCall R 26 [x13, (Value.int .i64 (.ofNat 4)), (Value.int .i64 (.ofNat 64))] h14 (k15)) (fun x16 h17 =>
 gdF x6 h17 (fun k18 => kNot x16 (fun x19 => k18 x19 h17)) (fun x20 h21 =>
 after (fun x22 h23 =>
 gdF x22 h23 (fun k24 => kFieldA 2 x0 (fun x25 => k24 x25 h23)) (fun x26 h27 =>
 gdF x22 h27 (fun k28 => kLoad x26 h27 (fun x29 => k28 x29 h27)) (fun x30 h31 =>
 gdF x22 h31 (fun k32 => kCall R 26 [x30, (Value.int .i64 (.ofNat 1)), (Value.int .i64 (.ofNat 8))] h31 (k32)) (fun x33 h34 =>
 gdF x22 h34 (fun k35 => kNot x33 (fun x36 => k35 x36 h34)) (fun x37 h38 =>
 after (fun x39 h40 =>
 gdF x39 h40 (fun k41 => kFieldA 3 x0 (fun x42 => k41 x42 h40)) (fun x43 h44 =>
 gdF x39 h44 (fun k45 => kLoad x43 h44 (fun x46 => k45 x46 h44)) (fun x47 h48 =>
 gdF x39 h48 (fun k49 => kCall R 26 [x47, (Value.int .i64 (.ofNat 16)), (Value.int .i64 (.ofNat 110))] h48 (k49)) (fun x50 h51 =>
 gdF x39 h51 (fun k52 => kNot x50 (fun x53 => k52 x53 h51)) (fun x54 h55 =>
 after (fun x56 h57 =>
 jn (fun (x59 : Value) (h60 : Hs) =>
 kLoads 4 x0 h60 (fun x61 =>
 kCall R 27 [x61] h60 (fun x62 h63 =>
 kExtr x62 0 (fun x64 =>
 kExtr x62 1 (fun x65 =>
 kI64 .geq x65 (Value.int .i64 (.ofNat 1)) (fun x66 =>
 clrK h x66 h63)))))) fun k58 =>
 cnd x56
 (clrK h (Value.bool false) h57)
 (k58 (Value.bool false) h57)) (pickB (.c (Value.bool true)) (.c x54) enE h55 x39)))))) (pickB (.c (Value.bool true)) (.c x37) enE h38 x22)))))) (pickB (.c (Value.bool true)) (.c x20) enE h21 x6)))))))))) (oBox 23 (.c a0) enE h0)

theorem s7_eq (R : RnK) (N : Nat) (args : List Value) (h : Hs) : r7 R N args h = s7 R N args h := rfl

noncomputable def s8 (R : RnK) (N : Nat) (args : List Value) (h : Hs) : An := unC args fun a0 sq0 => unC sq0 fun a1 sq1 => enK h fun h0 =>
 after (fun x0 h1 =>
 after (fun x2 h3 =>
 kLoads 4 x0 h3 (fun x4 =>
 kCall R 7 [x4] h3 (fun x5 h6 =>
 kNot x5 (fun x7 =>
 gdF x7 h6 (fun k8 => kFieldA 0 x2 (fun x9 => k8 x9 h6)) (fun x10 h11 =>
 gdF x7 h11 (fun k12 => kLoad x10 h11 (fun x13 => k12 x13 h11)) (fun x14 h15 =>
 gdF x7 h15 (fun k16 => kLenV x14 (fun x17 => k16 x17 h15)) (fun x18 h19 =>
 gdF x7 h19 (fun k20 => kFieldA 0 x0 (fun x21 => k20 x21 h19)) (fun x22 h23 =>
 gdF x7 h23 (fun k24 => kLoad x22 h23 (fun x25 => k24 x25 h23)) (fun x26 h27 =>
 gdF x7 h27 (fun k28 => kI64 .add x26 (Value.int .i64 (.ofNat 64)) (fun x29 => k28 x29 h27)) (fun x30 h31 =>
 gdF x7 h31 (fun k32 => kI64 .sub x30 (Value.int .i64 (.ofNat 1)) (fun x33 => k32 x33 h31)) (fun x34 h35 =>
 gdF x7 h35 (fun k36 => kI64 .quo x34 (Value.int .i64 (.ofNat 64)) (fun x37 => k36 x37 h35)) (fun x38 h39 =>
 gdF x7 h39 (fun k40 => kI64 .lss x18 x38 (fun x41 => k40 x41 h39)) (fun x42 h43 =>
 after (fun x44 h45 =>
 jn (fun (x47 x48 : Value) (h49 : Hs) =>
 kLoads 4 x0 (Hs.mk h49.hp h49.nx h49.nx) (fun x50 =>
 kLoads 1 x2 (Hs.mk h49.hp h49.nx h49.nx) (fun x51 =>
 kCall R 20 [x51, (Value.bool true), (Value.slice none 0 0)] (Hs.mk h49.hp h49.nx h49.nx) (fun v62 u63 => dPut (fun x52 h53 =>
 after (fun v60 u61 => dPut (fun x54 h55 =>
 after (fun v58 u59 => dPut (fun x56 h57 =>
 clrK h (Value.tuple #[x56, (Value.int .i64 (.ofNat 0))]) h57) v58 (dNext h55 u59 .make) (andB (dFit h55 u59 .make) (Nat.ble 0 u59.lo))) (oBox 69 (.c x54) enE (Hs.mk .e h55.nx h55.nx))) v60 (dNext h53 u61 .blind) (andB (dFit h53 u61 .blind) (Nat.ble 0 u61.lo))) (oBuild [(Value.int .i64 (.ofNat 0)), (Value.int .i64 (.ofNat 0)), (Value.int .i64 (.ofNat 0)), (Value.int .i64 (.ofNat 0)), (Value.slice none 0 0)] [(0, 4, .c x50), (4, 1, .c x52)] enE (Hs.mk .e h53.nx h53.nx))) v62 (dNext h49 u63 .light) (andB (dFit h49 u63 .light) (Nat.ble 0 u63.lo)))))) fun k46 =>
 cnd x44
 (clrK h (Value.tuple #[(Value.pointer none), (Value.int .i64 (.ofNat 1))]) h45)
 (k46 (Value.pointer none) (Value.int .i64 (.ofNat 0)) h45)) (pickB (.c (Value.bool true)) (.c x42) enE h43 x7)))))))))))))) (oBox 32 (.c a1) enE h1)) (oBox 23 (.c a0) enE h0)

theorem s8_eq (R : RnK) (N : Nat) (args : List Value) (h : Hs) : r8 R N args h = s8 R N args h := rfl

noncomputable def g9_0 (R : RnK) (k17 : Value → Value → Value → Hs → An) (x0 : Value) (x13 : Value) (x7 : Value) (x8 : Value) : (Value → Value → Value → Hs → An) → Value → Value → Value → Hs → An :=
 (fun k25 =>
 fun (x27 x28 x29 : Value) (h30 : Hs) =>
 kFieldA 0 x0 (fun x31 =>
 kLoad x31 h30 (fun x32 =>
 kI64 .lss x27 x32 (fun x33 =>
 jn (fun (h35 : Hs) =>
 jn (fun (x37 : Value) (h38 : Hs) =>
 kI64 .add x27 (Value.int .i64 (.ofNat 1)) (fun x39 =>
 k25 x39 x33 x37 h38)) fun k36 =>
 kI64 .lss x27 x7 (fun x40 =>
 gdF x40 h35 (fun k41 => k41 x27 h35) (fun x42 h43 =>
 gdF x40 h43 (fun k44 => k44 x7 h43) (fun x45 h46 =>
 gdF x40 h46 (fun k47 => k47 x8 h46) (fun x48 h49 =>
 gdF x40 h49 (fun k50 => kI64 .add x45 x48 (fun x51 => k50 x51 h49)) (fun x52 h53 =>
 gdF x40 h53 (fun k54 => kI64 .geq x42 x52 (fun x55 => k54 x55 h53)) (fun x56 h57 =>
 after (fun x58 h59 =>
 jn (fun (h61 : Hs) =>
 k36 x58 h61) fun k60 =>
 cnd x58
 (kLoads 1 x13 h59 (fun x62 =>
 after (fun x63 h64 =>
 kCall R 20 [x62, (Value.bool true), x63] h64 (fun x65 h66 =>
 kStore1 x13 x65 h66 (fun x67 h68 =>
 k60 h68))) (oMkrow 3 1 1 [(Value.int .i64 (.ofNat 0))] [(0, 1, .c x27)] enE h59)))
 (k60 h59)) (pickB (.c (Value.bool true)) (.c x56) enE h57 x40)))))))) fun k34 =>
 cnd x33
 (k34 h30)
 (k17 x27 x33 x29 h30)))))

noncomputable def s9 (R : RnK) (N : Nat) (args : List Value) (h : Hs) : An := unC args fun a0 sq0 => enK h fun h0 =>
 after (fun x0 h1 =>
 after (fun x2 h3 =>
 kLoads 4 x0 h3 (fun x4 =>
 kCall R 10 [x4] h3 (fun x5 h6 =>
 kExtr x5 0 (fun x7 =>
 kExtr x5 1 (fun x8 =>
 kFieldA 0 x0 (fun x9 =>
 kLoad x9 h6 (fun x10 =>
 kCall R 28 [x10] h6 (fun x11 h12 =>
 after (fun x13 h14 =>
 kStore1 x13 x11 h14 (fun x15 h16 =>
 jn (fun (x18 x19 x20 : Value) (h21 : Hs) =>
 kLoads 1 x13 h21 (fun x22 =>
 kStore1 x2 x22 h21 (fun x23 h24 =>
 clearUp h (packR h24 (resV enE h24 [.cell (.c x2) 1 true]))))) fun k17 =>
 lpT (T := Value → Value → Value → Hs → An) (fun _ _ _ _ => none) N (g9_0 R k17 x0 x13 x7 x8) (Value.int .i64 (.ofNat 0)) dunno dunno h16)) (oAlloc 32 [(Value.slice none 0 0)] enE h12))))))))) (oAlloc 32 [(Value.slice none 0 0)] enE h1)) (oBox 23 (.c a0) enE h0)

theorem s9_eq (R : RnK) (N : Nat) (args : List Value) (h : Hs) : r9 R N args h = s9 R N args h := rfl

noncomputable def s10 (R : RnK) (N : Nat) (args : List Value) (h : Hs) : An := unC args fun a0 sq0 => enK h fun h0 =>
 after (fun x0 h1 =>
 kLoads 4 x0 h1 (fun x2 =>
 kCall R 7 [x2] h1 (fun x3 h4 =>
 kNot x3 (fun x5 =>
 jn (fun (x7 x8 : Value) (h9 : Hs) =>
 kLoads 4 x0 h9 (fun x10 =>
 kCall R 27 [x10] h9 (fun x11 h12 =>
 kExtr x11 0 (fun x13 =>
 kExtr x11 1 (fun x14 =>
 clrK h (Value.tuple #[x13, x14]) h12))))) fun k6 =>
 cnd x5
 (clrK h (Value.tuple #[(Value.int .i64 (.ofNat 0)), (Value.int .i64 (.ofNat 0))]) h4)
 (k6 (Value.int .i64 (.ofNat 0)) (Value.int .i64 (.ofNat 0)) h4))))) (oBox 23 (.c a0) enE h0)

theorem s10_eq (R : RnK) (N : Nat) (args : List Value) (h : Hs) : r10 R N args h = s10 R N args h := rfl

noncomputable def s11 (R : RnK) (N : Nat) (args : List Value) (h : Hs) : An := unC args fun a0 sq0 => unC sq0 fun a1 sq1 => enK h fun h0 =>
 kI64 .lss a1 (Value.int .i64 (.ofNat 0)) (fun x0 =>
 gdF x0 h0 (fun k1 => k1 a1 h0) (fun x2 h3 =>
 gdF x0 h3 (fun k4 => k4 a0 h3) (fun x5 h6 =>
 gdF x0 h6 (fun k7 => kNil x5 (fun x8 => k7 x8 h6)) (fun x9 h10 =>
 gdF x0 h10 (fun k11 => kFieldA 0 x9 (fun x12 => k11 x12 h10)) (fun x13 h14 =>
 gdF x0 h14 (fun k15 => kFieldA 2 x13 (fun x16 => k15 x16 h14)) (fun x17 h18 =>
 gdF x0 h18 (fun k19 => kLoad x17 h18 (fun x20 => k19 x20 h18)) (fun x21 h22 =>
 gdF x0 h22 (fun k23 => kI64 .geq x2 x21 (fun x24 => k23 x24 h22)) (fun x25 h26 =>
 after (fun x27 h28 =>
 jn (fun (x30 x31 : Value) (h32 : Hs) =>
 kNil a0 (fun x33 =>
 kFieldA 0 x33 (fun x34 =>
 kLoads 4 x34 h32 (fun x35 =>
 kCall R 10 [x35] h32 (fun x36 h37 =>
 kExtr x36 0 (fun x38 =>
 kExtr x36 1 (fun x39 =>
 kNil a0 (fun x40 =>
 kFieldA 0 x40 (fun x41 =>
 kFieldA 2 x41 (fun x42 =>
 kLoad x42 h37 (fun x43 =>
 kI64 .quo x39 x43 (fun x44 =>
 kI64 .mul a1 x44 (fun x45 =>
 kI64 .add x38 x45 (fun x46 =>
 kNil a0 (fun x47 =>
 kFieldA 0 x47 (fun x48 =>
 kFieldA 2 x48 (fun x49 =>
 kLoad x49 h37 (fun x50 =>
 kI64 .sub x50 (Value.int .i64 (.ofNat 1)) (fun x51 =>
 kI64 .eql a1 x51 (fun x52 =>
 jn (fun (x54 : Value) (h55 : Hs) =>
 clrK h (Value.tuple #[x46, x54]) h55) fun k53 =>
 cnd x52
 (kI64 .mul a1 x44 (fun x56 =>
 kI64 .sub x39 x56 (fun x57 =>
 k53 x57 h37)))
 (k53 x44 h37))))))))))))))))))))) fun k29 =>
 cnd x27
 (clrK h (Value.tuple #[(Value.int .i64 (.ofNat 0)), (Value.int .i64 (.ofNat 0))]) h28)
 (k29 (Value.int .i64 (.ofNat 0)) (Value.int .i64 (.ofNat 0)) h28)) (pickB (.c (Value.bool true)) (.c x25) enE h26 x0)))))))))

theorem s11_eq (R : RnK) (N : Nat) (args : List Value) (h : Hs) : r11 R N args h = s11 R N args h := rfl

noncomputable def g20_0 (R : RnK) (a1 : Value) (a2 : Value) (k15 : Value → Value → Value → Value → Value → Hs → An) (x0 : Value) (x10 : Value) (x14 : Value) : (Value → Value → Value → Value → Value → Hs → An) → Value → Value → Value → Value → Value → Hs → An :=
 (fun k25 =>
 fun (x27 x28 x29 x30 x31 : Value) (h32 : Hs) =>
 kI64 .lss x27 x14 (fun x33 =>
 jn (fun (h35 : Hs) =>
 jn (fun (x37 x38 x39 : Value) (h40 : Hs) =>
 kI64 .add x27 (Value.int .i64 (.ofNat 1)) (fun x41 =>
 k25 x41 x33 x37 x38 x39 h40)) fun k36 =>
 kIdxA 1 a2 x27 (fun x42 =>
 kLoad x42 h35 (fun x43 =>
 kLoads 1 x0 h35 (fun x44 =>
 kCall R 39 [x44, x43] h35 (fun x45 h46 =>
 kNot x45 (fun x47 =>
 jn (fun (h49 : Hs) =>
 kFieldA 0 x10 (fun x50 =>
 kLoad x50 h49 (fun x51 =>
 kI64 .quo x43 (Value.int .i64 (.ofNat 64)) (fun x52 =>
 kIdxA 1 x51 x52 (fun x53 =>
 kLoad x53 h49 (fun x54 =>
 kI64 .rem x43 (Value.int .i64 (.ofNat 64)) (fun x55 =>
 kShl (Value.int .u64 (.ofNat 1)) x55 (fun x56 =>
 kU64 .andNot x54 x56 (fun x57 =>
 kIdxA 1 x51 x52 (fun x58 =>
 kStore1 x58 x57 h49 (fun v76 u77 => dPut (fun x59 h60 =>
 jn (fun (h62 : Hs) =>
 k36 x43 x47 a1 h62) fun k61 =>
 cnd a1
 (kFieldA 0 x10 (fun x63 =>
 kLoad x63 h60 (fun x64 =>
 kI64 .quo x43 (Value.int .i64 (.ofNat 64)) (fun x65 =>
 kIdxA 1 x64 x65 (fun x66 =>
 kLoad x66 h60 (fun x67 =>
 kI64 .rem x43 (Value.int .i64 (.ofNat 64)) (fun x68 =>
 kShl (Value.int .u64 (.ofNat 1)) x68 (fun x69 =>
 kU64 .or x67 x69 (fun x70 =>
 kIdxA 1 x64 x65 (fun x71 =>
 kStore1 x71 x70 h60 (fun v74 u75 => dPut (fun x72 h73 =>
 k61 h73) v74 (dNext h60 u75 .bar) (andB (dFit h60 u75 .bar) (Nat.ble 0 u75.lo)))))))))))))
 (k61 h60)) v76 (dNext h49 u77 .bar) (andB (dFit h49 u77 .bar) (Nat.ble 0 u77.lo))))))))))))) fun k48 =>
 cnd x47
 (k36 x43 x47 x31 h46)
 (k48 h46))))))) fun k34 =>
 cnd x33
 (k34 h32)
 (k15 x27 x33 x29 x30 x31 h32)))

noncomputable def s20 (R : RnK) (N : Nat) (args : List Value) (h : Hs) : An := unC args fun a0 sq0 => unC sq0 fun a1 sq1 => unC sq1 fun a2 sq2 => enK h fun h0 =>
 after (fun x0 h1 =>
 after (fun x2 h3 =>
 kFieldA 0 x0 (fun x4 =>
 kLoad x4 h3 (fun x5 =>
 kCall R 40 [x5] h3 (fun x6 h7 =>
 after (fun x8 h9 =>
 after (fun x10 h11 =>
 kStore1 x10 x8 h11 (fun x12 h13 =>
 kLenV a2 (fun x14 =>
 jn (fun (x16 x17 x18 x19 x20 : Value) (h21 : Hs) =>
 kLoads 1 x10 h21 (fun x22 =>
 kStore1 x2 x22 h21 (fun x23 h24 =>
 clearUp h (packR h24 (resV enE h24 [.cell (.c x2) 1 true]))))) fun k15 =>
 lpT (T := Value → Value → Value → Value → Value → Hs → An) (fun _ _ _ _ _ _ => none) N (g20_0 R a1 a2 k15 x0 x10 x14) (Value.int .i64 (.ofNat 0)) dunno dunno dunno dunno h13))) (oAlloc 32 [(Value.slice none 0 0)] enE h9)) (oBuild [(Value.slice none 0 0)] [(0, 1, .c x6)] enE h7))))) (oAlloc 32 [(Value.slice none 0 0)] enE h1)) (oBox 32 (.c a0) enE h0)

theorem s20_eq (R : RnK) (N : Nat) (args : List Value) (h : Hs) : r20 R N args h = s20 R N args h := rfl

noncomputable def s26 (R : RnK) (N : Nat) (args : List Value) (h : Hs) : An := unC args fun a0 sq0 => unC sq0 fun a1 sq1 => unC sq1 fun a2 sq2 => enK h fun h0 =>
 kI64 .geq a0 a1 (fun x0 =>
 gdT x0 h0 (fun k1 => k1 a0 h0) (fun x2 h3 =>
 gdT x0 h3 (fun k4 => k4 a2 h3) (fun x5 h6 =>
 gdT x0 h6 (fun k7 => kI64 .leq x2 x5 (fun x8 => k7 x8 h6)) (fun x9 h10 =>
 after (fun x11 h12 =>
 clrK h x11 h12) (pickB (.c x9) (.c (Value.bool false)) enE h10 x0)))))

theorem s26_eq (R : RnK) (N : Nat) (args : List Value) (h : Hs) : r26 R N args h = s26 R N args h := rfl

noncomputable def s27 (R : RnK) (N : Nat) (args : List Value) (h : Hs) : An := unC args fun a0 sq0 => enK h fun h0 =>
 after (fun x0 h1 =>
 kLoads 4 x0 h1 (fun x2 =>
 kCall R 43 [x2] h1 (fun x3 h4 =>
 kExtr x3 0 (fun x5 =>
 kExtr x3 1 (fun x6 =>
 kI64 .add x5 x6 (fun x7 =>
 kFieldA 1 x0 (fun x8 =>
 kLoad x8 h4 (fun x9 =>
 kI64 .mul (Value.int .i64 (.ofNat 2)) x9 (fun x10 =>
 kI64 .add x7 x10 (fun x11 =>
 kFieldA 0 x0 (fun x12 =>
 kLoad x12 h4 (fun x13 =>
 kI64 .sub x13 (Value.int .i64 (.ofNat 1)) (fun x14 =>
 kI64 .sub x14 x11 (fun x15 =>
 clrK h (Value.tuple #[x11, x15]) h4)))))))))))))) (oBox 23 (.c a0) enE h0)

theorem s27_eq (R : RnK) (N : Nat) (args : List Value) (h : Hs) : r27 R N args h = s27 R N args h := rfl

noncomputable def s28 (R : RnK) (N : Nat) (args : List Value) (h : Hs) : An := unC args fun a0 sq0 => enK h fun h0 =>
 after (fun x0 h1 =>
 after (fun x2 h3 =>
 after (fun x4 h5 =>
 kI64 .add x4 (Value.int .i64 (.ofNat 64)) (fun x6 =>
 kI64 .sub x6 (Value.int .i64 (.ofNat 1)) (fun x7 =>
 kI64 .quo x7 (Value.int .i64 (.ofNat 64)) (fun x8 =>
 after (fun x9 h10 =>
 after (fun x11 h12 =>
 kStore1 x0 x11 h12 (fun x13 h14 =>
 clearUp h (packR h14 (resV enE h14 [.cell (.c x0) 1 true])))) (oBuild [(Value.slice none 0 0)] [(0, 1, .c x9)] enE h10)) (mkslice1 60 1 8 [(Value.int .u64 (.ofNat 0))] h5 (natOf x8) (natOf x8)))))) (oMinmax false [.c x2, .c (Value.int .i64 (.ofNat 65536))] enE h3)) (oMinmax true [.c a0, .c (Value.int .i64 (.ofNat 0))] enE h1)) (oAlloc 32 [(Value.slice none 0 0)] enE h0)

theorem s28_eq (R : RnK) (N : Nat) (args : List Value) (h : Hs) : r28 R N args h = s28 R N args h := rfl

noncomputable def s39 (R : RnK) (N : Nat) (args : List Value) (h : Hs) : An := unC args fun a0 sq0 => unC sq0 fun a1 sq1 => enK h fun h0 =>
 after (fun x0 h1 =>
 kI64 .geq a1 (Value.int .i64 (.ofNat 0)) (fun x2 =>
 gdT x2 h1 (fun k3 => k3 a1 h1) (fun x4 h5 =>
 gdT x2 h5 (fun k6 => kI64 .quo x4 (Value.int .i64 (.ofNat 64)) (fun x7 => k6 x7 h5)) (fun x8 h9 =>
 gdT x2 h9 (fun k10 => kFieldA 0 x0 (fun x11 => k10 x11 h9)) (fun x12 h13 =>
 gdT x2 h13 (fun k14 => kLoad x12 h13 (fun x15 => k14 x15 h13)) (fun x16 h17 =>
 gdT x2 h17 (fun k18 => kLenV x16 (fun x19 => k18 x19 h17)) (fun x20 h21 =>
 gdT x2 h21 (fun k22 => kI64 .lss x8 x20 (fun x23 => k22 x23 h21)) (fun x24 h25 =>
 after (fun x26 h27 =>
 clrK h x26 h27) (pickB (.c x24) (.c (Value.bool false)) enE h25 x2))))))))) (oBox 32 (.c a0) enE h0)

theorem s39_eq (R : RnK) (N : Nat) (args : List Value) (h : Hs) : r39 R N args h = s39 R N args h := rfl

noncomputable def s40 (R : RnK) (N : Nat) (args : List Value) (h : Hs) : An := unC args fun a0 sq0 => enK h fun h0 =>
 obK (fun x0 =>
 jn (fun (x2 : Value) (h3 : Hs) =>
 after (fun x4 h5 =>
 after (fun x6 h7 =>
 clrK h x6 h7) (app0 60 1 8 h5 x4 a0)) (oMkrow 60 1 0 [(Value.int .u64 (.ofNat 0))] [] enE h3)) fun k1 =>
 cnd x0
 (clrK h (Value.slice none 0 0) h0)
 (k1 (Value.slice none 0 0) h0)) (e2 false qS a0 (Value.slice none 0 0))

theorem s40_eq (R : RnK) (N : Nat) (args : List Value) (h : Hs) : r40 R N args h = s40 R N args h := rfl

noncomputable def s43 (R : RnK) (N : Nat) (args : List Value) (h : Hs) : An := unC args fun a0 sq0 => enK h fun h0 =>
 after (fun x0 h1 =>
 kFieldA 2 x0 (fun x2 =>
 kLoad x2 (Hs.mk h1.hp h1.nx h1.nx) (fun x3 =>
 kFieldA 3 x0 (fun x4 =>
 kLoad x4 (Hs.mk h1.hp h1.nx h1.nx) (fun x5 =>
 kI64 .mul x3 x5 (fun x6 =>
 kI64 .add (Value.int .i64 (.ofNat 1)) x6 (fun x7 =>
 kFieldA 0 x0 (fun x8 =>
 kLoad x8 (Hs.mk h1.hp h1.nx h1.nx) (fun x9 =>
 kI64 .add x9 (Value.int .i64 (.ofNat 512)) (fun x10 =>
 kI64 .sub x10 (Value.int .i64 (.ofNat 1)) (fun x11 =>
 kI64 .quo x11 (Value.int .i64 (.ofNat 512)) (fun x12 =>
 clrK h (Value.tuple #[x7, x12]) h1)))))))))))) (oBox 23 (.c a0) enE h0)

theorem s43_eq (R : RnK) (N : Nat) (args : List Value) (h : Hs) : r43 R N args h = s43 R N args h := rfl


/-- the cells of a geometry -/
abbrev gs (b n c k : Int) : List Value := [.int .i64 b, .int .i64 n, .int .i64 c, .int .i64 k]
abbrev gv (b n c k : Int) : Value := .agg (gs b n c k).toArray
abbrev iN (n : Nat) : Value := .int .i64 (.ofNat n)

theorem in_ok (R : RnK) (N : Nat) (n a b : Int) (h : Hs) : r26 R N [.int .i64 n, .int .i64 a, .int .i64 b] h = some (.val (.bool (decide (a ≤ n) && decide (n ≤ b))) h) := by
  rw [s26_eq]
  unfold s26
  rw [unC_cons, unC_cons, unC_cons, enK_eq, kI64_geq]
  by_cases c : a ≤ n
  · rw [decide_eq_true c]
    simp only [gdT_true]
    rw [kI64_leq]
    simp only [pick_true, after_some, Bool.true_and]
    exact clrK_bool (Nat.le_refl _)
  · rw [decide_eq_false c]
    simp only [gdT_false, pick_false, after_some, Bool.false_and]
    exact clrK_bool (Nat.le_refl _)
def InE (R : RnK) : Prop := ∀ (n a b : Int) (h : Hs), R 26 [.int .i64 n, .int .i64 a, .int .i64 b] h = some (.val (.bool (decide (a ≤ n) && decide (n ≤ b))) h)

/-- where the bits begin, how many blocks they take; where the data begins -/
def bt (c k : Nat) : Nat := 1 + c * k
def bn (b : Nat) : Nat := (b + 512 - 1) / 512
def frm (b n c k : Nat) : Nat := bt c k + bn b + 2 * n
def Rg (b n c k : Nat) : Prop := b ≤ 1024 ∧ n ≤ 64 ∧ c ≤ 8 ∧ k ≤ 110 ∧ 1 ≤ b
theorem ck_le {c k : Nat} (hc : c ≤ 8) (hk : k ≤ 110) : c * k ≤ 880 := Nat.mul_le_mul hc hk

theorem bits_ok (R : RnK) (N : Nat) {b n c k : Nat} (hg : Rg b n c k) (h : Hs) : r43 R N [gv (.ofNat b) (.ofNat n) (.ofNat c) (.ofNat k)] h = some (.val (.tuple #[iN (bt c k), iN (bn b)]) h) := by
  obtain ⟨g1, g2, g3, g4, g5⟩ := hg
  have hck := ck_le g3 g4
  rw [s43_eq]
  unfold s43
  rw [unC_cons, enK_eq, box_eq, after_some]
  have bx := Bx.new ⟨h.hp, h.nx, h.nx⟩ 23 0 (gs (.ofNat b) (.ofNat n) (.ofNat c) (.ofNat k))
  simp only [kLoad_lo]
  rw [bx.field (i := 2) rfl, bx.field (i := 3) rfl, kI64_mulN (by omega), kI64_addN (by omega), bx.field (i := 0) rfl, kI64_addN (by omega), kI64_subN (by omega) (by omega), kI64_quoN (by decide) (by omega)]
  exact clrK_tuple (vs := [iN (1 + c * k), iN ((b + 512 - 1) / 512)]) rfl (Nat.le_refl _)
theorem data_ok (R : RnK) (N : Nat) {b n c k : Nat} (hR : ∃ R' N', ∀ args h, R 43 args h = r43 R' N' args h) (hg : Rg b n c k) (h : Hs) :
    r27 R N [gv (.ofNat b) (.ofNat n) (.ofNat c) (.ofNat k)] h = some (.val (.tuple #[iN (frm b n c k), .int .i64 (Int.ofNat (b - 1) - Int.ofNat (frm b n c k))]) h) := by
  obtain ⟨R', N', hR⟩ := hR
  have hg' := hg
  obtain ⟨g1, g2, g3, g4, g5⟩ := hg
  have hck := ck_le g3 g4
  have hbn : bn b ≤ 3 := by unfold bn; omega
  have hbt : bt c k ≤ 881 := by unfold bt; omega
  rw [s27_eq]
  unfold s27
  rw [unC_cons, enK_eq, box_eq, after_some]
  have bx := Bx.new ⟨h.hp, h.nx, h.nx⟩ 23 0 (gs (.ofNat b) (.ofNat n) (.ofNat c) (.ofNat k))
  have bl := bx.loads
  rw [show (gs (.ofNat b) (.ofNat n) (.ofNat c) (.ofNat k)).length = 4 from rfl] at bl
  rw [bl, kCall_ok ((hR _ _).trans (bits_ok R' N' hg' _)), kExtr_0, kExtr_1, kI64_addN (by omega), bx.field (i := 1) rfl, kI64_mulN (by omega), kI64_addN (by omega), bx.field (i := 0) rfl, kI64_subN (by omega) (by omega),
    kI64_sub (by simp only [Int.ofNat_eq_natCast]; constructor <;> omega)]
  exact clrK_tuple (vs := [iN (frm b n c k), .int .i64 (Int.ofNat (b - 1) - Int.ofNat (frm b n c k))]) rfl (Nat.le_refl _)

/-- a right geometry -/
def Geo (b n c k : Nat) : Prop := 64 ≤ b ∧ b ≤ 1024 ∧ 4 ≤ n ∧ n ≤ 64 ∧ 1 ≤ c ∧ c ≤ 8 ∧ 16 ≤ k ∧ k ≤ 110 ∧ frm b n c k + 2 ≤ b
theorem Geo.rg {b n c k : Nat} (g : Geo b n c k) : Rg b n c k := by obtain ⟨h1, h2, h3, h4, h5, h6, h7, h8, h9⟩ := g; exact ⟨h2, h4, h6, h8, by omega⟩
theorem ofNat_of {a : Int} (h : 0 ≤ a) : ∃ n : Nat, a = .ofNat n := ⟨a.toNat, by simp only [Int.ofNat_eq_natCast]; omega⟩

theorem good_any {R : RnK} {N : Nat} (hi : InE R) (hR : ∃ R' N', (∃ R'' N'', ∀ args h, R' 43 args h = r43 R'' N'' args h) ∧ ∀ args h, R 27 args h = r27 R' N' args h) (b n c k : Int) (h : Hs) :
    (∃ t, r7 R N [gv b n c k] h = some (.val (.bool t) h) ∧ (t = true ↔ ∃ b' n' c' k' : Nat, b = .ofNat b' ∧ n = .ofNat n' ∧ c = .ofNat c' ∧ k = .ofNat k' ∧ Geo b' n' c' k')) := by
  obtain ⟨R', N', hR2, hR⟩ := hR
  rw [s7_eq]
  unfold s7
  rw [unC_cons, enK_eq, box_eq, after_some]
  have bx := Bx.new ⟨h.hp, h.nx, h.nx⟩ 23 0 (gs b n c k)
  have bl := bx.loads
  rw [show (gs b n c k).length = 4 from rfl] at bl
  have no : (¬ ∃ b' n' c' k' : Nat, b = .ofNat b' ∧ n = .ofNat n' ∧ c = .ofNat c' ∧ k = .ofNat k' ∧ Geo b' n' c' k') → ∃ t, clrK h (.bool false) (Gev.newRow ⟨h.hp, h.nx, h.nx⟩ 23 0 (gs b n c k)) = some (.val (.bool t) h) ∧ (t = true ↔ ∃ b' n' c' k' : Nat, b = .ofNat b' ∧ n = .ofNat n' ∧ c = .ofNat c' ∧ k = .ofNat k' ∧ Geo b' n' c' k') :=
    fun hn => ⟨false, clrK_bool (Nat.le_refl _), by simpa using hn⟩
  rw [bx.field (i := 0) rfl, kCall_ok (hi _ _ _ _), kNot_eq]
  by_cases c1 : 64 ≤ b ∧ b ≤ 1024
  case neg =>
    rw [show (!(decide (Int.ofNat 64 ≤ b) && decide (b ≤ Int.ofNat 1024))) = true by simp only [Bool.not_eq_true', Bool.and_eq_false_iff, decide_eq_false_iff_not, Int.ofNat_eq_natCast]; omega]
    simp only [gdF_true, pick_true, after_some, cnd_true, jn_eq]
    refine no fun ⟨b', n', c', k', e1, e2, e3, e4, q⟩ => ?_
    obtain ⟨h1, h2, _⟩ := q
    subst e1; simp only [Int.ofNat_eq_natCast] at c1; omega
  rw [show (!(decide (Int.ofNat 64 ≤ b) && decide (b ≤ Int.ofNat 1024))) = false by simp only [Bool.not_eq_false', Bool.and_eq_true, decide_eq_true_eq, Int.ofNat_eq_natCast]; omega]
  simp only [gdF_false]
  rw [bx.field (i := 1) rfl, kCall_ok (hi _ _ _ _), kNot_eq]
  by_cases c2 : 4 ≤ n ∧ n ≤ 64
  case neg =>
    rw [show (!(decide (Int.ofNat 4 ≤ n) && decide (n ≤ Int.ofNat 64))) = true by simp only [Bool.not_eq_true', Bool.and_eq_false_iff, decide_eq_false_iff_not, Int.ofNat_eq_natCast]; omega]
    simp only [gdF_true, pick_true, pick_false, after_some, cnd_true, jn_eq]
    refine no fun ⟨b', n', c', k', e1, e2, e3, e4, q⟩ => ?_
    obtain ⟨h1, h2, h3, h4, _⟩ := q
    subst e2; simp only [Int.ofNat_eq_natCast] at c2; omega
  rw [show (!(decide (Int.ofNat 4 ≤ n) && decide (n ≤ Int.ofNat 64))) = false by simp only [Bool.not_eq_false', Bool.and_eq_true, decide_eq_true_eq, Int.ofNat_eq_natCast]; omega]
  simp only [gdF_false, pick_false, after_some]
  rw [bx.field (i := 2) rfl, kCall_ok (hi _ _ _ _), kNot_eq]
  by_cases c3 : 1 ≤ c ∧ c ≤ 8
  case neg =>
    rw [show (!(decide (Int.ofNat 1 ≤ c) && decide (c ≤ Int.ofNat 8))) = true by simp only [Bool.not_eq_true', Bool.and_eq_false_iff, decide_eq_false_iff_not, Int.ofNat_eq_natCast]; omega]
    simp only [gdF_true, pick_true, pick_false, after_some, cnd_true, jn_eq]
    refine no fun ⟨b', n', c', k', e1, e2, e3, e4, q⟩ => ?_
    obtain ⟨h1, h2, h3, h4, h5, h6, _⟩ := q
    subst e3; simp only [Int.ofNat_eq_natCast] at c3; omega
  rw [show (!(decide (Int.ofNat 1 ≤ c) && decide (c ≤ Int.ofNat 8))) = false by simp only [Bool.not_eq_false', Bool.and_eq_true, decide_eq_true_eq, Int.ofNat_eq_natCast]; omega]
  simp only [gdF_false, pick_false, after_some]
  rw [bx.field (i := 3) rfl, kCall_ok (hi _ _ _ _), kNot_eq]
  by_cases c4 : 16 ≤ k ∧ k ≤ 110
  case neg =>
    rw [show (!(decide (Int.ofNat 16 ≤ k) && decide (k ≤ Int.ofNat 110))) = true by simp only [Bool.not_eq_true', Bool.and_eq_false_iff, decide_eq_false_iff_not, Int.ofNat_eq_natCast]; omega]
    simp only [pick_false, after_some, cnd_true, jn_eq]
    refine no fun ⟨b', n', c', k', e1, e2, e3, e4, q⟩ => ?_
    obtain ⟨h1, h2, h3, h4, h5, h6, h7, h8, _⟩ := q
    subst e4; simp only [Int.ofNat_eq_natCast] at c4; omega
  rw [show (!(decide (Int.ofNat 16 ≤ k) && decide (k ≤ Int.ofNat 110))) = false by simp only [Bool.not_eq_false', Bool.and_eq_true, decide_eq_true_eq, Int.ofNat_eq_natCast]; omega]
  simp only [pick_false, after_some, cnd_false, jn_eq]
  obtain ⟨b', rfl⟩ := ofNat_of (a := b) (by omega)
  obtain ⟨n', rfl⟩ := ofNat_of (a := n) (by omega)
  obtain ⟨c', rfl⟩ := ofNat_of (a := c) (by omega)
  obtain ⟨k', rfl⟩ := ofNat_of (a := k) (by omega)
  simp only [Int.ofNat_eq_natCast] at c1 c2 c3 c4
  rw [bl, kCall_ok ((hR _ _).trans (data_ok R' N' hR2 (show Rg b' n' c' k' from ⟨by omega, by omega, by omega, by omega, by omega⟩) _)), kExtr_0, kExtr_1, kI64_geq]
  refine ⟨_, clrK_bool (Nat.le_refl _), ?_⟩
  rw [decide_eq_true_eq]
  constructor
  · intro q
    refine ⟨b', n', c', k', rfl, rfl, rfl, rfl, ?_⟩
    simp only [Int.ofNat_eq_natCast] at q
    exact ⟨by omega, by omega, by omega, by omega, by omega, by omega, by omega, by omega, by omega⟩
  · rintro ⟨b2, n2, c2', k2, e1, e2, e3, e4, q⟩
    injection e1 with e1; injection e2 with e2; injection e3 with e3; injection e4 with e4
    subst e1 e2 e3 e4
    obtain ⟨h1, h2, h3, h4, h5, h6, h7, h8, h9⟩ := q
    simp only [Int.ofNat_eq_natCast]
    omega
theorem good_true {R : RnK} {N : Nat} (hi : InE R) (hR : ∃ R' N', (∃ R'' N'', ∀ args h, R' 43 args h = r43 R'' N'' args h) ∧ ∀ args h, R 27 args h = r27 R' N' args h) {b n c k : Nat} (g : Geo b n c k) (h : Hs) :
    r7 R N [gv (.ofNat b) (.ofNat n) (.ofNat c) (.ofNat k)] h = some (.val (.bool true) h) := by
  obtain ⟨t, q1, q2⟩ := good_any (N := N) hi hR (.ofNat b) (.ofNat n) (.ofNat c) (.ofNat k) h
  have : t = true := q2.2 ⟨b, n, c, k, rfl, rfl, rfl, rfl, g⟩
  rw [this] at q1
  exact q1
/-- how much data -/
def alln (b n c k : Nat) : Nat := b - 1 - frm b n c k
/-- what geometry leans on -/
structure GeoE (R : RnK) : Prop where
  good : ∀ {b n c k : Nat}, Geo b n c k → ∀ h : Hs, R 7 [gv (.ofNat b) (.ofNat n) (.ofNat c) (.ofNat k)] h = some (.val (.bool true) h)
  data : ∃ R' N', (∃ R'' N'', ∀ args h, R' 43 args h = r43 R'' N'' args h) ∧ ∀ args h, R 27 args h = r27 R' N' args h
theorem Data_ok {R : RnK} {N : Nat} (E : GeoE R) {b n c k : Nat} (g : Geo b n c k) (h : Hs) : r10 R N [gv (.ofNat b) (.ofNat n) (.ofNat c) (.ofNat k)] h = some (.val (.tuple #[iN (frm b n c k), iN (alln b n c k)]) h) := by
  obtain ⟨R', N', hR2, hR⟩ := E.data
  rw [s10_eq]
  unfold s10
  rw [unC_cons, enK_eq, box_eq, after_some]
  have bx := Bx.new ⟨h.hp, h.nx, h.nx⟩ 23 0 (gs (.ofNat b) (.ofNat n) (.ofNat c) (.ofNat k))
  have bl := bx.loads
  rw [show (gs (.ofNat b) (.ofNat n) (.ofNat c) (.ofNat k)).length = 4 from rfl] at bl
  rw [bl, kCall_ok (E.good g _), kNot_eq]
  simp only [Bool.not_true, jn_eq, cnd_false]
  rw [bl, kCall_ok ((hR _ _).trans (data_ok R' N' hR2 g.rg _)), kExtr_0, kExtr_1]
  obtain ⟨h1, h2, h3, h4, h5, h6, h7, h8, h9⟩ := g
  rw [show Int.ofNat (b - 1) - Int.ofNat (frm b n c k) = Int.ofNat (alln b n c k) by simp only [Int.ofNat_eq_natCast, alln]; omega]
  exact clrK_tuple (vs := [iN (frm b n c k), iN (alln b n c k)]) rfl (Nat.le_refl _)

theorem there_ok (R : RnK) (N : Nat) {id m i : Nat} {v : Value} {h : Hs} (w : WdAt 60 id h v m) (hi : i ≤ 1000000) : r39 R N [.agg #[v], iN i] h = some (.val (.bool (decide (i / 64 < m))) h) := by
  rw [s39_eq]
  unfold s39
  rw [unC_cons, unC_cons, enK_eq, box_eq 32 [v], after_some]
  have bx := Bx.new ⟨h.hp, h.nx, h.nx⟩ 32 0 [v]
  have w' : Wd 60 0 h v m := w.wd (Nat.zero_le _)
  rw [kI64_geq, decide_eq_true (show Int.ofNat 0 ≤ Int.ofNat i by simp only [Int.ofNat_eq_natCast]; omega)]
  simp only [gdT_true]
  rw [kI64_quoN (by decide) (by omega), bx.field (i := 0) rfl, w'.len, kI64_lssN]
  simp only [pick_true, after_some]
  exact clrK_bool (Nat.le_refl _)

theorem app_words {id m : Nat} {v : Value} {h : Hs} (w : WdAt 60 id h v m) (hm : m ≤ 100000) : ∃ v' h', app0 60 1 8 (Gev.newRow ⟨h.hp, h.nx, h.nx⟩ 60 1 []) (.slice (some ⟨h.nx, 0, none⟩) 0 0) v = some (v', h') ∧ WdAt 60 (h.nx + 1) h' v' m ∧ h.nx ≤ h'.lo := by
  have w1 : WdAt 60 id (Gev.newRow ⟨h.hp, h.nx, h.nx⟩ 60 1 []) v m := w.keep (Nat.le_succ _) (by
    obtain ⟨_, _, q, _⟩ := w
    rw [newRow_get, if_neg (show ¬ h.nx = id by omega)])
  obtain ⟨vs, h1, h2, h3⟩ := w1.words
  obtain ⟨cc, rfl, q3, q4, q5⟩ := w
  have ho : allOne vs = true := allOne_of vs fun x hx => by obtain ⟨n, rfl⟩ := h2 x hx; exact ⟨_, _, rfl⟩
  have hf : flatL vs = true := flatL_of vs fun x hx => by obtain ⟨n, rfl⟩ := h2 x hx; exact ⟨_, _, rfl⟩
  have hg : (Gev.newRow ⟨h.hp, h.nx, h.nx⟩ 60 1 []).hp.get h.nx = some (.row (ofList []) 0 60 1 true true) := by rw [newRow_get, if_pos rfl]; rfl
  have hb : Nat.ble (Nat.mul (Nat.add 0 m) 8) 70368744177664 = true := Nat.ble_eq_true_of_le (by show (0 + m) * 8 ≤ _; omega)
  have e : app0 60 1 8 (Gev.newRow ⟨h.hp, h.nx, h.nx⟩ 60 1 []) (.slice (some ⟨h.nx, 0, none⟩) 0 0) (.slice (some ⟨id, 0, none⟩) m m) =
      some (.slice (some ⟨h.nx + 1, 0, none⟩) (0 + m) (0 + m), ⟨((Gev.newRow ⟨h.hp, h.nx, h.nx⟩ 60 1 []).hp.set h.nx none).set (h.nx + 1) (some (.row (ofListFrom vs 0 (ofList [])) (0 + vs.length) 60 1 true (andB true (flatL vs)))), h.nx + 2, minN h.nx h.nx⟩) := by
    show app1 (Gev.newRow ⟨h.hp, h.nx, h.nx⟩ 60 1 []) 60 1 8 m (.slice (some ⟨h.nx, 0, none⟩) 0 0) (rowOf (Gev.newRow ⟨h.hp, h.nx, h.nx⟩ 60 1 []) 1 m (some ⟨id, 0, none⟩)) = _
    rw [h3]
    show (match allOne vs with | true => app2 (Gev.newRow ⟨h.hp, h.nx, h.nx⟩ 60 1 []) 60 1 8 m vs (.slice (some ⟨h.nx, 0, none⟩) 0 0) | false => none) = _
    rw [ho]
    show (match Nat.ble (Nat.mul (Nat.add 0 m) 8) 70368744177664 with | false => none | true => app3 (Gev.newRow ⟨h.hp, h.nx, h.nx⟩ 60 1 []) 60 1 h.nx 0 m vs ((Gev.newRow ⟨h.hp, h.nx, h.nx⟩ 60 1 []).hp.get h.nx)) = _
    rw [hb, hg]
    rfl
  refine ⟨_, _, e, ⟨ofListFrom vs 0 (ofList []), by rw [Nat.zero_add], Nat.lt_succ_self _, ?_, fun i hi => ?_⟩, ?_⟩
  · dsimp only
    rw [Tr.get_set, if_pos rfl, hf, h1, Nat.zero_add]; rfl
  · obtain ⟨n, hn⟩ := h2 vs[i] (List.getElem_mem (by omega))
    refine ⟨n, ?_⟩
    rw [get_ofListFrom, if_pos ⟨Nat.zero_le _, by omega⟩, Nat.sub_zero, List.getElem?_eq_getElem (by omega), hn]
  · show h.nx ≤ minN h.nx h.nx
    rw [minN_eq]; omega
/-- CLONE -/
theorem clone_ok (R : RnK) (N : Nat) {id m : Nat} {v : Value} {h : Hs} (w : WdAt 60 id h v m) (hm : m ≤ 100000) : ∃ v' h', r40 R N [v] h = some (.val v' h') ∧ WdAt 60 h.nx h' v' m ∧ Ext h h' ∧ h'.lo = h.lo ∧ h'.nx = h.nx + 1 := by
  rw [s40_eq]
  unfold s40
  rw [unC_cons, enK_eq]
  have w' := w
  obtain ⟨cc, rfl, q3, q4, q5⟩ := w
  have e1 : e2 false qS (.slice (some ⟨id, 0, none⟩) m m) (.slice none 0 0) = some (.bool false) := rfl
  rw [e1, obK_is]
  simp only [jn_eq, cnd_false]
  have e2 : oMkrow 60 1 0 [.int .u64 (.ofNat 0)] [] enE ⟨h.hp, h.nx, h.nx⟩ = some (.slice (some ⟨h.nx, 0, none⟩) 0 0, Gev.newRow ⟨h.hp, h.nx, h.nx⟩ 60 1 []) := rfl
  rw [e2, after_some]
  obtain ⟨v1, h1, p1, ⟨cc1, rfl, p3, p4, p5⟩, p6⟩ := app_words w' hm
  rw [p1, after_some]
  refine ⟨_, _, clrK_row p6 (Nat.le_succ _) p4, ⟨cc1, rfl, Nat.lt_succ_self _, ?_, p5⟩, ⟨Nat.le_succ _, fun id' hid => ?_⟩, rfl, rfl⟩
  · dsimp only
    rw [Tr.get_set, if_pos rfl]
  · dsimp only
    rw [Tr.get_set, if_neg (by omega)]

/-- what setting bits leans on -/
structure SetE (R : RnK) : Prop where
  clone : ∀ {id m : Nat} {v : Value} {h : Hs}, WdAt 60 id h v m → m ≤ 100000 → ∃ v' h', R 40 [v] h = some (.val v' h') ∧ WdAt 60 h.nx h' v' m ∧ Ext h h' ∧ h'.lo = h.lo ∧ h'.nx = h.nx + 1
  there : ∀ {id m i : Nat} {v : Value} {h : Hs}, WdAt 60 id h v m → i ≤ 1000000 → R 39 [.agg #[v], iN i] h = some (.val (.bool (decide (i / 64 < m))) h)
theorem set_loop {R : RnK} (E : SetE R) {id id0 id1 id10 m l0 : Nat} {v v1 sl : Value} {hm : Hs} {L : List Nat} (b0 : Bx hm id0 [v]) (b10 : Bx hm id10 [v1]) (w : WdAt 60 id hm v m) (hL : ∀ j ∈ L, j / 64 < m ∧ j ≤ 100000)
    (n0 : id0 ≠ id1) (n10 : id10 ≠ id1) (nid : id ≠ id1) (hsl : ∀ h : Hs, (∀ id', id' ≠ id1 → h.hp.get id' = hm.hp.get id') → h.nx = hm.nx → SlI h sl (L.map Int.ofNat)) (hl0 : l0 ≤ id1) (hLn : L.length ≤ 1000)
    (k15 : Value → Value → Value → Value → Value → Hs → An) : ∀ (q N i : Nat) (y1 y2 y3 y4 : Value) (h : Hs), i + q = L.length → q < N →
    (∀ id', id' ≠ id1 → h.hp.get id' = hm.hp.get id') → h.nx = hm.nx → l0 ≤ h.lo → WdAt 60 id1 h v1 m →
    ∃ z1 z2 z3 z4 z5 h', lpT (T := Value → Value → Value → Value → Value → Hs → An) (fun _ _ _ _ _ _ => none) N (g20_0 R (.bool true) sl k15 (.pointer (some ⟨id0, 0, none⟩)) (.pointer (some ⟨id10, 0, none⟩)) (.int .i64 (.ofNat L.length))) (.int .i64 (.ofNat i)) y1 y2 y3 y4 h = k15 z1 z2 z3 z4 z5 h' ∧
      (∀ id', id' ≠ id1 → h'.hp.get id' = hm.hp.get id') ∧ h'.nx = hm.nx ∧ l0 ≤ h'.lo ∧ WdAt 60 id1 h' v1 m := by
  intro q
  induction q with
  | zero =>
    intro N i y1 y2 y3 y4 h hi hN hk hnx hlo hw
    obtain ⟨N, rfl⟩ : ∃ N', N = N' + 1 := ⟨N - 1, by omega⟩
    rw [lpT_succ]
    generalize lpT _ N _ = self
    unfold g20_0
    rw [kI64_lssN, decide_eq_false (by omega)]
    simp only [jn_eq, cnd_false]
    exact ⟨_, _, _, _, _, _, rfl, hk, hnx, hlo, hw⟩
  | succ q ih =>
    intro N i y1 y2 y3 y4 h hi hN hk hnx hlo hw
    obtain ⟨N, rfl⟩ : ∃ N', N = N' + 1 := ⟨N - 1, by omega⟩
    obtain ⟨j, hj⟩ : ∃ j, L[i]? = some j := ⟨_, List.getElem?_eq_getElem (by omega)⟩
    obtain ⟨hj1, hj2⟩ := hL j (List.mem_of_getElem? hj)
    have ej : (L.map Int.ofNat)[i]? = some (Int.ofNat j) := by rw [List.getElem?_map, hj]; rfl
    have b0' : Bx h id0 [v] := b0.keep (hk id0 n0)
    have b10' : Bx h id10 [v1] := b10.keep (hk id10 n10)
    have w' : WdAt 60 id h v m := w.keep (by omega) (hk id nid)
    have bl := b0'.loads
    rw [show [v].length = 1 from rfl] at bl
    rw [lpT_succ]
    generalize hself : lpT _ N (g20_0 R (.bool true) sl k15 (.pointer (some ⟨id0, 0, none⟩)) (.pointer (some ⟨id10, 0, none⟩)) (.int .i64 (.ofNat L.length))) = self
    unfold g20_0
    rw [kI64_lssN, decide_eq_true (by omega)]
    simp only [jn_eq, cnd_true]
    rw [(hsl h hk hnx).at (Ext.refl _) ej, bl, kCall_ok (E.there w' (by omega)), decide_eq_true hj1, kNot_eq]
    simp only [Bool.not_true, cnd_false]
    obtain ⟨x, hx⟩ := (hw.wd (Nat.zero_le _)).at hj1
    obtain ⟨y, hy⟩ := kShl_one (k := j % 64) (by omega)
    obtain ⟨z, hz⟩ := kU64_andNot x y
    rw [b10'.field (i := 0) rfl, kI64_quoN (by decide) (by omega), hx, kI64_remN (by decide), hy, hz]
    obtain ⟨h1, p1, p2, p3, p4, p5⟩ := hw.store hj1 z (fun _ h60 => kFieldA 0 (.pointer (some ⟨id10, 0, none⟩)) (fun x63 =>
      kLoad x63 h60 (fun x64 => kI64 .quo (.int .i64 (.ofNat j)) (.int .i64 (.ofNat 64)) (fun x65 => kIdxA 1 x64 x65 (fun x66 => kLoad x66 h60 (fun x67 =>
      kI64 .rem (.int .i64 (.ofNat j)) (.int .i64 (.ofNat 64)) (fun x68 => kShl (.int .u64 (.ofNat 1)) x68 (fun x69 => kU64 .or x67 x69 (fun x70 => kIdxA 1 x64 x65 (fun x71 =>
      kStore1 x71 x70 h60 (fun v74 u75 => dPut (fun _ h73 => kI64 .add (.int .i64 (.ofNat i)) (.int .i64 (.ofNat 1)) (fun x41 => self x41 (.bool true) (.int .i64 (.ofNat j)) (.bool false) (.bool true) h73)) v74 (dNext h60 u75 .bar) (andB (dFit h60 u75 .bar) (Nat.ble 0 u75.lo)))))))))))))
    rw [p1]
    have b10'' : Bx h1 id10 [v1] := b10'.keep (p5 id10 n10)
    obtain ⟨x2, hx2⟩ := (p2.wd (Nat.zero_le _)).at hj1
    obtain ⟨z2, hz2⟩ := kU64_or x2 y
    rw [b10''.field (i := 0) rfl, kI64_quoN (by decide) (by omega), hx2, kI64_remN (by decide), hy, hz2]
    obtain ⟨h2, r1, r2, r3, r4, r5⟩ := p2.store hj1 z2 (fun _ h73 => kI64 .add (.int .i64 (.ofNat i)) (.int .i64 (.ofNat 1)) (fun x41 => self x41 (.bool true) (.int .i64 (.ofNat j)) (.bool false) (.bool true) h73))
    rw [r1, kI64_inc (by omega), ← hself]
    exact ih N (i + 1) _ _ _ _ _ (by omega) (by omega) (fun id' hid => (r5 id' hid).trans ((p5 id' hid).trans (hk id' hid))) (by omega) (by omega) r2

/-- SET: a row of as many words -/
theorem set_ok {R : RnK} {N : Nat} (E : SetE R) {id m : Nat} {v sl : Value} {h : Hs} {L : List Nat} (w : WdAt 60 id h v m) (hm : m ≤ 100000) (s : SlI h sl (L.map Int.ofNat)) (hL : ∀ j ∈ L, j / 64 < m ∧ j ≤ 100000) (hLn : L.length ≤ 1000) (hN : 1000 < N) :
    ∃ v' h', r20 R N [.agg #[v], .bool true, sl] h = some (.val (.agg #[v']) h') ∧ WdAt 60 h.nx h' v' m ∧ Ext h h' ∧ h'.lo = h.lo ∧ h.nx < h'.nx := by
  rw [s20_eq]
  unfold s20
  rw [unC_cons, unC_cons, unC_cons, enK_eq, box_eq 32 [v], after_some]
  have hid : id < h.nx := by obtain ⟨_, _, q, _⟩ := w; exact q
  obtain ⟨ha, hadef⟩ : ∃ ha, ha = Gev.newRow ⟨h.hp, h.nx, h.nx⟩ 32 0 [v] := ⟨_, rfl⟩
  have eal : ∀ h : Hs, oAlloc 32 [.slice none 0 0] enE h = some (.pointer (some ⟨h.nx, 0, none⟩), Gev.newRow h 32 0 [.slice none 0 0]) := fun _ => rfl
  rw [← hadef, eal, after_some]
  have anx : ha.nx = h.nx + 1 := by rw [hadef]; rfl
  obtain ⟨hb, hbdef⟩ : ∃ hb, hb = Gev.newRow ha 32 0 [.slice none 0 0] := ⟨_, rfl⟩
  rw [← hbdef]
  have bnx : hb.nx = h.nx + 2 := by rw [hbdef, newRow_nx, anx]
  have xa : Ext h ha := by rw [hadef]; exact (⟨Nat.le_succ _, fun id hid => by rw [newRow_get, if_neg (by show ¬ h.nx = id; omega)]⟩ : Ext h _)
  have xb : Ext ha hb := by rw [hbdef]; exact ext_new (Ext.refl _) _ _ _
  have ba : Bx ha h.nx [v] := by rw [hadef]; exact Bx.new ⟨h.hp, h.nx, h.nx⟩ 32 0 [v]
  have bb : Bx hb h.nx [v] := ba.mono (by omega) xb
  have gb : hb.hp.get (h.nx + 1) = some (.row (ofList [.slice none 0 0]) 1 32 0 true true) := by rw [hbdef, newRow_get, anx, if_pos rfl]; rfl
  have lb : hb.lo = h.nx := by rw [hbdef, hadef]; rfl
  rw [bb.field (i := 0) rfl]
  have wb : WdAt 60 id hb v m := w.keep (by omega) ((xa.trans xb).2 id hid)
  obtain ⟨v1, hc, c1, c2, c3, c4, c5⟩ := E.clone wb hm
  rw [bnx] at c2 c5
  rw [kCall_ok c1]
  have eb : oBuild [.slice none 0 0] [(0, 1, .c v1)] enE hc = some (.agg #[v1], hc) := by
    obtain ⟨_, rfl, _⟩ := c2; rfl
  rw [eb, after_some, eal, after_some]
  obtain ⟨hd, hddef⟩ : ∃ hd, hd = Gev.newRow hc 32 0 [.slice none 0 0] := ⟨_, rfl⟩
  rw [← hddef]
  have dnx : hd.nx = h.nx + 4 := by rw [hddef, newRow_nx, c5]
  have xd : Ext hc hd := by rw [hddef]; exact ext_new (Ext.refl _) _ _ _
  have gd : hd.hp.get (h.nx + 3) = some (.row (ofList [.slice none 0 0]) 1 32 0 true true) := by rw [hddef, newRow_get, c5, if_pos rfl]; rfl
  have ld : hd.lo = h.nx := by rw [hddef]; show hc.lo = _; rw [c4, lb]
  rw [show hc.nx = h.nx + 3 from by omega]
  have h1c : oneC v1 = true := by obtain ⟨_, rfl, _⟩ := c2; rfl
  obtain ⟨he, ce, fle, e1, e2, e3, e4, e5, e6⟩ := store_one gd (v0 := .slice none 0 0) (fun i => get_ofList _ _) v1 h1c (fun _ h13 => kLenV sl (fun x14 =>
      lpT (T := Value → Value → Value → Value → Value → Hs → An) (fun _ _ _ _ _ _ => none) N (g20_0 R (.bool true) sl (fun x16 x17 x18 x19 x20 h21 => kLoads 1 (.pointer (some ⟨h.nx + 3, 0, none⟩)) h21 (fun x22 =>
        kStore1 (.pointer (some ⟨ha.nx, 0, none⟩)) x22 h21 (fun x23 h24 => clearUp h (packR h24 (resV enE h24 [.cell (.c (.pointer (some ⟨ha.nx, 0, none⟩))) 1 true]))))) (.pointer (some ⟨h.nx, 0, none⟩)) (.pointer (some ⟨h.nx + 3, 0, none⟩)) x14) (.int .i64 (.ofNat 0)) dunno dunno dunno dunno h13))
  simp only [jn_eq]
  refine (show ∃ v' h', kStore1 (.pointer (some ⟨h.nx + 3, 0, none⟩)) (.agg #[v1]) hd _ = some (.val (.agg #[v']) h') ∧ _ from ?_)
  rw [e1]
  -- what is there behind it
  have get_e : ∀ id', id' ≠ h.nx + 3 → he.hp.get id' = hd.hp.get id' := e6
  have b0e : Bx he h.nx [v] := (bb.mono (by omega) (c3.trans xd)).keep (get_e _ (by omega))
  have b10e : Bx he (h.nx + 3) [v1] := ⟨_, _, _, _, _, _, e2, e3⟩
  have we : WdAt 60 id he v m := w.keep (by omega) ((get_e id (by omega)).trans ((((xa.trans xb).trans c3).trans xd).2 id hid))
  have w1e : WdAt 60 (h.nx + 2) he v1 m := c2.keep (by omega) ((get_e _ (by omega)).trans (xd.2 _ (by omega)))
  have g2e : he.hp.get (h.nx + 1) = some (.row (ofList [.slice none 0 0]) 1 32 0 true true) := (get_e _ (by omega)).trans (((c3.trans xd).2 _ (by omega)).trans gb)
  have xe : Ext h he := ⟨by omega, fun id' hid' => (get_e id' (by omega)).trans ((((xa.trans xb).trans c3).trans xd).2 id' hid')⟩
  have hsl : ∀ hh : Hs, (∀ id', id' ≠ h.nx + 2 → hh.hp.get id' = he.hp.get id') → hh.nx = he.nx → SlI hh sl (L.map Int.ofNat) := fun hh k1 k2 => s.mono ⟨by rw [k2]; exact xe.1, fun id' hid' => (k1 id' (by omega)).trans (xe.2 id' hid')⟩
  rw [(s.mono xe).len, List.length_map]
  obtain ⟨z1, z2, z3, z4, z5, hf, f1, f2, f3, f4, f5⟩ := set_loop (l0 := h.nx) E b0e b10e we hL (by omega) (by omega) (by omega) hsl (by omega) hLn (fun x16 x17 x18 x19 x20 h21 => kLoads 1 (.pointer (some ⟨h.nx + 3, 0, none⟩)) h21 (fun x22 =>
        kStore1 (.pointer (some ⟨ha.nx, 0, none⟩)) x22 h21 (fun x23 h24 => clearUp h (packR h24 (resV enE h24 [.cell (.c (.pointer (some ⟨ha.nx, 0, none⟩))) 1 true]))))) L.length N 0 dunno dunno dunno dunno he (by omega) (by omega) (fun _ _ => rfl) rfl (by omega) w1e
  rw [f1]
  have b10f : Bx hf (h.nx + 3) [v1] := b10e.keep (f2 _ (by omega))
  have bl := b10f.loads
  rw [show [v1].length = 1 from rfl] at bl
  rw [bl, anx]
  have g2f : hf.hp.get (h.nx + 1) = some (.row (ofList [.slice none 0 0]) 1 32 0 true true) := (f2 _ (by omega)).trans g2e
  obtain ⟨hg, cg, flg, k1, k2, k3, k4, k5, k6⟩ := store_one g2f (v0 := .slice none 0 0) (fun i => get_ofList _ _) v1 h1c (fun x23 h24 => clearUp h (packR h24 (resV enE h24 [.cell (.c (.pointer (some ⟨h.nx + 1, 0, none⟩))) 1 true])))
  refine (show ∃ v' h', kStore1 (.pointer (some ⟨h.nx + 1, 0, none⟩)) (.agg #[v1]) hf _ = some (.val (.agg #[v']) h') ∧ _ from ?_)
  rw [k1]
  have b2g : Bx hg (h.nx + 1) [v1] := ⟨_, _, _, _, _, _, k2, k3⟩
  rw [b2g.res]
  obtain ⟨v2, h2, m1, m2, m3, m4⟩ := clearUp_word (h0 := h) (f5.keep (by omega) (k6 _ (by omega))) (by omega) (by omega)
  refine ⟨v2, h2, m1, m2, m3, m4, ?_⟩
  obtain ⟨_, _, q, _⟩ := m2
  exact q

theorem max_ok (a b : Int) (h : Hs) : oMinmax true [.c (.int .i64 a), .c (.int .i64 b)] enE h = some (.int .i64 (if a < b then b else a), h) := by
  show ret1 h (some (.int .i64 (match ltI a b with | true => b | false => a))) = _
  rw [ltI_eq]
  by_cases c : a < b
  · rw [decide_eq_true c, if_pos c]; rfl
  · rw [decide_eq_false c, if_neg c]; rfl
theorem min_ok (a b : Int) (h : Hs) : oMinmax false [.c (.int .i64 a), .c (.int .i64 b)] enE h = some (.int .i64 (if b < a then b else a), h) := by
  show ret1 h (some (.int .i64 (match ltI b a with | true => b | false => a))) = _
  rw [ltI_eq]
  by_cases c : b < a
  · rw [decide_eq_true c, if_pos c]; rfl
  · rw [decide_eq_false c, if_neg c]; rfl
/-- how many words -/
def wn (b : Nat) : Nat := (b + 64 - 1) / 64
theorem eal32 (h : Hs) : oAlloc 32 [.slice none 0 0] enE h = some (.pointer (some ⟨h.nx, 0, none⟩), Gev.newRow h 32 0 [.slice none 0 0]) := rfl
/-- NEW -/
theorem new_ok (R : RnK) (N : Nat) {b : Nat} (hb : b ≤ 60000) (h : Hs) : ∃ v' h', r28 R N [iN b] h = some (.val (.agg #[v']) h') ∧ WdAt 60 h.nx h' v' (wn b) ∧ Ext h h' ∧ h'.lo = h.lo ∧ h.nx < h'.nx := by
  rw [s28_eq]
  unfold s28
  rw [unC_cons, enK_eq, eal32, after_some, max_ok, if_neg (by simp only [Int.ofNat_eq_natCast]; omega), after_some, min_ok, if_neg (by simp only [Int.ofNat_eq_natCast]; omega), after_some]
  rw [kI64_addN (by omega), kI64_subN (by omega) (by omega), kI64_quoN (by decide) (by omega)]
  obtain ⟨ha, hadef⟩ : ∃ ha, ha = Gev.newRow ⟨h.hp, h.nx, h.nx⟩ 32 0 [.slice none 0 0] := ⟨_, rfl⟩
  rw [← hadef]
  have anx : ha.nx = h.nx + 1 := by rw [hadef]; rfl
  have xa : Ext h ha := by rw [hadef]; exact (⟨Nat.le_succ _, fun id hid => by rw [newRow_get, if_neg (by show ¬ h.nx = id; omega)]⟩ : Ext h _)
  have ga : ha.hp.get h.nx = some (.row (ofList [.slice none 0 0]) 1 32 0 true true) := by rw [hadef, newRow_get, if_pos rfl]; rfl
  have la : ha.lo = h.nx := by rw [hadef]; rfl
  have hw : wn b ≤ 1000 := by unfold wn; omega
  have ems : mkslice1 60 1 8 [.int .u64 (.ofNat 0)] ha (natOf (.int .i64 (.ofNat ((b + 64 - 1) / 64)))) (natOf (.int .i64 (.ofNat ((b + 64 - 1) / 64)))) = some (.slice (some ⟨ha.nx, 0, none⟩) (wn b) (wn b), Gev.newRow ha 60 1 (rep [.int .u64 (.ofNat 0)] (wn b))) := by
    show (match Nat.ble (wn b) (wn b) with | false => none | true => match Nat.ble (Nat.mul 8 (wn b)) 281474976710656 with | false => none | true => some (Value.slice (some ⟨ha.nx, 0, none⟩) (wn b) (wn b), Gev.newRow ha 60 1 (rep [Value.int .u64 (.ofNat 0)] (wn b)))) = _
    rw [ble_self, show Nat.ble (Nat.mul 8 (wn b)) 281474976710656 = true from Nat.ble_eq_true_of_le (by show 8 * wn b ≤ _; omega)]
  rw [ems, after_some]
  have hrl : (rep [Value.int .u64 (.ofNat 0)] (wn b)).length = wn b := by rw [rep_length]; simp
  have hw0 : ∀ (n : Nat), ∀ x ∈ rep [Value.int .u64 (.ofNat 0)] n, ∃ w, x = .int .u64 (.ofNat w) := by
    intro n
    induction n with
    | zero => intro x hx; cases hx
    | succ n ih =>
      intro x hx
      rcases List.mem_append.1 hx with hx | hx
      · exact ⟨0, List.mem_singleton.1 hx⟩
      · exact ih x hx
  have w := wd_new 60 ha (rep [.int .u64 (.ofNat 0)] (wn b)) (hw0 _)
  rw [hrl] at w
  obtain ⟨hc, hcdef⟩ : ∃ hc, hc = Gev.newRow ha 60 1 (rep [.int .u64 (.ofNat 0)] (wn b)) := ⟨_, rfl⟩
  rw [← hcdef] at w ⊢
  have cnx : hc.nx = h.nx + 2 := by rw [hcdef, newRow_nx, anx]
  have xc : Ext ha hc := by rw [hcdef]; exact ext_new (Ext.refl _) _ _ _
  have gc : hc.hp.get h.nx = some (.row (ofList [.slice none 0 0]) 1 32 0 true true) := (xc.2 _ (by omega)).trans ga
  have lc : hc.lo = h.nx := by rw [hcdef]; exact la
  have eb : oBuild [.slice none 0 0] [(0, 1, .c (.slice (some ⟨ha.nx, 0, none⟩) (wn b) (wn b)))] enE hc = some (.agg #[.slice (some ⟨ha.nx, 0, none⟩) (wn b) (wn b)], hc) := rfl
  rw [eb, after_some]
  obtain ⟨hd, cd, fld, k1, k2, k3, k4, k5, k6⟩ := store_one gc (v0 := .slice none 0 0) (fun i => get_ofList _ _) (.slice (some ⟨ha.nx, 0, none⟩) (wn b) (wn b)) rfl (fun _ h14 => clearUp h (packR h14 (resV enE h14 [.cell (.c (.pointer (some ⟨h.nx, 0, none⟩))) 1 true])))
  refine (show ∃ v' h', kStore1 (.pointer (some ⟨h.nx, 0, none⟩)) (.agg #[.slice (some ⟨ha.nx, 0, none⟩) (wn b) (wn b)]) hc _ = some (.val (.agg #[v']) h') ∧ _ from ?_)
  rw [k1]
  have b2 : Bx hd h.nx [.slice (some ⟨ha.nx, 0, none⟩) (wn b) (wn b)] := ⟨_, _, _, _, _, _, k2, k3⟩
  rw [b2.res]
  obtain ⟨v2, h2, m1, m2, m3, m4⟩ := clearUp_word (h0 := h) (w.keep (by omega) (k6 _ (by omega))) (by omega) (by omega)
  refine ⟨v2, h2, m1, m2, m3, m4, ?_⟩
  obtain ⟨_, _, q, _⟩ := m2
  exact q

/-! ### empty -/
/-- what 'empty' leans on -/
structure EmpE (R : RnK) : Prop where
  data : ∀ {b n c k : Nat}, Geo b n c k → ∀ h : Hs, R 10 [gv (.ofNat b) (.ofNat n) (.ofNat c) (.ofNat k)] h = some (.val (.tuple #[iN (frm b n c k), iN (alln b n c k)]) h)
  new : ∀ {b : Nat}, b ≤ 60000 → ∀ h : Hs, ∃ v' h', R 28 [iN b] h = some (.val (.agg #[v']) h') ∧ WdAt 60 h.nx h' v' (wn b) ∧ Ext h h' ∧ h'.lo = h.lo ∧ h.nx < h'.nx
  set : ∀ {id m : Nat} {v sl : Value} {h : Hs} {L : List Nat}, WdAt 60 id h v m → m ≤ 100000 → SlI h sl (L.map Int.ofNat) → (∀ j ∈ L, j / 64 < m ∧ j ≤ 100000) → L.length ≤ 1000 →
    ∃ v' h', R 20 [.agg #[v], .bool true, sl] h = some (.val (.agg #[v']) h') ∧ WdAt 60 h.nx h' v' m ∧ Ext h h' ∧ h'.lo = h.lo ∧ h.nx < h'.nx
/-- a block of one cell that may be stored to -/
def Cell1 (h : Hs) (id : Nat) (v : Value) : Prop := ∃ c fl, h.hp.get id = some (.row c 1 32 0 true fl) ∧ ∀ i, c.get i = [v][i]?
theorem Cell1.bx {h : Hs} {id : Nat} {v : Value} (c : Cell1 h id v) : Bx h id [v] := by obtain ⟨c, fl, q1, q2⟩ := c; exact ⟨_, _, _, _, _, _, q1, q2⟩
theorem empty_loop {R : RnK} (E : EmpE R) {b n c k m : Nat} (g : Geo b n c k) (hm : m = wn b) {h0 : Hs} {id0 id13 l0 : Nat} (bx : Bx h0 id0 (gs (.ofNat b) (.ofNat n) (.ofNat c) (.ofNat k))) (hid0 : id0 < h0.nx) (hne : id0 ≠ id13) (hid13 : id13 < h0.nx) (hl0 : l0 ≤ id13) (k17 : Value → Value → Value → Hs → An) : ∀ (q N i : Nat) (y1 y2 : Value) (h : Hs) (v : Value) (idv : Nat), i + q = b → q < N →
    (∀ id', id' < h0.nx → id' ≠ id13 → h.hp.get id' = h0.hp.get id') → h0.nx ≤ h.nx → l0 ≤ h.lo → Cell1 h id13 v → WdAt 60 idv h v m → l0 ≤ idv → idv ≠ id13 →
    ∃ z1 z2 z3 h' v' idv', lpT (T := Value → Value → Value → Hs → An) (fun _ _ _ _ => none) N (g9_0 R k17 (.pointer (some ⟨id0, 0, none⟩)) (.pointer (some ⟨id13, 0, none⟩)) (iN (frm b n c k)) (iN (alln b n c k))) (iN i) y1 y2 h = k17 z1 z2 z3 h' ∧
      (∀ id', id' < h0.nx → id' ≠ id13 → h'.hp.get id' = h0.hp.get id') ∧ h0.nx ≤ h'.nx ∧ l0 ≤ h'.lo ∧ Cell1 h' id13 v' ∧ WdAt 60 idv' h' v' m ∧ l0 ≤ idv' ∧ idv' ≠ id13 := by
  have gb : b ≤ 1024 := g.2.1
  have hfa : frm b n c k + alln b n c k + 1 = b := by unfold alln; have := g.2.2.2.2.2.2.2.2; omega
  intro q
  induction q with
  | zero =>
    intro N i y1 y2 h v idv hi hN hk hnx hlo hc hw hv1 hv2
    obtain ⟨N, rfl⟩ : ∃ N', N = N' + 1 := ⟨N - 1, by omega⟩
    have bx' : Bx h id0 (gs (.ofNat b) (.ofNat n) (.ofNat c) (.ofNat k)) := bx.keep (hk id0 hid0 hne)
    rw [lpT_succ]
    generalize lpT _ N _ = self
    unfold g9_0
    rw [bx'.field (i := 0) rfl, kI64_lssN, decide_eq_false (by omega)]
    simp only [jn_eq, cnd_false]
    exact ⟨_, _, _, _, _, _, rfl, hk, hnx, hlo, hc, hw, hv1, hv2⟩
  | succ q ih =>
    intro N i y1 y2 h v idv hi hN hk hnx hlo hc hw hv1 hv2
    obtain ⟨N, rfl⟩ : ∃ N', N = N' + 1 := ⟨N - 1, by omega⟩
    have bx' : Bx h id0 (gs (.ofNat b) (.ofNat n) (.ofNat c) (.ofNat k)) := bx.keep (hk id0 hid0 hne)
    rw [lpT_succ]
    generalize hself : lpT _ N (g9_0 R k17 (.pointer (some ⟨id0, 0, none⟩)) (.pointer (some ⟨id13, 0, none⟩)) (iN (frm b n c k)) (iN (alln b n c k))) = self
    -- a bit is set
    have setb : ∃ z1 z2 z3 h' v' idv', (kLoads 1 (.pointer (some ⟨id13, 0, none⟩)) h (fun x62 => after (fun x63 h64 => kCall R 20 [x62, .bool true, x63] h64 (fun x65 h66 => kStore1 (.pointer (some ⟨id13, 0, none⟩)) x65 h66 (fun _ h68 => kI64 .add (iN i) (.int .i64 (.ofNat 1)) (fun x39 => self x39 (.bool true) (.bool true) h68)))) (oMkrow 3 1 1 [.int .i64 (.ofNat 0)] [(0, 1, .c (iN i))] enE h))) = k17 z1 z2 z3 h' ∧
      (∀ id', id' < h0.nx → id' ≠ id13 → h'.hp.get id' = h0.hp.get id') ∧ h0.nx ≤ h'.nx ∧ l0 ≤ h'.lo ∧ Cell1 h' id13 v' ∧ WdAt 60 idv' h' v' m ∧ l0 ≤ idv' ∧ idv' ≠ id13 := by
      have bl := hc.bx.loads
      rw [show [v].length = 1 from rfl] at bl
      have em : oMkrow 3 1 1 [.int .i64 (.ofNat 0)] [(0, 1, .c (iN i))] enE h = some (.slice (some ⟨h.nx, 0, none⟩) 1 1, Gev.newRow h 3 1 [iN i]) := rfl
      rw [bl, em, after_some]
      have s : SlI (Gev.newRow h 3 1 [iN i]) (.slice (some ⟨h.nx, 0, none⟩) 1 1) ([i].map Int.ofNat) := by
        refine ⟨some ⟨h.nx, 0, none⟩, 1, rfl, fun j l hj => ⟨h.nx, 0, ofList [iN i], 1, 3, 1, true, true, rfl, Nat.lt_succ_self _, by rw [newRow_get, if_pos rfl]; rfl, ?_⟩⟩
        cases j with
        | zero => simp only [List.map_cons, List.map_nil, List.getElem?_cons_zero, Option.some.injEq] at hj; subst hj; rfl
        | succ j => simp at hj
      have xn : Ext h (Gev.newRow h 3 1 [iN i]) := ext_new (Ext.refl _) _ _ _
      have hwl : idv < h.nx := by obtain ⟨_, _, q, _⟩ := hw; exact q
      have hw1 : WdAt 60 idv (Gev.newRow h 3 1 [iN i]) v m := hw.keep xn.1 (xn.2 _ hwl)
      have hmb : m ≤ 1000 := by rw [hm]; unfold wn; omega
      obtain ⟨v1, h1, p1, p2, p3, p4, p5⟩ := E.set hw1 (by omega) s (fun j hj => by rw [List.mem_singleton.1 hj, hm]; unfold wn; omega) (show 1 ≤ 1000 by decide)
      rw [kCall_ok p1]
      obtain ⟨c13, fl13, q1, q2⟩ := hc
      have q1' : h1.hp.get id13 = some (.row c13 1 32 0 true fl13) := (p3.2 _ (by rw [newRow_nx]; omega)).trans ((xn.2 _ (by omega)).trans q1)
      have h1c : oneC v1 = true := by obtain ⟨_, rfl, _⟩ := p2; rfl
      obtain ⟨h2, c2, fl2, r1, r2, r3, r4, r5, r6⟩ := store_one q1' q2 v1 h1c (fun _ h68 => kI64 .add (iN i) (.int .i64 (.ofNat 1)) (fun x39 => self x39 (.bool true) (.bool true) h68))
      rw [r1, kI64_inc (by omega), ← hself]
      rw [newRow_nx] at p2 p5
      have hnx1 : h.nx + 1 ≤ h1.nx := p3.1
      refine ih N (i + 1) _ _ h2 v1 (h.nx + 1) (by omega) (by omega) (fun id' a1 a2 => ?_) (by omega) (by rw [r5, p4]; show l0 ≤ min h.lo id13; omega) ⟨c2, fl2, r2, r3⟩ (p2.keep (by omega) (r6 _ (by omega))) (by omega) (by omega)
      rw [r6 id' a2, p3.2 id' (by rw [newRow_nx]; omega), xn.2 id' (by omega)]
      exact hk id' a1 a2
    unfold g9_0
    rw [bx'.field (i := 0) rfl, kI64_lssN, decide_eq_true (by omega)]
    simp only [jn_eq, cnd_true]
    rw [kI64_lssN]
    by_cases c1 : i < frm b n c k
    · rw [decide_eq_true c1]
      simp only [gdF_true, pick_true, after_some, cnd_true]
      exact setb
    · rw [decide_eq_false c1]
      simp only [gdF_false]
      rw [kI64_addN (by omega), kI64_geqN]
      simp only [pick_false, after_some]
      by_cases c2 : frm b n c k + alln b n c k ≤ i
      · rw [decide_eq_true c2]
        simp only [cnd_true]
        exact setb
      · rw [decide_eq_false c2]
        simp only [cnd_false]
        rw [kI64_inc (by omega), ← hself]
        exact ih N (i + 1) _ _ h v idv (by omega) (by omega) hk hnx hlo hc hw hv1 hv2

/-- EMPTY -/
theorem empty_ok {R : RnK} {N : Nat} (E : EmpE R) {b n c k : Nat} (g : Geo b n c k) (hN : 5000 < N) (h : Hs) :
    ∃ v' h', r9 R N [gv (.ofNat b) (.ofNat n) (.ofNat c) (.ofNat k)] h = some (.val (.agg #[v']) h') ∧ WdAt 60 h.nx h' v' (wn b) ∧ Ext h h' ∧ h'.lo = h.lo := by
  have gb : b ≤ 1024 := g.2.1
  rw [s9_eq]
  unfold s9
  rw [unC_cons, enK_eq, box_eq, after_some, eal32, after_some]
  obtain ⟨ha, hadef⟩ : ∃ ha, ha = Gev.newRow ⟨h.hp, h.nx, h.nx⟩ 23 0 (gs (.ofNat b) (.ofNat n) (.ofNat c) (.ofNat k)) := ⟨_, rfl⟩
  rw [← hadef]
  have anx : ha.nx = h.nx + 1 := by rw [hadef]; rfl
  have xa : Ext h ha := by rw [hadef]; exact (⟨Nat.le_succ _, fun id hid => by rw [newRow_get, if_neg (by show ¬ h.nx = id; omega)]⟩ : Ext h _)
  have ba : Bx ha h.nx (gs (.ofNat b) (.ofNat n) (.ofNat c) (.ofNat k)) := by rw [hadef]; exact Bx.new ⟨h.hp, h.nx, h.nx⟩ 23 0 _
  obtain ⟨hb, hbdef⟩ : ∃ hb, hb = Gev.newRow ha 32 0 [.slice none 0 0] := ⟨_, rfl⟩
  rw [← hbdef]
  have bnx : hb.nx = h.nx + 2 := by rw [hbdef, newRow_nx, anx]
  have xb : Ext ha hb := by rw [hbdef]; exact ext_new (Ext.refl _) _ _ _
  have bb : Bx hb h.nx (gs (.ofNat b) (.ofNat n) (.ofNat c) (.ofNat k)) := ba.mono (by omega) xb
  have gb2 : hb.hp.get (h.nx + 1) = some (.row (ofList [.slice none 0 0]) 1 32 0 true true) := by rw [hbdef, newRow_get, anx, if_pos rfl]; rfl
  have lb : hb.lo = h.nx := by rw [hbdef, hadef]; rfl
  have bl := bb.loads
  rw [show (gs (.ofNat b) (.ofNat n) (.ofNat c) (.ofNat k)).length = 4 from rfl] at bl
  rw [bl, kCall_ok (E.data g _), kExtr_0, kExtr_1, bb.field (i := 0) rfl]
  obtain ⟨v, hc, c1, c2, c3, c4, c5⟩ := E.new (b := b) (by omega) hb
  rw [kCall_ok c1, eal32, after_some]
  have cnx : h.nx + 2 < hc.nx := by omega
  obtain ⟨hd, hddef⟩ : ∃ hd, hd = Gev.newRow hc 32 0 [.slice none 0 0] := ⟨_, rfl⟩
  rw [← hddef]
  have dnx : hd.nx = hc.nx + 1 := by rw [hddef]; rfl
  have xd : Ext hc hd := by rw [hddef]; exact ext_new (Ext.refl _) _ _ _
  have gd : hd.hp.get hc.nx = some (.row (ofList [.slice none 0 0]) 1 32 0 true true) := by rw [hddef, newRow_get, if_pos rfl]; rfl
  have ld : hd.lo = h.nx := by rw [hddef]; show hc.lo = _; rw [c4, lb]
  have h1c : oneC v = true := by obtain ⟨_, rfl, _⟩ := c2; rfl
  obtain ⟨he, ce, fle, e1, e2, e3, e4, e5, e6⟩ := store_one gd (v0 := .slice none 0 0) (fun i => get_ofList _ _) v h1c (fun _ h16 => lpT (T := Value → Value → Value → Hs → An) (fun _ _ _ _ => none) N (g9_0 R (fun x18 x19 x20 h21 =>
      kLoads 1 (.pointer (some ⟨hc.nx, 0, none⟩)) h21 (fun x22 => kStore1 (.pointer (some ⟨ha.nx, 0, none⟩)) x22 h21 (fun x23 h24 => clearUp h (packR h24 (resV enE h24 [.cell (.c (.pointer (some ⟨ha.nx, 0, none⟩))) 1 true])))))
      (.pointer (some ⟨h.nx, 0, none⟩)) (.pointer (some ⟨hc.nx, 0, none⟩)) (iN (frm b n c k)) (iN (alln b n c k))) (iN 0) dunno dunno h16)
  simp only [jn_eq]
  refine (show ∃ v' h', kStore1 (.pointer (some ⟨hc.nx, 0, none⟩)) (.agg #[v]) hd _ = some (.val (.agg #[v']) h') ∧ _ from ?_)
  rw [e1]
  have b0e : Bx he h.nx (gs (.ofNat b) (.ofNat n) (.ofNat c) (.ofNat k)) := (bb.mono (by omega) (c3.trans xd)).keep (e6 _ (by omega))
  have g2e : he.hp.get (h.nx + 1) = some (.row (ofList [.slice none 0 0]) 1 32 0 true true) := (e6 _ (by omega)).trans (((c3.trans xd).2 _ (by omega)).trans gb2)
  rw [bnx] at c2
  have we : WdAt 60 (h.nx + 2) he v (wn b) := c2.keep (by omega) ((e6 _ (by omega)).trans (xd.2 _ (by omega)))
  have xe : ∀ id', id' < h.nx → he.hp.get id' = h.hp.get id' := fun id' hid' => (e6 id' (by omega)).trans ((((xa.trans xb).trans c3).trans xd).2 id' hid')
  obtain ⟨z1, z2, z3, hf, v1, id1, f1, f2, f3, f4, f5, f6, f7, f8⟩ := empty_loop (l0 := h.nx) (h0 := he) E g rfl b0e (by omega) (by omega) (by omega) (by omega) (fun x18 x19 x20 h21 =>
      kLoads 1 (.pointer (some ⟨hc.nx, 0, none⟩)) h21 (fun x22 => kStore1 (.pointer (some ⟨ha.nx, 0, none⟩)) x22 h21 (fun x23 h24 => clearUp h (packR h24 (resV enE h24 [.cell (.c (.pointer (some ⟨ha.nx, 0, none⟩))) 1 true])))))
      b N 0 dunno dunno he v (h.nx + 2) (by omega) (by omega) (fun _ _ _ => rfl) (Nat.le_refl _) (by rw [e5, ld]; omega) ⟨ce, fle, e2, e3⟩ we (by omega) (by omega)
  rw [f1]
  have bl2 := f5.bx.loads
  rw [show [v1].length = 1 from rfl] at bl2
  rw [bl2, anx]
  have h1d : oneC v1 = true := by obtain ⟨_, rfl, _⟩ := f6; rfl
  have g2f : hf.hp.get (h.nx + 1) = some (.row (ofList [.slice none 0 0]) 1 32 0 true true) := (f2 _ (by omega) (by omega)).trans g2e
  obtain ⟨hg, cg, flg, k1, k2, k3, k4, k5, k6⟩ := store_one g2f (v0 := .slice none 0 0) (fun i => get_ofList _ _) v1 h1d (fun x23 h24 => clearUp h (packR h24 (resV enE h24 [.cell (.c (.pointer (some ⟨h.nx + 1, 0, none⟩))) 1 true])))
  refine (show ∃ v' h', kStore1 (.pointer (some ⟨h.nx + 1, 0, none⟩)) (.agg #[v1]) hf _ = some (.val (.agg #[v']) h') ∧ _ from ?_)
  rw [k1]
  have b2g : Bx hg (h.nx + 1) [v1] := ⟨_, _, _, _, _, _, k2, k3⟩
  rw [b2g.res]
  have hne1 : id1 ≠ h.nx + 1 := fun e => by
    subst e
    obtain ⟨cc, _, _, q, _⟩ := f6
    rw [g2f] at q
    injection q with q; injection q with _ q2 q3; omega
  obtain ⟨v2, h2, m1, m2, m3, m4⟩ := clearUp_word (h0 := h) (f6.keep (by omega) (k6 _ hne1)) (by omega) (by omega)
  exact ⟨v2, h2, m1, m2, m3, m4⟩

/-! ### Group -/
theorem kNil_ptr (a : Addr) (K : Value → An) : kNil (.pointer (some a)) K = K (.pointer (some a)) := rfl
theorem group_ok {R : RnK} {N : Nat} (hD : ∀ {b n c k : Nat}, Geo b n c k → ∀ h : Hs, R 10 [gv (.ofNat b) (.ofNat n) (.ofNat c) (.ofNat k)] h = some (.val (.tuple #[iN (frm b n c k), iN (alln b n c k)]) h))
    {b n c k : Nat} (g : Geo b n c k) {h : Hs} {id : Nat} {w : Value} (bx : Bx h id (gs (.ofNat b) (.ofNat n) (.ofNat c) (.ofNat k) ++ [w])) {i : Nat} (hi : i < c) :
    r11 R N [.pointer (some ⟨id, 0, none⟩), iN i] h = some (.val (.tuple #[iN (frm b n c k + i * (alln b n c k / c)), iN (if i = c - 1 then alln b n c k - i * (alln b n c k / c) else alln b n c k / c)]) h) := by
  have g' := g
  obtain ⟨g1, g2, g3, g4, g5, g6, g7, g8, g9⟩ := g'
  have ha : alln b n c k ≤ 1024 := by unfold alln; omega
  have hq : alln b n c k / c ≤ 1024 := Nat.le_trans (Nat.div_le_self _ _) ha
  have him : i * (alln b n c k / c) ≤ 8192 := Nat.le_trans (Nat.mul_le_mul (show i ≤ 8 by omega) hq) (by decide)
  have hle : i * (alln b n c k / c) ≤ alln b n c k := Nat.le_trans (Nat.mul_le_mul_right _ (Nat.le_of_lt hi)) (Nat.mul_div_le _ _)
  have bl := bx.loadsN (m := 4) (show 4 ≤ 5 by decide)
  rw [show (gs (.ofNat b) (.ofNat n) (.ofNat c) (.ofNat k) ++ [w]).take 4 = gs (.ofNat b) (.ofNat n) (.ofNat c) (.ofNat k) from rfl] at bl
  have bx1 : Bx ⟨h.hp, h.nx, h.nx⟩ id (gs (.ofNat b) (.ofNat n) (.ofNat c) (.ofNat k) ++ [w]) := bx
  have bl1 := bx1.loadsN (m := 4) (show 4 ≤ 5 by decide)
  rw [show (gs (.ofNat b) (.ofNat n) (.ofNat c) (.ofNat k) ++ [w]).take 4 = gs (.ofNat b) (.ofNat n) (.ofNat c) (.ofNat k) from rfl] at bl1
  have l2 : ∀ K : Value → An, kLoad (.pointer (some ⟨id, 2, none⟩)) ⟨h.hp, h.nx, h.nx⟩ K = K (iN c) := fun K => bx1.load rfl K
  rw [s11_eq]
  unfold s11
  rw [unC_cons, unC_cons, enK_eq, kI64_lssN, decide_eq_false (by omega)]
  simp only [gdF_false, kNil_ptr, kFieldA_ok, Nat.zero_add]
  rw [l2, kI64_geqN, decide_eq_false (by omega)]
  simp only [pick_false, after_some, cnd_false, jn_eq]
  rw [bl1, kCall_ok (hD g _), kExtr_0, kExtr_1, l2, kI64_quoN (by omega) (by omega), kI64_mulN (by omega), kI64_addN (by omega), l2, kI64_subN (by omega) (by omega), kI64_eqlN]
  by_cases e : i = c - 1
  · rw [decide_eq_true e, if_pos e]
    simp only [cnd_true]
    rw [kI64_mulN (by omega), kI64_subN hle (by omega)]
    exact clrK_tuple (vs := [iN _, iN _]) rfl (Nat.le_refl _)
  · rw [decide_eq_false e, if_neg e]
    simp only [cnd_false]
    exact clrK_tuple (vs := [iN _, iN _]) rfl (Nat.le_refl _)
/-- no such client -/
theorem group_no {R : RnK} {N : Nat} {b n c k : Nat} {h : Hs} {id : Nat} {w : Value} (bx : Bx h id (gs (.ofNat b) (.ofNat n) (.ofNat c) (.ofNat k) ++ [w])) {i : Int} (hi : i < 0 ∨ (c : Int) ≤ i) :
    r11 R N [.pointer (some ⟨id, 0, none⟩), .int .i64 i] h = some (.val (.tuple #[iN 0, iN 0]) h) := by
  have bx1 : Bx ⟨h.hp, h.nx, h.nx⟩ id (gs (.ofNat b) (.ofNat n) (.ofNat c) (.ofNat k) ++ [w]) := bx
  have l2 : ∀ K : Value → An, kLoad (.pointer (some ⟨id, 2, none⟩)) ⟨h.hp, h.nx, h.nx⟩ K = K (iN c) := fun K => bx1.load rfl K
  rw [s11_eq]
  unfold s11
  rw [unC_cons, unC_cons, enK_eq, kI64_lss]
  by_cases e : i < 0
  · rw [show decide (i < Int.ofNat 0) = true from decide_eq_true e]
    simp only [gdF_true, pick_true, after_some, cnd_true, jn_eq]
    exact clrK_tuple (vs := [iN 0, iN 0]) rfl (Nat.le_refl _)
  · rw [show decide (i < Int.ofNat 0) = false from decide_eq_false e]
    simp only [gdF_false, kNil_ptr, kFieldA_ok, Nat.zero_add]
    rw [l2, kI64_geq, decide_eq_true (by simp only [Int.ofNat_eq_natCast]; omega)]
    simp only [pick_false, after_some, cnd_true, jn_eq]
    exact clrK_tuple (vs := [iN 0, iN 0]) rfl (Nat.le_refl _)

/-- POOL.NEW -/
theorem pool_ok {R : RnK} {N : Nat} (hgood : ∀ {b n c k : Nat}, Geo b n c k → ∀ h : Hs, R 7 [gv (.ofNat b) (.ofNat n) (.ofNat c) (.ofNat k)] h = some (.val (.bool true) h))
    (hset : ∀ {id m : Nat} {v sl : Value} {h : Hs} {L : List Nat}, WdAt 60 id h v m → m ≤ 100000 → SlI h sl (L.map Int.ofNat) → (∀ j ∈ L, j / 64 < m ∧ j ≤ 100000) → L.length ≤ 1000 →
      ∃ v' h', R 20 [.agg #[v], .bool true, sl] h = some (.val (.agg #[v']) h') ∧ WdAt 60 h.nx h' v' m ∧ Ext h h' ∧ h'.lo = h.lo ∧ h.nx < h'.nx)
    {b n c k : Nat} (g : Geo b n c k) {idw : Nat} {v : Value} {h : Hs} (w : WdAt 60 idw h v (wn b)) :
    ∃ id v' h', r8 R N [gv (.ofNat b) (.ofNat n) (.ofNat c) (.ofNat k), .agg #[v]] h = some (.val (.tuple #[.pointer (some ⟨id, 0, none⟩), iN 0]) h') ∧ Bx h' id (gs (.ofNat b) (.ofNat n) (.ofNat c) (.ofNat k) ++ [v']) ∧ id < h'.nx ∧ Ext h h' ∧ h'.lo = h.lo := by
  have gb : b ≤ 1024 := g.2.1
  have hidw : idw < h.nx := by obtain ⟨_, _, q, _⟩ := w; exact q
  have hwn : wn b ≤ 1000 := by unfold wn; omega
  rw [s8_eq]
  unfold s8
  rw [unC_cons, unC_cons, enK_eq, box_eq, after_some, box_eq 32 [v], after_some]
  obtain ⟨ha, hadef⟩ : ∃ ha, ha = Gev.newRow ⟨h.hp, h.nx, h.nx⟩ 23 0 (gs (.ofNat b) (.ofNat n) (.ofNat c) (.ofNat k)) := ⟨_, rfl⟩
  rw [← hadef]
  have anx : ha.nx = h.nx + 1 := by rw [hadef]; rfl
  have xa : Ext h ha := by rw [hadef]; exact (⟨Nat.le_succ _, fun id hid => by rw [newRow_get, if_neg (by show ¬ h.nx = id; omega)]⟩ : Ext h _)
  have ba : Bx ha h.nx (gs (.ofNat b) (.ofNat n) (.ofNat c) (.ofNat k)) := by rw [hadef]; exact Bx.new ⟨h.hp, h.nx, h.nx⟩ 23 0 _
  obtain ⟨hb, hbdef⟩ : ∃ hb, hb = Gev.newRow ha 32 0 [v] := ⟨_, rfl⟩
  rw [← hbdef]
  have bnx : hb.nx = h.nx + 2 := by rw [hbdef, newRow_nx, anx]
  have xb : Ext ha hb := by rw [hbdef]; exact ext_new (Ext.refl _) _ _ _
  have bb : Bx hb h.nx (gs (.ofNat b) (.ofNat n) (.ofNat c) (.ofNat k)) := ba.mono (by omega) xb
  have bv : Bx hb (h.nx + 1) [v] := by
    have := Bx.new ha 32 0 [v]
    rw [anx, ← hbdef] at this
    exact this
  have lb : hb.lo = h.nx := by rw [hbdef, hadef]; rfl
  have wb : WdAt 60 idw hb v (wn b) := w.keep (by omega) ((xa.trans xb).2 idw hidw)
  have bl := bb.loads
  rw [show (gs (.ofNat b) (.ofNat n) (.ofNat c) (.ofNat k)).length = 4 from rfl] at bl
  have blv := bv.loads
  rw [show [v].length = 1 from rfl] at blv
  rw [bl, kCall_ok (hgood g _), kNot_eq, anx]
  simp only [Bool.not_true, gdF_false]
  rw [bv.field (i := 0) rfl, (wb.wd (Nat.zero_le _)).len, bb.field (i := 0) rfl, kI64_addN (by omega), kI64_subN (by omega) (by omega), kI64_quoN (by decide) (by omega), kI64_lssN, decide_eq_false (show ¬ wn b < (b + 64 - 1) / 64 from Nat.lt_irrefl _)]
  simp only [pick_false, after_some, cnd_false, jn_eq, kLoads_lo]
  rw [bl, blv]
  have wl : WdAt 60 idw (Hs.mk hb.hp hb.nx hb.nx) v (wn b) := wb
  obtain ⟨v1, hc, c1, c2, c3, c4, c5⟩ := hset (L := []) wl (by omega) (⟨none, 0, rfl, fun i l hi => by simp at hi⟩ : SlI _ (.slice none 0 0) ([].map Int.ofNat)) (fun j hj => by cases hj) (by decide)
  rw [kCall_ok c1]
  obtain ⟨hd, d1, d2, d3, d4⟩ := dLight (h := hb) (u := hc) c3.1 (by rw [c4]; exact Nat.le_refl _) c3 (fun x52 h53 =>
    after (fun v60 u61 => dPut (fun x54 h55 =>
    after (fun v58 u59 => dPut (fun x56 h57 =>
    clrK h (Value.tuple #[x56, iN 0]) h57) v58 (dNext h55 u59 .make) (andB (dFit h55 u59 .make) (Nat.ble 0 u59.lo))) (oBox 69 (.c x54) enE (Hs.mk .e h55.nx h55.nx))) v60 (dNext h53 u61 .blind) (andB (dFit h53 u61 .blind) (Nat.ble 0 u61.lo))) (oBuild [iN 0, iN 0, iN 0, iN 0, .slice none 0 0] [(0, 4, .c (gv (.ofNat b) (.ofNat n) (.ofNat c) (.ofNat k))), (4, 1, .c x52)] enE (Hs.mk .e h53.nx h53.nx))) (.agg #[v1])
  refine (show ∃ id v' h', dPut _ (.agg #[v1]) (dNext hb hc .light) (andB (dFit hb hc .light) (Nat.ble 0 hc.lo)) = some (.val (.tuple #[.pointer (some ⟨id, 0, none⟩), iN 0]) h') ∧ _ from ?_)
  rw [d1]
  have w1 : WdAt 60 hb.nx hd v1 (wn b) := c2.keep (by omega) (d2.2 _ (by show hb.nx < hc.nx; exact c5))
  have eb : ∀ hh : Hs, oBuild [iN 0, iN 0, iN 0, iN 0, .slice none 0 0] [(0, 4, .c (gv (.ofNat b) (.ofNat n) (.ofNat c) (.ofNat k))), (4, 1, .c (.agg #[v1]))] enE hh = some (.agg (gs (.ofNat b) (.ofNat n) (.ofNat c) (.ofNat k) ++ [v1]).toArray, hh) := by
    obtain ⟨_, rfl, _⟩ := w1
    intro hh; rfl
  rw [eb, blindD]
  obtain ⟨he, e1, e2, e3, e4, e5⟩ := boxD hd 69 (gs (.ofNat b) (.ofNat n) (.ofNat c) (.ofNat k) ++ [v1]) (fun x56 h57 => clrK h (Value.tuple #[x56, iN 0]) h57)
  rw [e1]
  have hfl : flatL (gs (.ofNat b) (.ofNat n) (.ofNat c) (.ofNat k) ++ [v1]) = false := by
    obtain ⟨_, rfl, _⟩ := w1; rfl
  rw [hfl] at e5
  have hle : h.nx ≤ hd.nx := by have := c3.1; have : hb.nx ≤ hc.nx := this; omega
  refine ⟨hd.nx, v1, _, clrK_ptr (by rw [e4, d3, lb]; exact Nat.le_refl _) hle e5, ⟨_, _, _, _, _, _, e5, fun i => get_ofList _ _⟩, by show hd.nx < he.nx; omega, ⟨by show h.nx ≤ he.nx; omega, fun id' hid => ?_⟩, rfl⟩
  show he.hp.get id' = _
  rw [e2.2 id' (by omega), d2.2 id' (by have : hb.nx ≤ hc.nx := c3.1; omega), c3.2 id' (by show id' < hb.nx; omega)]
  exact (xa.trans xb).2 id' hid

/-! ### the law -/
/-- what it leans on -/
structure LawE (R : RnK) : Prop where
  good : ∀ (b n c k : Int) (h : Hs), ∃ t, R 7 [gv b n c k] h = some (.val (.bool t) h) ∧ (t = true ↔ ∃ b' n' c' k' : Nat, b = .ofNat b' ∧ n = .ofNat n' ∧ c = .ofNat c' ∧ k = .ofNat k' ∧ Geo b' n' c' k')
  data : ∀ {b n c k : Nat}, Geo b n c k → ∀ h : Hs, R 10 [gv (.ofNat b) (.ofNat n) (.ofNat c) (.ofNat k)] h = some (.val (.tuple #[iN (frm b n c k), iN (alln b n c k)]) h)
  empty : ∀ {b n c k : Nat}, Geo b n c k → ∀ h : Hs, ∃ v' h', R 9 [gv (.ofNat b) (.ofNat n) (.ofNat c) (.ofNat k)] h = some (.val (.agg #[v']) h') ∧ WdAt 60 h.nx h' v' (wn b) ∧ Ext h h' ∧ h'.lo = h.lo
  pool : ∀ {b n c k : Nat}, Geo b n c k → ∀ {idw : Nat} {v : Value} {h : Hs}, WdAt 60 idw h v (wn b) →
    ∃ id v' h', R 8 [gv (.ofNat b) (.ofNat n) (.ofNat c) (.ofNat k), .agg #[v]] h = some (.val (.tuple #[.pointer (some ⟨id, 0, none⟩), iN 0]) h') ∧ Bx h' id (gs (.ofNat b) (.ofNat n) (.ofNat c) (.ofNat k) ++ [v']) ∧ id < h'.nx ∧ Ext h h' ∧ h'.lo = h.lo
  group : ∀ {b n c k : Nat}, Geo b n c k → ∀ {h : Hs} {id : Nat} {w : Value}, Bx h id (gs (.ofNat b) (.ofNat n) (.ofNat c) (.ofNat k) ++ [w]) → ∀ {i : Nat}, i < c →
    R 11 [.pointer (some ⟨id, 0, none⟩), iN i] h = some (.val (.tuple #[iN (frm b n c k + i * (alln b n c k / c)), iN (if i = c - 1 then alln b n c k - i * (alln b n c k / c) else alln b n c k / c)]) h)
  none : ∀ {b n c k : Nat} {h : Hs} {id : Nat} {w : Value}, Bx h id (gs (.ofNat b) (.ofNat n) (.ofNat c) (.ofNat k) ++ [w]) → ∀ {i : Int}, (i < 0 ∨ (c : Int) ≤ i) → R 11 [.pointer (some ⟨id, 0, none⟩), .int .i64 i] h = some (.val (.tuple #[iN 0, iN 0]) h)

theorem law_loop {R : RnK} (E : LawE R) {b n c k : Nat} (g : Geo b n c k) {hb h : Hs} {id id0 : Nat} {w : Value} (bx : Bx h id (gs (.ofNat b) (.ofNat n) (.ofNat c) (.ofNat k) ++ [w])) (b0 : Bx h id0 (gs (.ofNat b) (.ofNat n) (.ofNat c) (.ofNat k)))
    (k41 : Value → Value → Value → Value → Value → Value → Value → Hs → An) : ∀ (q N i : Nat) (y1 y2 y4 y5 y6 : Value), i + q = c → q < N →
    ∃ z1 z2 z3 z5 z6 z7, lpT (T := Value → Value → Value → Value → Value → Value → Value → Hs → An) (fun _ _ _ _ _ _ _ _ => Option.none) N (g3_0 R hb k41 (.pointer (some ⟨id0, 0, Option.none⟩)) (.pointer (some ⟨id, 0, Option.none⟩)) (iN (alln b n c k))) (iN i) y1 y2
      (iN (frm b n c k + (if i = c then alln b n c k else i * (alln b n c k / c)))) y4 y5 y6 h = k41 z1 z2 z3 (iN (frm b n c k + alln b n c k)) z5 z6 z7 h := by
  have g' := g
  obtain ⟨g1, g2, g3, g4, g5, g6, g7, g8, g9⟩ := g'
  have ha : alln b n c k ≤ 1024 := by unfold alln; omega
  have hq : alln b n c k / c ≤ 1024 := Nat.le_trans (Nat.div_le_self _ _) ha
  intro q
  induction q with
  | zero =>
    intro N i y1 y2 y4 y5 y6 hi hN
    obtain ⟨N, rfl⟩ : ∃ N', N = N' + 1 := ⟨N - 1, by omega⟩
    rw [lpT_succ]
    generalize lpT _ N _ = self
    unfold g3_0
    rw [b0.field (i := 2) rfl, kI64_lssN, decide_eq_false (by omega), if_pos (show i = c by omega)]
    simp only [jn_eq, cnd_false]
    exact ⟨_, _, _, _, _, _, rfl⟩
  | succ q ih =>
    intro N i y1 y2 y4 y5 y6 hi hN
    obtain ⟨N, rfl⟩ : ∃ N', N = N' + 1 := ⟨N - 1, by omega⟩
    have hic : i < c := by omega
    have him : i * (alln b n c k / c) ≤ 8192 := Nat.le_trans (Nat.mul_le_mul (show i ≤ 8 by omega) hq) (by decide)
    have hle : i * (alln b n c k / c) + alln b n c k / c ≤ alln b n c k := by
      have e1 : (i + 1) * (alln b n c k / c) ≤ c * (alln b n c k / c) := Nat.mul_le_mul_right _ hic
      have e2 := Nat.mul_div_le (alln b n c k) c
      rw [Nat.add_mul, Nat.one_mul] at e1
      omega
    have hbig : frm b n c k + i * (alln b n c k / c) + (alln b n c k - i * (alln b n c k / c)) ≤ 9223372036854775807 := by
      generalize i * (alln b n c k / c) = P at *
      omega
    have hsum : frm b n c k + i * (alln b n c k / c) + (alln b n c k - i * (alln b n c k / c)) = frm b n c k + alln b n c k := by
      generalize i * (alln b n c k / c) = P at *
      generalize alln b n c k / c = Q at *
      omega
    rw [lpT_succ]
    generalize hself : lpT _ N (g3_0 R hb k41 (.pointer (some ⟨id0, 0, Option.none⟩)) (.pointer (some ⟨id, 0, Option.none⟩)) (iN (alln b n c k))) = self
    unfold g3_0
    rw [b0.field (i := 2) rfl, kI64_lssN, decide_eq_true hic, if_neg (show ¬ i = c by omega)]
    simp only [jn_eq, cnd_true]
    rw [kCall_ok (E.group g bx hic), kExtr_0, kExtr_1, kI64_neq, show ((Int.ofNat (frm b n c k + i * (alln b n c k / c))) != (Int.ofNat (frm b n c k + i * (alln b n c k / c)))) = false by simp]
    simp only [gdF_false]
    rw [b0.field (i := 2) rfl, kI64_quoN (by omega) (by omega), kI64_lssN, decide_eq_false (by split <;> omega)]
    simp only [pick_false, after_some, gdF_false]
    rw [kI64_addN (by omega), b0.field (i := 2) rfl, kI64_lssN]
    by_cases e : i + 1 < c
    · rw [decide_eq_true e]
      simp only [gdT_true]
      rw [b0.field (i := 2) rfl, kI64_quoN (by omega) (by omega), if_neg (show ¬ i = c - 1 by omega), kI64_neq, show ((Int.ofNat (alln b n c k / c)) != (Int.ofNat (alln b n c k / c))) = false by simp]
      simp only [pick_true, pick_false, after_some, cnd_false]
      rw [kI64_addN (by omega), kI64_inc (by omega), ← hself, show frm b n c k + i * (alln b n c k / c) + alln b n c k / c = frm b n c k + (if i + 1 = c then alln b n c k else (i + 1) * (alln b n c k / c)) by
        rw [if_neg (by omega), Nat.add_mul, Nat.one_mul, Nat.add_assoc]]
      exact ih N (i + 1) _ _ _ _ _ (by omega) (by omega)
    · rw [decide_eq_false e]
      simp only [gdT_false, pick_false, after_some, cnd_false]
      rw [if_pos (show i = c - 1 by omega), kI64_addN hbig, kI64_inc (by omega), ← hself, show frm b n c k + i * (alln b n c k / c) + (alln b n c k - i * (alln b n c k / c)) = frm b n c k + (if i + 1 = c then alln b n c k else (i + 1) * (alln b n c k / c)) by
        rw [if_pos (by omega)]; exact hsum]
      exact ih N (i + 1) _ _ _ _ _ (by omega) (by omega)

theorem groups_ok {R : RnK} {N : Nat} (E : LawE R) (hN : 1000 < N) (b n c k a : Int) {h : Hs}
    (hawake : R 6 [] (Gev.newRow ⟨h.hp, h.nx, h.nx⟩ 23 0 (gs b n c k)) = some (.val (.bool true) (Gev.newRow ⟨h.hp, h.nx, h.nx⟩ 23 0 (gs b n c k)))) :
    r3 R N [gv b n c k, .int .i64 a] h = some (.val (.bool true) ⟨h.hp, h.nx, h.lo⟩) := by
  rw [s3_eq]
  unfold s3
  rw [unC_cons, unC_cons, enK_eq, box_eq, after_some, kCall_ok hawake, kNot_eq]
  simp only [jn_eq, Bool.not_true, cnd_false]
  have bx := Bx.new ⟨h.hp, h.nx, h.nx⟩ 23 0 (gs b n c k)
  obtain ⟨ha, hadef⟩ : ∃ ha, ha = Gev.newRow ⟨h.hp, h.nx, h.nx⟩ 23 0 (gs b n c k) := ⟨_, rfl⟩
  rw [← hadef] at bx ⊢
  have anx : ha.nx = h.nx + 1 := by rw [hadef]; rfl
  have alo : ha.lo = h.nx := by rw [hadef]; rfl
  have bl := bx.loads
  rw [show (gs b n c k).length = 4 from rfl] at bl
  obtain ⟨t, t1, t2⟩ := E.good b n c k ha
  rw [bl, kCall_ok t1, kNot_eq]
  cases t with
  | false =>
    simp only [Bool.not_false, cnd_true]
    exact clrK_bool (by omega)
  | true =>
    simp only [Bool.not_true, cnd_false, kLoads_lo]
    obtain ⟨b', n', c', k', rfl, rfl, rfl, rfl, g⟩ := t2.1 rfl
    rw [bl, bl]
    obtain ⟨v, hb, p1, p2, p3, p4⟩ := E.empty g (Hs.mk ha.hp ha.nx ha.nx)
    rw [kCall_ok p1]
    obtain ⟨hc, hcx⟩ : ∃ hc, (∀ K : KV, dPut K (.agg #[v]) (dNext ha hb .light) (andB (dFit ha hb .light) (Nat.ble 0 hb.lo)) = K (.agg #[v]) hc) ∧ Ext hb hc ∧ hc.lo = ha.lo ∧ hc.nx = hb.nx := by
      refine ⟨dNext ha hb .light, fun K => ?_, ?_⟩
      · have h1 : dFit ha hb .light = true := by
          show andB (Nat.ble ha.nx hb.nx) (Nat.ble ha.nx hb.lo) = true
          rw [Nat.ble_eq_true_of_le p3.1, Nat.ble_eq_true_of_le (by rw [p4]; exact Nat.le_refl _)]; rfl
        rw [h1, ble_zero]; rfl
      · obtain ⟨h', q1, q2, q3, q4⟩ := dLight (h := ha) (u := hb) p3.1 (by rw [p4]; exact Nat.le_refl _) p3 (fun _ u => some (.val undef' u)) undef'
        have h1 : dFit ha hb .light = true := by
          show andB (Nat.ble ha.nx hb.nx) (Nat.ble ha.nx hb.lo) = true
          rw [Nat.ble_eq_true_of_le p3.1, Nat.ble_eq_true_of_le (by rw [p4]; exact Nat.le_refl _)]; rfl
        rw [h1, ble_zero] at q1
        have e : dNext ha hb .light = h' := by
          have q1 : some (Out.val undef' (dNext ha hb .light)) = some (.val undef' h') := q1
          injection q1 with q1; injection q1
        rw [e]; exact ⟨q2, q3, q4⟩
    obtain ⟨c1, c2, c3, c4⟩ := hcx
    rw [c1]
    have wv : WdAt 60 ha.nx hc v (wn b') := p2.keep (by omega) (c2.2 _ (by obtain ⟨_, _, q, _⟩ := p2; exact q))
    obtain ⟨id, v1, hd, d1, d2, d3, d4, d5⟩ := E.pool g wv
    rw [kCall_ok d1, dBar d4.1, kExtr_0, kExtr_1, kI64_neq, show ((Int.ofNat 0) != (Int.ofNat 0)) = false from rfl]
    have eq0 : e2 false qP (.pointer (some ⟨id, 0, none⟩)) (.pointer none) = some (.bool false) := rfl
    simp only [gdF_false]
    rw [eq0, obK_is]
    simp only [pick_false, after_some, cnd_false]
    have hxb : Ext ha hb := p3
    have bd : Bx hd h.nx (gs (.ofNat b') (.ofNat n') (.ofNat c') (.ofNat k')) := bx.mono (by show h.nx < ha.nx; omega) ((hxb.trans c2).trans d4)
    have bld := bd.loads
    rw [show (gs (.ofNat b') (.ofNat n') (.ofNat c') (.ofNat k')).length = 4 from rfl] at bld
    rw [bld, kCall_ok (E.data g hd), kExtr_0, kExtr_1]
    have gc : 1 ≤ c' := g.2.2.2.2.1
    have gb : b' ≤ 1024 := g.2.1
    have gf : frm b' n' c' k' + 2 ≤ b' := g.2.2.2.2.2.2.2.2
    have ga : alln b' n' c' k' ≤ 1024 := by unfold alln; omega
    generalize hk : (fun (x42 x43 x44 x45 x46 x47 x48 : Value) (h49 : Hs) => kCall R 11 [.pointer (some ⟨id, 0, none⟩), .int .i64 a] h49 _) = k41
    obtain ⟨z1, z2, z3, z5, z6, z7, q⟩ := law_loop E g (hb := h) d2 bd k41 c' N 0 dunno dunno dunno dunno (.bool false) (by omega) (by have := g.2.2.2.2.2.1; omega)
    rw [if_neg (show ¬ 0 = c' by omega), Nat.zero_mul, Nat.add_zero] at q
    rw [q, ← hk]
    dsimp only
    have hlo : h.nx ≤ hd.lo := by rw [d5, c3, alo]; exact Nat.le_refl _
    have l2 : ∀ K : Value → An, kFieldA 2 (.pointer (some ⟨h.nx, 0, none⟩)) (fun x => kLoad x hd K) = K (iN c') := fun K => bd.field (i := 2) rfl K
    by_cases ca : 0 ≤ a ∧ a < c'
    · obtain ⟨i, rfl⟩ := ofNat_of ca.1
      have hi : i < c' := by have := ca.2; simp only [Int.ofNat_eq_natCast] at this; omega
      rw [kCall_ok (E.group g d2 hi), kExtr_0, kExtr_1, kI64_addN (by omega), kI64_eqlN, decide_eq_true rfl]
      simp only [gdT_true]
      rw [kI64_geqN, decide_eq_true (Nat.zero_le _)]
      simp only [gdT_true]
      rw [l2, kI64_lssN, decide_eq_true hi]
      simp only [pick_true, after_some, gdF_true, gdT_undef, gdT_true]
      exact clrK_bool hlo
    · rw [kCall_ok (E.none d2 (i := a) (by omega)), kExtr_0, kExtr_1, kI64_addN (by omega), kI64_eqlN, decide_eq_true rfl]
      simp only [gdT_true]
      rw [kI64_geq]
      by_cases cb : 0 ≤ a
      · rw [show decide (Int.ofNat 0 ≤ a) = true from decide_eq_true cb]
        simp only [gdT_true]
        rw [l2, kI64_lss, decide_eq_false (show ¬ a < Int.ofNat c' by simp only [Int.ofNat_eq_natCast]; omega)]
        simp only [pick_true, after_some, gdF_false]
        rw [kI64_eqlN, decide_eq_true rfl]
        simp only [gdT_true]
        rw [kI64_eqlN, decide_eq_true rfl]
        simp only [pick_true, pick_false, after_some]
        exact clrK_bool hlo
      · rw [show decide (Int.ofNat 0 ≤ a) = false from decide_eq_false cb]
        simp only [gdT_false, pick_false, after_some, gdF_false]
        rw [kI64_eqlN, decide_eq_true rfl]
        simp only [gdT_true]
        rw [kI64_eqlN, decide_eq_true rfl]
        simp only [pick_true, pick_false, after_some]
        exact clrK_bool hlo
end Go.Proofs.Ytpiamfcnhkjflaa.poolGroups
