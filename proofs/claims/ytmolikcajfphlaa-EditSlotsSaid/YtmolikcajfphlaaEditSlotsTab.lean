/- The functions that 'EditSlots' reaches, in the fast evaluator's form, each held against the program's own text by the kernel. Written by a program. -/
import Derived.Test.YtmolikcajfphlaaGevKM
import Derived.Test.YtmolikcajfphlaaProg
import Derived.KernelRfl
namespace Go.Proofs.Ytmolikcajfphlaa.editSlots
open Go.Gev
set_option linter.unusedVariables false
noncomputable def r4 (R : RnK) (N : Nat) (args : List Value) (h : Hs) : An := unC args fun a0 sq0 => unC sq0 fun a1 sq1 => enK h fun h0 =>
 kCall R 5 [] h0 (fun x0 h1 =>
 kNot x0 (fun x2 =>
 jn (fun (x4 : Value) (h5 : Hs) =>
 kLenV a0 (fun x6 =>
 kI64 .gtr x6 (Value.int .i64 (.ofNat 12)) (fun x7 =>
 gdF x7 h5 (fun k8 => k8 a1 h5) (fun x9 h10 =>
 gdF x7 h10 (fun k11 => kI64 .lss x9 (Value.int .i64 (.ofNat 0)) (fun x12 => k11 x12 h10)) (fun x13 h14 =>
 after (fun x15 h16 =>
 gdF x15 h16 (fun k17 => k17 a1 h16) (fun x18 h19 =>
 gdF x15 h19 (fun k20 => kI64 .gtr x18 (Value.int .i64 (.ofNat 12)) (fun x21 => k20 x21 h19)) (fun x22 h23 =>
 after (fun x24 h25 =>
 jn (fun (x27 : Value) (h28 : Hs) =>
 kCall R 7 [] h28 (fun x29 h30 =>
 kCall R 6 [x29] h30 (fun x31 h32 =>
 kExtr x31 0 (fun x33 =>
 kExtr x31 1 (fun x34 =>
 obK (fun x35 =>
 gdF x35 h32 (fun k36 => k36 x33 h32) (fun x37 h38 =>
 gdF x35 h38 (fun k39 => k39 a1 h38) (fun x40 h41 =>
 gdF x35 h41 (fun k42 => kCall R 13 [x37, (Value.int .i64 (.ofNat 0)), (Value.int .i64 (.ofNat 1)), x40] h41 (k42)) (fun x43 h44 =>
 gdF x35 h44 (fun k45 => kI64 .neq x43 (Value.int .i64 (.ofNat 0)) (fun x46 => k45 x46 h44)) (fun x47 h48 =>
 after (fun x49 h50 =>
 jn (fun (x52 : Value) (h53 : Hs) =>
 after (fun x54 h55 =>
 jn (fun (x57 x58 x59 x60 x61 x62 x63 : Value) (h64 : Hs) =>
 kNil x33 (fun x65 =>
 kFieldA 0 x65 (fun x66 =>
 kLoads 5 x66 h64 (fun x67 =>
 kCall R 16 [x67, (Value.int .i64 (.ofNat 1))] h64 (fun x68 h69 =>
 kNil x33 (fun x70 =>
 kFieldA 0 x70 (fun x71 =>
 kLoads 5 x71 h69 (fun x72 =>
 kCall R 12 [x72, (Value.int .i64 (.ofNat 1))] h69 (fun x73 h74 =>
 kExtr x73 0 (fun x75 =>
 kExtr x73 1 (fun x76 =>
 after (fun x77 h78 =>
 after (fun x79 h80 =>
 kLenV x68 (fun x81 =>
 kI64 .neq x81 a1 (fun x82 =>
 gdF x82 h80 (fun k83 => k83 x76 h80) (fun x84 h85 =>
 gdF x82 h85 (fun k86 => kNot x84 (fun x87 => k86 x87 h85)) (fun x88 h89 =>
 after (fun x90 h91 =>
 gdF x90 h91 (fun k92 => kFieldA 2 x77 (fun x93 => k92 x93 h91)) (fun x94 h95 =>
 gdF x90 h95 (fun k96 => kLoad x94 h95 (fun x97 => k96 x97 h95)) (fun x98 h99 =>
 gdF x90 h99 (fun k100 => k100 a1 h99) (fun x101 h102 =>
 gdF x90 h102 (fun k103 => kI64 .neq x98 x101 (fun x104 => k103 x104 h102)) (fun x105 h106 =>
 after (fun x107 h108 =>
 gdF x107 h108 (fun k109 => kFieldA 0 x77 (fun x110 => k109 x110 h108)) (fun x111 h112 =>
 gdF x107 h112 (fun k113 => kLoad x111 h112 (fun x114 => k113 x114 h112)) (fun x115 h116 =>
 gdF x107 h116 (fun k117 => kI64 .neq x115 (Value.int .i64 (.ofNat 2)) (fun x118 => k117 x118 h116)) (fun x119 h120 =>
 after (fun x121 h122 =>
 gdF x121 h122 (fun k123 => kLoads 4 x77 h122 (fun x124 => k123 x124 h122)) (fun x125 h126 =>
 gdF x121 h126 (fun k127 => kCall R 17 [x125] h126 (k127)) (fun x128 h129 =>
 gdF x121 h129 (fun k130 => k130 a1 h129) (fun x131 h132 =>
 gdF x121 h132 (fun k133 => kI64 .neq x128 x131 (fun x134 => k133 x134 h132)) (fun x135 h136 =>
 after (fun x137 h138 =>
 jn (fun (x140 : Value) (h141 : Hs) =>
 jn (fun (x143 x144 x145 x146 : Value) (h147 : Hs) =>
 clrK h (Value.bool true) h147) fun k142 =>
 lpT (T := Value → Value → Value → Value → Hs → An) (fun _ _ _ _ _ => none) N (fun k148 =>
 fun (x150 x151 x152 x153 : Value) (h154 : Hs) =>
 kI64 .lss x150 a1 (fun x155 =>
 jn (fun (h157 : Hs) =>
 jn (fun (x159 x160 : Value) (h161 : Hs) =>
 kI64 .add x150 (Value.int .i64 (.ofNat 1)) (fun x162 =>
 k148 x162 x155 x159 x160 h161)) fun k158 =>
 kIdxA 2 x68 x150 (fun x163 =>
 kLoads 2 x163 (Hs.mk h157.hp h157.nx h157.nx) (fun x164 =>
 kIdxA 2 x54 x150 (fun x165 =>
 kLoads 2 x165 (Hs.mk h157.hp h157.nx h157.nx) (fun x166 =>
 obK (fun x167 =>
 jn (fun (x169 : Value) (h170 : Hs) =>
 k158 x167 x169 h170) fun k168 =>
 cnd x167
 (clrK h (Value.bool false) h157)
 (k168 x153 h157)) (e2 true (qA [.i, .s]) x164 x166)))))) fun k156 =>
 cnd x155
 (k156 h154)
 (k142 x150 x155 x152 x153 h154))) (Value.int .i64 (.ofNat 0)) dunno dunno x140 h141) fun k139 =>
 cnd x137
 (clrK h (Value.bool false) h138)
 (k139 x63 h138)) (pickB (.c (Value.bool true)) (.c x135) enE h136 x121)))))) (pickB (.c (Value.bool true)) (.c x119) enE h120 x107))))) (pickB (.c (Value.bool true)) (.c x105) enE h106 x90)))))) (pickB (.c (Value.bool true)) (.c x88) enE h89 x82)))))) (store1 4 h78 (cellsL x75) (addrOf x77))) (oAlloc 33 [(Value.int .i64 (.ofNat 0)), (Value.int .i64 (.ofNat 0)), (Value.int .i64 (.ofNat 0)), (Value.slice none 0 0)] enE h74)))))))))))) fun k56 =>
 lpT (T := Value → Value → Value → Value → Value → Value → Value → Hs → An) (fun _ _ _ _ _ _ _ _ => none) N (fun k171 =>
 fun (x173 x174 x175 x176 x177 x178 x179 : Value) (h180 : Hs) =>
 kLenV a0 (fun x181 =>
 kI64 .lss x173 x181 (fun x182 =>
 jn (fun (h184 : Hs) =>
 jn (fun (x186 x187 x188 x189 x190 : Value) (h191 : Hs) =>
 kI64 .add x173 (Value.int .i64 (.ofNat 1)) (fun x192 =>
 k171 x192 x182 x186 x187 x188 x189 x190 h191)) fun k185 =>
 kIdxA 2 a0 x173 (fun x193 =>
 kLoads 2 x193 h184 (fun x194 =>
 kCall R 14 [x33, (Value.int .i64 (.ofNat 1)), x173, x194] h184 (fun x195 h196 =>
 kI64 .lss x173 a1 (fun x197 =>
 gdT x197 h196 (fun k198 => k198 a0 h196) (fun x199 h200 =>
 gdT x197 h200 (fun k201 => k201 x173 h200) (fun x202 h203 =>
 gdT x197 h203 (fun k204 => kIdxA 2 x199 x202 (fun x205 => k204 x205 h203)) (fun x206 h207 =>
 gdT x197 h207 (fun k208 => kLoads 2 x206 h207 (fun x209 => k208 x209 h207)) (fun x210 h211 =>
 gdT x197 h211 (fun k212 => kCall R 15 [x210] h211 (k212)) (fun x213 h214 =>
 after (fun x215 h216 =>
 kI64 .eql x195 (Value.int .i64 (.ofNat 0)) (fun x217 =>
 obK (fun x218 =>
 jn (fun (x220 : Value) (h221 : Hs) =>
 jn (fun (h223 : Hs) =>
 k185 x195 x215 x218 x215 x220 h223) fun k222 =>
 cnd x215
 (kIdxA 2 a0 x173 (fun x224 =>
 kLoads 2 x224 h221 (fun x225 =>
 kIdxA 2 x54 x173 (fun x226 =>
 after (fun x227 h228 =>
 k222 h228) (store1 2 h221 (cellsL x225) (addrOf x226))))))
 (k222 h221)) fun k219 =>
 cnd x218
 (clrK h (Value.bool false) h216)
 (k219 x179 h216)) (e2 true qB x217 x215))) (pickB (.c x213) (.c (Value.bool false)) enE h214 x197))))))))))) fun k183 =>
 cnd x182
 (k183 h180)
 (k56 x173 x182 x175 x176 x177 x178 x179 h180)))) (Value.int .i64 (.ofNat 0)) dunno dunno dunno dunno dunno x52 h55) (mkslice1 55 2 24 [(Value.int .i64 (.ofNat 0)), (Value.string ⟨#[]⟩)] h53 (natOf a1) (natOf a1))) fun k51 =>
 cnd x49
 (clrK h (Value.bool false) h50)
 (k51 x27 h50)) (pickB (.c (Value.bool true)) (.c x47) enE h48 x35)))))) (e2 false qP x33 (Value.pointer none))))))) fun k26 =>
 cnd x24
 (clrK h (Value.bool true) h25)
 (k26 x4 h25)) (pickB (.c (Value.bool true)) (.c x22) enE h23 x15)))) (pickB (.c (Value.bool true)) (.c x13) enE h14 x7)))))) fun k3 =>
 cnd x2
 (clrK h (Value.bool false) h1)
 (k3 (Value.bool false) h1)))
theorem q4 (R : RnK) (N : Nat) (args : List Value) (h : Hs) : r4 R N args h = callT Try.prog N R 4 args h := by kernel_rfl
noncomputable def r12 (R : RnK) (N : Nat) (args : List Value) (h : Hs) : An := unC args fun a0 sq0 => unC sq0 fun a1 sq1 => enK h fun h0 =>
 after (fun x0 h1 =>
 after (fun x2 h3 =>
 kFieldA 0 x0 (fun x4 =>
 kLoads 4 x4 h3 (fun x5 =>
 kCall R 22 [x5, a1] h3 (fun x6 h7 =>
 kI64 .eql x6 (Value.int .i64 (.ofNat 0)) (fun x8 =>
 jn (fun (x10 : Value) (h11 : Hs) =>
 kLoads 5 x0 h11 (fun x12 =>
 kCall R 34 [x12, x6] h11 (fun x13 h14 =>
 kCall R 33 [x13] h14 (fun x15 h16 =>
 kExtr x15 0 (fun x17 =>
 kExtr x15 1 (fun x18 =>
 after (fun x19 h20 =>
 after (fun x21 h22 =>
 kNot x18 (fun x23 =>
 gdF x23 h22 (fun k24 => kFieldA 0 x0 (fun x25 => k24 x25 h22)) (fun x26 h27 =>
 gdF x23 h27 (fun k28 => kLoads 4 x26 h27 (fun x29 => k28 x29 h27)) (fun x30 h31 =>
 gdF x23 h31 (fun k32 => kLoads 4 x19 h31 (fun x33 => k32 x33 h31)) (fun x34 h35 =>
 gdF x23 h35 (fun k36 => kCall R 23 [x30, x34] h35 (k36)) (fun x37 h38 =>
 gdF x23 h38 (fun k39 => kNot x37 (fun x40 => k39 x40 h38)) (fun x41 h42 =>
 after (fun x43 h44 =>
 jn (fun (x46 : Value) (h47 : Hs) =>
 kLoads 4 x19 h47 (fun x48 =>
 after (fun x49 h50 =>
 clearUp h (packR h50 (resV enE h50 [.cell (.c x2) 4 true, .t (.c (Value.bool true))]))) (store1 4 h47 (cellsL x48) (addrOf x2)))) fun k45 =>
 cnd x43
 (after (fun x51 h52 =>
 after (fun x53 h54 =>
 clearUp h (packR h54 (resV enE h54 [.cell (.c x2) 4 true, .t (.c (Value.bool false))]))) (store1 4 h52 (cellsL x51) (addrOf x2))) (oBuild [(Value.int .i64 (.ofNat 0)), (Value.int .i64 (.ofNat 0)), (Value.int .i64 (.ofNat 0)), (Value.slice none 0 0)] [] enE h44))
 (k45 x10 h44)) (pickB (.c (Value.bool true)) (.c x41) enE h42 x23)))))))) (store1 4 h20 (cellsL x17) (addrOf x19))) (oAlloc 33 [(Value.int .i64 (.ofNat 0)), (Value.int .i64 (.ofNat 0)), (Value.int .i64 (.ofNat 0)), (Value.slice none 0 0)] enE h16))))))) fun k9 =>
 cnd x8
 (after (fun x55 h56 =>
 after (fun x57 h58 =>
 clearUp h (packR h58 (resV enE h58 [.cell (.c x2) 4 true, .t (.c (Value.bool false))]))) (store1 4 h56 (cellsL x55) (addrOf x2))) (oBuild [(Value.int .i64 (.ofNat 0)), (Value.int .i64 (.ofNat 0)), (Value.int .i64 (.ofNat 0)), (Value.slice none 0 0)] [] enE h7))
 (k9 (Value.bool false) h7)))))) (oAlloc 33 [(Value.int .i64 (.ofNat 0)), (Value.int .i64 (.ofNat 0)), (Value.int .i64 (.ofNat 0)), (Value.slice none 0 0)] enE h1)) (oBox 47 (.c a0) enE h0)
theorem q12 (R : RnK) (N : Nat) (args : List Value) (h : Hs) : r12 R N args h = callT Try.prog N R 12 args h := by kernel_rfl
noncomputable def r14 (R : RnK) (N : Nat) (args : List Value) (h : Hs) : An := unC args fun a0 sq0 => unC sq0 fun a1 sq1 => unC sq1 fun a2 sq2 => unC sq2 fun a3 sq3 => enK h fun h0 =>
 after (fun x0 h1 =>
 kNil a0 (fun x2 =>
 kFieldA 0 x2 (fun x3 =>
 kLoads 5 x3 h1 (fun x4 =>
 kCall R 12 [x4, a1] h1 (fun x5 h6 =>
 kExtr x5 0 (fun x7 =>
 kExtr x5 1 (fun x8 =>
 after (fun x9 h10 =>
 after (fun x11 h12 =>
 kNot x8 (fun x13 =>
 gdF x13 h12 (fun k14 => kFieldA 0 x9 (fun x15 => k14 x15 h12)) (fun x16 h17 =>
 gdF x13 h17 (fun k18 => kLoad x16 h17 (fun x19 => k18 x19 h17)) (fun x20 h21 =>
 gdF x13 h21 (fun k22 => kI64 .neq x20 (Value.int .i64 (.ofNat 2)) (fun x23 => k22 x23 h21)) (fun x24 h25 =>
 after (fun x26 h27 =>
 gdF x26 h27 (fun k28 => k28 a2 h27) (fun x29 h30 =>
 gdF x26 h30 (fun k31 => kI64 .lss x29 (Value.int .i64 (.ofNat 0)) (fun x32 => k31 x32 h30)) (fun x33 h34 =>
 after (fun x35 h36 =>
 gdF x35 h36 (fun k37 => k37 a2 h36) (fun x38 h39 =>
 gdF x35 h39 (fun k40 => kFieldA 2 x9 (fun x41 => k40 x41 h39)) (fun x42 h43 =>
 gdF x35 h43 (fun k44 => kLoad x42 h43 (fun x45 => k44 x45 h43)) (fun x46 h47 =>
 gdF x35 h47 (fun k48 => kI64 .geq x38 x46 (fun x49 => k48 x49 h47)) (fun x50 h51 =>
 after (fun x52 h53 =>
 gdF x52 h53 (fun k54 => kLoads 2 x0 h53 (fun x55 => k54 x55 h53)) (fun x56 h57 =>
 gdF x52 h57 (fun k58 => kCall R 15 [x56] h57 (k58)) (fun x59 h60 =>
 gdF x52 h60 (fun k61 => kNot x59 (fun x62 => k61 x62 h60)) (fun x63 h64 =>
 after (fun x65 h66 =>
 jn (fun (x68 : Value) (h69 : Hs) =>
 kFieldA 3 x9 (fun x70 =>
 kLoad x70 h69 (fun x71 =>
 kCall R 30 [x71, a2] h69 (fun x72 h73 =>
 kExtr x72 0 (fun x74 =>
 kExtr x72 1 (fun x75 =>
 kLoads 2 x0 h73 (fun x76 =>
 kCall R 38 [x76] h73 (fun x77 h78 =>
 kCall R 25 [a0, x74, x77] h78 (fun x79 h80 =>
 clrK h (Value.int .i64 (.ofNat 0)) h80))))))))) fun k67 =>
 cnd x65
 (clrK h (Value.int .i64 (.ofNat 1)) h66)
 (k67 (Value.int .i64 (.ofNat 0)) h66)) (pickB (.c (Value.bool true)) (.c x63) enE h64 x52))))) (pickB (.c (Value.bool true)) (.c x50) enE h51 x35)))))) (pickB (.c (Value.bool true)) (.c x33) enE h34 x26)))) (pickB (.c (Value.bool true)) (.c x24) enE h25 x13)))))) (store1 4 h10 (cellsL x7) (addrOf x9))) (oAlloc 33 [(Value.int .i64 (.ofNat 0)), (Value.int .i64 (.ofNat 0)), (Value.int .i64 (.ofNat 0)), (Value.slice none 0 0)] enE h6)))))))) (oBox 55 (.c a3) enE h0)
theorem q14 (R : RnK) (N : Nat) (args : List Value) (h : Hs) : r14 R N args h = callT Try.prog N R 14 args h := by kernel_rfl
noncomputable def r15 (R : RnK) (N : Nat) (args : List Value) (h : Hs) : An := unC args fun a0 sq0 => enK h fun h0 =>
 after (fun x0 h1 =>
 kFieldA 0 x0 (fun x2 =>
 kLoad x2 h1 (fun x3 =>
 kI64 .eql x3 (Value.int .i64 (.ofNat 0)) (fun x4 =>
 jn (fun (x6 : Value) (h7 : Hs) =>
 kFieldA 0 x0 (fun x8 =>
 kLoad x8 h7 (fun x9 =>
 kI64 .geq x9 (Value.int .i64 (.ofNat 1)) (fun x10 =>
 gdT x10 h7 (fun k11 => kFieldA 0 x0 (fun x12 => k11 x12 h7)) (fun x13 h14 =>
 gdT x10 h14 (fun k15 => kLoad x13 h14 (fun x16 => k15 x16 h14)) (fun x17 h18 =>
 gdT x10 h18 (fun k19 => kI64 .leq x17 (Value.int .i64 (.ofNat 64)) (fun x20 => k19 x20 h18)) (fun x21 h22 =>
 after (fun x23 h24 =>
 gdT x23 h24 (fun k25 => kFieldA 1 x0 (fun x26 => k25 x26 h24)) (fun x27 h28 =>
 gdT x23 h28 (fun k29 => kLoad x27 h28 (fun x30 => k29 x30 h28)) (fun x31 h32 =>
 gdT x23 h32 (fun k33 => kCall R 39 [x31] h32 (k33)) (fun x34 h35 =>
 after (fun x36 h37 =>
 clrK h x36 h37) (pickB (.c x34) (.c (Value.bool false)) enE h35 x23))))) (pickB (.c x21) (.c (Value.bool false)) enE h22 x10)))))))) fun k5 =>
 cnd x4
 (kFieldA 1 x0 (fun x38 =>
 kLoad x38 h1 (fun x39 =>
 obK (fun x40 =>
 clrK h x40 h1) (s2 .eql x39 (Value.string ⟨#[]⟩)))))
 (k5 (Value.bool false) h1))))) (oBox 55 (.c a0) enE h0)
theorem q15 (R : RnK) (N : Nat) (args : List Value) (h : Hs) : r15 R N args h = callT Try.prog N R 15 args h := by kernel_rfl
noncomputable def r16 (R : RnK) (N : Nat) (args : List Value) (h : Hs) : An := unC args fun a0 sq0 => unC sq0 fun a1 sq1 => enK h fun h0 =>
 after (fun x0 h1 =>
 kLoads 5 x0 h1 (fun x2 =>
 kCall R 12 [x2, a1] h1 (fun x3 h4 =>
 kExtr x3 0 (fun x5 =>
 kExtr x3 1 (fun x6 =>
 after (fun x7 h8 =>
 after (fun x9 h10 =>
 kNot x6 (fun x11 =>
 gdF x11 h10 (fun k12 => kFieldA 0 x7 (fun x13 => k12 x13 h10)) (fun x14 h15 =>
 gdF x11 h15 (fun k16 => kLoad x14 h15 (fun x17 => k16 x17 h15)) (fun x18 h19 =>
 gdF x11 h19 (fun k20 => kI64 .neq x18 (Value.int .i64 (.ofNat 2)) (fun x21 => k20 x21 h19)) (fun x22 h23 =>
 after (fun x24 h25 =>
 jn (fun (x27 : Value) (h28 : Hs) =>
 kFieldA 2 x7 (fun x29 =>
 kLoad x29 h28 (fun x30 =>
 jn (fun (x32 x33 x34 x35 x36 x37 : Value) (h38 : Hs) =>
 clrK h x36 h38) fun k31 =>
 lpT (T := Value → Value → Value → Value → Value → Value → Hs → An) (fun _ _ _ _ _ _ _ => none) N (fun k39 =>
 fun (x41 x42 x43 x44 x45 x46 : Value) (h47 : Hs) =>
 kI64 .lss x41 x30 (fun x48 =>
 jn (fun (h50 : Hs) =>
 jn (fun (x52 x53 x54 x55 : Value) (h56 : Hs) =>
 kI64 .add x41 (Value.int .i64 (.ofNat 1)) (fun x57 =>
 k39 x57 x48 x52 x53 x54 x55 h56)) fun k51 =>
 kFieldA 3 x7 (fun x58 =>
 kLoad x58 h50 (fun x59 =>
 kCall R 30 [x59, x41] h50 (fun x60 h61 =>
 kExtr x60 0 (fun x62 =>
 kExtr x60 1 (fun x63 =>
 kLoads 5 x0 h61 (fun x64 =>
 kCall R 34 [x64, x62] h61 (fun x65 h66 =>
 kCall R 40 [x65] h66 (fun x67 h68 =>
 kExtr x67 0 (fun x69 =>
 kExtr x67 1 (fun x70 =>
 after (fun x71 h72 =>
 after (fun x73 h74 =>
 kLoads 2 x71 h74 (fun x75 =>
 after (fun x76 h77 =>
 after (fun x78 h79 =>
 k51 x41 x62 x78 x71 h79) (app0 55 2 24 h77 x45 x76)) (oMkrow 55 2 1 [(Value.int .i64 (.ofNat 0)), (Value.string ⟨#[]⟩)] [(0, 2, .c x75)] enE h74))) (store1 2 h72 (cellsL x69) (addrOf x71))) (oAlloc 55 [(Value.int .i64 (.ofNat 0)), (Value.string ⟨#[]⟩)] enE h68)))))))))))) fun k49 =>
 cnd x48
 (k49 h47)
 (k31 x41 x48 x43 x44 x45 x46 h47))) (Value.int .i64 (.ofNat 0)) dunno dunno dunno (Value.slice none 0 0) dunno h28))) fun k26 =>
 cnd x24
 (clrK h (Value.slice none 0 0) h25)
 (k26 (Value.slice none 0 0) h25)) (pickB (.c (Value.bool true)) (.c x22) enE h23 x11)))))) (store1 4 h8 (cellsL x5) (addrOf x7))) (oAlloc 33 [(Value.int .i64 (.ofNat 0)), (Value.int .i64 (.ofNat 0)), (Value.int .i64 (.ofNat 0)), (Value.slice none 0 0)] enE h4)))))) (oBox 47 (.c a0) enE h0)
theorem q16 (R : RnK) (N : Nat) (args : List Value) (h : Hs) : r16 R N args h = callT Try.prog N R 16 args h := by kernel_rfl
noncomputable def r17 (R : RnK) (N : Nat) (args : List Value) (h : Hs) : An := unC args fun a0 sq0 => enK h fun h0 =>
 after (fun x0 h1 =>
 kFieldA 3 x0 (fun x2 =>
 kLoad x2 h1 (fun x3 =>
 kLenV x3 (fun x4 =>
 jn (fun (x6 x7 x8 x9 : Value) (h10 : Hs) =>
 clrK h x8 h10) fun k5 =>
 lpT (T := Value → Value → Value → Value → Hs → An) (fun _ _ _ _ _ => none) N (fun k11 =>
 fun (x13 x14 x15 x16 : Value) (h17 : Hs) =>
 kI64 .lss x13 x4 (fun x18 =>
 jn (fun (h20 : Hs) =>
 jn (fun (x22 x23 : Value) (h24 : Hs) =>
 kI64 .add x13 (Value.int .i64 (.ofNat 1)) (fun x25 =>
 k11 x25 x18 x22 x23 h24)) fun k21 =>
 kIdxA 2 x3 x13 (fun x26 =>
 kLoads 2 x26 h20 (fun x27 =>
 after (fun x28 h29 =>
 after (fun x30 h31 =>
 kFieldA 1 x28 (fun x32 =>
 kLoad x32 h31 (fun x33 =>
 kI64 .add x15 x33 (fun x34 =>
 k21 x34 x28 h31)))) (store1 2 h29 (cellsL x27) (addrOf x28))) (oAlloc 87 [(Value.int .i64 (.ofNat 0)), (Value.int .i64 (.ofNat 0))] enE h20)))) fun k19 =>
 cnd x18
 (k19 h17)
 (k5 x13 x18 x15 x16 h17))) (Value.int .i64 (.ofNat 0)) dunno (Value.int .i64 (.ofNat 0)) dunno h1)))) (oBox 33 (.c a0) enE h0)
theorem q17 (R : RnK) (N : Nat) (args : List Value) (h : Hs) : r17 R N args h = callT Try.prog N R 17 args h := by kernel_rfl
noncomputable def r19 (R : RnK) (N : Nat) (args : List Value) (h : Hs) : An := unC args fun a0 sq0 => enK h fun h0 =>
 obK (fun x0 =>
 jn (fun (x2 : Value) (h3 : Hs) =>
 after (fun x4 h5 =>
 after (fun x6 h7 =>
 clrK h x6 h7) (app0 39 1 8 h5 x4 a0)) (oMkrow 39 1 0 [(Value.int .u64 (.ofNat 0))] [] enE h3)) fun k1 =>
 cnd x0
 (clrK h (Value.slice none 0 0) h0)
 (k1 (Value.slice none 0 0) h0)) (e2 false qS a0 (Value.slice none 0 0))
theorem q19 (R : RnK) (N : Nat) (args : List Value) (h : Hs) : r19 R N args h = callT Try.prog N R 19 args h := by kernel_rfl
noncomputable def r22 (R : RnK) (N : Nat) (args : List Value) (h : Hs) : An := unC args fun a0 sq0 => unC sq0 fun a1 sq1 => enK h fun h0 =>
 after (fun x0 h1 =>
 kLoads 4 x0 h1 (fun x2 =>
 kCall R 42 [x2] h1 (fun x3 h4 =>
 kNot x3 (fun x5 =>
 gdF x5 h4 (fun k6 => k6 a1 h4) (fun x7 h8 =>
 gdF x5 h8 (fun k9 => kFieldA 1 x0 (fun x10 => k9 x10 h8)) (fun x11 h12 =>
 gdF x5 h12 (fun k13 => kLoad x11 h12 (fun x14 => k13 x14 h12)) (fun x15 h16 =>
 gdF x5 h16 (fun k17 => kCall R 51 [x7, (Value.int .i64 (.ofNat 1)), x15] h16 (k17)) (fun x18 h19 =>
 gdF x5 h19 (fun k20 => kNot x18 (fun x21 => k20 x21 h19)) (fun x22 h23 =>
 after (fun x24 h25 =>
 jn (fun (x27 : Value) (h28 : Hs) =>
 kLoads 4 x0 h28 (fun x29 =>
 kCall R 52 [x29] h28 (fun x30 h31 =>
 kExtr x30 0 (fun x32 =>
 kExtr x30 1 (fun x33 =>
 kI64 .add x32 x33 (fun x34 =>
 kI64 .add x34 a1 (fun x35 =>
 kI64 .sub x35 (Value.int .i64 (.ofNat 1)) (fun x36 =>
 clrK h x36 h31)))))))) fun k26 =>
 cnd x24
 (clrK h (Value.int .i64 (.ofNat 0)) h25)
 (k26 (Value.int .i64 (.ofNat 0)) h25)) (pickB (.c (Value.bool true)) (.c x22) enE h23 x5)))))))))) (oBox 45 (.c a0) enE h0)
theorem q22 (R : RnK) (N : Nat) (args : List Value) (h : Hs) : r22 R N args h = callT Try.prog N R 22 args h := by kernel_rfl
noncomputable def r23 (R : RnK) (N : Nat) (args : List Value) (h : Hs) : An := unC args fun a0 sq0 => unC sq0 fun a1 sq1 => enK h fun h0 =>
 after (fun x0 h1 =>
 after (fun x2 h3 =>
 kLoads 4 x0 h3 (fun x4 =>
 kCall R 42 [x4] h3 (fun x5 h6 =>
 kNot x5 (fun x7 =>
 jn (fun (x9 : Value) (h10 : Hs) =>
 kFieldA 0 x2 (fun x11 =>
 kLoad x11 h10 (fun x12 =>
 kI64 .eql x12 (Value.int .i64 (.ofNat 0)) (fun x13 =>
 jn (fun (x15 : Value) (h16 : Hs) =>
 kFieldA 0 x2 (fun x17 =>
 kLoad x17 h16 (fun x18 =>
 kCall R 54 [x18, (Value.int .i64 (.ofNat 1)), (Value.int .i64 (.ofNat 3))] h16 (fun x19 h20 =>
 kNot x19 (fun x21 =>
 gdF x21 h20 (fun k22 => kFieldA 1 x2 (fun x23 => k22 x23 h20)) (fun x24 h25 =>
 gdF x21 h25 (fun k26 => kLoad x24 h25 (fun x27 => k26 x27 h25)) (fun x28 h29 =>
 gdF x21 h29 (fun k30 => kCall R 54 [x28, (Value.int .i64 (.ofNat 1)), (Value.int .i64 (.ofNat 200))] h29 (k30)) (fun x31 h32 =>
 gdF x21 h32 (fun k33 => kNot x31 (fun x34 => k33 x34 h32)) (fun x35 h36 =>
 after (fun x37 h38 =>
 gdF x37 h38 (fun k39 => kLoads 4 x0 h38 (fun x40 => k39 x40 h38)) (fun x41 h42 =>
 gdF x37 h42 (fun k43 => kLoads 4 x2 h42 (fun x44 => k43 x44 h42)) (fun x45 h46 =>
 gdF x37 h46 (fun k47 => kCall R 55 [x41, x45] h46 (k47)) (fun x48 h49 =>
 gdF x37 h49 (fun k50 => kNot x48 (fun x51 => k50 x51 h49)) (fun x52 h53 =>
 after (fun x54 h55 =>
 jn (fun (x57 : Value) (h58 : Hs) =>
 kFieldA 3 x2 (fun x59 =>
 kLoad x59 h58 (fun x60 =>
 kLenV x60 (fun x61 =>
 kI64 .leq x61 (Value.int .i64 (.ofNat 4)) (fun x62 =>
 gdT x62 h58 (fun k63 => kLoads 4 x0 (Hs.mk h58.hp h58.nx h58.nx) (fun x64 => k63 x64 h58)) (fun x65 _ =>
 gdT x62 h58 (fun k67 => kLoads 4 x2 (Hs.mk h58.hp h58.nx h58.nx) (fun x68 => k67 x68 h58)) (fun x69 _ =>
 gdT x62 h58 (fun k71 => kCall R 56 [x65, x69] h58 (fun v72 u73 => dPut k71 v72 (dNext h58 u73 .bar) (andB (dFit h58 u73 .bar) (Nat.ble 0 u73.lo)))) (fun x74 h75 =>
 after (fun v104 u105 => dPut (fun x76 h77 =>
 gdT x76 h77 (fun k78 => kLoads 4 x2 (dHidS .light [true, true, true, true, true, true, true, true, true, true] [none, some (h75.nx, h77.nx), some (h58.nx, h75.nx), none, none, none, none, none, none, none] h77) (fun x79 => k78 x79 h77)) (fun x80 _ =>
 gdT x76 h77 (fun k82 => kCall R 17 [x80] (dHidS .light [true, true, true, true, true, true, true, true, true, true, true] [none, none, some (h75.nx, h77.nx), some (h58.nx, h75.nx), none, none, none, none, none, none, none] h77) (fun v83 u84 => dPut k82 v83 (dNext h77 u84 .light) (andB (dFit h77 u84 .light) (Nat.ble 0 u84.lo)))) (fun x85 h86 =>
 gdT x76 h86 (fun k87 => kLoads 4 x2 (dHidS .light [false, false, true, true, true, true, true, true, true, true, true, true] [some (h77.nx, h86.nx), none, none, some (h75.nx, h77.nx), some (h58.nx, h75.nx), none, none, none, none, none, none, none] h86) (fun x88 => k87 x88 h86)) (fun x89 _ =>
 gdT x76 h86 (fun k91 => kCall R 57 [x89] h86 (fun v92 u93 => dPut k91 v92 (dNext h86 u93 .bar) (andB (dFit h86 u93 .bar) (Nat.ble 0 u93.lo)))) (fun x94 h95 =>
 gdT x76 h95 (fun k96 => kI64 .eql x85 x94 (fun x97 => k96 x97 h95)) (fun x98 _ =>
 after (fun v102 u103 => dPut (fun x100 h101 =>
 clrK h x100 h101) v102 (dNext h95 u103 .blind) (andB (dFit h95 u103 .blind) (Nat.ble 0 u103.lo))) (pickB (.c x98) (.c (Value.bool false)) enE (Hs.mk .e h95.nx h95.nx) x76))))))) v104 (dNext h75 u105 .blind) (andB (dFit h75 u105 .blind) (Nat.ble 0 u105.lo))) (pickB (.c x74) (.c (Value.bool false)) enE (Hs.mk .e h75.nx h75.nx) x62))))))))) fun k56 =>
 cnd x54
 (clrK h (Value.bool false) h55)
 (k56 x15 h55)) (pickB (.c (Value.bool true)) (.c x52) enE h53 x37)))))) (pickB (.c (Value.bool true)) (.c x35) enE h36 x21)))))))))) fun k14 =>
 cnd x13
 (kLoads 4 x2 h10 (fun x106 =>
 kCall R 53 [x106] h10 (fun x107 h108 =>
 clrK h x107 h108)))
 (k14 x9 h10))))) fun k8 =>
 cnd x7
 (clrK h (Value.bool false) h6)
 (k8 (Value.bool false) h6))))) (oBox 33 (.c a1) enE h1)) (oBox 45 (.c a0) enE h0)
theorem q23 (R : RnK) (N : Nat) (args : List Value) (h : Hs) : r23 R N args h = callT Try.prog N R 23 args h := by kernel_rfl
noncomputable def r25 (R : RnK) (N : Nat) (args : List Value) (h : Hs) : An := unC args fun a0 sq0 => unC sq0 fun a1 sq1 => unC sq1 fun a2 sq2 => enK h fun h0 =>
 kNil a0 (fun x0 =>
 kFieldA 0 x0 (fun x1 =>
 kFieldA 4 x1 (fun x2 =>
 kLoad x2 h0 (fun x3 =>
 kI64 .mul (Value.int .i64 (.ofNat 8)) a1 (fun x4 =>
 kI64 .add a1 (Value.int .i64 (.ofNat 1)) (fun x5 =>
 kI64 .mul (Value.int .i64 (.ofNat 8)) x5 (fun x6 =>
 after (fun x7 h8 =>
 after (fun x9 h10 =>
 clrK h (Value.tuple #[]) h10) (copy0 1 h8 x7 a2)) (oSlice 1 (.c x3) (some (.c x4)) (some (.c x6)) none enE h0))))))))
theorem q25 (R : RnK) (N : Nat) (args : List Value) (h : Hs) : r25 R N args h = callT Try.prog N R 25 args h := by kernel_rfl
noncomputable def r26 (R : RnK) (N : Nat) (args : List Value) (h : Hs) : An := unC args fun a0 sq0 => enK h fun h0 =>
 after (fun x0 h1 =>
 kLoads 4 x0 h1 (fun x2 =>
 kCall R 58 [x2] h1 (fun x3 h4 =>
 kNot x3 (fun x5 =>
 jn (fun (x7 : Value) (h8 : Hs) =>
 after (fun x9 h10 =>
 kFieldA 0 x0 (fun x11 =>
 kLoad x11 h10 (fun x12 =>
 kI64 .eql x12 (Value.int .i64 (.ofNat 0)) (fun x13 =>
 jn (fun (x15 : Value) (h16 : Hs) =>
 kFieldA 0 x0 (fun x17 =>
 kLoad x17 h16 (fun x18 =>
 kToU x18 (fun x19 =>
 kFieldA 1 x0 (fun x20 =>
 kLoad x20 h16 (fun x21 =>
 kToU x21 (fun x22 =>
 kShl x22 (Value.int .u64 (.ofNat 8)) (fun x23 =>
 kU64 .or x19 x23 (fun x24 =>
 kIdxA 1 x9 (Value.int .i64 (.ofNat 0)) (fun x25 =>
 kStore1 x25 x24 h16 (fun x26 h27 =>
 kFieldA 2 x0 (fun x28 =>
 kLoad x28 h27 (fun x29 =>
 kToU x29 (fun x30 =>
 kIdxA 1 x9 (Value.int .i64 (.ofNat 1)) (fun x31 =>
 kStore1 x31 x30 h27 (fun x32 h33 =>
 kFieldA 3 x0 (fun x34 =>
 kLoad x34 h33 (fun x35 =>
 kLenV x35 (fun x36 =>
 jn (fun (x38 x39 x40 x41 : Value) (h42 : Hs) =>
 after (fun x43 h44 =>
 kCall R 59 [x43] h44 (fun x45 h46 =>
 kIdxA 1 x9 (Value.int .i64 (.ofNat 7)) (fun x47 =>
 kStore1 x47 x45 h46 (fun x48 h49 =>
 clrK h x9 h49)))) (oSlice 1 (.c x9) none (some (.c (Value.int .i64 (.ofNat 7)))) none enE h42)) fun k37 =>
 lpT (T := Value → Value → Value → Value → Hs → An) (fun _ _ _ _ _ => none) N (fun k50 =>
 fun (x52 x53 x54 x55 : Value) (h56 : Hs) =>
 kI64 .lss x52 x36 (fun x57 =>
 jn (fun (h59 : Hs) =>
 jn (fun (x61 x62 : Value) (h63 : Hs) =>
 kI64 .add x52 (Value.int .i64 (.ofNat 1)) (fun x64 =>
 k50 x64 x57 x61 x62 h63)) fun k60 =>
 kIdxA 2 x35 x52 (fun x65 =>
 kLoads 2 x65 h59 (fun x66 =>
 after (fun x67 h68 =>
 after (fun x69 h70 =>
 kI64 .add (Value.int .i64 (.ofNat 2)) x52 (fun x71 =>
 kFieldA 0 x67 (fun x72 =>
 kLoad x72 h70 (fun x73 =>
 kToU x73 (fun x74 =>
 kFieldA 1 x67 (fun x75 =>
 kLoad x75 h70 (fun x76 =>
 kToU x76 (fun x77 =>
 kShl x77 (Value.int .u64 (.ofNat 32)) (fun x78 =>
 kU64 .or x74 x78 (fun x79 =>
 kIdxA 1 x9 x71 (fun x80 =>
 kStore1 x80 x79 h70 (fun x81 h82 =>
 k60 x52 x67 h82)))))))))))) (store1 2 h68 (cellsL x66) (addrOf x67))) (oAlloc 87 [(Value.int .i64 (.ofNat 0)), (Value.int .i64 (.ofNat 0))] enE h59)))) fun k58 =>
 cnd x57
 (k58 h56)
 (k37 x52 x57 x54 x55 h56))) (Value.int .i64 (.ofNat 0)) dunno dunno dunno h33))))))))))))))))))) fun k14 =>
 cnd x13
 (clrK h x9 h10)
 (k14 x7 h10))))) (mkslice1 39 1 8 [(Value.int .u64 (.ofNat 0))] h8 (natOf (Value.int .i64 (.ofNat 8))) (natOf (Value.int .i64 (.ofNat 8))))) fun k6 =>
 cnd x5
 (clrK h (Value.slice none 0 0) h4)
 (k6 (Value.slice none 0 0) h4))))) (oBox 33 (.c a0) enE h0)
theorem q26 (R : RnK) (N : Nat) (args : List Value) (h : Hs) : r26 R N args h = callT Try.prog N R 26 args h := by kernel_rfl
noncomputable def r30 (R : RnK) (N : Nat) (args : List Value) (h : Hs) : An := unC args fun a0 sq0 => unC sq0 fun a1 sq1 => enK h fun h0 =>
 kI64 .lss a1 (Value.int .i64 (.ofNat 0)) (fun x0 =>
 jn (fun (x2 x3 : Value) (h4 : Hs) =>
 kCall R 62 [a0] h4 (fun x5 h6 =>
 kLenV x5 (fun x7 =>
 jn (fun (x9 x10 x11 x12 x13 x14 x15 : Value) (h16 : Hs) =>
 clrK h (Value.tuple #[(Value.int .i64 (.ofNat 0)), (Value.bool false)]) h16) fun k8 =>
 lpT (T := Value → Value → Value → Value → Value → Value → Value → Hs → An) (fun _ _ _ _ _ _ _ _ => none) N (fun k17 =>
 fun (x19 x20 x21 x22 x23 x24 x25 : Value) (h26 : Hs) =>
 kI64 .lss x20 x7 (fun x27 =>
 jn (fun (h29 : Hs) =>
 jn (fun (x31 x32 x33 x34 x35 : Value) (h36 : Hs) =>
 kI64 .add x20 (Value.int .i64 (.ofNat 1)) (fun x37 =>
 k17 x31 x37 x27 x32 x33 x34 x35 h36)) fun k30 =>
 kIdxA 2 x5 x20 (fun x38 =>
 kLoads 2 x38 h29 (fun x39 =>
 after (fun x40 h41 =>
 after (fun x42 h43 =>
 kFieldA 1 x40 (fun x44 =>
 kLoad x44 h43 (fun x45 =>
 kI64 .lss x19 x45 (fun x46 =>
 jn (fun (x48 x49 : Value) (h50 : Hs) =>
 kFieldA 1 x40 (fun x51 =>
 kLoad x51 h50 (fun x52 =>
 kI64 .sub x19 x52 (fun x53 =>
 k30 x53 x40 x46 x48 x49 h50)))) fun k47 =>
 cnd x46
 (kFieldA 0 x40 (fun x54 =>
 kLoad x54 h43 (fun x55 =>
 kI64 .add x55 x19 (fun x56 =>
 clrK h (Value.tuple #[x56, (Value.bool true)]) h43))))
 (k47 x24 x25 h43))))) (store1 2 h41 (cellsL x39) (addrOf x40))) (oAlloc 87 [(Value.int .i64 (.ofNat 0)), (Value.int .i64 (.ofNat 0))] enE h29)))) fun k28 =>
 cnd x27
 (k28 h26)
 (k8 x19 x20 x27 x22 x23 x24 x25 h26))) a1 (Value.int .i64 (.ofNat 0)) dunno dunno dunno x2 x3 h6))) fun k1 =>
 cnd x0
 (clrK h (Value.tuple #[(Value.int .i64 (.ofNat 0)), (Value.bool false)]) h0)
 (k1 (Value.int .i64 (.ofNat 0)) (Value.bool false) h0))
theorem q30 (R : RnK) (N : Nat) (args : List Value) (h : Hs) : r30 R N args h = callT Try.prog N R 30 args h := by kernel_rfl
noncomputable def r33 (R : RnK) (N : Nat) (args : List Value) (h : Hs) : An := unC args fun a0 sq0 => enK h fun h0 =>
 after (fun x0 h1 =>
 kLenV a0 (fun x2 =>
 kI64 .neq x2 (Value.int .i64 (.ofNat 8)) (fun x3 =>
 gdF x3 h1 (fun k4 => k4 a0 h1) (fun x5 h6 =>
 gdF x3 h6 (fun k7 => kIdxA 1 x5 (Value.int .i64 (.ofNat 0)) (fun x8 => k7 x8 h6)) (fun x9 h10 =>
 gdF x3 h10 (fun k11 => kLoad x9 h10 (fun x12 => k11 x12 h10)) (fun x13 h14 =>
 gdF x3 h14 (fun k15 => kShr x13 (Value.int .u64 (.ofNat 32)) (fun x16 => k15 x16 h14)) (fun x17 h18 =>
 gdF x3 h18 (fun k19 => kU64 .neq x17 (Value.int .u64 (.ofNat 0)) (fun x20 => k19 x20 h18)) (fun x21 h22 =>
 after (fun x23 h24 =>
 gdF x23 h24 (fun k25 => k25 a0 h24) (fun x26 h27 =>
 gdF x23 h27 (fun k28 => kIdxA 1 x26 (Value.int .i64 (.ofNat 1)) (fun x29 => k28 x29 h27)) (fun x30 h31 =>
 gdF x23 h31 (fun k32 => kLoad x30 h31 (fun x33 => k32 x33 h31)) (fun x34 h35 =>
 gdF x23 h35 (fun k36 => kU64 .gtr x34 (Value.int .u64 (.ofNat 1099511627776)) (fun x37 => k36 x37 h35)) (fun x38 h39 =>
 after (fun x40 h41 =>
 jn (fun (x43 : Value) (h44 : Hs) =>
 kIdxA 1 a0 (Value.int .i64 (.ofNat 0)) (fun x45 =>
 kLoad x45 (Hs.mk h44.hp h44.nx h44.nx) (fun x46 =>
 kU64 .and x46 (Value.int .u64 (.ofNat 255)) (fun x47 =>
 kTo64 x47 (fun x48 =>
 kIdxA 1 a0 (Value.int .i64 (.ofNat 0)) (fun x49 =>
 kLoad x49 (Hs.mk h44.hp h44.nx h44.nx) (fun x50 =>
 kShr x50 (Value.int .u64 (.ofNat 8)) (fun x51 =>
 kTo64 x51 (fun x52 =>
 kIdxA 1 a0 (Value.int .i64 (.ofNat 1)) (fun x53 =>
 kLoad x53 (Hs.mk h44.hp h44.nx h44.nx) (fun x54 =>
 kTo64 x54 (fun x55 =>
 after (fun v126 u127 => dPut (fun x56 h57 =>
 after (fun v124 u125 => dPut (fun x58 h59 =>
 after (fun v122 u123 => dPut (fun x60 h61 =>
 after (fun x62 h63 =>
 kLenV x62 (fun x64 =>
 jn (fun (x66 x67 x68 x69 : Value) (h70 : Hs) =>
 kLoads 4 x58 h70 (fun x71 =>
 kCall R 26 [x71] h70 (fun x72 h73 =>
 kCall R 64 [x72, a0] h73 (fun x74 h75 =>
 kNot x74 (fun x76 =>
 jn (fun (x78 : Value) (h79 : Hs) =>
 kLoads 4 x58 h79 (fun x80 =>
 after (fun x81 h82 =>
 clearUp h (packR h82 (resV enE h82 [.cell (.c x0) 4 true, .t (.c (Value.bool true))]))) (store1 4 h79 (cellsL x80) (addrOf x0)))) fun k77 =>
 cnd x76
 (after (fun x83 h84 =>
 after (fun x85 h86 =>
 clearUp h (packR h86 (resV enE h86 [.cell (.c x0) 4 true, .t (.c (Value.bool false))]))) (store1 4 h84 (cellsL x83) (addrOf x0))) (oBuild [(Value.int .i64 (.ofNat 0)), (Value.int .i64 (.ofNat 0)), (Value.int .i64 (.ofNat 0)), (Value.slice none 0 0)] [] enE h75))
 (k77 x43 h75)))))) fun k65 =>
 lpT (T := Value → Value → Value → Value → Hs → An) (fun _ _ _ _ _ => none) N (fun k87 =>
 fun (x89 x90 x91 x92 : Value) (h93 : Hs) =>
 kI64 .lss x89 x64 (fun x94 =>
 jn (fun (h96 : Hs) =>
 jn (fun (x98 x99 : Value) (h100 : Hs) =>
 kI64 .add x89 (Value.int .i64 (.ofNat 1)) (fun x101 =>
 k87 x101 x94 x98 x99 h100)) fun k97 =>
 kIdxA 1 x62 x89 (fun x102 =>
 kLoad x102 h96 (fun x103 =>
 kU64 .eql x103 (Value.int .u64 (.ofNat 0)) (fun x104 =>
 jn (fun (h106 : Hs) =>
 kFieldA 3 x58 (fun x107 =>
 kLoad x107 h106 (fun x108 =>
 kU64 .and x103 (Value.int .u64 (.ofNat 4294967295)) (fun x109 =>
 kTo64 x109 (fun x110 =>
 kShr x103 (Value.int .u64 (.ofNat 32)) (fun x111 =>
 kTo64 x111 (fun x112 =>
 after (fun x113 h114 =>
 after (fun x115 h116 =>
 after (fun x117 h118 =>
 kFieldA 3 x58 (fun x119 =>
 kStore1 x119 x117 h118 (fun x120 h121 =>
 k97 x103 x104 h121))) (app0 87 2 16 h116 x108 x115)) (oMkrow 87 2 1 [(Value.int .i64 (.ofNat 0)), (Value.int .i64 (.ofNat 0))] [(0, 2, .c x113)] enE h114)) (oBuild [(Value.int .i64 (.ofNat 0)), (Value.int .i64 (.ofNat 0))] [(0, 1, .c x110), (1, 1, .c x112)] enE h106)))))))) fun k105 =>
 cnd x104
 (k65 x89 x94 x103 x104 h96)
 (k105 h96))))) fun k95 =>
 cnd x94
 (k95 h93)
 (k65 x89 x94 x91 x92 h93))) (Value.int .i64 (.ofNat 0)) dunno dunno dunno h63)) (oSlice 1 (.c a0) (some (.c (Value.int .i64 (.ofNat 2)))) (some (.c (Value.int .i64 (.ofNat 6)))) none enE h61)) v122 (dNext h59 u123 .bar) (andB (dFit h59 u123 .bar) (Nat.ble 0 u123.lo))) (store1 4 h59 (cellsL x56) (addrOf x58))) v124 (dNext h57 u125 .make) (andB (dFit h57 u125 .make) (Nat.ble 0 u125.lo))) (oAlloc 33 [(Value.int .i64 (.ofNat 0)), (Value.int .i64 (.ofNat 0)), (Value.int .i64 (.ofNat 0)), (Value.slice none 0 0)] enE (Hs.mk .e h57.nx h57.nx))) v126 (dNext h44 u127 .blind) (andB (dFit h44 u127 .blind) (Nat.ble 0 u127.lo))) (oBuild [(Value.int .i64 (.ofNat 0)), (Value.int .i64 (.ofNat 0)), (Value.int .i64 (.ofNat 0)), (Value.slice none 0 0)] [(0, 1, .c x48), (1, 1, .c x52), (2, 1, .c x55)] enE (Hs.mk .e h44.nx h44.nx)))))))))))))) fun k42 =>
 cnd x40
 (after (fun x128 h129 =>
 after (fun x130 h131 =>
 clearUp h (packR h131 (resV enE h131 [.cell (.c x0) 4 true, .t (.c (Value.bool false))]))) (store1 4 h129 (cellsL x128) (addrOf x0))) (oBuild [(Value.int .i64 (.ofNat 0)), (Value.int .i64 (.ofNat 0)), (Value.int .i64 (.ofNat 0)), (Value.slice none 0 0)] [] enE h41))
 (k42 (Value.bool false) h41)) (pickB (.c (Value.bool true)) (.c x38) enE h39 x23)))))) (pickB (.c (Value.bool true)) (.c x21) enE h22 x3))))))))) (oAlloc 33 [(Value.int .i64 (.ofNat 0)), (Value.int .i64 (.ofNat 0)), (Value.int .i64 (.ofNat 0)), (Value.slice none 0 0)] enE h0)
theorem q33 (R : RnK) (N : Nat) (args : List Value) (h : Hs) : r33 R N args h = callT Try.prog N R 33 args h := by kernel_rfl
noncomputable def r34 (R : RnK) (N : Nat) (args : List Value) (h : Hs) : An := unC args fun a0 sq0 => unC sq0 fun a1 sq1 => enK h fun h0 =>
 after (fun x0 h1 =>
 kI64 .lss a1 (Value.int .i64 (.ofNat 0)) (fun x2 =>
 gdF x2 h1 (fun k3 => k3 a1 h1) (fun x4 h5 =>
 gdF x2 h5 (fun k6 => kFieldA 4 x0 (fun x7 => k6 x7 h5)) (fun x8 h9 =>
 gdF x2 h9 (fun k10 => kLoad x8 h9 (fun x11 => k10 x11 h9)) (fun x12 h13 =>
 gdF x2 h13 (fun k14 => kLenV x12 (fun x15 => k14 x15 h13)) (fun x16 h17 =>
 gdF x2 h17 (fun k18 => kI64 .quo x16 (Value.int .i64 (.ofNat 8)) (fun x19 => k18 x19 h17)) (fun x20 h21 =>
 gdF x2 h21 (fun k22 => kI64 .geq x4 x20 (fun x23 => k22 x23 h21)) (fun x24 h25 =>
 after (fun x26 h27 =>
 jn (fun (x29 : Value) (h30 : Hs) =>
 kFieldA 4 x0 (fun x31 =>
 kLoad x31 h30 (fun x32 =>
 kI64 .mul (Value.int .i64 (.ofNat 8)) a1 (fun x33 =>
 kI64 .add a1 (Value.int .i64 (.ofNat 1)) (fun x34 =>
 kI64 .mul (Value.int .i64 (.ofNat 8)) x34 (fun x35 =>
 after (fun x36 h37 =>
 kCall R 19 [x36] h37 (fun x38 h39 =>
 clrK h x38 h39)) (oSlice 1 (.c x32) (some (.c x33)) (some (.c x35)) none enE h30))))))) fun k28 =>
 cnd x26
 (clrK h (Value.slice none 0 0) h27)
 (k28 (Value.slice none 0 0) h27)) (pickB (.c (Value.bool true)) (.c x24) enE h25 x2))))))))) (oBox 47 (.c a0) enE h0)
theorem q34 (R : RnK) (N : Nat) (args : List Value) (h : Hs) : r34 R N args h = callT Try.prog N R 34 args h := by kernel_rfl
noncomputable def r38 (R : RnK) (N : Nat) (args : List Value) (h : Hs) : An := unC args fun a0 sq0 => enK h fun h0 =>
 after (fun x0 h1 =>
 kLoads 2 x0 h1 (fun x2 =>
 kCall R 15 [x2] h1 (fun x3 h4 =>
 kNot x3 (fun x5 =>
 jn (fun (x7 : Value) (h8 : Hs) =>
 after (fun x9 h10 =>
 kFieldA 0 x0 (fun x11 =>
 kLoad x11 h10 (fun x12 =>
 kI64 .eql x12 (Value.int .i64 (.ofNat 0)) (fun x13 =>
 jn (fun (x15 : Value) (h16 : Hs) =>
 lwC x9 h16 (fun h17 =>
 kFieldA 0 x0 (fun x18 =>
 kLoad x18 h17 (fun x19 =>
 kToU x19 (fun x20 =>
 kFieldA 1 x0 (fun x21 =>
 kLoad x21 (lowM (cutV x9) h17 h17) (fun x22 =>
 kLenS x22 (fun x23 =>
 kToU x23 (fun x24 =>
 kIdxA 1 x9 (Value.int .i64 (.ofNat 0)) (fun x25 =>
 kStore1 x25 x20 h17 (fun v82 u83 => dPut (fun x26 h27 =>
 kIdxA 1 x9 (Value.int .i64 (.ofNat 1)) (fun x28 =>
 kStore1 x28 x24 h27 (fun v80 u81 => dPut (fun x29 h30 =>
 lwCE x9 h16 h30 (fun h31 =>
 kFieldA 1 x0 (fun x32 =>
 kLoad x32 h31 (fun x33 =>
 kLenS x33 (fun x34 =>
 jn (fun (x36 x37 x38 : Value) (h39 : Hs) =>
 after (fun x40 h41 =>
 kCall R 59 [x40] h41 (fun x42 h43 =>
 kIdxA 1 x9 (Value.int .i64 (.ofNat 7)) (fun x44 =>
 kStore1 x44 x42 h43 (fun x45 h46 =>
 clrK h x9 h46)))) (oSlice 1 (.c x9) none (some (.c (Value.int .i64 (.ofNat 7)))) none enE h39)) fun k35 =>
 lpT (T := Value → Value → Value → Hs → An) (fun _ _ _ _ => none) N (fun k47 =>
 fun (x49 x50 x51 : Value) (h52 : Hs) =>
 kI64 .lss x49 x34 (fun x53 =>
 jn (fun (h55 : Hs) =>
 jn (fun (x57 : Value) (h58 : Hs) =>
 kI64 .add x49 (Value.int .i64 (.ofNat 1)) (fun x59 =>
 k47 x59 x53 x57 h58)) fun k56 =>
 kI64 .quo x49 (Value.int .i64 (.ofNat 8)) (fun x60 =>
 kI64 .add (Value.int .i64 (.ofNat 2)) x60 (fun x61 =>
 kIdxA 1 x9 x61 (fun x62 =>
 kLoad x62 (Hs.mk h55.hp h55.nx h55.nx) (fun x63 =>
 kFieldA 1 x0 (fun x64 =>
 kLoad x64 (Hs.mk h55.hp h55.nx h55.nx) (fun x65 =>
 after (fun v78 u79 => dPut (fun x66 h67 =>
 kToU x66 (fun x68 =>
 kI64 .rem x49 (Value.int .i64 (.ofNat 8)) (fun x69 =>
 kI64 .mul (Value.int .i64 (.ofNat 8)) x69 (fun x70 =>
 kShl x68 x70 (fun x71 =>
 kU64 .or x63 x71 (fun x72 =>
 kIdxA 1 x9 x61 (fun x73 =>
 kStore1 x73 x72 h67 (fun v76 u77 => dPut (fun x74 h75 =>
 k56 x49 h75) v76 (dNext h67 u77 .bar) (andB (dFit h67 u77 .bar) (Nat.ble 0 u77.lo)))))))))) v78 (dNext h55 u79 .blind) (andB (dFit h55 u79 .blind) (Nat.ble 0 u79.lo))) (oIdxS (.c x65) (.c x49) enE (Hs.mk .e h55.nx h55.nx))))))))) fun k54 =>
 cnd x53
 (k54 h52)
 (k35 x49 x53 x51 h52))) (Value.int .i64 (.ofNat 0)) dunno dunno h31))))) v80 (dNext h27 u81 .bar) (andB (dFit h27 u81 .bar) (Nat.ble (cutV x9) u81.lo))))) v82 (dNext h17 u83 .bar) (andB (dFit h17 u83 .bar) (Nat.ble (cutV x9) u83.lo))))))))))))) fun k14 =>
 cnd x13
 (clrK h x9 h10)
 (k14 x7 h10))))) (mkslice1 39 1 8 [(Value.int .u64 (.ofNat 0))] h8 (natOf (Value.int .i64 (.ofNat 8))) (natOf (Value.int .i64 (.ofNat 8))))) fun k6 =>
 cnd x5
 (clrK h (Value.slice none 0 0) h4)
 (k6 (Value.slice none 0 0) h4))))) (oBox 55 (.c a0) enE h0)
theorem q38 (R : RnK) (N : Nat) (args : List Value) (h : Hs) : r38 R N args h = callT Try.prog N R 38 args h := by kernel_rfl
noncomputable def r39 (R : RnK) (N : Nat) (args : List Value) (h : Hs) : An := unC args fun a0 sq0 => enK h fun h0 =>
 kLenS a0 (fun x0 =>
 kI64 .geq x0 (Value.int .i64 (.ofNat 1)) (fun x1 =>
 gdT x1 h0 (fun k2 => k2 a0 h0) (fun x3 h4 =>
 gdT x1 h4 (fun k5 => kLenS x3 (fun x6 => k5 x6 h4)) (fun x7 h8 =>
 gdT x1 h8 (fun k9 => kI64 .leq x7 (Value.int .i64 (.ofNat 40)) (fun x10 => k9 x10 h8)) (fun x11 h12 =>
 after (fun x13 h14 =>
 gdT x13 h14 (fun k15 => k15 a0 h14) (fun x16 h17 =>
 gdT x13 h17 (fun k18 => obK (fun x19 => k18 x19 h17) (s2 .neq x16 (Value.string ⟨#[46]⟩))) (fun x20 h21 =>
 after (fun x22 h23 =>
 gdT x22 h23 (fun k24 => k24 a0 h23) (fun x25 h26 =>
 gdT x22 h26 (fun k27 => obK (fun x28 => k27 x28 h26) (s2 .neq x25 (Value.string ⟨#[46, 46]⟩))) (fun x29 h30 =>
 after (fun x31 h32 =>
 gdT x31 h32 (fun k33 => k33 a0 h32) (fun x34 h35 =>
 gdT x31 h35 (fun k36 => kCall R 67 [x34, (Value.string ⟨#[47]⟩)] h35 (k36)) (fun x37 h38 =>
 gdT x31 h38 (fun k39 => kNot x37 (fun x40 => k39 x40 h38)) (fun x41 h42 =>
 after (fun x43 h44 =>
 gdT x43 h44 (fun k45 => k45 a0 h44) (fun x46 h47 =>
 gdT x43 h47 (fun k48 => kCall R 67 [x46, (Value.string ⟨#[0]⟩)] h47 (k48)) (fun x49 h50 =>
 gdT x43 h50 (fun k51 => kNot x49 (fun x52 => k51 x52 h50)) (fun x53 h54 =>
 after (fun x55 h56 =>
 clrK h x55 h56) (pickB (.c x53) (.c (Value.bool false)) enE h54 x43))))) (pickB (.c x41) (.c (Value.bool false)) enE h42 x31))))) (pickB (.c x29) (.c (Value.bool false)) enE h30 x22)))) (pickB (.c x20) (.c (Value.bool false)) enE h21 x13)))) (pickB (.c x11) (.c (Value.bool false)) enE h12 x1))))))
theorem q39 (R : RnK) (N : Nat) (args : List Value) (h : Hs) : r39 R N args h = callT Try.prog N R 39 args h := by kernel_rfl
noncomputable def r40 (R : RnK) (N : Nat) (args : List Value) (h : Hs) : An := unC args fun a0 sq0 => enK h fun h0 =>
 after (fun x0 h1 =>
 kLenV a0 (fun x2 =>
 kI64 .neq x2 (Value.int .i64 (.ofNat 8)) (fun x3 =>
 gdF x3 h1 (fun k4 => k4 a0 h1) (fun x5 h6 =>
 gdF x3 h6 (fun k7 => kIdxA 1 x5 (Value.int .i64 (.ofNat 0)) (fun x8 => k7 x8 h6)) (fun x9 h10 =>
 gdF x3 h10 (fun k11 => kLoad x9 h10 (fun x12 => k11 x12 h10)) (fun x13 h14 =>
 gdF x3 h14 (fun k15 => kU64 .gtr x13 (Value.int .u64 (.ofNat 64)) (fun x16 => k15 x16 h14)) (fun x17 h18 =>
 after (fun x19 h20 =>
 gdF x19 h20 (fun k21 => k21 a0 h20) (fun x22 h23 =>
 gdF x19 h23 (fun k24 => kIdxA 1 x22 (Value.int .i64 (.ofNat 1)) (fun x25 => k24 x25 h23)) (fun x26 h27 =>
 gdF x19 h27 (fun k28 => kLoad x26 h27 (fun x29 => k28 x29 h27)) (fun x30 h31 =>
 gdF x19 h31 (fun k32 => kU64 .gtr x30 (Value.int .u64 (.ofNat 40)) (fun x33 => k32 x33 h31)) (fun x34 h35 =>
 after (fun x36 h37 =>
 jn (fun (x39 : Value) (h40 : Hs) =>
 after (fun x41 h42 =>
 kIdxA 1 a0 (Value.int .i64 (.ofNat 1)) (fun x43 =>
 kLoad x43 h42 (fun x44 =>
 kTo64 x44 (fun x45 =>
 jn (fun (x47 x48 x49 : Value) (h50 : Hs) =>
 lwC x41 h50 (fun h51 =>
 kIdxA 1 a0 (Value.int .i64 (.ofNat 0)) (fun x52 =>
 kLoad x52 (lowM (cutV x41) h51 h51) (fun x53 =>
 kTo64 x53 (fun x54 =>
 kCall R 69 [x41] h51 (fun v86 u87 => dPut (fun x55 h56 =>
 after (fun v84 u85 => dPut (fun x57 h58 =>
 after (fun v82 u83 => dPut (fun x59 h60 =>
 after (fun v80 u81 => dPut (fun x61 h62 =>
 lwCE x41 h50 h62 (fun h63 =>
 kLoads 2 x59 h63 (fun x64 =>
 kCall R 38 [x64] h63 (fun x65 h66 =>
 kCall R 64 [x65, a0] h66 (fun x67 h68 =>
 kNot x67 (fun x69 =>
 jn (fun (x71 : Value) (h72 : Hs) =>
 kLoads 2 x59 h72 (fun x73 =>
 after (fun x74 h75 =>
 clearUp h (packR h75 (resV enE h75 [.cell (.c x0) 2 true, .t (.c (Value.bool true))]))) (store1 2 h72 (cellsL x73) (addrOf x0)))) fun k70 =>
 cnd x69
 (after (fun x76 h77 =>
 after (fun x78 h79 =>
 clearUp h (packR h79 (resV enE h79 [.cell (.c x0) 2 true, .t (.c (Value.bool false))]))) (store1 2 h77 (cellsL x76) (addrOf x0))) (oBuild [(Value.int .i64 (.ofNat 0)), (Value.string ⟨#[]⟩)] [] enE h68))
 (k70 x39 h68))))))) v80 (dNext h60 u81 .bar) (andB (dFit h60 u81 .bar) (Nat.ble (cutV x41) u81.lo))) (store1 2 h60 (cellsL x57) (addrOf x59))) v82 (dNext h58 u83 .make) (andB (dFit h58 u83 .make) (Nat.ble (cutV x41) u83.lo))) (oAlloc 55 [(Value.int .i64 (.ofNat 0)), (Value.string ⟨#[]⟩)] enE (Hs.mk .e h58.nx h58.nx))) v84 (dNext h56 u85 .blind) (andB (dFit h56 u85 .blind) (Nat.ble (cutV x41) u85.lo))) (oBuild [(Value.int .i64 (.ofNat 0)), (Value.string ⟨#[]⟩)] [(0, 1, .c x54), (1, 1, .c x55)] enE (Hs.mk .e h56.nx h56.nx))) v86 (dNext h51 u87 .bar) (andB (dFit h51 u87 .bar) (Nat.ble (cutV x41) u87.lo)))))))) fun k46 =>
 lpT (T := Value → Value → Value → Hs → An) (fun _ _ _ _ => none) N (fun k88 =>
 fun (x90 x91 x92 : Value) (h93 : Hs) =>
 kI64 .lss x90 x45 (fun x94 =>
 jn (fun (h96 : Hs) =>
 jn (fun (x98 : Value) (h99 : Hs) =>
 kI64 .add x90 (Value.int .i64 (.ofNat 1)) (fun x100 =>
 k88 x100 x94 x98 h99)) fun k97 =>
 kI64 .quo x90 (Value.int .i64 (.ofNat 8)) (fun x101 =>
 kI64 .add (Value.int .i64 (.ofNat 2)) x101 (fun x102 =>
 kIdxA 1 a0 x102 (fun x103 =>
 kLoad x103 h96 (fun x104 =>
 kI64 .rem x90 (Value.int .i64 (.ofNat 8)) (fun x105 =>
 kI64 .mul (Value.int .i64 (.ofNat 8)) x105 (fun x106 =>
 kShr x104 x106 (fun x107 =>
 kTo8 x107 (fun x108 =>
 kCall R 68 [x41, x108] h96 (fun x109 h110 =>
 k97 x90 h110)))))))))) fun k95 =>
 cnd x94
 (k95 h93)
 (k46 x90 x94 x92 h93))) (Value.int .i64 (.ofNat 0)) dunno dunno h42)))) (oAlloc 119 [(Value.pointer none), (Value.slice none 0 0)] enE h40)) fun k38 =>
 cnd x36
 (after (fun x111 h112 =>
 after (fun x113 h114 =>
 clearUp h (packR h114 (resV enE h114 [.cell (.c x0) 2 true, .t (.c (Value.bool false))]))) (store1 2 h112 (cellsL x111) (addrOf x0))) (oBuild [(Value.int .i64 (.ofNat 0)), (Value.string ⟨#[]⟩)] [] enE h37))
 (k38 (Value.bool false) h37)) (pickB (.c (Value.bool true)) (.c x34) enE h35 x19)))))) (pickB (.c (Value.bool true)) (.c x17) enE h18 x3)))))))) (oAlloc 55 [(Value.int .i64 (.ofNat 0)), (Value.string ⟨#[]⟩)] enE h0)
theorem q40 (R : RnK) (N : Nat) (args : List Value) (h : Hs) : r40 R N args h = callT Try.prog N R 40 args h := by kernel_rfl
noncomputable def r42 (R : RnK) (N : Nat) (args : List Value) (h : Hs) : An := unC args fun a0 sq0 => enK h fun h0 =>
 after (fun x0 h1 =>
 kFieldA 0 x0 (fun x2 =>
 kLoad x2 h1 (fun x3 =>
 kCall R 51 [x3, (Value.int .i64 (.ofNat 64)), (Value.int .i64 (.ofNat 1024))] h1 (fun x4 h5 =>
 kNot x4 (fun x6 =>
 gdF x6 h5 (fun k7 => kFieldA 1 x0 (fun x8 => k7 x8 h5)) (fun x9 h10 =>
 gdF x6 h10 (fun k11 => kLoad x9 h10 (fun x12 => k11 x12 h10)) (fun x13 h14 =>
 gdF x6 h14 (fun k15 => kCall R 51 [x13, (Value.int .i64 (.ofNat 4)), (Value.int .i64 (.ofNat 64))] h14 (k15)) (fun x16 h17 =>
 gdF x6 h17 (fun k18 => kNot x16 (fun x19 => k18 x19 h17)) (fun x20 h21 =>
 after (fun x22 h23 =>
 gdF x22 h23 (fun k24 => kFieldA 2 x0 (fun x25 => k24 x25 h23)) (fun x26 h27 =>
 gdF x22 h27 (fun k28 => kLoad x26 h27 (fun x29 => k28 x29 h27)) (fun x30 h31 =>
 gdF x22 h31 (fun k32 => kCall R 51 [x30, (Value.int .i64 (.ofNat 1)), (Value.int .i64 (.ofNat 8))] h31 (k32)) (fun x33 h34 =>
 gdF x22 h34 (fun k35 => kNot x33 (fun x36 => k35 x36 h34)) (fun x37 h38 =>
 after (fun x39 h40 =>
 gdF x39 h40 (fun k41 => kFieldA 3 x0 (fun x42 => k41 x42 h40)) (fun x43 h44 =>
 gdF x39 h44 (fun k45 => kLoad x43 h44 (fun x46 => k45 x46 h44)) (fun x47 h48 =>
 gdF x39 h48 (fun k49 => kCall R 51 [x47, (Value.int .i64 (.ofNat 16)), (Value.int .i64 (.ofNat 110))] h48 (k49)) (fun x50 h51 =>
 gdF x39 h51 (fun k52 => kNot x50 (fun x53 => k52 x53 h51)) (fun x54 h55 =>
 after (fun x56 h57 =>
 jn (fun (x59 : Value) (h60 : Hs) =>
 kLoads 4 x0 h60 (fun x61 =>
 kCall R 71 [x61] h60 (fun x62 h63 =>
 kExtr x62 0 (fun x64 =>
 kExtr x62 1 (fun x65 =>
 kI64 .geq x65 (Value.int .i64 (.ofNat 1)) (fun x66 =>
 clrK h x66 h63)))))) fun k58 =>
 cnd x56
 (clrK h (Value.bool false) h57)
 (k58 (Value.bool false) h57)) (pickB (.c (Value.bool true)) (.c x54) enE h55 x39)))))) (pickB (.c (Value.bool true)) (.c x37) enE h38 x22)))))) (pickB (.c (Value.bool true)) (.c x20) enE h21 x6)))))))))) (oBox 45 (.c a0) enE h0)
theorem q42 (R : RnK) (N : Nat) (args : List Value) (h : Hs) : r42 R N args h = callT Try.prog N R 42 args h := by kernel_rfl
noncomputable def r44 (R : RnK) (N : Nat) (args : List Value) (h : Hs) : An := unC args fun a0 sq0 => enK h fun h0 =>
 after (fun x0 h1 =>
 kLoads 4 x0 h1 (fun x2 =>
 kCall R 42 [x2] h1 (fun x3 h4 =>
 kNot x3 (fun x5 =>
 jn (fun (x7 x8 : Value) (h9 : Hs) =>
 kLoads 4 x0 (Hs.mk h9.hp h9.nx h9.nx) (fun x10 =>
 kFieldA 1 x0 (fun x11 =>
 kLoad x11 (Hs.mk h9.hp h9.nx h9.nx) (fun x12 =>
 kCall R 22 [x10, x12] (Hs.mk h9.hp h9.nx h9.nx) (fun v18 u19 => dPut (fun x13 h14 =>
 kI64 .add x13 (Value.int .i64 (.ofNat 1)) (fun x15 =>
 kFieldA 1 x0 (fun x16 =>
 kLoad x16 (dHidS .light [true, false, false, false, false, false] [none, none, some (h9.nx, h14.nx), none, none, none] h14) (fun x17 =>
 clrK h (Value.tuple #[x15, x17]) h14)))) v18 (dNext h9 u19 .light) (andB (dFit h9 u19 .light) (Nat.ble 0 u19.lo))))))) fun k6 =>
 cnd x5
 (clrK h (Value.tuple #[(Value.int .i64 (.ofNat 0)), (Value.int .i64 (.ofNat 0))]) h4)
 (k6 (Value.int .i64 (.ofNat 0)) (Value.int .i64 (.ofNat 0)) h4))))) (oBox 45 (.c a0) enE h0)
theorem q44 (R : RnK) (N : Nat) (args : List Value) (h : Hs) : r44 R N args h = callT Try.prog N R 44 args h := by kernel_rfl
noncomputable def r47 (R : RnK) (N : Nat) (args : List Value) (h : Hs) : An := unC args fun a0 sq0 => enK h fun h0 =>
 after (fun x0 h1 =>
 kLoads 4 x0 h1 (fun x2 =>
 kCall R 42 [x2] h1 (fun x3 h4 =>
 kNot x3 (fun x5 =>
 jn (fun (x7 x8 : Value) (h9 : Hs) =>
 kLoads 4 x0 h9 (fun x10 =>
 kCall R 71 [x10] h9 (fun x11 h12 =>
 kExtr x11 0 (fun x13 =>
 kExtr x11 1 (fun x14 =>
 clrK h (Value.tuple #[x13, x14]) h12))))) fun k6 =>
 cnd x5
 (clrK h (Value.tuple #[(Value.int .i64 (.ofNat 0)), (Value.int .i64 (.ofNat 0))]) h4)
 (k6 (Value.int .i64 (.ofNat 0)) (Value.int .i64 (.ofNat 0)) h4))))) (oBox 45 (.c a0) enE h0)
theorem q47 (R : RnK) (N : Nat) (args : List Value) (h : Hs) : r47 R N args h = callT Try.prog N R 47 args h := by kernel_rfl
noncomputable def r51 (R : RnK) (N : Nat) (args : List Value) (h : Hs) : An := unC args fun a0 sq0 => unC sq0 fun a1 sq1 => unC sq1 fun a2 sq2 => enK h fun h0 =>
 kI64 .geq a0 a1 (fun x0 =>
 gdT x0 h0 (fun k1 => k1 a0 h0) (fun x2 h3 =>
 gdT x0 h3 (fun k4 => k4 a2 h3) (fun x5 h6 =>
 gdT x0 h6 (fun k7 => kI64 .leq x2 x5 (fun x8 => k7 x8 h6)) (fun x9 h10 =>
 after (fun x11 h12 =>
 clrK h x11 h12) (pickB (.c x9) (.c (Value.bool false)) enE h10 x0)))))
theorem q51 (R : RnK) (N : Nat) (args : List Value) (h : Hs) : r51 R N args h = callT Try.prog N R 51 args h := by kernel_rfl
noncomputable def r52 (R : RnK) (N : Nat) (args : List Value) (h : Hs) : An := unC args fun a0 sq0 => enK h fun h0 =>
 after (fun x0 h1 =>
 kFieldA 2 x0 (fun x2 =>
 kLoad x2 (Hs.mk h1.hp h1.nx h1.nx) (fun x3 =>
 kFieldA 3 x0 (fun x4 =>
 kLoad x4 (Hs.mk h1.hp h1.nx h1.nx) (fun x5 =>
 kI64 .mul x3 x5 (fun x6 =>
 kI64 .add (Value.int .i64 (.ofNat 1)) x6 (fun x7 =>
 kFieldA 0 x0 (fun x8 =>
 kLoad x8 (Hs.mk h1.hp h1.nx h1.nx) (fun x9 =>
 kI64 .add x9 (Value.int .i64 (.ofNat 512)) (fun x10 =>
 kI64 .sub x10 (Value.int .i64 (.ofNat 1)) (fun x11 =>
 kI64 .quo x11 (Value.int .i64 (.ofNat 512)) (fun x12 =>
 clrK h (Value.tuple #[x7, x12]) h1)))))))))))) (oBox 45 (.c a0) enE h0)
theorem q52 (R : RnK) (N : Nat) (args : List Value) (h : Hs) : r52 R N args h = callT Try.prog N R 52 args h := by kernel_rfl
noncomputable def r53 (R : RnK) (N : Nat) (args : List Value) (h : Hs) : An := unC args fun a0 sq0 => enK h fun h0 =>
 after (fun x0 h1 =>
 kFieldA 0 x0 (fun x2 =>
 kLoad x2 h1 (fun x3 =>
 kI64 .eql x3 (Value.int .i64 (.ofNat 0)) (fun x4 =>
 gdT x4 h1 (fun k5 => kFieldA 1 x0 (fun x6 => k5 x6 h1)) (fun x7 h8 =>
 gdT x4 h8 (fun k9 => kLoad x7 h8 (fun x10 => k9 x10 h8)) (fun x11 h12 =>
 gdT x4 h12 (fun k13 => kI64 .eql x11 (Value.int .i64 (.ofNat 0)) (fun x14 => k13 x14 h12)) (fun x15 h16 =>
 after (fun x17 h18 =>
 gdT x17 h18 (fun k19 => kFieldA 2 x0 (fun x20 => k19 x20 h18)) (fun x21 h22 =>
 gdT x17 h22 (fun k23 => kLoad x21 h22 (fun x24 => k23 x24 h22)) (fun x25 h26 =>
 gdT x17 h26 (fun k27 => kI64 .eql x25 (Value.int .i64 (.ofNat 0)) (fun x28 => k27 x28 h26)) (fun x29 h30 =>
 after (fun x31 h32 =>
 gdT x31 h32 (fun k33 => kFieldA 3 x0 (fun x34 => k33 x34 h32)) (fun x35 h36 =>
 gdT x31 h36 (fun k37 => kLoad x35 h36 (fun x38 => k37 x38 h36)) (fun x39 h40 =>
 gdT x31 h40 (fun k41 => kLenV x39 (fun x42 => k41 x42 h40)) (fun x43 h44 =>
 gdT x31 h44 (fun k45 => kI64 .eql x43 (Value.int .i64 (.ofNat 0)) (fun x46 => k45 x46 h44)) (fun x47 h48 =>
 after (fun x49 h50 =>
 clrK h x49 h50) (pickB (.c x47) (.c (Value.bool false)) enE h48 x31)))))) (pickB (.c x29) (.c (Value.bool false)) enE h30 x17))))) (pickB (.c x15) (.c (Value.bool false)) enE h16 x4)))))))) (oBox 33 (.c a0) enE h0)
theorem q53 (R : RnK) (N : Nat) (args : List Value) (h : Hs) : r53 R N args h = callT Try.prog N R 53 args h := by kernel_rfl
noncomputable def r54 (R : RnK) (N : Nat) (args : List Value) (h : Hs) : An := unC args fun a0 sq0 => unC sq0 fun a1 sq1 => unC sq1 fun a2 sq2 => enK h fun h0 =>
 kI64 .geq a0 a1 (fun x0 =>
 gdT x0 h0 (fun k1 => k1 a0 h0) (fun x2 h3 =>
 gdT x0 h3 (fun k4 => k4 a2 h3) (fun x5 h6 =>
 gdT x0 h6 (fun k7 => kI64 .leq x2 x5 (fun x8 => k7 x8 h6)) (fun x9 h10 =>
 after (fun x11 h12 =>
 clrK h x11 h12) (pickB (.c x9) (.c (Value.bool false)) enE h10 x0)))))
theorem q54 (R : RnK) (N : Nat) (args : List Value) (h : Hs) : r54 R N args h = callT Try.prog N R 54 args h := by kernel_rfl
noncomputable def r55 (R : RnK) (N : Nat) (args : List Value) (h : Hs) : An := unC args fun a0 sq0 => unC sq0 fun a1 sq1 => enK h fun h0 =>
 after (fun x0 h1 =>
 after (fun x2 h3 =>
 kFieldA 0 x2 (fun x4 =>
 kLoad x4 h3 (fun x5 =>
 jn (fun (x7 x8 x9 : Value) (h10 : Hs) =>
 kFieldA 2 x2 (fun x11 =>
 kLoad x11 h10 (fun x12 =>
 kCall R 54 [x12, (Value.int .i64 (.ofNat 1)), (Value.int .i64 (.ofNat 400))] h10 (fun x13 h14 =>
 clrK h x13 h14)))) fun k6 =>
 kI64 .eql x5 (Value.int .i64 (.ofNat 1)) (fun x15 =>
 jn (fun (x17 x18 : Value) (h19 : Hs) =>
 k6 x15 x17 x18 h19) fun k16 =>
 cnd x15
 (kFieldA 2 x2 (fun x20 =>
 kLoad x20 h3 (fun x21 =>
 kCall R 54 [x21, (Value.int .i64 (.ofNat 0)), (Value.int .i64 (.ofNat 4096))] h3 (fun x22 h23 =>
 clrK h x22 h23))))
 (kI64 .eql x5 (Value.int .i64 (.ofNat 2)) (fun x24 =>
 jn (fun (x26 : Value) (h27 : Hs) =>
 k16 x24 x26 h27) fun k25 =>
 cnd x24
 (kFieldA 2 x2 (fun x28 =>
 kLoad x28 h3 (fun x29 =>
 kFieldA 0 x0 (fun x30 =>
 kLoad x30 h3 (fun x31 =>
 after (fun x32 h33 =>
 kCall R 54 [x29, (Value.int .i64 (.ofNat 0)), x32] h33 (fun x34 h35 =>
 clrK h x34 h35)) (oMinmax false [.c x31, .c (Value.int .i64 (.ofNat 4096))] enE h3))))))
 (k25 (Value.bool false) h3))))))) (oBox 33 (.c a1) enE h1)) (oBox 45 (.c a0) enE h0)
theorem q55 (R : RnK) (N : Nat) (args : List Value) (h : Hs) : r55 R N args h = callT Try.prog N R 55 args h := by kernel_rfl
noncomputable def r56 (R : RnK) (N : Nat) (args : List Value) (h : Hs) : An := unC args fun a0 sq0 => unC sq0 fun a1 sq1 => enK h fun h0 =>
 after (fun x0 h1 =>
 after (fun x2 h3 =>
 kLoads 4 x0 h3 (fun x4 =>
 kCall R 44 [x4] h3 (fun x5 h6 =>
 kExtr x5 0 (fun x7 =>
 kExtr x5 1 (fun x8 =>
 kFieldA 0 x2 (fun x9 =>
 kLoad x9 h6 (fun x10 =>
 kI64 .eql x10 (Value.int .i64 (.ofNat 2)) (fun x11 =>
 gdT x11 h6 (fun k12 => kFieldA 3 x2 (fun x13 => k12 x13 h6)) (fun x14 h15 =>
 gdT x11 h15 (fun k16 => kLoad x14 h15 (fun x17 => k16 x17 h15)) (fun x18 h19 =>
 gdT x11 h19 (fun k20 => k20 x7 h19) (fun x21 h22 =>
 gdT x11 h22 (fun k23 => k23 x8 h22) (fun x24 h25 =>
 gdT x11 h25 (fun k26 => after (k26) (oBuild [(Value.int .i64 (.ofNat 0)), (Value.int .i64 (.ofNat 0))] [(0, 1, .c x21), (1, 1, .c x24)] enE h25)) (fun x27 h28 =>
 gdT x11 h28 (fun k29 => after (k29) (oMkrow 87 2 1 [(Value.int .i64 (.ofNat 0)), (Value.int .i64 (.ofNat 0))] [(0, 2, .c x27)] enE h28)) (fun x30 h31 =>
 gdT x11 h31 (fun k32 => kCall R 72 [x18, x30] h31 (k32)) (fun x33 h34 =>
 after (fun x35 h36 =>
 jn (fun (x38 : Value) (h39 : Hs) =>
 kLoads 4 x0 h39 (fun x40 =>
 kCall R 47 [x40] h39 (fun x41 h42 =>
 kExtr x41 0 (fun x43 =>
 kExtr x41 1 (fun x44 =>
 kFieldA 3 x2 (fun x45 =>
 kLoad x45 h42 (fun x46 =>
 kLenV x46 (fun x47 =>
 jn (fun (x49 x50 x51 x52 x53 x54 x55 x56 x57 x58 x59 x60 : Value) (h61 : Hs) =>
 clrK h (Value.bool true) h61) fun k48 =>
 lpT (T := Value → Value → Value → Value → Value → Value → Value → Value → Value → Value → Value → Value → Hs → An) (fun _ _ _ _ _ _ _ _ _ _ _ _ _ => none) N (fun k62 =>
 fun (x64 x65 x66 x67 x68 x69 x70 x71 x72 x73 x74 x75 : Value) (h76 : Hs) =>
 kI64 .lss x64 x47 (fun x77 =>
 jn (fun (h79 : Hs) =>
 jn (fun (x81 x82 x83 x84 x85 x86 x87 x88 x89 x90 : Value) (h91 : Hs) =>
 kI64 .add x64 (Value.int .i64 (.ofNat 1)) (fun x92 =>
 k62 x92 x77 x81 x82 x83 x84 x85 x86 x87 x88 x89 x90 h91)) fun k80 =>
 kIdxA 2 x46 x64 (fun x93 =>
 kLoads 2 x93 h79 (fun x94 =>
 after (fun x95 h96 =>
 after (fun x97 h98 =>
 kFieldA 1 x95 (fun x99 =>
 kLoad x99 h98 (fun x100 =>
 kI64 .lss x100 (Value.int .i64 (.ofNat 1)) (fun x101 =>
 gdF x101 h98 (fun k102 => kFieldA 0 x95 (fun x103 => k102 x103 h98)) (fun x104 h105 =>
 gdF x101 h105 (fun k106 => kLoad x104 h105 (fun x107 => k106 x107 h105)) (fun x108 h109 =>
 gdF x101 h109 (fun k110 => k110 x43 h109) (fun x111 h112 =>
 gdF x101 h112 (fun k113 => kI64 .lss x108 x111 (fun x114 => k113 x114 h112)) (fun x115 h116 =>
 after (fun x117 h118 =>
 gdF x117 h118 (fun k119 => kFieldA 0 x95 (fun x120 => k119 x120 h118)) (fun x121 h122 =>
 gdF x117 h122 (fun k123 => kLoad x121 h122 (fun x124 => k123 x124 h122)) (fun x125 h126 =>
 gdF x117 h126 (fun k127 => k127 x43 h126) (fun x128 h129 =>
 gdF x117 h129 (fun k130 => kI64 .sub x125 x128 (fun x131 => k130 x131 h129)) (fun x132 h133 =>
 gdF x117 h133 (fun k134 => k134 x44 h133) (fun x135 h136 =>
 gdF x117 h136 (fun k137 => kI64 .geq x132 x135 (fun x138 => k137 x138 h136)) (fun x139 h140 =>
 after (fun x141 h142 =>
 gdF x141 h142 (fun k143 => kFieldA 1 x95 (fun x144 => k143 x144 h142)) (fun x145 h146 =>
 gdF x141 h146 (fun k147 => kLoad x145 h146 (fun x148 => k147 x148 h146)) (fun x149 h150 =>
 gdF x141 h150 (fun k151 => k151 x44 h150) (fun x152 h153 =>
 gdF x141 h153 (fun k154 => kFieldA 0 x95 (fun x155 => k154 x155 h153)) (fun x156 h157 =>
 gdF x141 h157 (fun k158 => kLoad x156 h157 (fun x159 => k158 x159 h157)) (fun x160 h161 =>
 gdF x141 h161 (fun k162 => k162 x43 h161) (fun x163 h164 =>
 gdF x141 h164 (fun k165 => kI64 .sub x160 x163 (fun x166 => k165 x166 h164)) (fun x167 h168 =>
 gdF x141 h168 (fun k169 => kI64 .sub x152 x167 (fun x170 => k169 x170 h168)) (fun x171 h172 =>
 gdF x141 h172 (fun k173 => kI64 .gtr x149 x171 (fun x174 => k173 x174 h172)) (fun x175 h176 =>
 after (fun x177 h178 =>
 jn (fun (x180 : Value) (h181 : Hs) =>
 kFieldA 3 x2 (fun x182 =>
 kLoad x182 h181 (fun x183 =>
 after (fun x184 h185 =>
 kLenV x184 (fun x186 =>
 jn (fun (x188 x189 x190 x191 x192 : Value) (h193 : Hs) =>
 k80 x95 x177 x64 x188 x186 x189 x184 x190 x191 x192 h193) fun k187 =>
 lpT (T := Value → Value → Value → Value → Value → Hs → An) (fun _ _ _ _ _ _ => none) N (fun k194 =>
 fun (x196 x197 x198 x199 x200 : Value) (h201 : Hs) =>
 kI64 .lss x196 x186 (fun x202 =>
 jn (fun (h204 : Hs) =>
 jn (fun (x206 x207 x208 : Value) (h209 : Hs) =>
 kI64 .add x196 (Value.int .i64 (.ofNat 1)) (fun x210 =>
 k194 x210 x202 x206 x207 x208 h209)) fun k205 =>
 kIdxA 2 x184 x196 (fun x211 =>
 kLoads 2 x211 h204 (fun x212 =>
 after (fun x213 h214 =>
 after (fun x215 h216 =>
 kFieldA 0 x95 (fun x217 =>
 kLoad x217 h216 (fun x218 =>
 kFieldA 0 x213 (fun x219 =>
 kLoad x219 h216 (fun x220 =>
 kFieldA 1 x213 (fun x221 =>
 kLoad x221 h216 (fun x222 =>
 kI64 .add x220 x222 (fun x223 =>
 kI64 .lss x218 x223 (fun x224 =>
 gdT x224 h216 (fun k225 => kFieldA 0 x213 (fun x226 => k225 x226 h216)) (fun x227 h228 =>
 gdT x224 h228 (fun k229 => kLoad x227 h228 (fun x230 => k229 x230 h228)) (fun x231 h232 =>
 gdT x224 h232 (fun k233 => kFieldA 0 x95 (fun x234 => k233 x234 h232)) (fun x235 h236 =>
 gdT x224 h236 (fun k237 => kLoad x235 h236 (fun x238 => k237 x238 h236)) (fun x239 h240 =>
 gdT x224 h240 (fun k241 => kFieldA 1 x95 (fun x242 => k241 x242 h240)) (fun x243 h244 =>
 gdT x224 h244 (fun k245 => kLoad x243 h244 (fun x246 => k245 x246 h244)) (fun x247 h248 =>
 gdT x224 h248 (fun k249 => kI64 .add x239 x247 (fun x250 => k249 x250 h248)) (fun x251 h252 =>
 gdT x224 h252 (fun k253 => kI64 .lss x231 x251 (fun x254 => k253 x254 h252)) (fun x255 h256 =>
 after (fun x257 h258 =>
 jn (fun (x260 : Value) (h261 : Hs) =>
 k205 x213 x257 x260 h261) fun k259 =>
 cnd x257
 (clrK h (Value.bool false) h258)
 (k259 x200 h258)) (pickB (.c x255) (.c (Value.bool false)) enE h256 x224)))))))))))))))))) (store1 2 h214 (cellsL x212) (addrOf x213))) (oAlloc 87 [(Value.int .i64 (.ofNat 0)), (Value.int .i64 (.ofNat 0))] enE h204)))) fun k203 =>
 cnd x202
 (k203 h201)
 (k187 x196 x202 x198 x199 x200 h201))) (Value.int .i64 (.ofNat 0)) x71 x73 x74 x180 h185)) (oSlice 2 (.c x183) none (some (.c x64)) none enE h181)))) fun k179 =>
 cnd x177
 (clrK h (Value.bool false) h178)
 (k179 x75 h178)) (pickB (.c (Value.bool true)) (.c x175) enE h176 x141))))))))))) (pickB (.c (Value.bool true)) (.c x139) enE h140 x117)))))))) (pickB (.c (Value.bool true)) (.c x115) enE h116 x101))))))))) (store1 2 h96 (cellsL x94) (addrOf x95))) (oAlloc 87 [(Value.int .i64 (.ofNat 0)), (Value.int .i64 (.ofNat 0))] enE h79)))) fun k78 =>
 cnd x77
 (k78 h76)
 (k48 x64 x77 x66 x67 x68 x69 x70 x71 x72 x73 x74 x75 h76))) (Value.int .i64 (.ofNat 0)) dunno dunno dunno dunno dunno dunno dunno dunno dunno dunno x38 h42)))))))) fun k37 =>
 cnd x35
 (clrK h (Value.bool true) h36)
 (k37 (Value.bool false) h36)) (pickB (.c x33) (.c (Value.bool false)) enE h34 x11)))))))))))))))) (oBox 33 (.c a1) enE h1)) (oBox 45 (.c a0) enE h0)
theorem q56 (R : RnK) (N : Nat) (args : List Value) (h : Hs) : r56 R N args h = callT Try.prog N R 56 args h := by kernel_rfl
noncomputable def r57 (R : RnK) (N : Nat) (args : List Value) (h : Hs) : An := unC args fun a0 sq0 => enK h fun h0 =>
 after (fun x0 h1 =>
 jn (fun (x3 x4 x5 x6 : Value) (h7 : Hs) =>
 clrK h (Value.int .i64 (.ofNat 0)) h7) fun k2 =>
 kFieldA 2 x0 (fun x8 =>
 kLoad x8 h1 (fun x9 =>
 kI64 .lss x9 (Value.int .i64 (.ofNat 0)) (fun x10 =>
 jn (fun (x12 x13 x14 : Value) (h15 : Hs) =>
 k2 x10 x12 x13 x14 h15) fun k11 =>
 cnd x10
 (clrK h (Value.int .i64 (.ofNat 0)) h1)
 (kFieldA 0 x0 (fun x16 =>
 kLoad x16 h1 (fun x17 =>
 kI64 .eql x17 (Value.int .i64 (.ofNat 2)) (fun x18 =>
 jn (fun (x20 x21 : Value) (h22 : Hs) =>
 k11 x18 x20 x21 h22) fun k19 =>
 cnd x18
 (kFieldA 2 x0 (fun x23 =>
 kLoad x23 h1 (fun x24 =>
 clrK h x24 h1)))
 (kFieldA 0 x0 (fun x25 =>
 kLoad x25 h1 (fun x26 =>
 kI64 .eql x26 (Value.int .i64 (.ofNat 1)) (fun x27 =>
 jn (fun (x29 : Value) (h30 : Hs) =>
 jn (fun (x32 : Value) (h33 : Hs) =>
 k19 x29 x32 h33) fun k31 =>
 cnd x29
 (kFieldA 2 x0 (fun x34 =>
 kLoad x34 h30 (fun x35 =>
 kI64 .quo x35 (Value.int .i64 (.ofNat 64)) (fun x36 =>
 kFieldA 2 x0 (fun x37 =>
 kLoad x37 h30 (fun x38 =>
 kI64 .rem x38 (Value.int .i64 (.ofNat 64)) (fun x39 =>
 after (fun x40 h41 =>
 kI64 .add x36 x40 (fun x42 =>
 clrK h x42 h41)) (oMinmax false [.c x39, .c (Value.int .i64 (.ofNat 1))] enE h30))))))))
 (k31 (Value.int .i64 (.ofNat 0)) h30)) fun k28 =>
 cnd x27
 (k28 x27 h1)
 (kFieldA 0 x0 (fun x43 =>
 kLoad x43 h1 (fun x44 =>
 kI64 .eql x44 (Value.int .i64 (.ofNat 3)) (fun x45 =>
 k28 x45 h1)))))))))))))))) (oBox 33 (.c a0) enE h0)
theorem q57 (R : RnK) (N : Nat) (args : List Value) (h : Hs) : r57 R N args h = callT Try.prog N R 57 args h := by kernel_rfl
noncomputable def r58 (R : RnK) (N : Nat) (args : List Value) (h : Hs) : An := unC args fun a0 sq0 => enK h fun h0 =>
 after (fun x0 h1 =>
 kFieldA 0 x0 (fun x2 =>
 kLoad x2 h1 (fun x3 =>
 kI64 .eql x3 (Value.int .i64 (.ofNat 0)) (fun x4 =>
 jn (fun (x6 : Value) (h7 : Hs) =>
 kFieldA 0 x0 (fun x8 =>
 kLoad x8 h7 (fun x9 =>
 kCall R 54 [x9, (Value.int .i64 (.ofNat 1)), (Value.int .i64 (.ofNat 3))] h7 (fun x10 h11 =>
 kNot x10 (fun x12 =>
 gdF x12 h11 (fun k13 => kFieldA 1 x0 (fun x14 => k13 x14 h11)) (fun x15 h16 =>
 gdF x12 h16 (fun k17 => kLoad x15 h16 (fun x18 => k17 x18 h16)) (fun x19 h20 =>
 gdF x12 h20 (fun k21 => kCall R 54 [x19, (Value.int .i64 (.ofNat 0)), (Value.int .i64 (.ofNat 16777215))] h20 (k21)) (fun x22 h23 =>
 gdF x12 h23 (fun k24 => kNot x22 (fun x25 => k24 x25 h23)) (fun x26 h27 =>
 after (fun x28 h29 =>
 gdF x28 h29 (fun k30 => kFieldA 2 x0 (fun x31 => k30 x31 h29)) (fun x32 h33 =>
 gdF x28 h33 (fun k34 => kLoad x32 h33 (fun x35 => k34 x35 h33)) (fun x36 h37 =>
 gdF x28 h37 (fun k38 => kCall R 54 [x36, (Value.int .i64 (.ofNat 0)), (Value.int .i64 (.ofNat 1099511627776))] h37 (k38)) (fun x39 h40 =>
 gdF x28 h40 (fun k41 => kNot x39 (fun x42 => k41 x42 h40)) (fun x43 h44 =>
 after (fun x45 h46 =>
 gdF x45 h46 (fun k47 => kFieldA 3 x0 (fun x48 => k47 x48 h46)) (fun x49 h50 =>
 gdF x45 h50 (fun k51 => kLoad x49 h50 (fun x52 => k51 x52 h50)) (fun x53 h54 =>
 gdF x45 h54 (fun k55 => kLenV x53 (fun x56 => k55 x56 h54)) (fun x57 h58 =>
 gdF x45 h58 (fun k59 => kI64 .gtr x57 (Value.int .i64 (.ofNat 4)) (fun x60 => k59 x60 h58)) (fun x61 h62 =>
 after (fun x63 h64 =>
 jn (fun (x66 : Value) (h67 : Hs) =>
 kFieldA 3 x0 (fun x68 =>
 kLoad x68 h67 (fun x69 =>
 kCall R 73 [x69, (Value.func (.func 74) #[] #[])] h67 (fun x70 h71 =>
 kNot x70 (fun x72 =>
 clrK h x72 h71))))) fun k65 =>
 cnd x63
 (clrK h (Value.bool false) h64)
 (k65 x6 h64)) (pickB (.c (Value.bool true)) (.c x61) enE h62 x45)))))) (pickB (.c (Value.bool true)) (.c x43) enE h44 x28)))))) (pickB (.c (Value.bool true)) (.c x26) enE h27 x12)))))))))) fun k5 =>
 cnd x4
 (kLoads 4 x0 h1 (fun x73 =>
 kCall R 53 [x73] h1 (fun x74 h75 =>
 clrK h x74 h75)))
 (k5 (Value.bool false) h1))))) (oBox 33 (.c a0) enE h0)
theorem q58 (R : RnK) (N : Nat) (args : List Value) (h : Hs) : r58 R N args h = callT Try.prog N R 58 args h := by kernel_rfl
noncomputable def r59 (R : RnK) (N : Nat) (args : List Value) (h : Hs) : An := unC args fun a0 sq0 => enK h fun h0 =>
 kCall R 75 [(Value.int .u64 (.ofNat 7811896474847682849)), a0] h0 (fun x0 h1 =>
 clrK h x0 h1)
theorem q59 (R : RnK) (N : Nat) (args : List Value) (h : Hs) : r59 R N args h = callT Try.prog N R 59 args h := by kernel_rfl
noncomputable def r62 (R : RnK) (N : Nat) (args : List Value) (h : Hs) : An := unC args fun a0 sq0 => enK h fun h0 =>
 kLenV a0 (fun x0 =>
 jn (fun (x2 x3 x4 x5 x6 : Value) (h7 : Hs) =>
 clrK h x6 h7) fun k1 =>
 lpT (T := Value → Value → Value → Value → Value → Hs → An) (fun _ _ _ _ _ _ => none) N (fun k8 =>
 fun (x10 x11 x12 x13 x14 : Value) (h15 : Hs) =>
 kI64 .lss x10 x0 (fun x16 =>
 jn (fun (h18 : Hs) =>
 jn (fun (x20 x21 x22 : Value) (h23 : Hs) =>
 kI64 .add x10 (Value.int .i64 (.ofNat 1)) (fun x24 =>
 k8 x24 x16 x20 x21 x22 h23)) fun k19 =>
 kIdxA 2 a0 x10 (fun x25 =>
 kLoads 2 x25 h18 (fun x26 =>
 after (fun x27 h28 =>
 after (fun x29 h30 =>
 kFieldA 1 x27 (fun x31 =>
 kLoad x31 h30 (fun x32 =>
 kI64 .geq x32 (Value.int .i64 (.ofNat 1)) (fun x33 =>
 gdT x33 h30 (fun k34 => kFieldA 1 x27 (fun x35 => k34 x35 h30)) (fun x36 h37 =>
 gdT x33 h37 (fun k38 => kLoad x36 h37 (fun x39 => k38 x39 h37)) (fun x40 h41 =>
 gdT x33 h41 (fun k42 => kI64 .leq x40 (Value.int .i64 (.ofNat 1073741824)) (fun x43 => k42 x43 h41)) (fun x44 h45 =>
 after (fun x46 h47 =>
 gdT x46 h47 (fun k48 => kFieldA 0 x27 (fun x49 => k48 x49 h47)) (fun x50 h51 =>
 gdT x46 h51 (fun k52 => kLoad x50 h51 (fun x53 => k52 x53 h51)) (fun x54 h55 =>
 gdT x46 h55 (fun k56 => kI64 .geq x54 (Value.int .i64 (.ofNat 0)) (fun x57 => k56 x57 h55)) (fun x58 h59 =>
 after (fun x60 h61 =>
 gdT x60 h61 (fun k62 => kFieldA 0 x27 (fun x63 => k62 x63 h61)) (fun x64 h65 =>
 gdT x60 h65 (fun k66 => kLoad x64 h65 (fun x67 => k66 x67 h65)) (fun x68 h69 =>
 gdT x60 h69 (fun k70 => kI64 .leq x68 (Value.int .i64 (.ofNat 1073741824)) (fun x71 => k70 x71 h69)) (fun x72 h73 =>
 after (fun x74 h75 =>
 jn (fun (x77 : Value) (h78 : Hs) =>
 k19 x27 x74 x77 h78) fun k76 =>
 cnd x74
 (kLoads 2 x27 h75 (fun x79 =>
 after (fun x80 h81 =>
 after (fun x82 h83 =>
 k76 x82 h83) (app0 87 2 16 h81 x14 x80)) (oMkrow 87 2 1 [(Value.int .i64 (.ofNat 0)), (Value.int .i64 (.ofNat 0))] [(0, 2, .c x79)] enE h75)))
 (k76 x14 h75)) (pickB (.c x72) (.c (Value.bool false)) enE h73 x60))))) (pickB (.c x58) (.c (Value.bool false)) enE h59 x46))))) (pickB (.c x44) (.c (Value.bool false)) enE h45 x33)))))))) (store1 2 h28 (cellsL x26) (addrOf x27))) (oAlloc 87 [(Value.int .i64 (.ofNat 0)), (Value.int .i64 (.ofNat 0))] enE h18)))) fun k17 =>
 cnd x16
 (k17 h15)
 (k1 x10 x16 x12 x13 x14 h15))) (Value.int .i64 (.ofNat 0)) dunno dunno dunno (Value.slice none 0 0) h0)
theorem q62 (R : RnK) (N : Nat) (args : List Value) (h : Hs) : r62 R N args h = callT Try.prog N R 62 args h := by kernel_rfl
noncomputable def r64 (R : RnK) (N : Nat) (args : List Value) (h : Hs) : An := unC args fun a0 sq0 => unC sq0 fun a1 sq1 => enK h fun h0 =>
 kLenV a0 (fun x0 =>
 kLenV a1 (fun x1 =>
 kI64 .neq x0 x1 (fun x2 =>
 jn (fun (x4 : Value) (h5 : Hs) =>
 kLenV a0 (fun x6 =>
 jn (fun (x8 x9 x10 x11 x12 : Value) (h13 : Hs) =>
 clrK h (Value.bool true) h13) fun k7 =>
 lpT (T := Value → Value → Value → Value → Value → Hs → An) (fun _ _ _ _ _ _ => none) N (fun k14 =>
 fun (x16 x17 x18 x19 x20 : Value) (h21 : Hs) =>
 kI64 .lss x16 x6 (fun x22 =>
 jn (fun (h24 : Hs) =>
 jn (fun (x26 x27 x28 : Value) (h29 : Hs) =>
 kI64 .add x16 (Value.int .i64 (.ofNat 1)) (fun x30 =>
 k14 x30 x22 x26 x27 x28 h29)) fun k25 =>
 kIdxA 1 a0 x16 (fun x31 =>
 kLoad x31 (Hs.mk h24.hp h24.nx h24.nx) (fun x32 =>
 kIdxA 1 a1 x16 (fun x33 =>
 kLoad x33 (Hs.mk h24.hp h24.nx h24.nx) (fun x34 =>
 kU64 .neq x32 x34 (fun x35 =>
 jn (fun (x37 : Value) (h38 : Hs) =>
 k25 x16 x35 x37 h38) fun k36 =>
 cnd x35
 (clrK h (Value.bool false) h24)
 (k36 x20 h24))))))) fun k23 =>
 cnd x22
 (k23 h21)
 (k7 x16 x22 x18 x19 x20 h21))) (Value.int .i64 (.ofNat 0)) dunno dunno dunno x4 h5)) fun k3 =>
 cnd x2
 (clrK h (Value.bool false) h0)
 (k3 (Value.bool false) h0))))
theorem q64 (R : RnK) (N : Nat) (args : List Value) (h : Hs) : r64 R N args h = callT Try.prog N R 64 args h := by kernel_rfl
noncomputable def r67 (R : RnK) (N : Nat) (args : List Value) (h : Hs) : An := unC args fun a0 sq0 => unC sq0 fun a1 sq1 => enK h fun h0 =>
 kCall R 84 [a0, a1] h0 (fun x0 h1 =>
 kI64 .geq x0 (Value.int .i64 (.ofNat 0)) (fun x2 =>
 clrK h x2 h1))
theorem q67 (R : RnK) (N : Nat) (args : List Value) (h : Hs) : r67 R N args h = callT Try.prog N R 67 args h := by kernel_rfl
noncomputable def r68 (R : RnK) (N : Nat) (args : List Value) (h : Hs) : An := unC args fun a0 sq0 => unC sq0 fun a1 sq1 => enK h fun h0 =>
 kCall R 85 [a0] h0 (fun x0 h1 =>
 kNil a0 (fun x2 =>
 kFieldA 1 x2 (fun x3 =>
 kLoad x3 h1 (fun x4 =>
 after (fun x5 h6 =>
 after (fun x7 h8 =>
 kNil a0 (fun x9 =>
 kFieldA 1 x9 (fun x10 =>
 kStore1 x10 x7 h8 (fun x11 h12 =>
 clrK h Value.nilIface h12)))) (app0 5 1 1 h6 x4 x5)) (oMkrow 5 1 1 [(Value.int .u8 (.ofNat 0))] [(0, 1, .c a1)] enE h1)))))
theorem q68 (R : RnK) (N : Nat) (args : List Value) (h : Hs) : r68 R N args h = callT Try.prog N R 68 args h := by kernel_rfl
noncomputable def r69 (R : RnK) (N : Nat) (args : List Value) (h : Hs) : An := unC args fun a0 sq0 => enK h fun h0 =>
 kNil a0 (fun x0 =>
 kFieldA 1 x0 (fun x1 =>
 kLoad x1 (Hs.mk h0.hp h0.nx h0.nx) (fun x2 =>
 after (fun v13 u14 => dPut (fun x3 h4 =>
 kNil a0 (fun x5 =>
 kFieldA 1 x5 (fun x6 =>
 kLoad x6 (dHidS .light [true, true, true, false, false, false, false, false] [none, none, none, some (h0.nx, h4.nx), none, none, none, none] h4) (fun x7 =>
 kLenV x7 (fun x8 =>
 after (fun v11 u12 => dPut (fun x9 h10 =>
 clrK h x9 h10) v11 (dNext h4 u12 .bar) (andB (dFit h4 u12 .bar) (Nat.ble 0 u12.lo))) (ustr1 5 h4 x3 (nat64 x8))))))) v13 (dNext h0 u14 .light) (andB (dFit h0 u14 .light) (Nat.ble 0 u14.lo))) (ret1 (Hs.mk h0.hp h0.nx h0.nx) (sdata1 x2)))))
theorem q69 (R : RnK) (N : Nat) (args : List Value) (h : Hs) : r69 R N args h = callT Try.prog N R 69 args h := by kernel_rfl
noncomputable def r71 (R : RnK) (N : Nat) (args : List Value) (h : Hs) : An := unC args fun a0 sq0 => enK h fun h0 =>
 after (fun x0 h1 =>
 kLoads 4 x0 h1 (fun x2 =>
 kCall R 52 [x2] h1 (fun x3 h4 =>
 kExtr x3 0 (fun x5 =>
 kExtr x3 1 (fun x6 =>
 kI64 .add x5 x6 (fun x7 =>
 kFieldA 1 x0 (fun x8 =>
 kLoad x8 h4 (fun x9 =>
 kI64 .mul (Value.int .i64 (.ofNat 2)) x9 (fun x10 =>
 kI64 .add x7 x10 (fun x11 =>
 kFieldA 0 x0 (fun x12 =>
 kLoad x12 h4 (fun x13 =>
 kI64 .sub x13 (Value.int .i64 (.ofNat 1)) (fun x14 =>
 kI64 .sub x14 x11 (fun x15 =>
 clrK h (Value.tuple #[x11, x15]) h4)))))))))))))) (oBox 45 (.c a0) enE h0)
theorem q71 (R : RnK) (N : Nat) (args : List Value) (h : Hs) : r71 R N args h = callT Try.prog N R 71 args h := by kernel_rfl
noncomputable def r72 (R : RnK) (N : Nat) (args : List Value) (h : Hs) : An := unC args fun a0 sq0 => unC sq0 fun a1 sq1 => enK h fun h0 =>
 kLenV a0 (fun x0 =>
 kLenV a1 (fun x1 =>
 kI64 .neq x0 x1 (fun x2 =>
 jn (fun (x4 : Value) (h5 : Hs) =>
 kLenV a0 (fun x6 =>
 jn (fun (x8 x9 x10 x11 x12 : Value) (h13 : Hs) =>
 clrK h (Value.bool true) h13) fun k7 =>
 lpT (T := Value → Value → Value → Value → Value → Hs → An) (fun _ _ _ _ _ _ => none) N (fun k14 =>
 fun (x16 x17 x18 x19 x20 : Value) (h21 : Hs) =>
 kI64 .lss x16 x6 (fun x22 =>
 jn (fun (h24 : Hs) =>
 jn (fun (x26 x27 x28 : Value) (h29 : Hs) =>
 kI64 .add x16 (Value.int .i64 (.ofNat 1)) (fun x30 =>
 k14 x30 x22 x26 x27 x28 h29)) fun k25 =>
 kIdxA 2 a0 x16 (fun x31 =>
 kLoads 2 x31 (Hs.mk h24.hp h24.nx h24.nx) (fun x32 =>
 kIdxA 2 a1 x16 (fun x33 =>
 kLoads 2 x33 (Hs.mk h24.hp h24.nx h24.nx) (fun x34 =>
 obK (fun x35 =>
 jn (fun (x37 : Value) (h38 : Hs) =>
 k25 x16 x35 x37 h38) fun k36 =>
 cnd x35
 (clrK h (Value.bool false) h24)
 (k36 x20 h24)) (e2 true (qA [.i, .i]) x32 x34)))))) fun k23 =>
 cnd x22
 (k23 h21)
 (k7 x16 x22 x18 x19 x20 h21))) (Value.int .i64 (.ofNat 0)) dunno dunno dunno x4 h5)) fun k3 =>
 cnd x2
 (clrK h (Value.bool false) h0)
 (k3 (Value.bool false) h0))))
theorem q72 (R : RnK) (N : Nat) (args : List Value) (h : Hs) : r72 R N args h = callT Try.prog N R 72 args h := by kernel_rfl
noncomputable def r73 (R : RnK) (N : Nat) (args : List Value) (h : Hs) : An := unC args fun a0 sq0 => unC sq0 fun a1 sq1 => enK h fun h0 =>
 kCall R 86 [a0, a1] h0 (fun x0 h1 =>
 kI64 .geq x0 (Value.int .i64 (.ofNat 0)) (fun x2 =>
 clrK h x2 h1))
theorem q73 (R : RnK) (N : Nat) (args : List Value) (h : Hs) : r73 R N args h = callT Try.prog N R 73 args h := by kernel_rfl
noncomputable def r74 (R : RnK) (N : Nat) (args : List Value) (h : Hs) : An := unC args fun a0 sq0 => enK h fun h0 =>
 after (fun x0 h1 =>
 kFieldA 0 x0 (fun x2 =>
 kLoad x2 h1 (fun x3 =>
 kCall R 54 [x3, (Value.int .i64 (.ofNat 0)), (Value.int .i64 (.ofNat 2147483648))] h1 (fun x4 h5 =>
 kNot x4 (fun x6 =>
 gdF x6 h5 (fun k7 => kFieldA 1 x0 (fun x8 => k7 x8 h5)) (fun x9 h10 =>
 gdF x6 h10 (fun k11 => kLoad x9 h10 (fun x12 => k11 x12 h10)) (fun x13 h14 =>
 gdF x6 h14 (fun k15 => kCall R 54 [x13, (Value.int .i64 (.ofNat 1)), (Value.int .i64 (.ofNat 2147483648))] h14 (k15)) (fun x16 h17 =>
 gdF x6 h17 (fun k18 => kNot x16 (fun x19 => k18 x19 h17)) (fun x20 h21 =>
 after (fun x22 h23 =>
 clrK h x22 h23) (pickB (.c (Value.bool true)) (.c x20) enE h21 x6)))))))))) (oBox 87 (.c a0) enE h0)
theorem q74 (R : RnK) (N : Nat) (args : List Value) (h : Hs) : r74 R N args h = callT Try.prog N R 74 args h := by kernel_rfl
noncomputable def r75 (R : RnK) (N : Nat) (args : List Value) (h : Hs) : An := unC args fun a0 sq0 => unC sq0 fun a1 sq1 => enK h fun h0 =>
 kLenV a1 (fun x0 =>
 jn (fun (x2 x3 x4 x5 : Value) (h6 : Hs) =>
 clrK h x4 h6) fun k1 =>
 lpT (T := Value → Value → Value → Value → Hs → An) (fun _ _ _ _ _ => none) N (fun k7 =>
 fun (x9 x10 x11 x12 : Value) (h13 : Hs) =>
 kI64 .lss x9 x0 (fun x14 =>
 jn (fun (h16 : Hs) =>
 jn (fun (x18 x19 : Value) (h20 : Hs) =>
 kI64 .add x9 (Value.int .i64 (.ofNat 1)) (fun x21 =>
 k7 x21 x14 x18 x19 h20)) fun k17 =>
 kIdxA 1 a1 x9 (fun x22 =>
 kLoad x22 h16 (fun x23 =>
 kCall R 87 [x11, (Value.int .i64 (.ofNat 9))] h16 (fun x24 h25 =>
 kU64 .xor x24 x23 (fun x26 =>
 k17 x26 x23 h25))))) fun k15 =>
 cnd x14
 (k15 h13)
 (k1 x9 x14 x11 x12 h13))) (Value.int .i64 (.ofNat 0)) dunno a0 dunno h0)
theorem q75 (R : RnK) (N : Nat) (args : List Value) (h : Hs) : r75 R N args h = callT Try.prog N R 75 args h := by kernel_rfl
noncomputable def r84 (R : RnK) (N : Nat) (args : List Value) (h : Hs) : An := unC args fun a0 sq0 => unC sq0 fun a1 sq1 => enK h fun h0 =>
 kCall R 91 [a0, a1] h0 (fun x0 h1 =>
 clrK h x0 h1)
theorem q84 (R : RnK) (N : Nat) (args : List Value) (h : Hs) : r84 R N args h = callT Try.prog N R 84 args h := by kernel_rfl
noncomputable def r86 (R : RnK) (N : Nat) (args : List Value) (h : Hs) : An := unC args fun a0 sq0 => unC sq0 fun a1 sq1 => enK h fun h0 =>
 kLenV a0 (fun x0 =>
 jn (fun (x2 x3 x4 x5 x6 : Value) (h7 : Hs) =>
 clrK h (Value.int .i64 (.negSucc 0)) h7) fun k1 =>
 lpT (T := Value → Value → Value → Value → Value → Hs → An) (fun _ _ _ _ _ _ => none) N (fun k8 =>
 fun (x10 x11 x12 x13 x14 : Value) (h15 : Hs) =>
 kI64 .lss x10 x0 (fun x16 =>
 jn (fun (h18 : Hs) =>
 jn (fun (x20 x21 x22 : Value) (h23 : Hs) =>
 kI64 .add x10 (Value.int .i64 (.ofNat 1)) (fun x24 =>
 k8 x24 x16 x20 x21 x22 h23)) fun k19 =>
 kIdxA 2 a0 x10 (fun x25 =>
 kLoads 2 x25 h18 (fun x26 =>
 kCallV R a1 [x26] h18 (fun x27 h28 =>
 jn (fun (x30 : Value) (h31 : Hs) =>
 k19 x10 x27 x30 h31) fun k29 =>
 cnd x27
 (clrK h x10 h28)
 (k29 x14 h28))))) fun k17 =>
 cnd x16
 (k17 h15)
 (k1 x10 x16 x12 x13 x14 h15))) (Value.int .i64 (.ofNat 0)) dunno dunno dunno (Value.int .i64 (.ofNat 0)) h0)
theorem q86 (R : RnK) (N : Nat) (args : List Value) (h : Hs) : r86 R N args h = callT Try.prog N R 86 args h := by kernel_rfl
noncomputable def r87 (R : RnK) (N : Nat) (args : List Value) (h : Hs) : An := unC args fun a0 sq0 => unC sq0 fun a1 sq1 => enK h fun h0 =>
 kToU a1 (fun x0 =>
 kU64 .and x0 (Value.int .u64 (.ofNat 63)) (fun x1 =>
 kShl a0 x1 (fun x2 =>
 kU64 .sub (Value.int .u64 (.ofNat 64)) x1 (fun x3 =>
 kShr a0 x3 (fun x4 =>
 kU64 .or x2 x4 (fun x5 =>
 clrK h x5 h0))))))
theorem q87 (R : RnK) (N : Nat) (args : List Value) (h : Hs) : r87 R N args h = callT Try.prog N R 87 args h := by kernel_rfl
noncomputable def r91 (R : RnK) (N : Nat) (args : List Value) (h : Hs) : An := unC args fun a0 sq0 => unC sq0 fun a1 sq1 => enK h fun h0 =>
 kLenS a1 (fun x0 =>
 jn (fun (x2 x3 x4 x5 x6 : Value) (h7 : Hs) =>
 after (fun x8 h9 =>
 after (fun x10 h11 =>
 kLenS a0 (fun x12 =>
 kI64 .sub x12 x0 (fun x13 =>
 kI64 .add x13 (Value.int .i64 (.ofNat 1)) (fun x14 =>
 jn (fun (x16 x17 x18 x19 x20 x21 x22 x23 x24 x25 x26 x27 x28 x29 : Value) (h30 : Hs) =>
 clrK h (Value.int .i64 (.negSucc 0)) h30) fun k15 =>
 lpT (T := Value → Value → Value → Value → Value → Value → Value → Value → Value → Value → Value → Value → Value → Value → Hs → An) (fun _ _ _ _ _ _ _ _ _ _ _ _ _ _ _ => none) N (fun k31 =>
 fun (x33 x34 x35 x36 x37 x38 x39 x40 x41 x42 x43 x44 x45 x46 : Value) (h47 : Hs) =>
 kI64 .lss x33 x14 (fun x48 =>
 jn (fun (h50 : Hs) =>
 jn (fun (x52 x53 x54 x55 x56 x57 x58 x59 x60 x61 x62 x63 x64 : Value) (h65 : Hs) =>
 k31 x52 x48 x53 x54 x55 x56 x57 x58 x59 x60 x61 x62 x63 x64 h65) fun k51 =>
 after (fun x66 h67 =>
 kU8 .neq x66 x8 (fun x68 =>
 jn (fun (x70 x71 x72 x73 : Value) (h74 : Hs) =>
 kI64 .add x70 (Value.int .i64 (.ofNat 1)) (fun x75 =>
 after (fun x76 h77 =>
 kU8 .eql x76 x10 (fun x78 =>
 gdT x78 h77 (fun k79 => k79 a0 h77) (fun x80 h81 =>
 gdT x78 h81 (fun k82 => k82 x70 h81) (fun x83 h84 =>
 gdT x78 h84 (fun k85 => k85 x70 h84) (fun x86 h87 =>
 gdT x78 h87 (fun k88 => k88 x0 h87) (fun x89 h90 =>
 gdT x78 h90 (fun k91 => kI64 .add x86 x89 (fun x92 => k91 x92 h90)) (fun x93 h94 =>
 gdT x78 h94 (fun k95 => after (k95) (oCutstr (.c x80) (some (.c x83)) (some (.c x93)) enE h94)) (fun x96 h97 =>
 gdT x78 h97 (fun k98 => k98 a1 h97) (fun x99 h100 =>
 gdT x78 h100 (fun k101 => obK (fun x102 => k101 x102 h100) (s2 .eql x96 x99)) (fun x103 h104 =>
 after (fun x105 h106 =>
 jn (fun (x108 : Value) (h109 : Hs) =>
 kI64 .add x70 (Value.int .i64 (.ofNat 1)) (fun x110 =>
 kI64 .add x39 (Value.int .i64 (.ofNat 1)) (fun x111 =>
 none))) fun k107 =>
 cnd x105
 (clrK h x70 h106)
 (k107 x73 h106)) (pickB (.c x103) (.c (Value.bool false)) enE h104 x78))))))))))) (oIdxS (.c a0) (.c x75) enE h74))) fun k69 =>
 cnd x68
 (kI64 .add x33 (Value.int .i64 (.ofNat 1)) (fun x196 =>
 after (fun x197 h198 =>
 kCall R 95 [x197, x8] h198 (fun x199 h200 =>
 kI64 .lss x199 (Value.int .i64 (.ofNat 0)) (fun x201 =>
 jn (fun (x203 : Value) (h204 : Hs) =>
 kI64 .add x199 (Value.int .i64 (.ofNat 1)) (fun x205 =>
 kI64 .add x33 x205 (fun x206 =>
 k69 x206 x199 x201 x203 h204))) fun k202 =>
 cnd x201
 (clrK h (Value.int .i64 (.negSucc 0)) h200)
 (k202 x46 h200)))) (oCutstr (.c a0) (some (.c x196)) (some (.c x14)) enE h67)))
 (k69 x33 x36 x37 x46 h67))) (oIdxS (.c a0) (.c x33) enE h50)) fun k49 =>
 cnd x48
 (k49 h47)
 (k15 x33 x48 x35 x36 x37 x38 x39 x40 x41 x42 x43 x44 x45 x46 h47))) (Value.int .i64 (.ofNat 0)) dunno dunno dunno dunno dunno (Value.int .i64 (.ofNat 0)) dunno dunno dunno dunno dunno dunno x6 h11)))) (oIdxS (.c a1) (.c (Value.int .i64 (.ofNat 1))) enE h9)) (oIdxS (.c a1) (.c (Value.int .i64 (.ofNat 0))) enE h7)) fun k1 =>
 kI64 .eql x0 (Value.int .i64 (.ofNat 0)) (fun x207 =>
 gdF x207 h0 (fun k208 => k208 a1 h0) (fun x209 h210 =>
 gdF x207 h210 (fun k211 => k211 a0 h210) (fun x212 h213 =>
 gdF x207 h213 (fun k214 => obK (fun x215 => k214 x215 h213) (s2 .eql x209 x212)) (fun x216 h217 =>
 after (fun x218 h219 =>
 jn (fun (x221 x222 x223 x224 : Value) (h225 : Hs) =>
 k1 x218 x221 x222 x223 x224 h225) fun k220 =>
 cnd x218
 (clrK h (Value.int .i64 (.ofNat 0)) h219)
 (kI64 .eql x0 (Value.int .i64 (.ofNat 1)) (fun x226 =>
 jn (fun (x228 x229 x230 : Value) (h231 : Hs) =>
 k220 x226 x228 x229 x230 h231) fun k227 =>
 cnd x226
 (after (fun x232 h233 =>
 kCall R 95 [a0, x232] h233 (fun x234 h235 =>
 clrK h x234 h235)) (oIdxS (.c a1) (.c (Value.int .i64 (.ofNat 0))) enE h219))
 (kLenS a0 (fun x236 =>
 kI64 .geq x0 x236 (fun x237 =>
 jn (fun (x239 x240 : Value) (h241 : Hs) =>
 k227 x237 x239 x240 h241) fun k238 =>
 cnd x237
 (clrK h (Value.int .i64 (.negSucc 0)) h219)
 (none))))))) (pickB (.c (Value.bool true)) (.c x216) enE h217 x207))))))
theorem q91 (R : RnK) (N : Nat) (args : List Value) (h : Hs) : r91 R N args h = callT Try.prog N R 91 args h := by kernel_rfl
noncomputable def r95 (R : RnK) (N : Nat) (args : List Value) (h : Hs) : An := unC args fun a0 sq0 => unC sq0 fun a1 sq1 => enK h fun h0 =>
 after (fun x0 h1 =>
 clrK h x0 h1) (ret1 h0 (idxB1 a0 a1))
theorem q95 (R : RnK) (N : Nat) (args : List Value) (h : Hs) : r95 R N args h = callT Try.prog N R 95 args h := by kernel_rfl
noncomputable def entries : List (Nat × FnK) := [(4, r4), (12, r12), (14, r14), (15, r15), (16, r16), (17, r17), (19, r19), (22, r22), (23, r23), (25, r25), (26, r26), (30, r30), (33, r33), (34, r34), (38, r38), (39, r39), (40, r40), (42, r42), (44, r44), (47, r47), (51, r51), (52, r52), (53, r53), (54, r54), (55, r55), (56, r56), (57, r57), (58, r58), (59, r59), (62, r62), (64, r64), (67, r67), (68, r68), (69, r69), (71, r71), (72, r72), (73, r73), (74, r74), (75, r75), (84, r84), (86, r86), (87, r87), (91, r91), (95, r95)]
theorem entries_ok : AllOk Try.prog entries := ⟨q4, q12, q14, q15, q16, q17, q19, q22, q23, q25, q26, q30, q33, q34, q38, q39, q40, q42, q44, q47, q51, q52, q53, q54, q55, q56, q57, q58, q59, q62, q64, q67, q68, q69, q71, q72, q73, q74, q75, q84, q86, q87, q91, q95, trivial⟩
end Go.Proofs.Ytmolikcajfphlaa.editSlots
