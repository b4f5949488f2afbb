/- The functions that 'RunsAll' reaches, in the fast evaluator's form, each held against the program's own text by the kernel. Written by a program. -/
import Derived.Test.YtcejpcbhbnklaaaGevKM
import Derived.Test.YtcejpcbhbnklaaaProg
import Derived.KernelRfl
namespace Go.Proofs.Ytcejpcbhbnklaaa.runsAll
open Go.Gev
set_option linter.unusedVariables false
/-- lintel/lintellaw10.RunsAll -/
noncomputable def r3 (R : RnK) (N : Nat) (args : List Value) (h : Hs) : An := unC args fun a0 sq0 => enK h fun h0 =>
 kCall R 5 [] h0 (fun x0 h1 =>
 kNot x0 (fun x2 =>
 jn (fun (x4 : Value) (h5 : Hs) =>
 kLenV a0 (fun x6 =>
 kI64 .gtr x6 (Value.int .i64 (.ofNat 8)) (fun x7 =>
 jn (fun (x9 : Value) (h10 : Hs) =>
 jn (fun (x12 x13 x14 x15 x16 x17 x18 x19 x20 x21 : Value) (h22 : Hs) =>
 kCall R 6 [a0, x17] h22 (fun x23 h24 =>
 kExtr x23 0 (fun x25 =>
 kExtr x23 1 (fun x26 =>
 kNot x26 (fun x27 =>
 gdT x27 h24 (fun k28 => k28 a0 h24) (fun x29 h30 =>
 gdT x27 h30 (fun k31 => kCall R 7 [x29] h30 (k31)) (fun x32 h33 =>
 gdT x27 h33 (fun k34 => k34 x17 h33) (fun x35 h36 =>
 gdT x27 h36 (fun k37 => kI64 .eql x32 x35 (fun x38 => k37 x38 h36)) (fun x39 h40 =>
 after (fun x41 h42 =>
 clrK h x41 h42) (pickB (.c x39) (.c (Value.bool false)) enE h40 x27)))))))))) fun k11 =>
 lpT (T := Value → Value → Value → Value → Value → Value → Value → Value → Value → Value → Hs → An) (fun _ _ _ _ _ _ _ _ _ _ _ => none) N (fun k43 =>
 fun (x45 x46 x47 x48 x49 x50 x51 x52 x53 x54 : Value) (h55 : Hs) =>
 kLenV a0 (fun x56 =>
 kI64 .lss x45 x56 (fun x57 =>
 jn (fun (h59 : Hs) =>
 jn (fun (x61 x62 x63 x64 x65 x66 x67 x68 : Value) (h69 : Hs) =>
 kI64 .add x45 (Value.int .i64 (.ofNat 1)) (fun x70 =>
 k43 x70 x57 x61 x62 x63 x64 x65 x66 x67 x68 h69)) fun k60 =>
 kIdxA 2 a0 x45 (fun x71 =>
 kFieldA 1 x71 (fun x72 =>
 kLoad x72 h59 (fun x73 =>
 kI64 .lss x73 (Value.int .i64 (.ofNat 1)) (fun x74 =>
 gdF x74 h59 (fun k75 => k75 a0 h59) (fun x76 h77 =>
 gdF x74 h77 (fun k78 => k78 x45 h77) (fun x79 h80 =>
 gdF x74 h80 (fun k81 => kIdxA 2 x76 x79 (fun x82 => k81 x82 h80)) (fun x83 h84 =>
 gdF x74 h84 (fun k85 => kFieldA 1 x83 (fun x86 => k85 x86 h84)) (fun x87 h88 =>
 gdF x74 h88 (fun k89 => kLoad x87 h88 (fun x90 => k89 x90 h88)) (fun x91 h92 =>
 gdF x74 h92 (fun k93 => kI64 .gtr x91 (Value.int .i64 (.ofNat 50)) (fun x94 => k93 x94 h92)) (fun x95 h96 =>
 after (fun x97 h98 =>
 gdF x97 h98 (fun k99 => k99 a0 h98) (fun x100 h101 =>
 gdF x97 h101 (fun k102 => k102 x45 h101) (fun x103 h104 =>
 gdF x97 h104 (fun k105 => kIdxA 2 x100 x103 (fun x106 => k105 x106 h104)) (fun x107 h108 =>
 gdF x97 h108 (fun k109 => kFieldA 0 x107 (fun x110 => k109 x110 h108)) (fun x111 h112 =>
 gdF x97 h112 (fun k113 => kLoad x111 h112 (fun x114 => k113 x114 h112)) (fun x115 h116 =>
 gdF x97 h116 (fun k117 => kI64 .lss x115 (Value.int .i64 (.ofNat 0)) (fun x118 => k117 x118 h116)) (fun x119 h120 =>
 after (fun x121 h122 =>
 gdF x121 h122 (fun k123 => k123 a0 h122) (fun x124 h125 =>
 gdF x121 h125 (fun k126 => k126 x45 h125) (fun x127 h128 =>
 gdF x121 h128 (fun k129 => kIdxA 2 x124 x127 (fun x130 => k129 x130 h128)) (fun x131 h132 =>
 gdF x121 h132 (fun k133 => kFieldA 0 x131 (fun x134 => k133 x134 h132)) (fun x135 h136 =>
 gdF x121 h136 (fun k137 => kLoad x135 h136 (fun x138 => k137 x138 h136)) (fun x139 h140 =>
 gdF x121 h140 (fun k141 => kI64 .gtr x139 (Value.int .i64 (.ofNat 1000)) (fun x142 => k141 x142 h140)) (fun x143 h144 =>
 after (fun x145 h146 =>
 jn (fun (x148 : Value) (h149 : Hs) =>
 jn (fun (x151 x152 x153 x154 x155 x156 x157 : Value) (h158 : Hs) =>
 k60 x145 x151 x152 x153 x154 x155 x156 x157 h158) fun k150 =>
 lpT (T := Value → Value → Value → Value → Value → Value → Value → Hs → An) (fun _ _ _ _ _ _ _ _ => none) N (fun k159 =>
 fun (x161 x162 x163 x164 x165 x166 x167 : Value) (h168 : Hs) =>
 kIdxA 2 a0 x45 (fun x169 =>
 kFieldA 1 x169 (fun x170 =>
 kLoad x170 h168 (fun x171 =>
 kI64 .lss x161 x171 (fun x172 =>
 jn (fun (h174 : Hs) =>
 jn (fun (x176 x177 x178 x179 x180 : Value) (h181 : Hs) =>
 kI64 .add x161 (Value.int .i64 (.ofNat 1)) (fun x182 =>
 k159 x182 x172 x176 x177 x178 x179 x180 h181)) fun k175 =>
 kCall R 6 [a0, x163] h174 (fun x183 h184 =>
 kExtr x183 0 (fun x185 =>
 kExtr x183 1 (fun x186 =>
 kNot x186 (fun x187 =>
 gdF x187 h184 (fun k188 => k188 x185 h184) (fun x189 h190 =>
 gdF x187 h190 (fun k191 => k191 a0 h190) (fun x192 h193 =>
 gdF x187 h193 (fun k194 => k194 x45 h193) (fun x195 h196 =>
 gdF x187 h196 (fun k197 => kIdxA 2 x192 x195 (fun x198 => k197 x198 h196)) (fun x199 h200 =>
 gdF x187 h200 (fun k201 => kFieldA 0 x199 (fun x202 => k201 x202 h200)) (fun x203 h204 =>
 gdF x187 h204 (fun k205 => kLoad x203 h204 (fun x206 => k205 x206 h204)) (fun x207 h208 =>
 gdF x187 h208 (fun k209 => k209 x161 h208) (fun x210 h211 =>
 gdF x187 h211 (fun k212 => kI64 .add x207 x210 (fun x213 => k212 x213 h211)) (fun x214 h215 =>
 gdF x187 h215 (fun k216 => kI64 .neq x189 x214 (fun x217 => k216 x217 h215)) (fun x218 h219 =>
 after (fun x220 h221 =>
 jn (fun (x223 : Value) (h224 : Hs) =>
 kI64 .add x163 (Value.int .i64 (.ofNat 1)) (fun x225 =>
 k175 x225 x186 x185 x220 x223 h224)) fun k222 =>
 cnd x220
 (clrK h (Value.bool false) h221)
 (k222 x167 h221)) (pickB (.c (Value.bool true)) (.c x218) enE h219 x187))))))))))))))) fun k173 =>
 cnd x172
 (k173 h168)
 (k150 x161 x172 x163 x164 x165 x166 x167 h168)))))) (Value.int .i64 (.ofNat 0)) x49 x50 x51 x52 x53 x148 h149) fun k147 =>
 cnd x145
 (clrK h (Value.bool true) h146)
 (k147 x54 h146)) (pickB (.c (Value.bool true)) (.c x143) enE h144 x121)))))))) (pickB (.c (Value.bool true)) (.c x119) enE h120 x97)))))))) (pickB (.c (Value.bool true)) (.c x95) enE h96 x74)))))))))))) fun k58 =>
 cnd x57
 (k58 h55)
 (k11 x45 x57 x47 x48 x49 x50 x51 x52 x53 x54 h55)))) (Value.int .i64 (.ofNat 0)) dunno dunno dunno dunno (Value.int .i64 (.ofNat 0)) dunno dunno dunno x9 h10) fun k8 =>
 cnd x7
 (clrK h (Value.bool true) h5)
 (k8 x4 h5)))) fun k3 =>
 cnd x2
 (clrK h (Value.bool false) h1)
 (k3 (Value.bool false) h1)))

theorem q3 (R : RnK) (N : Nat) (args : List Value) (h : Hs) : r3 R N args h = callT Try.prog N R 3 args h := by kernel_rfl

/-- lintel/runs.At -/
noncomputable def r6 (R : RnK) (N : Nat) (args : List Value) (h : Hs) : An := unC args fun a0 sq0 => unC sq0 fun a1 sq1 => enK h fun h0 =>
 kI64 .lss a1 (Value.int .i64 (.ofNat 0)) (fun x0 =>
 jn (fun (x2 x3 : Value) (h4 : Hs) =>
 kCall R 13 [a0] h4 (fun x5 h6 =>
 kLenV x5 (fun x7 =>
 jn (fun (x9 x10 x11 x12 x13 x14 x15 : Value) (h16 : Hs) =>
 clrK h (Value.tuple #[(Value.int .i64 (.ofNat 0)), (Value.bool false)]) h16) fun k8 =>
 lpT (T := Value → Value → Value → Value → Value → Value → Value → Hs → An) (fun _ _ _ _ _ _ _ _ => none) N (fun k17 =>
 fun (x19 x20 x21 x22 x23 x24 x25 : Value) (h26 : Hs) =>
 kI64 .lss x20 x7 (fun x27 =>
 jn (fun (h29 : Hs) =>
 jn (fun (x31 x32 x33 x34 x35 : Value) (h36 : Hs) =>
 kI64 .add x20 (Value.int .i64 (.ofNat 1)) (fun x37 =>
 k17 x31 x37 x27 x32 x33 x34 x35 h36)) fun k30 =>
 kIdxA 2 x5 x20 (fun x38 =>
 kLoads 2 x38 h29 (fun x39 =>
 after (fun x40 h41 =>
 after (fun x42 h43 =>
 kFieldA 1 x40 (fun x44 =>
 kLoad x44 h43 (fun x45 =>
 kI64 .lss x19 x45 (fun x46 =>
 jn (fun (x48 x49 : Value) (h50 : Hs) =>
 kFieldA 1 x40 (fun x51 =>
 kLoad x51 h50 (fun x52 =>
 kI64 .sub x19 x52 (fun x53 =>
 k30 x53 x40 x46 x48 x49 h50)))) fun k47 =>
 cnd x46
 (kFieldA 0 x40 (fun x54 =>
 kLoad x54 h43 (fun x55 =>
 kI64 .add x55 x19 (fun x56 =>
 clrK h (Value.tuple #[x56, (Value.bool true)]) h43))))
 (k47 x24 x25 h43))))) (store1 2 h41 (cellsL x39) (addrOf x40))) (oAlloc 25 [(Value.int .i64 (.ofNat 0)), (Value.int .i64 (.ofNat 0))] enE h29)))) fun k28 =>
 cnd x27
 (k28 h26)
 (k8 x19 x20 x27 x22 x23 x24 x25 h26))) a1 (Value.int .i64 (.ofNat 0)) dunno dunno dunno x2 x3 h6))) fun k1 =>
 cnd x0
 (clrK h (Value.tuple #[(Value.int .i64 (.ofNat 0)), (Value.bool false)]) h0)
 (k1 (Value.int .i64 (.ofNat 0)) (Value.bool false) h0))

theorem q6 (R : RnK) (N : Nat) (args : List Value) (h : Hs) : r6 R N args h = callT Try.prog N R 6 args h := by kernel_rfl

/-- lintel/runs.Total -/
noncomputable def r7 (R : RnK) (N : Nat) (args : List Value) (h : Hs) : An := unC args fun a0 sq0 => enK h fun h0 =>
 kCall R 13 [a0] h0 (fun x0 h1 =>
 kLenV x0 (fun x2 =>
 jn (fun (x4 x5 x6 x7 : Value) (h8 : Hs) =>
 clrK h x6 h8) fun k3 =>
 lpT (T := Value → Value → Value → Value → Hs → An) (fun _ _ _ _ _ => none) N (fun k9 =>
 fun (x11 x12 x13 x14 : Value) (h15 : Hs) =>
 kI64 .lss x11 x2 (fun x16 =>
 jn (fun (h18 : Hs) =>
 jn (fun (x20 x21 : Value) (h22 : Hs) =>
 kI64 .add x11 (Value.int .i64 (.ofNat 1)) (fun x23 =>
 k9 x23 x16 x20 x21 h22)) fun k19 =>
 kIdxA 2 x0 x11 (fun x24 =>
 kLoads 2 x24 h18 (fun x25 =>
 after (fun x26 h27 =>
 after (fun x28 h29 =>
 kFieldA 1 x26 (fun x30 =>
 kLoad x30 h29 (fun x31 =>
 kI64 .add x13 x31 (fun x32 =>
 k19 x32 x26 h29)))) (store1 2 h27 (cellsL x25) (addrOf x26))) (oAlloc 25 [(Value.int .i64 (.ofNat 0)), (Value.int .i64 (.ofNat 0))] enE h18)))) fun k17 =>
 cnd x16
 (k17 h15)
 (k3 x11 x16 x13 x14 h15))) (Value.int .i64 (.ofNat 0)) dunno (Value.int .i64 (.ofNat 0)) dunno h1))

theorem q7 (R : RnK) (N : Nat) (args : List Value) (h : Hs) : r7 R N args h = callT Try.prog N R 7 args h := by kernel_rfl

/-- lintel/runs.Merge -/
noncomputable def r8 (R : RnK) (N : Nat) (args : List Value) (h : Hs) : An := unC args fun a0 sq0 => enK h fun h0 =>
 kCall R 13 [a0] h0 (fun x0 h1 =>
 kLenV x0 (fun x2 =>
 jn (fun (x4 x5 x6 x7 x8 x9 : Value) (h10 : Hs) =>
 clrK h x6 h10) fun k3 =>
 lpT (T := Value → Value → Value → Value → Value → Value → Hs → An) (fun _ _ _ _ _ _ _ => none) N (fun k11 =>
 fun (x13 x14 x15 x16 x17 x18 : Value) (h19 : Hs) =>
 kI64 .lss x13 x2 (fun x20 =>
 jn (fun (h22 : Hs) =>
 jn (fun (x24 x25 x26 x27 : Value) (h28 : Hs) =>
 kI64 .add x13 (Value.int .i64 (.ofNat 1)) (fun x29 =>
 k11 x29 x20 x24 x25 x26 x27 h28)) fun k23 =>
 kIdxA 2 x0 x13 (fun x30 =>
 kLoads 2 x30 h22 (fun x31 =>
 after (fun x32 h33 =>
 after (fun x34 h35 =>
 kLenV x15 (fun x36 =>
 kI64 .sub x36 (Value.int .i64 (.ofNat 1)) (fun x37 =>
 kI64 .geq x37 (Value.int .i64 (.ofNat 0)) (fun x38 =>
 gdT x38 h35 (fun k39 => k39 x15 h35) (fun x40 _ =>
 gdT x38 h35 (fun k42 => k42 x37 h35) (fun x43 _ =>
 gdT x38 h35 (fun k45 => kIdxA 2 x40 x43 (fun x46 => k45 x46 h35)) (fun x47 _ =>
 gdT x38 h35 (fun k49 => kFieldA 0 x47 (fun x50 => k49 x50 h35)) (fun x51 _ =>
 gdT x38 h35 (fun k53 => kLoad x51 (Hs.mk h35.hp h35.nx h35.nx) (fun x54 => k53 x54 h35)) (fun x55 _ =>
 gdT x38 h35 (fun k57 => k57 x15 h35) (fun x58 _ =>
 gdT x38 h35 (fun k60 => k60 x37 h35) (fun x61 _ =>
 gdT x38 h35 (fun k63 => kIdxA 2 x58 x61 (fun x64 => k63 x64 h35)) (fun x65 _ =>
 gdT x38 h35 (fun k67 => kFieldA 1 x65 (fun x68 => k67 x68 h35)) (fun x69 _ =>
 gdT x38 h35 (fun k71 => kLoad x69 (Hs.mk h35.hp h35.nx h35.nx) (fun x72 => k71 x72 h35)) (fun x73 _ =>
 gdT x38 h35 (fun k75 => kI64 .add x55 x73 (fun x76 => k75 x76 h35)) (fun x77 _ =>
 gdT x38 h35 (fun k79 => kFieldA 0 x32 (fun x80 => k79 x80 h35)) (fun x81 _ =>
 gdT x38 h35 (fun k83 => kLoad x81 (Hs.mk h35.hp h35.nx h35.nx) (fun x84 => k83 x84 h35)) (fun x85 _ =>
 gdT x38 h35 (fun k87 => kI64 .eql x77 x85 (fun x88 => k87 x88 h35)) (fun x89 _ =>
 after (fun v113 u114 => dPut (fun x91 h92 =>
 jn (fun (x94 : Value) (h95 : Hs) =>
 k23 x94 x37 x32 x91 h95) fun k93 =>
 cnd x91
 (kIdxA 2 x15 x37 (fun x96 =>
 kFieldA 1 x96 (fun x97 =>
 kLoad x97 (Hs.mk h92.hp h92.nx h92.nx) (fun x98 =>
 kFieldA 1 x32 (fun x99 =>
 kLoad x99 (Hs.mk h92.hp h92.nx h92.nx) (fun x100 =>
 kI64 .add x98 x100 (fun x101 =>
 kIdxA 2 x15 x37 (fun x102 =>
 kFieldA 1 x102 (fun x103 =>
 kStore1 x103 x101 h92 (fun v106 u107 => dPut (fun x104 h105 =>
 k93 x15 h105) v106 (dNext h92 u107 .bar) (andB (dFit h92 u107 .bar) (Nat.ble 0 u107.lo))))))))))))
 (kLoads 2 x32 h92 (fun x108 =>
 after (fun x109 h110 =>
 after (fun x111 h112 =>
 k93 x111 h112) (app0 25 2 16 h110 x15 x109)) (oMkrow 25 2 1 [(Value.int .i64 (.ofNat 0)), (Value.int .i64 (.ofNat 0))] [(0, 2, .c x108)] enE h92)))) v113 (dNext h35 u114 .blind) (andB (dFit h35 u114 .blind) (Nat.ble 0 u114.lo))) (pickB (.c x89) (.c (Value.bool false)) enE (Hs.mk .e h35.nx h35.nx) x38))))))))))))))))))) (store1 2 h33 (cellsL x31) (addrOf x32))) (oAlloc 25 [(Value.int .i64 (.ofNat 0)), (Value.int .i64 (.ofNat 0))] enE h22)))) fun k21 =>
 cnd x20
 (k21 h19)
 (k3 x13 x20 x15 x16 x17 x18 h19))) (Value.int .i64 (.ofNat 0)) dunno (Value.slice none 0 0) dunno dunno dunno h1))

theorem q8 (R : RnK) (N : Nat) (args : List Value) (h : Hs) : r8 R N args h = callT Try.prog N R 8 args h := by kernel_rfl

/-- lintel/lintellaw10.alike -/
noncomputable def r10 (R : RnK) (N : Nat) (args : List Value) (h : Hs) : An := unC args fun a0 sq0 => unC sq0 fun a1 sq1 => enK h fun h0 =>
 kLenV a0 (fun x0 =>
 kLenV a1 (fun x1 =>
 kI64 .neq x0 x1 (fun x2 =>
 jn (fun (x4 : Value) (h5 : Hs) =>
 jn (fun (x7 x8 x9 x10 : Value) (h11 : Hs) =>
 clrK h (Value.bool true) h11) fun k6 =>
 lpT (T := Value → Value → Value → Value → Hs → An) (fun _ _ _ _ _ => none) N (fun k12 =>
 fun (x14 x15 x16 x17 : Value) (h18 : Hs) =>
 kLenV a0 (fun x19 =>
 kI64 .lss x14 x19 (fun x20 =>
 jn (fun (h22 : Hs) =>
 jn (fun (x24 x25 : Value) (h26 : Hs) =>
 kI64 .add x14 (Value.int .i64 (.ofNat 1)) (fun x27 =>
 k12 x27 x20 x24 x25 h26)) fun k23 =>
 kIdxA 2 a0 x14 (fun x28 =>
 kLoads 2 x28 (Hs.mk h22.hp h22.nx h22.nx) (fun x29 =>
 kIdxA 2 a1 x14 (fun x30 =>
 kLoads 2 x30 (Hs.mk h22.hp h22.nx h22.nx) (fun x31 =>
 obK (fun x32 =>
 jn (fun (x34 : Value) (h35 : Hs) =>
 k23 x32 x34 h35) fun k33 =>
 cnd x32
 (clrK h (Value.bool false) h22)
 (k33 x17 h22)) (e2 true (qA [.i, .i]) x29 x31)))))) fun k21 =>
 cnd x20
 (k21 h18)
 (k6 x14 x20 x16 x17 h18)))) (Value.int .i64 (.ofNat 0)) dunno dunno x4 h5) fun k3 =>
 cnd x2
 (clrK h (Value.bool false) h0)
 (k3 (Value.bool false) h0))))

theorem q10 (R : RnK) (N : Nat) (args : List Value) (h : Hs) : r10 R N args h = callT Try.prog N R 10 args h := by kernel_rfl

/-- lintel/lintellaw10.own -/
noncomputable def r11 (R : RnK) (N : Nat) (args : List Value) (h : Hs) : An := unC args fun a0 sq0 => enK h fun h0 =>
 jn (fun (x1 x2 x3 : Value) (h4 : Hs) =>
 clrK h x3 h4) fun k0 =>
 lpT (T := Value → Value → Value → Hs → An) (fun _ _ _ _ => none) N (fun k5 =>
 fun (x7 x8 x9 : Value) (h10 : Hs) =>
 kLenV a0 (fun x11 =>
 kI64 .lss x7 x11 (fun x12 =>
 jn (fun (h14 : Hs) =>
 jn (fun (x16 : Value) (h17 : Hs) =>
 kI64 .add x7 (Value.int .i64 (.ofNat 1)) (fun x18 =>
 k5 x18 x12 x16 h17)) fun k15 =>
 kIdxA 2 a0 x7 (fun x19 =>
 kFieldA 0 x19 (fun x20 =>
 kLoad x20 (Hs.mk h14.hp h14.nx h14.nx) (fun x21 =>
 kIdxA 2 a0 x7 (fun x22 =>
 kFieldA 1 x22 (fun x23 =>
 kLoad x23 (Hs.mk h14.hp h14.nx h14.nx) (fun x24 =>
 after (fun v35 u36 => dPut (fun x25 h26 =>
 after (fun v33 u34 => dPut (fun x27 h28 =>
 after (fun v31 u32 => dPut (fun x29 h30 =>
 k15 x29 h30) v31 (dNext h28 u32 .bar) (andB (dFit h28 u32 .bar) (Nat.ble 0 u32.lo))) (app0 37 2 16 h28 x9 x27)) v33 (dNext h26 u34 .bar) (andB (dFit h26 u34 .bar) (Nat.ble 0 u34.lo))) (oMkrow 37 2 1 [(Value.int .i64 (.ofNat 0)), (Value.int .i64 (.ofNat 0))] [(0, 2, .c x25)] enE h26)) v35 (dNext h14 u36 .blind) (andB (dFit h14 u36 .blind) (Nat.ble 0 u36.lo))) (oBuild [(Value.int .i64 (.ofNat 0)), (Value.int .i64 (.ofNat 0))] [(0, 1, .c x21), (1, 1, .c x24)] enE (Hs.mk .e h14.nx h14.nx))))))))) fun k13 =>
 cnd x12
 (k13 h10)
 (k0 x7 x12 x9 h10)))) (Value.int .i64 (.ofNat 0)) dunno (Value.slice none 0 0) h0

theorem q11 (R : RnK) (N : Nat) (args : List Value) (h : Hs) : r11 R N args h = callT Try.prog N R 11 args h := by kernel_rfl

/-- lintel/runs.Add -/
noncomputable def r12 (R : RnK) (N : Nat) (args : List Value) (h : Hs) : An := unC args fun a0 sq0 => unC sq0 fun a1 sq1 => enK h fun h0 =>
 after (fun x0 h1 =>
 kCall R 16 [x0] h1 (fun x2 h3 =>
 kCall R 8 [x2] h3 (fun x4 h5 =>
 clrK h x4 h5))) (oMkrow 22 1 2 [(Value.slice none 0 0)] [(0, 1, .c a0), (1, 1, .c a1)] enE h0)

theorem q12 (R : RnK) (N : Nat) (args : List Value) (h : Hs) : r12 R N args h = callT Try.prog N R 12 args h := by kernel_rfl

/-- lintel/runs.counts -/
noncomputable def r13 (R : RnK) (N : Nat) (args : List Value) (h : Hs) : An := unC args fun a0 sq0 => enK h fun h0 =>
 kLenV a0 (fun x0 =>
 jn (fun (x2 x3 x4 x5 x6 : Value) (h7 : Hs) =>
 clrK h x6 h7) fun k1 =>
 lpT (T := Value → Value → Value → Value → Value → Hs → An) (fun _ _ _ _ _ _ => none) N (fun k8 =>
 fun (x10 x11 x12 x13 x14 : Value) (h15 : Hs) =>
 kI64 .lss x10 x0 (fun x16 =>
 jn (fun (h18 : Hs) =>
 jn (fun (x20 x21 x22 : Value) (h23 : Hs) =>
 kI64 .add x10 (Value.int .i64 (.ofNat 1)) (fun x24 =>
 k8 x24 x16 x20 x21 x22 h23)) fun k19 =>
 kIdxA 2 a0 x10 (fun x25 =>
 kLoads 2 x25 h18 (fun x26 =>
 after (fun x27 h28 =>
 after (fun x29 h30 =>
 kFieldA 1 x27 (fun x31 =>
 kLoad x31 h30 (fun x32 =>
 kI64 .geq x32 (Value.int .i64 (.ofNat 1)) (fun x33 =>
 gdT x33 h30 (fun k34 => kFieldA 1 x27 (fun x35 => k34 x35 h30)) (fun x36 h37 =>
 gdT x33 h37 (fun k38 => kLoad x36 h37 (fun x39 => k38 x39 h37)) (fun x40 h41 =>
 gdT x33 h41 (fun k42 => kI64 .leq x40 (Value.int .i64 (.ofNat 1073741824)) (fun x43 => k42 x43 h41)) (fun x44 h45 =>
 after (fun x46 h47 =>
 gdT x46 h47 (fun k48 => kFieldA 0 x27 (fun x49 => k48 x49 h47)) (fun x50 h51 =>
 gdT x46 h51 (fun k52 => kLoad x50 h51 (fun x53 => k52 x53 h51)) (fun x54 h55 =>
 gdT x46 h55 (fun k56 => kI64 .geq x54 (Value.int .i64 (.ofNat 0)) (fun x57 => k56 x57 h55)) (fun x58 h59 =>
 after (fun x60 h61 =>
 gdT x60 h61 (fun k62 => kFieldA 0 x27 (fun x63 => k62 x63 h61)) (fun x64 h65 =>
 gdT x60 h65 (fun k66 => kLoad x64 h65 (fun x67 => k66 x67 h65)) (fun x68 h69 =>
 gdT x60 h69 (fun k70 => kI64 .leq x68 (Value.int .i64 (.ofNat 1073741824)) (fun x71 => k70 x71 h69)) (fun x72 h73 =>
 after (fun x74 h75 =>
 jn (fun (x77 : Value) (h78 : Hs) =>
 k19 x27 x74 x77 h78) fun k76 =>
 cnd x74
 (kLoads 2 x27 h75 (fun x79 =>
 after (fun x80 h81 =>
 after (fun x82 h83 =>
 k76 x82 h83) (app0 25 2 16 h81 x14 x80)) (oMkrow 25 2 1 [(Value.int .i64 (.ofNat 0)), (Value.int .i64 (.ofNat 0))] [(0, 2, .c x79)] enE h75)))
 (k76 x14 h75)) (pickB (.c x72) (.c (Value.bool false)) enE h73 x60))))) (pickB (.c x58) (.c (Value.bool false)) enE h59 x46))))) (pickB (.c x44) (.c (Value.bool false)) enE h45 x33)))))))) (store1 2 h28 (cellsL x26) (addrOf x27))) (oAlloc 25 [(Value.int .i64 (.ofNat 0)), (Value.int .i64 (.ofNat 0))] enE h18)))) fun k17 =>
 cnd x16
 (k17 h15)
 (k1 x10 x16 x12 x13 x14 h15))) (Value.int .i64 (.ofNat 0)) dunno dunno dunno (Value.slice none 0 0) h0)

theorem q13 (R : RnK) (N : Nat) (args : List Value) (h : Hs) : r13 R N args h = callT Try.prog N R 13 args h := by kernel_rfl

/-- slices.Concat[[]lintel/node.Run,lintel/node.Run] -/
noncomputable def r16 (R : RnK) (N : Nat) (args : List Value) (h : Hs) : An := unC args fun a0 sq0 => enK h fun h0 =>
 kLenV a0 (fun x0 =>
 jn (fun (x2 x3 x4 x5 x6 : Value) (h7 : Hs) =>
 kCall R 19 [(Value.slice none 0 0), x4] h7 (fun x8 h9 =>
 kLenV a0 (fun x10 =>
 jn (fun (x12 x13 x14 x15 : Value) (h16 : Hs) =>
 clrK h x14 h16) fun k11 =>
 lpT (T := Value → Value → Value → Value → Hs → An) (fun _ _ _ _ _ => none) N (fun k17 =>
 fun (x19 x20 x21 x22 : Value) (h23 : Hs) =>
 kI64 .lss x19 x10 (fun x24 =>
 jn (fun (h26 : Hs) =>
 jn (fun (x28 x29 : Value) (h30 : Hs) =>
 kI64 .add x19 (Value.int .i64 (.ofNat 1)) (fun x31 =>
 k17 x31 x24 x28 x29 h30)) fun k27 =>
 kIdxA 1 a0 x19 (fun x32 =>
 kLoad x32 h26 (fun x33 =>
 after (fun x34 h35 =>
 k27 x34 x33 h35) (app0 25 2 16 h26 x21 x33)))) fun k25 =>
 cnd x24
 (k25 h23)
 (k11 x19 x24 x21 x22 h23))) (Value.int .i64 (.ofNat 0)) dunno x8 dunno h9))) fun k1 =>
 lpT (T := Value → Value → Value → Value → Value → Hs → An) (fun _ _ _ _ _ _ => none) N (fun k36 =>
 fun (x38 x39 x40 x41 x42 : Value) (h43 : Hs) =>
 kI64 .lss x38 x0 (fun x44 =>
 jn (fun (h46 : Hs) =>
 jn (fun (x48 x49 x50 : Value) (h51 : Hs) =>
 kI64 .add x38 (Value.int .i64 (.ofNat 1)) (fun x52 =>
 k36 x52 x44 x48 x49 x50 h51)) fun k47 =>
 kIdxA 1 a0 x38 (fun x53 =>
 kLoad x53 h46 (fun x54 =>
 kLenV x54 (fun x55 =>
 kI64 .add x40 x55 (fun x56 =>
 kI64 .lss x56 (Value.int .i64 (.ofNat 0)) (fun x57 =>
 jn (fun (h59 : Hs) =>
 k47 x56 x54 x57 h59) fun k58 =>
 cnd x57
 (after (fun x60 h61 =>
 none) (oMkface 9 (.c (Value.string ⟨#[108, 101, 110, 32, 111, 117, 116, 32, 111, 102, 32, 114, 97, 110, 103, 101]⟩)) enE h46))
 (k58 h46))))))) fun k45 =>
 cnd x44
 (k45 h43)
 (k1 x38 x44 x40 x41 x42 h43))) (Value.int .i64 (.ofNat 0)) dunno (Value.int .i64 (.ofNat 0)) dunno dunno h0)

theorem q16 (R : RnK) (N : Nat) (args : List Value) (h : Hs) : r16 R N args h = callT Try.prog N R 16 args h := by kernel_rfl

/-- slices.Grow[[]lintel/node.Run,lintel/node.Run] -/
noncomputable def r19 (R : RnK) (N : Nat) (args : List Value) (h : Hs) : An := unC args fun a0 sq0 => unC sq0 fun a1 sq1 => enK h fun h0 =>
 kI64 .lss a1 (Value.int .i64 (.ofNat 0)) (fun x0 =>
 jn (fun (h2 : Hs) =>
 after (fun x3 h4 =>
 kLenV a0 (fun x5 =>
 kI64 .sub x3 x5 (fun x6 =>
 kI64 .sub a1 x6 (fun x7 =>
 kI64 .gtr x7 (Value.int .i64 (.ofNat 0)) (fun x8 =>
 jn (fun (x10 : Value) (h11 : Hs) =>
 clrK h x10 h11) fun k9 =>
 cnd x8
 (after (fun x12 h13 =>
 after (fun x14 h15 =>
 after (fun x16 h17 =>
 kLenV a0 (fun x18 =>
 after (fun x19 h20 =>
 k9 x19 h20) (oSlice 2 (.c x16) none (some (.c x18)) none enE h17))) (appZ1 h15 25 2 16 [(Value.int .i64 (.ofNat 0)), (Value.int .i64 (.ofNat 0))] x14 (natOf x7))) (oSlice 2 (.c a0) none (some (.c x12)) none enE h13)) (oCapV (.c a0) enE h4))
 (k9 a0 h4)))))) (oCapV (.c a0) enE h2)) fun k1 =>
 cnd x0
 (after (fun x21 h22 =>
 none) (oMkface 9 (.c (Value.string ⟨#[99, 97, 110, 110, 111, 116, 32, 98, 101, 32, 110, 101, 103, 97, 116, 105, 118, 101]⟩)) enE h0))
 (k1 h0))

theorem q19 (R : RnK) (N : Nat) (args : List Value) (h : Hs) : r19 R N args h = callT Try.prog N R 19 args h := by kernel_rfl

noncomputable def entries : List (Nat × FnK) := [(3, r3), (6, r6), (7, r7), (8, r8), (10, r10), (11, r11), (12, r12), (13, r13), (16, r16), (19, r19)]
theorem entries_ok : AllOk Try.prog entries := ⟨q3, q6, q7, q8, q10, q11, q12, q13, q16, q19, trivial⟩
end Go.Proofs.Ytcejpcbhbnklaaa.runsAll
