/- The functions that 'RunsMerged' reaches, in the fast evaluator's form, each held against the program's own text by the kernel. Written by a program. -/
import Derived.Test.YtcejpcbhbnklaaaGevKM
import Derived.Test.YtcejpcbhbnklaaaProg
import Derived.KernelRfl
namespace Go.Proofs.Ytcejpcbhbnklaaa.runsMerged
open Go.Gev
set_option linter.unusedVariables false
/-- lintel/lintellaw10.RunsMerged -/
noncomputable def r4 (R : RnK) (N : Nat) (args : List Value) (h : Hs) : An := unC args fun a0 sq0 => unC sq0 fun a1 sq1 => enK h fun h0 =>
 kCall R 5 [] h0 (fun x0 h1 =>
 kNot x0 (fun x2 =>
 jn (fun (x4 : Value) (h5 : Hs) =>
 kLenV a0 (fun x6 =>
 kI64 .lss x6 (Value.int .i64 (.ofNat 1)) (fun x7 =>
 gdF x7 h5 (fun k8 => k8 a0 h5) (fun x9 h10 =>
 gdF x7 h10 (fun k11 => kLenV x9 (fun x12 => k11 x12 h10)) (fun x13 h14 =>
 gdF x7 h14 (fun k15 => kI64 .gtr x13 (Value.int .i64 (.ofNat 20)) (fun x16 => k15 x16 h14)) (fun x17 h18 =>
 after (fun x19 h20 =>
 gdF x19 h20 (fun k21 => k21 a1 h20) (fun x22 h23 =>
 gdF x19 h23 (fun k24 => kI64 .lss x22 (Value.int .i64 (.ofNat 0)) (fun x25 => k24 x25 h23)) (fun x26 h27 =>
 after (fun x28 h29 =>
 gdF x28 h29 (fun k30 => k30 a1 h29) (fun x31 h32 =>
 gdF x28 h32 (fun k33 => kI64 .gtr x31 (Value.int .i64 (.ofNat 1000)) (fun x34 => k33 x34 h32)) (fun x35 h36 =>
 after (fun x37 h38 =>
 jn (fun (x40 : Value) (h41 : Hs) =>
 jn (fun (x43 x44 x45 x46 x47 x48 : Value) (h49 : Hs) =>
 kCall R 8 [x46] h49 (fun x50 h51 =>
 kLenV x50 (fun x52 =>
 kI64 .eql x52 (Value.int .i64 (.ofNat 1)) (fun x53 =>
 gdT x53 h51 (fun k54 => k54 x50 h51) (fun x55 h56 =>
 gdT x53 h56 (fun k57 => kIdxA 2 x55 (Value.int .i64 (.ofNat 0)) (fun x58 => k57 x58 h56)) (fun x59 h60 =>
 gdT x53 h60 (fun k61 => kLoads 2 x59 h60 (fun x62 => k61 x62 h60)) (fun x63 h64 =>
 gdT x53 h64 (fun k65 => k65 a1 h64) (fun x66 h67 =>
 gdT x53 h67 (fun k68 => k68 x47 h67) (fun x69 h70 =>
 gdT x53 h70 (fun k71 => k71 a1 h70) (fun x72 h73 =>
 gdT x53 h73 (fun k74 => kI64 .sub x69 x72 (fun x75 => k74 x75 h73)) (fun x76 h77 =>
 gdT x53 h77 (fun k78 => after (k78) (oBuild [(Value.int .i64 (.ofNat 0)), (Value.int .i64 (.ofNat 0))] [(0, 1, .c x66), (1, 1, .c x76)] enE h77)) (fun x79 h80 =>
 gdT x53 h80 (fun k81 => obK (fun x82 => k81 x82 h80) (e2 false (qA [.i, .i]) x63 x79)) (fun x83 h84 =>
 after (fun x85 h86 =>
 gdT x85 h86 (fun k87 => k87 x46 h86) (fun x88 h89 =>
 gdT x85 h89 (fun k90 => kCall R 9 [x88] h89 (k90)) (fun x91 h92 =>
 after (fun x93 h94 =>
 gdT x93 h94 (fun k95 => k95 x50 h94) (fun x96 h97 =>
 gdT x93 h97 (fun k98 => kCall R 8 [x96] h97 (k98)) (fun x99 h100 =>
 gdT x93 h100 (fun k101 => kCall R 11 [x99] h100 (k101)) (fun x102 h103 =>
 gdT x93 h103 (fun k104 => k104 x50 h103) (fun x105 h106 =>
 gdT x93 h106 (fun k107 => kCall R 11 [x105] h106 (k107)) (fun x108 h109 =>
 gdT x93 h109 (fun k110 => kCall R 10 [x102, x108] h109 (k110)) (fun x111 h112 =>
 after (fun x113 h114 =>
 gdT x113 h114 (fun k115 => k115 x46 h114) (fun x116 h117 =>
 gdT x113 h117 (fun k118 => kCall R 7 [x116] h117 (k118)) (fun x119 h120 =>
 gdT x113 h120 (fun k121 => k121 x47 h120) (fun x122 h123 =>
 gdT x113 h123 (fun k124 => k124 a1 h123) (fun x125 h126 =>
 gdT x113 h126 (fun k127 => kI64 .sub x122 x125 (fun x128 => k127 x128 h126)) (fun x129 h130 =>
 gdT x113 h130 (fun k131 => kI64 .eql x119 x129 (fun x132 => k131 x132 h130)) (fun x133 h134 =>
 after (fun x135 h136 =>
 clrK h x135 h136) (pickB (.c x133) (.c (Value.bool false)) enE h134 x113)))))))) (pickB (.c x111) (.c (Value.bool false)) enE h112 x93)))))))) (pickB (.c x91) (.c (Value.bool false)) enE h92 x85)))) (pickB (.c x83) (.c (Value.bool false)) enE h84 x53)))))))))))))) fun k42 =>
 lpT (T := Value → Value → Value → Value → Value → Value → Hs → An) (fun _ _ _ _ _ _ _ => none) N (fun k137 =>
 fun (x139 x140 x141 x142 x143 x144 : Value) (h145 : Hs) =>
 kLenV a0 (fun x146 =>
 kI64 .lss x139 x146 (fun x147 =>
 jn (fun (h149 : Hs) =>
 jn (fun (x151 x152 x153 x154 : Value) (h155 : Hs) =>
 kI64 .add x139 (Value.int .i64 (.ofNat 1)) (fun x156 =>
 k137 x156 x147 x151 x152 x153 x154 h155)) fun k150 =>
 kIdxA 1 a0 x139 (fun x157 =>
 kLoad x157 h149 (fun x158 =>
 kI64 .lss x158 (Value.int .i64 (.ofNat 1)) (fun x159 =>
 gdF x159 h149 (fun k160 => k160 a0 h149) (fun x161 h162 =>
 gdF x159 h162 (fun k163 => k163 x139 h162) (fun x164 h165 =>
 gdF x159 h165 (fun k166 => kIdxA 1 x161 x164 (fun x167 => k166 x167 h165)) (fun x168 h169 =>
 gdF x159 h169 (fun k170 => kLoad x168 h169 (fun x171 => k170 x171 h169)) (fun x172 h173 =>
 gdF x159 h173 (fun k174 => kI64 .gtr x172 (Value.int .i64 (.ofNat 1000)) (fun x175 => k174 x175 h173)) (fun x176 h177 =>
 after (fun x178 h179 =>
 jn (fun (x181 : Value) (h182 : Hs) =>
 kIdxA 1 a0 x139 (fun x183 =>
 kLoad x183 h182 (fun x184 =>
 after (fun x185 h186 =>
 after (fun x187 h188 =>
 after (fun x189 h190 =>
 kIdxA 1 a0 x139 (fun x191 =>
 kLoad x191 h190 (fun x192 =>
 kI64 .add x143 x192 (fun x193 =>
 k150 x178 x189 x193 x181 h190)))) (app0 25 2 16 h188 x142 x187)) (oMkrow 25 2 1 [(Value.int .i64 (.ofNat 0)), (Value.int .i64 (.ofNat 0))] [(0, 2, .c x185)] enE h186)) (oBuild [(Value.int .i64 (.ofNat 0)), (Value.int .i64 (.ofNat 0))] [(0, 1, .c x143), (1, 1, .c x184)] enE h182)))) fun k180 =>
 cnd x178
 (clrK h (Value.bool true) h179)
 (k180 x144 h179)) (pickB (.c (Value.bool true)) (.c x176) enE h177 x159)))))))))) fun k148 =>
 cnd x147
 (k148 h145)
 (k42 x139 x147 x141 x142 x143 x144 h145)))) (Value.int .i64 (.ofNat 0)) dunno dunno (Value.slice none 0 0) a1 x40 h41) fun k39 =>
 cnd x37
 (clrK h (Value.bool true) h38)
 (k39 x4 h38)) (pickB (.c (Value.bool true)) (.c x35) enE h36 x28)))) (pickB (.c (Value.bool true)) (.c x26) enE h27 x19)))) (pickB (.c (Value.bool true)) (.c x17) enE h18 x7))))))) fun k3 =>
 cnd x2
 (clrK h (Value.bool false) h1)
 (k3 (Value.bool false) h1)))

theorem q4 (R : RnK) (N : Nat) (args : List Value) (h : Hs) : r4 R N args h = callT Try.prog N R 4 args h := by kernel_rfl

/-- lintel/runs.Total -/
noncomputable def r7 (R : RnK) (N : Nat) (args : List Value) (h : Hs) : An := unC args fun a0 sq0 => enK h fun h0 =>
 kCall R 13 [a0] h0 (fun x0 h1 =>
 kLenV x0 (fun x2 =>
 jn (fun (x4 x5 x6 x7 : Value) (h8 : Hs) =>
 clrK h x6 h8) fun k3 =>
 lpT (T := Value → Value → Value → Value → Hs → An) (fun _ _ _ _ _ => none) N (fun k9 =>
 fun (x11 x12 x13 x14 : Value) (h15 : Hs) =>
 kI64 .lss x11 x2 (fun x16 =>
 jn (fun (h18 : Hs) =>
 jn (fun (x20 x21 : Value) (h22 : Hs) =>
 kI64 .add x11 (Value.int .i64 (.ofNat 1)) (fun x23 =>
 k9 x23 x16 x20 x21 h22)) fun k19 =>
 kIdxA 2 x0 x11 (fun x24 =>
 kLoads 2 x24 h18 (fun x25 =>
 after (fun x26 h27 =>
 after (fun x28 h29 =>
 kFieldA 1 x26 (fun x30 =>
 kLoad x30 h29 (fun x31 =>
 kI64 .add x13 x31 (fun x32 =>
 k19 x32 x26 h29)))) (store1 2 h27 (cellsL x25) (addrOf x26))) (oAlloc 25 [(Value.int .i64 (.ofNat 0)), (Value.int .i64 (.ofNat 0))] enE h18)))) fun k17 =>
 cnd x16
 (k17 h15)
 (k3 x11 x16 x13 x14 h15))) (Value.int .i64 (.ofNat 0)) dunno (Value.int .i64 (.ofNat 0)) dunno h1))

theorem q7 (R : RnK) (N : Nat) (args : List Value) (h : Hs) : r7 R N args h = callT Try.prog N R 7 args h := by kernel_rfl

/-- lintel/runs.Merge -/
noncomputable def r8 (R : RnK) (N : Nat) (args : List Value) (h : Hs) : An := unC args fun a0 sq0 => enK h fun h0 =>
 kCall R 13 [a0] h0 (fun x0 h1 =>
 kLenV x0 (fun x2 =>
 jn (fun (x4 x5 x6 x7 x8 x9 : Value) (h10 : Hs) =>
 clrK h x6 h10) fun k3 =>
 lpT (T := Value → Value → Value → Value → Value → Value → Hs → An) (fun _ _ _ _ _ _ _ => none) N (fun k11 =>
 fun (x13 x14 x15 x16 x17 x18 : Value) (h19 : Hs) =>
 kI64 .lss x13 x2 (fun x20 =>
 jn (fun (h22 : Hs) =>
 jn (fun (x24 x25 x26 x27 : Value) (h28 : Hs) =>
 kI64 .add x13 (Value.int .i64 (.ofNat 1)) (fun x29 =>
 k11 x29 x20 x24 x25 x26 x27 h28)) fun k23 =>
 kIdxA 2 x0 x13 (fun x30 =>
 kLoads 2 x30 h22 (fun x31 =>
 after (fun x32 h33 =>
 after (fun x34 h35 =>
 kLenV x15 (fun x36 =>
 kI64 .sub x36 (Value.int .i64 (.ofNat 1)) (fun x37 =>
 kI64 .geq x37 (Value.int .i64 (.ofNat 0)) (fun x38 =>
 gdT x38 h35 (fun k39 => k39 x15 h35) (fun x40 _ =>
 gdT x38 h35 (fun k42 => k42 x37 h35) (fun x43 _ =>
 gdT x38 h35 (fun k45 => kIdxA 2 x40 x43 (fun x46 => k45 x46 h35)) (fun x47 _ =>
 gdT x38 h35 (fun k49 => kFieldA 0 x47 (fun x50 => k49 x50 h35)) (fun x51 _ =>
 gdT x38 h35 (fun k53 => kLoad x51 (Hs.mk h35.hp h35.nx h35.nx) (fun x54 => k53 x54 h35)) (fun x55 _ =>
 gdT x38 h35 (fun k57 => k57 x15 h35) (fun x58 _ =>
 gdT x38 h35 (fun k60 => k60 x37 h35) (fun x61 _ =>
 gdT x38 h35 (fun k63 => kIdxA 2 x58 x61 (fun x64 => k63 x64 h35)) (fun x65 _ =>
 gdT x38 h35 (fun k67 => kFieldA 1 x65 (fun x68 => k67 x68 h35)) (fun x69 _ =>
 gdT x38 h35 (fun k71 => kLoad x69 (Hs.mk h35.hp h35.nx h35.nx) (fun x72 => k71 x72 h35)) (fun x73 _ =>
 gdT x38 h35 (fun k75 => kI64 .add x55 x73 (fun x76 => k75 x76 h35)) (fun x77 _ =>
 gdT x38 h35 (fun k79 => kFieldA 0 x32 (fun x80 => k79 x80 h35)) (fun x81 _ =>
 gdT x38 h35 (fun k83 => kLoad x81 (Hs.mk h35.hp h35.nx h35.nx) (fun x84 => k83 x84 h35)) (fun x85 _ =>
 gdT x38 h35 (fun k87 => kI64 .eql x77 x85 (fun x88 => k87 x88 h35)) (fun x89 _ =>
 after (fun v113 u114 => dPut (fun x91 h92 =>
 jn (fun (x94 : Value) (h95 : Hs) =>
 k23 x94 x37 x32 x91 h95) fun k93 =>
 cnd x91
 (kIdxA 2 x15 x37 (fun x96 =>
 kFieldA 1 x96 (fun x97 =>
 kLoad x97 (Hs.mk h92.hp h92.nx h92.nx) (fun x98 =>
 kFieldA 1 x32 (fun x99 =>
 kLoad x99 (Hs.mk h92.hp h92.nx h92.nx) (fun x100 =>
 kI64 .add x98 x100 (fun x101 =>
 kIdxA 2 x15 x37 (fun x102 =>
 kFieldA 1 x102 (fun x103 =>
 kStore1 x103 x101 h92 (fun v106 u107 => dPut (fun x104 h105 =>
 k93 x15 h105) v106 (dNext h92 u107 .bar) (andB (dFit h92 u107 .bar) (Nat.ble 0 u107.lo))))))))))))
 (kLoads 2 x32 h92 (fun x108 =>
 after (fun x109 h110 =>
 after (fun x111 h112 =>
 k93 x111 h112) (app0 25 2 16 h110 x15 x109)) (oMkrow 25 2 1 [(Value.int .i64 (.ofNat 0)), (Value.int .i64 (.ofNat 0))] [(0, 2, .c x108)] enE h92)))) v113 (dNext h35 u114 .blind) (andB (dFit h35 u114 .blind) (Nat.ble 0 u114.lo))) (pickB (.c x89) (.c (Value.bool false)) enE (Hs.mk .e h35.nx h35.nx) x38))))))))))))))))))) (store1 2 h33 (cellsL x31) (addrOf x32))) (oAlloc 25 [(Value.int .i64 (.ofNat 0)), (Value.int .i64 (.ofNat 0))] enE h22)))) fun k21 =>
 cnd x20
 (k21 h19)
 (k3 x13 x20 x15 x16 x17 x18 h19))) (Value.int .i64 (.ofNat 0)) dunno (Value.slice none 0 0) dunno dunno dunno h1))

theorem q8 (R : RnK) (N : Nat) (args : List Value) (h : Hs) : r8 R N args h = callT Try.prog N R 8 args h := by kernel_rfl

/-- lintel/runs.Apart -/
noncomputable def r9 (R : RnK) (N : Nat) (args : List Value) (h : Hs) : An := unC args fun a0 sq0 => enK h fun h0 =>
 kCall R 13 [a0] h0 (fun x0 h1 =>
 kCall R 14 [x0, (Value.func (.func 15) #[] #[])] h1 (fun x2 h3 =>
 jn (fun (x5 x6 x7 x8 : Value) (h9 : Hs) =>
 clrK h (Value.bool true) h9) fun k4 =>
 lpT (T := Value → Value → Value → Value → Hs → An) (fun _ _ _ _ _ => none) N (fun k10 =>
 fun (x12 x13 x14 x15 : Value) (h16 : Hs) =>
 kLenV x0 (fun x17 =>
 kI64 .lss x12 x17 (fun x18 =>
 jn (fun (h20 : Hs) =>
 jn (fun (x22 x23 : Value) (h24 : Hs) =>
 kI64 .add x12 (Value.int .i64 (.ofNat 1)) (fun x25 =>
 k10 x25 x18 x22 x23 h24)) fun k21 =>
 kI64 .sub x12 (Value.int .i64 (.ofNat 1)) (fun x26 =>
 kIdxA 2 x0 x26 (fun x27 =>
 kFieldA 0 x27 (fun x28 =>
 kLoad x28 (Hs.mk h20.hp h20.nx h20.nx) (fun x29 =>
 kI64 .sub x12 (Value.int .i64 (.ofNat 1)) (fun x30 =>
 kIdxA 2 x0 x30 (fun x31 =>
 kFieldA 1 x31 (fun x32 =>
 kLoad x32 (Hs.mk h20.hp h20.nx h20.nx) (fun x33 =>
 kI64 .add x29 x33 (fun x34 =>
 kIdxA 2 x0 x12 (fun x35 =>
 kFieldA 0 x35 (fun x36 =>
 kLoad x36 (Hs.mk h20.hp h20.nx h20.nx) (fun x37 =>
 kI64 .gtr x34 x37 (fun x38 =>
 jn (fun (x40 : Value) (h41 : Hs) =>
 k21 x38 x40 h41) fun k39 =>
 cnd x38
 (clrK h (Value.bool false) h20)
 (k39 x15 h20))))))))))))))) fun k19 =>
 cnd x18
 (k19 h16)
 (k4 x12 x18 x14 x15 h16)))) (Value.int .i64 (.ofNat 1)) dunno dunno (Value.bool false) h3))

theorem q9 (R : RnK) (N : Nat) (args : List Value) (h : Hs) : r9 R N args h = callT Try.prog N R 9 args h := by kernel_rfl

/-- lintel/lintellaw10.alike -/
noncomputable def r10 (R : RnK) (N : Nat) (args : List Value) (h : Hs) : An := unC args fun a0 sq0 => unC sq0 fun a1 sq1 => enK h fun h0 =>
 kLenV a0 (fun x0 =>
 kLenV a1 (fun x1 =>
 kI64 .neq x0 x1 (fun x2 =>
 jn (fun (x4 : Value) (h5 : Hs) =>
 jn (fun (x7 x8 x9 x10 : Value) (h11 : Hs) =>
 clrK h (Value.bool true) h11) fun k6 =>
 lpT (T := Value → Value → Value → Value → Hs → An) (fun _ _ _ _ _ => none) N (fun k12 =>
 fun (x14 x15 x16 x17 : Value) (h18 : Hs) =>
 kLenV a0 (fun x19 =>
 kI64 .lss x14 x19 (fun x20 =>
 jn (fun (h22 : Hs) =>
 jn (fun (x24 x25 : Value) (h26 : Hs) =>
 kI64 .add x14 (Value.int .i64 (.ofNat 1)) (fun x27 =>
 k12 x27 x20 x24 x25 h26)) fun k23 =>
 kIdxA 2 a0 x14 (fun x28 =>
 kLoads 2 x28 (Hs.mk h22.hp h22.nx h22.nx) (fun x29 =>
 kIdxA 2 a1 x14 (fun x30 =>
 kLoads 2 x30 (Hs.mk h22.hp h22.nx h22.nx) (fun x31 =>
 obK (fun x32 =>
 jn (fun (x34 : Value) (h35 : Hs) =>
 k23 x32 x34 h35) fun k33 =>
 cnd x32
 (clrK h (Value.bool false) h22)
 (k33 x17 h22)) (e2 true (qA [.i, .i]) x29 x31)))))) fun k21 =>
 cnd x20
 (k21 h18)
 (k6 x14 x20 x16 x17 h18)))) (Value.int .i64 (.ofNat 0)) dunno dunno x4 h5) fun k3 =>
 cnd x2
 (clrK h (Value.bool false) h0)
 (k3 (Value.bool false) h0))))

theorem q10 (R : RnK) (N : Nat) (args : List Value) (h : Hs) : r10 R N args h = callT Try.prog N R 10 args h := by kernel_rfl

/-- lintel/lintellaw10.own -/
noncomputable def r11 (R : RnK) (N : Nat) (args : List Value) (h : Hs) : An := unC args fun a0 sq0 => enK h fun h0 =>
 jn (fun (x1 x2 x3 : Value) (h4 : Hs) =>
 clrK h x3 h4) fun k0 =>
 lpT (T := Value → Value → Value → Hs → An) (fun _ _ _ _ => none) N (fun k5 =>
 fun (x7 x8 x9 : Value) (h10 : Hs) =>
 kLenV a0 (fun x11 =>
 kI64 .lss x7 x11 (fun x12 =>
 jn (fun (h14 : Hs) =>
 jn (fun (x16 : Value) (h17 : Hs) =>
 kI64 .add x7 (Value.int .i64 (.ofNat 1)) (fun x18 =>
 k5 x18 x12 x16 h17)) fun k15 =>
 kIdxA 2 a0 x7 (fun x19 =>
 kFieldA 0 x19 (fun x20 =>
 kLoad x20 (Hs.mk h14.hp h14.nx h14.nx) (fun x21 =>
 kIdxA 2 a0 x7 (fun x22 =>
 kFieldA 1 x22 (fun x23 =>
 kLoad x23 (Hs.mk h14.hp h14.nx h14.nx) (fun x24 =>
 after (fun v35 u36 => dPut (fun x25 h26 =>
 after (fun v33 u34 => dPut (fun x27 h28 =>
 after (fun v31 u32 => dPut (fun x29 h30 =>
 k15 x29 h30) v31 (dNext h28 u32 .bar) (andB (dFit h28 u32 .bar) (Nat.ble 0 u32.lo))) (app0 37 2 16 h28 x9 x27)) v33 (dNext h26 u34 .bar) (andB (dFit h26 u34 .bar) (Nat.ble 0 u34.lo))) (oMkrow 37 2 1 [(Value.int .i64 (.ofNat 0)), (Value.int .i64 (.ofNat 0))] [(0, 2, .c x25)] enE h26)) v35 (dNext h14 u36 .blind) (andB (dFit h14 u36 .blind) (Nat.ble 0 u36.lo))) (oBuild [(Value.int .i64 (.ofNat 0)), (Value.int .i64 (.ofNat 0))] [(0, 1, .c x21), (1, 1, .c x24)] enE (Hs.mk .e h14.nx h14.nx))))))))) fun k13 =>
 cnd x12
 (k13 h10)
 (k0 x7 x12 x9 h10)))) (Value.int .i64 (.ofNat 0)) dunno (Value.slice none 0 0) h0

theorem q11 (R : RnK) (N : Nat) (args : List Value) (h : Hs) : r11 R N args h = callT Try.prog N R 11 args h := by kernel_rfl

/-- lintel/runs.Add -/
noncomputable def r12 (R : RnK) (N : Nat) (args : List Value) (h : Hs) : An := unC args fun a0 sq0 => unC sq0 fun a1 sq1 => enK h fun h0 =>
 after (fun x0 h1 =>
 kCall R 16 [x0] h1 (fun x2 h3 =>
 kCall R 8 [x2] h3 (fun x4 h5 =>
 clrK h x4 h5))) (oMkrow 22 1 2 [(Value.slice none 0 0)] [(0, 1, .c a0), (1, 1, .c a1)] enE h0)

theorem q12 (R : RnK) (N : Nat) (args : List Value) (h : Hs) : r12 R N args h = callT Try.prog N R 12 args h := by kernel_rfl

/-- lintel/runs.counts -/
noncomputable def r13 (R : RnK) (N : Nat) (args : List Value) (h : Hs) : An := unC args fun a0 sq0 => enK h fun h0 =>
 kLenV a0 (fun x0 =>
 jn (fun (x2 x3 x4 x5 x6 : Value) (h7 : Hs) =>
 clrK h x6 h7) fun k1 =>
 lpT (T := Value → Value → Value → Value → Value → Hs → An) (fun _ _ _ _ _ _ => none) N (fun k8 =>
 fun (x10 x11 x12 x13 x14 : Value) (h15 : Hs) =>
 kI64 .lss x10 x0 (fun x16 =>
 jn (fun (h18 : Hs) =>
 jn (fun (x20 x21 x22 : Value) (h23 : Hs) =>
 kI64 .add x10 (Value.int .i64 (.ofNat 1)) (fun x24 =>
 k8 x24 x16 x20 x21 x22 h23)) fun k19 =>
 kIdxA 2 a0 x10 (fun x25 =>
 kLoads 2 x25 h18 (fun x26 =>
 after (fun x27 h28 =>
 after (fun x29 h30 =>
 kFieldA 1 x27 (fun x31 =>
 kLoad x31 h30 (fun x32 =>
 kI64 .geq x32 (Value.int .i64 (.ofNat 1)) (fun x33 =>
 gdT x33 h30 (fun k34 => kFieldA 1 x27 (fun x35 => k34 x35 h30)) (fun x36 h37 =>
 gdT x33 h37 (fun k38 => kLoad x36 h37 (fun x39 => k38 x39 h37)) (fun x40 h41 =>
 gdT x33 h41 (fun k42 => kI64 .leq x40 (Value.int .i64 (.ofNat 1073741824)) (fun x43 => k42 x43 h41)) (fun x44 h45 =>
 after (fun x46 h47 =>
 gdT x46 h47 (fun k48 => kFieldA 0 x27 (fun x49 => k48 x49 h47)) (fun x50 h51 =>
 gdT x46 h51 (fun k52 => kLoad x50 h51 (fun x53 => k52 x53 h51)) (fun x54 h55 =>
 gdT x46 h55 (fun k56 => kI64 .geq x54 (Value.int .i64 (.ofNat 0)) (fun x57 => k56 x57 h55)) (fun x58 h59 =>
 after (fun x60 h61 =>
 gdT x60 h61 (fun k62 => kFieldA 0 x27 (fun x63 => k62 x63 h61)) (fun x64 h65 =>
 gdT x60 h65 (fun k66 => kLoad x64 h65 (fun x67 => k66 x67 h65)) (fun x68 h69 =>
 gdT x60 h69 (fun k70 => kI64 .leq x68 (Value.int .i64 (.ofNat 1073741824)) (fun x71 => k70 x71 h69)) (fun x72 h73 =>
 after (fun x74 h75 =>
 jn (fun (x77 : Value) (h78 : Hs) =>
 k19 x27 x74 x77 h78) fun k76 =>
 cnd x74
 (kLoads 2 x27 h75 (fun x79 =>
 after (fun x80 h81 =>
 after (fun x82 h83 =>
 k76 x82 h83) (app0 25 2 16 h81 x14 x80)) (oMkrow 25 2 1 [(Value.int .i64 (.ofNat 0)), (Value.int .i64 (.ofNat 0))] [(0, 2, .c x79)] enE h75)))
 (k76 x14 h75)) (pickB (.c x72) (.c (Value.bool false)) enE h73 x60))))) (pickB (.c x58) (.c (Value.bool false)) enE h59 x46))))) (pickB (.c x44) (.c (Value.bool false)) enE h45 x33)))))))) (store1 2 h28 (cellsL x26) (addrOf x27))) (oAlloc 25 [(Value.int .i64 (.ofNat 0)), (Value.int .i64 (.ofNat 0))] enE h18)))) fun k17 =>
 cnd x16
 (k17 h15)
 (k1 x10 x16 x12 x13 x14 h15))) (Value.int .i64 (.ofNat 0)) dunno dunno dunno (Value.slice none 0 0) h0)

theorem q13 (R : RnK) (N : Nat) (args : List Value) (h : Hs) : r13 R N args h = callT Try.prog N R 13 args h := by kernel_rfl

/-- slices.SortFunc[[]lintel/node.Run,lintel/node.Run] -/
noncomputable def r14 (R : RnK) (N : Nat) (args : List Value) (h : Hs) : An := unC args fun a0 sq0 => unC sq0 fun a1 sq1 => enK h fun h0 =>
 kLenV a0 (fun x0 =>
 kToU x0 (fun x1 =>
 kCall R 18 [x1] h0 (fun x2 h3 =>
 kCall R 17 [a0, (Value.int .i64 (.ofNat 0)), x0, x2, a1] h3 (fun x4 h5 =>
 clrK h (Value.tuple #[]) h5))))

theorem q14 (R : RnK) (N : Nat) (args : List Value) (h : Hs) : r14 R N args h = callT Try.prog N R 14 args h := by kernel_rfl

/-- lintel/runs.Apart$1 -/
noncomputable def r15 (R : RnK) (N : Nat) (args : List Value) (h : Hs) : An := unC args fun a0 sq0 => unC sq0 fun a1 sq1 => enK h fun h0 =>
 after (fun x0 h1 =>
 after (fun x2 h3 =>
 kFieldA 0 x0 (fun x4 =>
 kLoad x4 h3 (fun x5 =>
 kFieldA 0 x2 (fun x6 =>
 kLoad x6 h3 (fun x7 =>
 kI64 .sub x5 x7 (fun x8 =>
 clrK h x8 h3)))))) (oBox 25 (.c a1) enE h1)) (oBox 25 (.c a0) enE h0)

theorem q15 (R : RnK) (N : Nat) (args : List Value) (h : Hs) : r15 R N args h = callT Try.prog N R 15 args h := by kernel_rfl

/-- slices.Concat[[]lintel/node.Run,lintel/node.Run] -/
noncomputable def r16 (R : RnK) (N : Nat) (args : List Value) (h : Hs) : An := unC args fun a0 sq0 => enK h fun h0 =>
 kLenV a0 (fun x0 =>
 jn (fun (x2 x3 x4 x5 x6 : Value) (h7 : Hs) =>
 kCall R 19 [(Value.slice none 0 0), x4] h7 (fun x8 h9 =>
 kLenV a0 (fun x10 =>
 jn (fun (x12 x13 x14 x15 : Value) (h16 : Hs) =>
 clrK h x14 h16) fun k11 =>
 lpT (T := Value → Value → Value → Value → Hs → An) (fun _ _ _ _ _ => none) N (fun k17 =>
 fun (x19 x20 x21 x22 : Value) (h23 : Hs) =>
 kI64 .lss x19 x10 (fun x24 =>
 jn (fun (h26 : Hs) =>
 jn (fun (x28 x29 : Value) (h30 : Hs) =>
 kI64 .add x19 (Value.int .i64 (.ofNat 1)) (fun x31 =>
 k17 x31 x24 x28 x29 h30)) fun k27 =>
 kIdxA 1 a0 x19 (fun x32 =>
 kLoad x32 h26 (fun x33 =>
 after (fun x34 h35 =>
 k27 x34 x33 h35) (app0 25 2 16 h26 x21 x33)))) fun k25 =>
 cnd x24
 (k25 h23)
 (k11 x19 x24 x21 x22 h23))) (Value.int .i64 (.ofNat 0)) dunno x8 dunno h9))) fun k1 =>
 lpT (T := Value → Value → Value → Value → Value → Hs → An) (fun _ _ _ _ _ _ => none) N (fun k36 =>
 fun (x38 x39 x40 x41 x42 : Value) (h43 : Hs) =>
 kI64 .lss x38 x0 (fun x44 =>
 jn (fun (h46 : Hs) =>
 jn (fun (x48 x49 x50 : Value) (h51 : Hs) =>
 kI64 .add x38 (Value.int .i64 (.ofNat 1)) (fun x52 =>
 k36 x52 x44 x48 x49 x50 h51)) fun k47 =>
 kIdxA 1 a0 x38 (fun x53 =>
 kLoad x53 h46 (fun x54 =>
 kLenV x54 (fun x55 =>
 kI64 .add x40 x55 (fun x56 =>
 kI64 .lss x56 (Value.int .i64 (.ofNat 0)) (fun x57 =>
 jn (fun (h59 : Hs) =>
 k47 x56 x54 x57 h59) fun k58 =>
 cnd x57
 (after (fun x60 h61 =>
 none) (oMkface 9 (.c (Value.string ⟨#[108, 101, 110, 32, 111, 117, 116, 32, 111, 102, 32, 114, 97, 110, 103, 101]⟩)) enE h46))
 (k58 h46))))))) fun k45 =>
 cnd x44
 (k45 h43)
 (k1 x38 x44 x40 x41 x42 h43))) (Value.int .i64 (.ofNat 0)) dunno (Value.int .i64 (.ofNat 0)) dunno dunno h0)

theorem q16 (R : RnK) (N : Nat) (args : List Value) (h : Hs) : r16 R N args h = callT Try.prog N R 16 args h := by kernel_rfl

/-- slices.pdqsortCmpFunc[lintel/node.Run] -/
noncomputable def r17 (R : RnK) (N : Nat) (args : List Value) (h : Hs) : An := unC args fun a0 sq0 => unC sq0 fun a1 sq1 => unC sq1 fun a2 sq2 => unC sq2 fun a3 sq3 => unC sq3 fun a4 sq4 => enK h fun h0 =>
 jn (fun (x1 x2 x3 x4 x5 x6 x7 x8 x9 x10 x11 x12 x13 x14 x15 x16 x17 x18 x19 x20 x21 x22 : Value) (h23 : Hs) =>
 clrK h (Value.tuple #[]) h23) fun k0 =>
 lpT (T := Value → Value → Value → Value → Value → Value → Value → Value → Value → Value → Value → Value → Value → Value → Value → Value → Value → Value → Value → Value → Value → Value → Hs → An) (fun _ _ _ _ _ _ _ _ _ _ _ _ _ _ _ _ _ _ _ _ _ _ _ => none) N (fun k24 =>
 fun (x26 x27 x28 x29 x30 x31 x32 x33 x34 x35 x36 x37 x38 x39 x40 x41 x42 x43 x44 x45 x46 x47 : Value) (h48 : Hs) =>
 jn (fun (x50 x51 x52 x53 x54 x55 x56 x57 x58 x59 x60 x61 x62 x63 x64 x65 x66 x67 x68 x69 x70 x71 : Value) (h72 : Hs) =>
 k24 x50 x51 x52 x53 x54 x55 x56 x57 x58 x59 x60 x61 x62 x63 x64 x65 x66 x67 x68 x69 x70 x71 h72) fun k49 =>
 kI64 .sub x26 x27 (fun x73 =>
 kI64 .leq x73 (Value.int .i64 (.ofNat 12)) (fun x74 =>
 jn (fun (h76 : Hs) =>
 kI64 .eql x30 (Value.int .i64 (.ofNat 0)) (fun x77 =>
 jn (fun (h79 : Hs) =>
 kNot x32 (fun x80 =>
 jn (fun (x82 : Value) (h83 : Hs) =>
 kCall R 23 [a0, x27, x26, a4] h83 (fun x84 h85 =>
 kExtr x84 0 (fun x86 =>
 kExtr x84 1 (fun x87 =>
 kI64 .eql x87 (Value.int .i64 (.ofNat 2)) (fun x88 =>
 jn (fun (x90 x91 : Value) (h92 : Hs) =>
 gdT x32 h92 (fun k93 => k93 x37 h92) (fun x94 h95 =>
 after (fun x96 h97 =>
 gdT x96 h97 (fun k98 => k98 x90 h97) (fun x99 h100 =>
 gdT x96 h100 (fun k101 => kI64 .eql x99 (Value.int .i64 (.ofNat 1)) (fun x102 => k101 x102 h100)) (fun x103 h104 =>
 after (fun x105 h106 =>
 jn (fun (x108 : Value) (h109 : Hs) =>
 kI64 .gtr x27 (Value.int .i64 (.ofNat 0)) (fun x110 =>
 gdT x110 h109 (fun k111 => k111 a4 h109) (fun x112 _ =>
 gdT x110 h109 (fun k114 => k114 a0 h109) (fun x115 _ =>
 gdT x110 h109 (fun k117 => k117 x27 h109) (fun x118 _ =>
 gdT x110 h109 (fun k120 => kI64 .sub x118 (Value.int .i64 (.ofNat 1)) (fun x121 => k120 x121 h109)) (fun x122 _ =>
 gdT x110 h109 (fun k124 => kIdxA 2 x115 x122 (fun x125 => k124 x125 h109)) (fun x126 _ =>
 gdT x110 h109 (fun k128 => kLoads 2 x126 (Hs.mk h109.hp h109.nx h109.nx) (fun x129 => k128 x129 h109)) (fun x130 _ =>
 gdT x110 h109 (fun k132 => k132 a0 h109) (fun x133 _ =>
 gdT x110 h109 (fun k135 => k135 x91 h109) (fun x136 _ =>
 gdT x110 h109 (fun k138 => kIdxA 2 x133 x136 (fun x139 => k138 x139 h109)) (fun x140 _ =>
 gdT x110 h109 (fun k142 => kLoads 2 x140 (Hs.mk h109.hp h109.nx h109.nx) (fun x143 => k142 x143 h109)) (fun x144 _ =>
 gdT x110 h109 (fun k146 => isVal (fun v147 u148 => dPut k146 v147 (dNext h109 u148 .bar) (andB (dFit h109 u148 .bar) (Nat.ble 0 u148.lo))) (callV (toRn R) [x130, x144] h109 x112)) (fun x149 h150 =>
 gdT x110 h150 (fun k151 => kI64 .lss x149 (Value.int .i64 (.ofNat 0)) (fun x152 => k151 x152 h150)) (fun x153 _ =>
 gdT x110 h150 (fun k155 => kNot x153 (fun x156 => k155 x156 h150)) (fun x157 _ =>
 after (fun v188 u189 => dPut (fun x159 h160 =>
 jn (fun (x162 x163 : Value) (h164 : Hs) =>
 kCall R 27 [a0, x162, x26, x91, a4] h164 (fun x165 h166 =>
 kExtr x165 0 (fun x167 =>
 kExtr x165 1 (fun x168 =>
 kI64 .sub x167 x162 (fun x169 =>
 kI64 .sub x26 x167 (fun x170 =>
 kI64 .quo x73 (Value.int .i64 (.ofNat 8)) (fun x171 =>
 kI64 .lss x169 x170 (fun x172 =>
 jn (fun (x174 x175 x176 : Value) (h177 : Hs) =>
 k49 x174 x175 x73 x74 x82 x77 x176 x80 x90 x88 x91 x168 x105 x108 x159 x163 x168 x167 x169 x170 x172 x171 h177) fun k173 =>
 cnd x172
 (kI64 .geq x169 x171 (fun x178 =>
 kCall R 17 [a0, x162, x167, x82, a4] h166 (fun x179 h180 =>
 kI64 .add x167 (Value.int .i64 (.ofNat 1)) (fun x181 =>
 k173 x26 x181 x178 h180))))
 (kI64 .geq x170 x171 (fun x182 =>
 kI64 .add x167 (Value.int .i64 (.ofNat 1)) (fun x183 =>
 kCall R 17 [a0, x183, x26, x82, a4] h166 (fun x184 h185 =>
 k173 x167 x162 x182 h185)))))))))))) fun k161 =>
 cnd x159
 (kCall R 26 [a0, x27, x26, x91, a4] h160 (fun x186 h187 =>
 k49 x26 x186 x73 x74 x82 x77 x32 x80 x90 x88 x91 x37 x105 x108 x159 x186 x42 x43 x44 x45 x46 x47 h187))
 (k161 x27 x41 h160)) v188 (dNext h150 u189 .blind) (andB (dFit h150 u189 .blind) (Nat.ble 0 u189.lo))) (pickB (.c x157) (.c (Value.bool false)) enE (Hs.mk .e h150.nx h150.nx) x110)))))))))))))))) fun k107 =>
 cnd x105
 (kCall R 25 [a0, x27, x26, a4] h106 (fun x190 h191 =>
 jn (fun (h193 : Hs) =>
 k107 x190 h193) fun k192 =>
 cnd x190
 (clrK h (Value.tuple #[]) h191)
 (k192 h191)))
 (k107 x39 h106)) (pickB (.c x103) (.c (Value.bool false)) enE h104 x96)))) (pickB (.c x94) (.c (Value.bool false)) enE h95 x32))) fun k89 =>
 cnd x88
 (kCall R 24 [a0, x27, x26, a4] h85 (fun x194 h195 =>
 kI64 .sub x26 (Value.int .i64 (.ofNat 1)) (fun x196 =>
 kI64 .sub x86 x27 (fun x197 =>
 kI64 .sub x196 x197 (fun x198 =>
 k89 (Value.int .i64 (.ofNat 1)) x198 h195)))))
 (k89 x87 x86 h85)))))) fun k81 =>
 cnd x80
 (kCall R 22 [a0, x27, x26, a4] h79 (fun x199 h200 =>
 kI64 .sub x30 (Value.int .i64 (.ofNat 1)) (fun x201 =>
 k81 x201 h200)))
 (k81 x30 h79))) fun k78 =>
 cnd x77
 (kCall R 21 [a0, x27, x26, a4] h76 (fun x202 h203 =>
 clrK h (Value.tuple #[]) h203))
 (k78 h76))) fun k75 =>
 cnd x74
 (kCall R 20 [a0, x27, x26, a4] h48 (fun x204 h205 =>
 clrK h (Value.tuple #[]) h205))
 (k75 h48)))) a2 a1 dunno dunno a3 dunno (Value.bool true) dunno dunno dunno dunno (Value.bool true) dunno dunno dunno dunno dunno dunno dunno dunno dunno dunno h0

theorem q17 (R : RnK) (N : Nat) (args : List Value) (h : Hs) : r17 R N args h = callT Try.prog N R 17 args h := by kernel_rfl

/-- math/bits.Len -/
noncomputable def r18 (R : RnK) (N : Nat) (args : List Value) (h : Hs) : An := unC args fun a0 sq0 => enK h fun h0 =>
 jn (fun (x1 : Value) (h2 : Hs) =>
 kCall R 29 [a0] h2 (fun x3 h4 =>
 clrK h x3 h4)) fun k0 =>
 cnd (Value.bool false)
 (obK (fun x5 =>
 kCall R 28 [x5] h0 (fun x6 h7 =>
 clrK h x6 h7)) (convI1 .u32 a0))
 (k0 (Value.int .i64 (.ofNat 0)) h0)

theorem q18 (R : RnK) (N : Nat) (args : List Value) (h : Hs) : r18 R N args h = callT Try.prog N R 18 args h := by kernel_rfl

/-- slices.Grow[[]lintel/node.Run,lintel/node.Run] -/
noncomputable def r19 (R : RnK) (N : Nat) (args : List Value) (h : Hs) : An := unC args fun a0 sq0 => unC sq0 fun a1 sq1 => enK h fun h0 =>
 kI64 .lss a1 (Value.int .i64 (.ofNat 0)) (fun x0 =>
 jn (fun (h2 : Hs) =>
 after (fun x3 h4 =>
 kLenV a0 (fun x5 =>
 kI64 .sub x3 x5 (fun x6 =>
 kI64 .sub a1 x6 (fun x7 =>
 kI64 .gtr x7 (Value.int .i64 (.ofNat 0)) (fun x8 =>
 jn (fun (x10 : Value) (h11 : Hs) =>
 clrK h x10 h11) fun k9 =>
 cnd x8
 (after (fun x12 h13 =>
 after (fun x14 h15 =>
 after (fun x16 h17 =>
 kLenV a0 (fun x18 =>
 after (fun x19 h20 =>
 k9 x19 h20) (oSlice 2 (.c x16) none (some (.c x18)) none enE h17))) (appZ1 h15 25 2 16 [(Value.int .i64 (.ofNat 0)), (Value.int .i64 (.ofNat 0))] x14 (natOf x7))) (oSlice 2 (.c a0) none (some (.c x12)) none enE h13)) (oCapV (.c a0) enE h4))
 (k9 a0 h4)))))) (oCapV (.c a0) enE h2)) fun k1 =>
 cnd x0
 (after (fun x21 h22 =>
 none) (oMkface 9 (.c (Value.string ⟨#[99, 97, 110, 110, 111, 116, 32, 98, 101, 32, 110, 101, 103, 97, 116, 105, 118, 101]⟩)) enE h0))
 (k1 h0))

theorem q19 (R : RnK) (N : Nat) (args : List Value) (h : Hs) : r19 R N args h = callT Try.prog N R 19 args h := by kernel_rfl

/-- slices.insertionSortCmpFunc[lintel/node.Run] -/
noncomputable def r20 (R : RnK) (N : Nat) (args : List Value) (h : Hs) : An := unC args fun a0 sq0 => unC sq0 fun a1 sq1 => unC sq1 fun a2 sq2 => unC sq2 fun a3 sq3 => enK h fun h0 =>
 kI64 .add a1 (Value.int .i64 (.ofNat 1)) (fun x0 =>
 jn (fun (x2 x3 x4 x5 : Value) (h6 : Hs) =>
 clrK h (Value.tuple #[]) h6) fun k1 =>
 lpT (T := Value → Value → Value → Value → Hs → An) (fun _ _ _ _ _ => none) N (fun k7 =>
 fun (x9 x10 x11 x12 : Value) (h13 : Hs) =>
 kI64 .lss x9 a2 (fun x14 =>
 jn (fun (h16 : Hs) =>
 jn (fun (x18 x19 : Value) (h20 : Hs) =>
 kI64 .add x9 (Value.int .i64 (.ofNat 1)) (fun x21 =>
 k7 x21 x14 x18 x19 h20)) fun k17 =>
 jn (fun (x23 x24 : Value) (h25 : Hs) =>
 k17 x23 x24 h25) fun k22 =>
 lpT (T := Value → Value → Hs → An) (fun _ _ _ => none) N (fun k26 =>
 fun (x28 x29 : Value) (h30 : Hs) =>
 kI64 .gtr x28 a1 (fun x31 =>
 gdT x31 h30 (fun k32 => k32 a3 h30) (fun x33 _ =>
 gdT x31 h30 (fun k35 => k35 a0 h30) (fun x36 _ =>
 gdT x31 h30 (fun k38 => k38 x28 h30) (fun x39 _ =>
 gdT x31 h30 (fun k41 => kIdxA 2 x36 x39 (fun x42 => k41 x42 h30)) (fun x43 _ =>
 gdT x31 h30 (fun k45 => kLoads 2 x43 (Hs.mk h30.hp h30.nx h30.nx) (fun x46 => k45 x46 h30)) (fun x47 _ =>
 gdT x31 h30 (fun k49 => k49 a0 h30) (fun x50 _ =>
 gdT x31 h30 (fun k52 => k52 x28 h30) (fun x53 _ =>
 gdT x31 h30 (fun k55 => kI64 .sub x53 (Value.int .i64 (.ofNat 1)) (fun x56 => k55 x56 h30)) (fun x57 _ =>
 gdT x31 h30 (fun k59 => kIdxA 2 x50 x57 (fun x60 => k59 x60 h30)) (fun x61 _ =>
 gdT x31 h30 (fun k63 => kLoads 2 x61 (Hs.mk h30.hp h30.nx h30.nx) (fun x64 => k63 x64 h30)) (fun x65 _ =>
 gdT x31 h30 (fun k67 => isVal (fun v68 u69 => dPut k67 v68 (dNext h30 u69 .bar) (andB (dFit h30 u69 .bar) (Nat.ble 0 u69.lo))) (callV (toRn R) [x47, x65] h30 x33)) (fun x70 h71 =>
 gdT x31 h71 (fun k72 => kI64 .lss x70 (Value.int .i64 (.ofNat 0)) (fun x73 => k72 x73 h71)) (fun x74 _ =>
 after (fun v99 u100 => dPut (fun x76 h77 =>
 jn (fun (h79 : Hs) =>
 jn (fun (h81 : Hs) =>
 kI64 .sub x28 (Value.int .i64 (.ofNat 1)) (fun x82 =>
 k26 x82 x76 h81)) fun k80 =>
 kI64 .sub x28 (Value.int .i64 (.ofNat 1)) (fun x83 =>
 kI64 .sub x28 (Value.int .i64 (.ofNat 1)) (fun x84 =>
 kIdxA 2 a0 x84 (fun x85 =>
 kLoads 2 x85 (Hs.mk h79.hp h79.nx h79.nx) (fun x86 =>
 kIdxA 2 a0 x28 (fun x87 =>
 kLoads 2 x87 (Hs.mk h79.hp h79.nx h79.nx) (fun x88 =>
 kIdxA 2 a0 x28 (fun x89 =>
 after (fun v97 u98 => dPut (fun x90 h91 =>
 kIdxA 2 a0 x83 (fun x92 =>
 after (fun v95 u96 => dPut (fun x93 h94 =>
 k80 h94) v95 (dNext h91 u96 .bar) (andB (dFit h91 u96 .bar) (Nat.ble 0 u96.lo))) (store1 2 h91 (cellsL x88) (addrOf x92)))) v97 (dNext h79 u98 .bar) (andB (dFit h79 u98 .bar) (Nat.ble 0 u98.lo))) (store1 2 h79 (cellsL x86) (addrOf x89)))))))))) fun k78 =>
 cnd x76
 (k78 h77)
 (k22 x28 x76 h77)) v99 (dNext h71 u100 .blind) (andB (dFit h71 u100 .blind) (Nat.ble 0 u100.lo))) (pickB (.c x74) (.c (Value.bool false)) enE (Hs.mk .e h71.nx h71.nx) x31))))))))))))))) x9 x12 h16) fun k15 =>
 cnd x14
 (k15 h13)
 (k1 x9 x14 x11 x12 h13))) x0 dunno dunno dunno h0)

theorem q20 (R : RnK) (N : Nat) (args : List Value) (h : Hs) : r20 R N args h = callT Try.prog N R 20 args h := by kernel_rfl

/-- slices.heapSortCmpFunc[lintel/node.Run] -/
noncomputable def r21 (R : RnK) (N : Nat) (args : List Value) (h : Hs) : An := unC args fun a0 sq0 => unC sq0 fun a1 sq1 => unC sq1 fun a2 sq2 => unC sq2 fun a3 sq3 => enK h fun h0 =>
 kI64 .sub a2 a1 (fun x0 =>
 kI64 .sub x0 (Value.int .i64 (.ofNat 1)) (fun x1 =>
 kI64 .quo x1 (Value.int .i64 (.ofNat 2)) (fun x2 =>
 jn (fun (x4 x5 : Value) (h6 : Hs) =>
 kI64 .sub x0 (Value.int .i64 (.ofNat 1)) (fun x7 =>
 jn (fun (x9 x10 : Value) (h11 : Hs) =>
 clrK h (Value.tuple #[]) h11) fun k8 =>
 lpT (T := Value → Value → Hs → An) (fun _ _ _ => none) N (fun k12 =>
 fun (x14 x15 : Value) (h16 : Hs) =>
 kI64 .geq x14 (Value.int .i64 (.ofNat 0)) (fun x17 =>
 jn (fun (h19 : Hs) =>
 jn (fun (h21 : Hs) =>
 kI64 .sub x14 (Value.int .i64 (.ofNat 1)) (fun x22 =>
 k12 x22 x17 h21)) fun k20 =>
 kI64 .add a1 x14 (fun x23 =>
 kI64 .add a1 x14 (fun x24 =>
 kIdxA 2 a0 x24 (fun x25 =>
 kLoads 2 x25 (Hs.mk h19.hp h19.nx h19.nx) (fun x26 =>
 kIdxA 2 a0 a1 (fun x27 =>
 kLoads 2 x27 (Hs.mk h19.hp h19.nx h19.nx) (fun x28 =>
 kIdxA 2 a0 a1 (fun x29 =>
 after (fun v39 u40 => dPut (fun x30 h31 =>
 kIdxA 2 a0 x23 (fun x32 =>
 after (fun v37 u38 => dPut (fun x33 h34 =>
 kCall R 30 [a0, (Value.int .i64 (.ofNat 0)), x14, a1, a3] h34 (fun x35 h36 =>
 k20 h36)) v37 (dNext h31 u38 .bar) (andB (dFit h31 u38 .bar) (Nat.ble 0 u38.lo))) (store1 2 h31 (cellsL x28) (addrOf x32)))) v39 (dNext h19 u40 .bar) (andB (dFit h19 u40 .bar) (Nat.ble 0 u40.lo))) (store1 2 h19 (cellsL x26) (addrOf x29)))))))))) fun k18 =>
 cnd x17
 (k18 h16)
 (k8 x14 x17 h16))) x7 dunno h6)) fun k3 =>
 lpT (T := Value → Value → Hs → An) (fun _ _ _ => none) N (fun k41 =>
 fun (x43 x44 : Value) (h45 : Hs) =>
 kI64 .geq x43 (Value.int .i64 (.ofNat 0)) (fun x46 =>
 jn (fun (h48 : Hs) =>
 jn (fun (h50 : Hs) =>
 kI64 .sub x43 (Value.int .i64 (.ofNat 1)) (fun x51 =>
 k41 x51 x46 h50)) fun k49 =>
 kCall R 30 [a0, x43, x0, a1, a3] h48 (fun x52 h53 =>
 k49 h53)) fun k47 =>
 cnd x46
 (k47 h45)
 (k3 x43 x46 h45))) x2 dunno h0)))

theorem q21 (R : RnK) (N : Nat) (args : List Value) (h : Hs) : r21 R N args h = callT Try.prog N R 21 args h := by kernel_rfl

/-- slices.breakPatternsCmpFunc[lintel/node.Run] -/
noncomputable def r22 (R : RnK) (N : Nat) (args : List Value) (h : Hs) : An := unC args fun a0 sq0 => unC sq0 fun a1 sq1 => unC sq1 fun a2 sq2 => unC sq2 fun a3 sq3 => enK h fun h0 =>
 kI64 .sub a2 a1 (fun x0 =>
 kI64 .geq x0 (Value.int .i64 (.ofNat 8)) (fun x1 =>
 jn (fun (x3 x4 x5 x6 x7 x8 : Value) (h9 : Hs) =>
 clrK h (Value.tuple #[]) h9) fun k2 =>
 cnd x1
 (kToU x0 (fun x10 =>
 after (fun x11 h12 =>
 kStore1 x11 x10 h12 (fun x13 h14 =>
 kCall R 31 [x0] h14 (fun x15 h16 =>
 kI64 .quo x0 (Value.int .i64 (.ofNat 4)) (fun x17 =>
 kI64 .mul x17 (Value.int .i64 (.ofNat 2)) (fun x18 =>
 kI64 .add a1 x18 (fun x19 =>
 kI64 .sub x19 (Value.int .i64 (.ofNat 1)) (fun x20 =>
 jn (fun (x22 x23 x24 x25 : Value) (h26 : Hs) =>
 k2 x22 x23 x11 x15 x24 x25 h26) fun k21 =>
 lpT (T := Value → Value → Value → Value → Hs → An) (fun _ _ _ _ _ => none) N (fun k27 =>
 fun (x29 x30 x31 x32 : Value) (h33 : Hs) =>
 kI64 .quo x0 (Value.int .i64 (.ofNat 4)) (fun x34 =>
 kI64 .mul x34 (Value.int .i64 (.ofNat 2)) (fun x35 =>
 kI64 .add a1 x35 (fun x36 =>
 kI64 .add x36 (Value.int .i64 (.ofNat 1)) (fun x37 =>
 kI64 .leq x29 x37 (fun x38 =>
 jn (fun (h40 : Hs) =>
 jn (fun (x42 x43 : Value) (h44 : Hs) =>
 kI64 .add x29 (Value.int .i64 (.ofNat 1)) (fun x45 =>
 k27 x45 x38 x42 x43 h44)) fun k41 =>
 kCall R 32 [x11] h40 (fun x46 h47 =>
 kU64 .sub x15 (Value.int .u64 (.ofNat 1)) (fun x48 =>
 kU64 .and x46 x48 (fun x49 =>
 kTo64 x49 (fun x50 =>
 kI64 .geq x50 x0 (fun x51 =>
 jn (fun (x53 : Value) (h54 : Hs) =>
 kI64 .add a1 x53 (fun x55 =>
 kI64 .add a1 x53 (fun x56 =>
 kIdxA 2 a0 x56 (fun x57 =>
 kLoads 2 x57 (Hs.mk h54.hp h54.nx h54.nx) (fun x58 =>
 kIdxA 2 a0 x29 (fun x59 =>
 kLoads 2 x59 (Hs.mk h54.hp h54.nx h54.nx) (fun x60 =>
 kIdxA 2 a0 x29 (fun x61 =>
 after (fun v69 u70 => dPut (fun x62 h63 =>
 kIdxA 2 a0 x55 (fun x64 =>
 after (fun v67 u68 => dPut (fun x65 h66 =>
 k41 x53 x51 h66) v67 (dNext h63 u68 .bar) (andB (dFit h63 u68 .bar) (Nat.ble 0 u68.lo))) (store1 2 h63 (cellsL x60) (addrOf x64)))) v69 (dNext h54 u70 .bar) (andB (dFit h54 u70 .bar) (Nat.ble 0 u70.lo))) (store1 2 h54 (cellsL x58) (addrOf x61)))))))))) fun k52 =>
 cnd x51
 (kI64 .sub x50 x0 (fun x71 =>
 k52 x71 h47))
 (k52 x50 h47))))))) fun k39 =>
 cnd x38
 (k39 h33)
 (k21 x29 x38 x31 x32 h33))))))) x20 dunno dunno dunno h16))))))) (oAlloc 57 [(Value.int .u64 (.ofNat 0))] enE h0)))
 (k2 dunno dunno dunno dunno dunno dunno h0)))

theorem q22 (R : RnK) (N : Nat) (args : List Value) (h : Hs) : r22 R N args h = callT Try.prog N R 22 args h := by kernel_rfl

/-- slices.choosePivotCmpFunc[lintel/node.Run] -/
noncomputable def r23 (R : RnK) (N : Nat) (args : List Value) (h : Hs) : An := unC args fun a0 sq0 => unC sq0 fun a1 sq1 => unC sq1 fun a2 sq2 => unC sq2 fun a3 sq3 => enK h fun h0 =>
 kI64 .sub a2 a1 (fun x0 =>
 after (fun x1 h2 =>
 kI64 .quo x0 (Value.int .i64 (.ofNat 4)) (fun x3 =>
 kI64 .mul x3 (Value.int .i64 (.ofNat 1)) (fun x4 =>
 kI64 .add a1 x4 (fun x5 =>
 kI64 .quo x0 (Value.int .i64 (.ofNat 4)) (fun x6 =>
 kI64 .mul x6 (Value.int .i64 (.ofNat 2)) (fun x7 =>
 kI64 .add a1 x7 (fun x8 =>
 kI64 .quo x0 (Value.int .i64 (.ofNat 4)) (fun x9 =>
 kI64 .mul x9 (Value.int .i64 (.ofNat 3)) (fun x10 =>
 kI64 .add a1 x10 (fun x11 =>
 kI64 .geq x0 (Value.int .i64 (.ofNat 8)) (fun x12 =>
 jn (fun (x14 x15 x16 x17 : Value) (h18 : Hs) =>
 kLoad x1 h18 (fun x19 =>
 jn (fun (x21 x22 x23 x24 : Value) (h25 : Hs) =>
 clrK h (Value.tuple #[x23, x24]) h25) fun k20 =>
 kI64 .eql x19 (Value.int .i64 (.ofNat 0)) (fun x26 =>
 jn (fun (x28 x29 x30 : Value) (h31 : Hs) =>
 k20 x26 x28 x29 x30 h31) fun k27 =>
 cnd x26
 (clrK h (Value.tuple #[x16, (Value.int .i64 (.ofNat 1))]) h18)
 (kI64 .eql x19 (Value.int .i64 (.ofNat 12)) (fun x32 =>
 jn (fun (x34 x35 : Value) (h36 : Hs) =>
 k27 x32 x34 x35 h36) fun k33 =>
 cnd x32
 (clrK h (Value.tuple #[x16, (Value.int .i64 (.ofNat 2))]) h18)
 (clrK h (Value.tuple #[x16, (Value.int .i64 (.ofNat 0))]) h18)))))) fun k13 =>
 cnd x12
 (kI64 .geq x0 (Value.int .i64 (.ofNat 50)) (fun x37 =>
 jn (fun (x39 x40 x41 : Value) (h42 : Hs) =>
 kCall R 34 [a0, x39, x40, x41, x1, a3] h42 (fun x43 h44 =>
 k13 x37 x39 x43 x41 h44)) fun k38 =>
 cnd x37
 (kCall R 33 [a0, x5, x1, a3] h2 (fun x45 h46 =>
 kCall R 33 [a0, x8, x1, a3] h46 (fun x47 h48 =>
 kCall R 33 [a0, x11, x1, a3] h48 (fun x49 h50 =>
 k38 x45 x47 x49 h50))))
 (k38 x5 x8 x11 h2)))
 (k13 dunno x5 x8 x11 h2)))))))))))) (oAlloc 3 [(Value.int .i64 (.ofNat 0))] enE h0))

theorem q23 (R : RnK) (N : Nat) (args : List Value) (h : Hs) : r23 R N args h = callT Try.prog N R 23 args h := by kernel_rfl

/-- slices.reverseRangeCmpFunc[lintel/node.Run] -/
noncomputable def r24 (R : RnK) (N : Nat) (args : List Value) (h : Hs) : An := unC args fun a0 sq0 => unC sq0 fun a1 sq1 => unC sq1 fun a2 sq2 => unC sq2 fun a3 sq3 => enK h fun h0 =>
 kI64 .sub a2 (Value.int .i64 (.ofNat 1)) (fun x0 =>
 jn (fun (x2 x3 x4 : Value) (h5 : Hs) =>
 clrK h (Value.tuple #[]) h5) fun k1 =>
 lpT (T := Value → Value → Value → Hs → An) (fun _ _ _ _ => none) N (fun k6 =>
 fun (x8 x9 x10 : Value) (h11 : Hs) =>
 kI64 .lss x8 x9 (fun x12 =>
 jn (fun (h14 : Hs) =>
 jn (fun (x16 x17 : Value) (h18 : Hs) =>
 k6 x16 x17 x12 h18) fun k15 =>
 kIdxA 2 a0 x9 (fun x19 =>
 kLoads 2 x19 (Hs.mk h14.hp h14.nx h14.nx) (fun x20 =>
 kIdxA 2 a0 x8 (fun x21 =>
 kLoads 2 x21 (Hs.mk h14.hp h14.nx h14.nx) (fun x22 =>
 kIdxA 2 a0 x8 (fun x23 =>
 after (fun v33 u34 => dPut (fun x24 h25 =>
 kIdxA 2 a0 x9 (fun x26 =>
 after (fun v31 u32 => dPut (fun x27 h28 =>
 kI64 .add x8 (Value.int .i64 (.ofNat 1)) (fun x29 =>
 kI64 .sub x9 (Value.int .i64 (.ofNat 1)) (fun x30 =>
 k15 x29 x30 h28))) v31 (dNext h25 u32 .bar) (andB (dFit h25 u32 .bar) (Nat.ble 0 u32.lo))) (store1 2 h25 (cellsL x22) (addrOf x26)))) v33 (dNext h14 u34 .bar) (andB (dFit h14 u34 .bar) (Nat.ble 0 u34.lo))) (store1 2 h14 (cellsL x20) (addrOf x23)))))))) fun k13 =>
 cnd x12
 (k13 h11)
 (k1 x8 x9 x12 h11))) a1 x0 dunno h0)

theorem q24 (R : RnK) (N : Nat) (args : List Value) (h : Hs) : r24 R N args h = callT Try.prog N R 24 args h := by kernel_rfl

/-- slices.partialInsertionSortCmpFunc[lintel/node.Run] -/
noncomputable def r25 (R : RnK) (N : Nat) (args : List Value) (h : Hs) : An := unC args fun a0 sq0 => unC sq0 fun a1 sq1 => unC sq1 fun a2 sq2 => unC sq2 fun a3 sq3 => enK h fun h0 =>
 kI64 .add a1 (Value.int .i64 (.ofNat 1)) (fun x0 =>
 jn (fun (x2 x3 x4 x5 x6 x7 x8 x9 x10 x11 x12 x13 x14 x15 x16 : Value) (h17 : Hs) =>
 clrK h (Value.bool false) h17) fun k1 =>
 lpT (T := Value → Value → Value → Value → Value → Value → Value → Value → Value → Value → Value → Value → Value → Value → Value → Hs → An) (fun _ _ _ _ _ _ _ _ _ _ _ _ _ _ _ _ => none) N (fun k18 =>
 fun (x20 x21 x22 x23 x24 x25 x26 x27 x28 x29 x30 x31 x32 x33 x34 : Value) (h35 : Hs) =>
 kI64 .lss x20 (Value.int .i64 (.ofNat 5)) (fun x36 =>
 jn (fun (h38 : Hs) =>
 jn (fun (x40 x41 x42 x43 x44 x45 x46 x47 x48 x49 x50 x51 x52 : Value) (h53 : Hs) =>
 kI64 .add x20 (Value.int .i64 (.ofNat 1)) (fun x54 =>
 k18 x54 x36 x40 x41 x42 x43 x44 x45 x46 x47 x48 x49 x50 x51 x52 h53)) fun k39 =>
 jn (fun (x56 x57 : Value) (h58 : Hs) =>
 kI64 .eql x56 a2 (fun x59 =>
 jn (fun (x61 : Value) (h62 : Hs) =>
 kI64 .sub a2 a1 (fun x63 =>
 kI64 .lss x63 (Value.int .i64 (.ofNat 50)) (fun x64 =>
 jn (fun (x66 : Value) (h67 : Hs) =>
 kI64 .sub x56 (Value.int .i64 (.ofNat 1)) (fun x68 =>
 kI64 .sub x56 (Value.int .i64 (.ofNat 1)) (fun x69 =>
 kIdxA 2 a0 x69 (fun x70 =>
 kLoads 2 x70 (Hs.mk h67.hp h67.nx h67.nx) (fun x71 =>
 kIdxA 2 a0 x56 (fun x72 =>
 kLoads 2 x72 (Hs.mk h67.hp h67.nx h67.nx) (fun x73 =>
 kIdxA 2 a0 x56 (fun x74 =>
 after (fun v192 u193 => dPut (fun x75 h76 =>
 kIdxA 2 a0 x68 (fun x77 =>
 after (fun v190 u191 => dPut (fun x78 h79 =>
 kI64 .sub x56 a1 (fun x80 =>
 kI64 .geq x80 (Value.int .i64 (.ofNat 2)) (fun x81 =>
 jn (fun (x83 x84 x85 : Value) (h86 : Hs) =>
 kI64 .sub a2 x56 (fun x87 =>
 kI64 .geq x87 (Value.int .i64 (.ofNat 2)) (fun x88 =>
 jn (fun (x90 x91 x92 : Value) (h93 : Hs) =>
 k39 x56 x57 x59 x64 x81 x83 x84 x85 x88 x90 x91 x92 x66 h93) fun k89 =>
 cnd x88
 (kI64 .add x56 (Value.int .i64 (.ofNat 1)) (fun x94 =>
 jn (fun (x96 x97 x98 : Value) (h99 : Hs) =>
 k89 x96 x97 x98 h99) fun k95 =>
 lpT (T := Value → Value → Value → Hs → An) (fun _ _ _ _ => none) N (fun k100 =>
 fun (x102 x103 x104 : Value) (h105 : Hs) =>
 kI64 .lss x102 a2 (fun x106 =>
 jn (fun (h108 : Hs) =>
 jn (fun (x110 : Value) (h111 : Hs) =>
 kI64 .add x102 (Value.int .i64 (.ofNat 1)) (fun x112 =>
 k100 x112 x106 x110 h111)) fun k109 =>
 kIdxA 2 a0 x102 (fun x113 =>
 kLoads 2 x113 (Hs.mk h108.hp h108.nx h108.nx) (fun x114 =>
 kI64 .sub x102 (Value.int .i64 (.ofNat 1)) (fun x115 =>
 kIdxA 2 a0 x115 (fun x116 =>
 kLoads 2 x116 (Hs.mk h108.hp h108.nx h108.nx) (fun x117 =>
 isVal (fun v140 u141 => dPut (fun x118 h119 =>
 kI64 .lss x118 (Value.int .i64 (.ofNat 0)) (fun x120 =>
 kNot x120 (fun x121 =>
 jn (fun (h123 : Hs) =>
 kI64 .sub x102 (Value.int .i64 (.ofNat 1)) (fun x124 =>
 kI64 .sub x102 (Value.int .i64 (.ofNat 1)) (fun x125 =>
 kIdxA 2 a0 x125 (fun x126 =>
 kLoads 2 x126 (Hs.mk h123.hp h123.nx h123.nx) (fun x127 =>
 kIdxA 2 a0 x102 (fun x128 =>
 kLoads 2 x128 (Hs.mk h123.hp h123.nx h123.nx) (fun x129 =>
 kIdxA 2 a0 x102 (fun x130 =>
 after (fun v138 u139 => dPut (fun x131 h132 =>
 kIdxA 2 a0 x124 (fun x133 =>
 after (fun v136 u137 => dPut (fun x134 h135 =>
 k109 x121 h135) v136 (dNext h132 u137 .bar) (andB (dFit h132 u137 .bar) (Nat.ble 0 u137.lo))) (store1 2 h132 (cellsL x129) (addrOf x133)))) v138 (dNext h123 u139 .bar) (andB (dFit h123 u139 .bar) (Nat.ble 0 u139.lo))) (store1 2 h123 (cellsL x127) (addrOf x130)))))))))) fun k122 =>
 cnd x121
 (k95 x102 x106 x121 h119)
 (k122 h119)))) v140 (dNext h108 u141 .bar) (andB (dFit h108 u141 .bar) (Nat.ble 0 u141.lo))) (callV (toRn R) [x114, x117] h108 a3))))))) fun k107 =>
 cnd x106
 (k107 h105)
 (k95 x102 x106 x104 h105))) x94 x32 x33 h86))
 (k89 x31 x32 x33 h86)))) fun k82 =>
 cnd x81
 (kI64 .sub x56 (Value.int .i64 (.ofNat 1)) (fun x142 =>
 jn (fun (x144 x145 x146 : Value) (h147 : Hs) =>
 k82 x144 x145 x146 h147) fun k143 =>
 lpT (T := Value → Value → Value → Hs → An) (fun _ _ _ _ => none) N (fun k148 =>
 fun (x150 x151 x152 : Value) (h153 : Hs) =>
 kI64 .geq x150 (Value.int .i64 (.ofNat 1)) (fun x154 =>
 jn (fun (h156 : Hs) =>
 jn (fun (x158 : Value) (h159 : Hs) =>
 kI64 .sub x150 (Value.int .i64 (.ofNat 1)) (fun x160 =>
 k148 x160 x154 x158 h159)) fun k157 =>
 kIdxA 2 a0 x150 (fun x161 =>
 kLoads 2 x161 (Hs.mk h156.hp h156.nx h156.nx) (fun x162 =>
 kI64 .sub x150 (Value.int .i64 (.ofNat 1)) (fun x163 =>
 kIdxA 2 a0 x163 (fun x164 =>
 kLoads 2 x164 (Hs.mk h156.hp h156.nx h156.nx) (fun x165 =>
 isVal (fun v188 u189 => dPut (fun x166 h167 =>
 kI64 .lss x166 (Value.int .i64 (.ofNat 0)) (fun x168 =>
 kNot x168 (fun x169 =>
 jn (fun (h171 : Hs) =>
 kI64 .sub x150 (Value.int .i64 (.ofNat 1)) (fun x172 =>
 kI64 .sub x150 (Value.int .i64 (.ofNat 1)) (fun x173 =>
 kIdxA 2 a0 x173 (fun x174 =>
 kLoads 2 x174 (Hs.mk h171.hp h171.nx h171.nx) (fun x175 =>
 kIdxA 2 a0 x150 (fun x176 =>
 kLoads 2 x176 (Hs.mk h171.hp h171.nx h171.nx) (fun x177 =>
 kIdxA 2 a0 x150 (fun x178 =>
 after (fun v186 u187 => dPut (fun x179 h180 =>
 kIdxA 2 a0 x172 (fun x181 =>
 after (fun v184 u185 => dPut (fun x182 h183 =>
 k157 x169 h183) v184 (dNext h180 u185 .bar) (andB (dFit h180 u185 .bar) (Nat.ble 0 u185.lo))) (store1 2 h180 (cellsL x177) (addrOf x181)))) v186 (dNext h171 u187 .bar) (andB (dFit h171 u187 .bar) (Nat.ble 0 u187.lo))) (store1 2 h171 (cellsL x175) (addrOf x178)))))))))) fun k170 =>
 cnd x169
 (k143 x150 x154 x169 h167)
 (k170 h167)))) v188 (dNext h156 u189 .bar) (andB (dFit h156 u189 .bar) (Nat.ble 0 u189.lo))) (callV (toRn R) [x162, x165] h156 a3))))))) fun k155 =>
 cnd x154
 (k155 h153)
 (k143 x150 x154 x152 h153))) x142 x28 x29 h79))
 (k82 x27 x28 x29 h79)))) v190 (dNext h76 u191 .bar) (andB (dFit h76 u191 .bar) (Nat.ble 0 u191.lo))) (store1 2 h76 (cellsL x73) (addrOf x77)))) v192 (dNext h67 u193 .bar) (andB (dFit h67 u193 .bar) (Nat.ble 0 u193.lo))) (store1 2 h67 (cellsL x71) (addrOf x74)))))))))) fun k65 =>
 cnd x64
 (clrK h (Value.bool false) h62)
 (k65 x61 h62)))) fun k60 =>
 cnd x59
 (clrK h (Value.bool true) h58)
 (k60 x34 h58))) fun k55 =>
 lpT (T := Value → Value → Hs → An) (fun _ _ _ => none) N (fun k194 =>
 fun (x196 x197 : Value) (h198 : Hs) =>
 kI64 .lss x196 a2 (fun x199 =>
 gdT x199 h198 (fun k200 => k200 a3 h198) (fun x201 _ =>
 gdT x199 h198 (fun k203 => k203 a0 h198) (fun x204 _ =>
 gdT x199 h198 (fun k206 => k206 x196 h198) (fun x207 _ =>
 gdT x199 h198 (fun k209 => kIdxA 2 x204 x207 (fun x210 => k209 x210 h198)) (fun x211 _ =>
 gdT x199 h198 (fun k213 => kLoads 2 x211 (Hs.mk h198.hp h198.nx h198.nx) (fun x214 => k213 x214 h198)) (fun x215 _ =>
 gdT x199 h198 (fun k217 => k217 a0 h198) (fun x218 _ =>
 gdT x199 h198 (fun k220 => k220 x196 h198) (fun x221 _ =>
 gdT x199 h198 (fun k223 => kI64 .sub x221 (Value.int .i64 (.ofNat 1)) (fun x224 => k223 x224 h198)) (fun x225 _ =>
 gdT x199 h198 (fun k227 => kIdxA 2 x218 x225 (fun x228 => k227 x228 h198)) (fun x229 _ =>
 gdT x199 h198 (fun k231 => kLoads 2 x229 (Hs.mk h198.hp h198.nx h198.nx) (fun x232 => k231 x232 h198)) (fun x233 _ =>
 gdT x199 h198 (fun k235 => isVal (fun v236 u237 => dPut k235 v236 (dNext h198 u237 .bar) (andB (dFit h198 u237 .bar) (Nat.ble 0 u237.lo))) (callV (toRn R) [x215, x233] h198 x201)) (fun x238 h239 =>
 gdT x199 h239 (fun k240 => kI64 .lss x238 (Value.int .i64 (.ofNat 0)) (fun x241 => k240 x241 h239)) (fun x242 _ =>
 gdT x199 h239 (fun k244 => kNot x242 (fun x245 => k244 x245 h239)) (fun x246 _ =>
 after (fun v256 u257 => dPut (fun x248 h249 =>
 jn (fun (h251 : Hs) =>
 jn (fun (x253 : Value) (h254 : Hs) =>
 k194 x253 x248 h254) fun k252 =>
 kI64 .add x196 (Value.int .i64 (.ofNat 1)) (fun x255 =>
 k252 x255 h251)) fun k250 =>
 cnd x248
 (k250 h249)
 (k55 x196 x248 h249)) v256 (dNext h239 u257 .blind) (andB (dFit h239 u257 .blind) (Nat.ble 0 u257.lo))) (pickB (.c x246) (.c (Value.bool false)) enE (Hs.mk .e h239.nx h239.nx) x199)))))))))))))))) x22 x23 h38) fun k37 =>
 cnd x36
 (k37 h35)
 (k1 x20 x36 x22 x23 x24 x25 x26 x27 x28 x29 x30 x31 x32 x33 x34 h35))) (Value.int .i64 (.ofNat 0)) dunno x0 dunno dunno dunno dunno dunno dunno dunno dunno dunno dunno dunno (Value.bool false) h0)

theorem q25 (R : RnK) (N : Nat) (args : List Value) (h : Hs) : r25 R N args h = callT Try.prog N R 25 args h := by kernel_rfl

/-- slices.partitionEqualCmpFunc[lintel/node.Run] -/
noncomputable def r26 (R : RnK) (N : Nat) (args : List Value) (h : Hs) : An := unC args fun a0 sq0 => unC sq0 fun a1 sq1 => unC sq1 fun a2 sq2 => unC sq2 fun a3 sq3 => unC sq3 fun a4 sq4 => enK h fun h0 =>
 kIdxA 2 a0 a3 (fun x0 =>
 kLoads 2 x0 (Hs.mk h0.hp h0.nx h0.nx) (fun x1 =>
 kIdxA 2 a0 a1 (fun x2 =>
 kLoads 2 x2 (Hs.mk h0.hp h0.nx h0.nx) (fun x3 =>
 kIdxA 2 a0 a1 (fun x4 =>
 after (fun v179 u180 => dPut (fun x5 h6 =>
 kIdxA 2 a0 a3 (fun x7 =>
 after (fun v177 u178 => dPut (fun x8 h9 =>
 kI64 .add a1 (Value.int .i64 (.ofNat 1)) (fun x10 =>
 kI64 .sub a2 (Value.int .i64 (.ofNat 1)) (fun x11 =>
 jn (fun (x13 x14 x15 x16 x17 : Value) (h18 : Hs) =>
 clrK h x13 h18) fun k12 =>
 lpT (T := Value → Value → Value → Value → Value → Hs → An) (fun _ _ _ _ _ _ => none) N (fun k19 =>
 fun (x21 x22 x23 x24 x25 : Value) (h26 : Hs) =>
 jn (fun (x28 x29 x30 x31 x32 : Value) (h33 : Hs) =>
 k19 x28 x29 x30 x31 x32 h33) fun k27 =>
 jn (fun (x35 x36 : Value) (h37 : Hs) =>
 jn (fun (x39 x40 : Value) (h41 : Hs) =>
 kI64 .gtr x35 x39 (fun x42 =>
 jn (fun (h44 : Hs) =>
 kIdxA 2 a0 x39 (fun x45 =>
 kLoads 2 x45 (Hs.mk h44.hp h44.nx h44.nx) (fun x46 =>
 kIdxA 2 a0 x35 (fun x47 =>
 kLoads 2 x47 (Hs.mk h44.hp h44.nx h44.nx) (fun x48 =>
 kIdxA 2 a0 x35 (fun x49 =>
 after (fun v59 u60 => dPut (fun x50 h51 =>
 kIdxA 2 a0 x39 (fun x52 =>
 after (fun v57 u58 => dPut (fun x53 h54 =>
 kI64 .add x35 (Value.int .i64 (.ofNat 1)) (fun x55 =>
 kI64 .sub x39 (Value.int .i64 (.ofNat 1)) (fun x56 =>
 k27 x55 x56 x36 x40 x42 h54))) v57 (dNext h51 u58 .bar) (andB (dFit h51 u58 .bar) (Nat.ble 0 u58.lo))) (store1 2 h51 (cellsL x48) (addrOf x52)))) v59 (dNext h44 u60 .bar) (andB (dFit h44 u60 .bar) (Nat.ble 0 u60.lo))) (store1 2 h44 (cellsL x46) (addrOf x49)))))))) fun k43 =>
 cnd x42
 (k12 x35 x39 x36 x40 x42 h41)
 (k43 h41))) fun k38 =>
 lpT (T := Value → Value → Hs → An) (fun _ _ _ => none) N (fun k61 =>
 fun (x63 x64 : Value) (h65 : Hs) =>
 kI64 .leq x35 x63 (fun x66 =>
 gdT x66 h65 (fun k67 => k67 a4 h65) (fun x68 _ =>
 gdT x66 h65 (fun k70 => k70 a0 h65) (fun x71 _ =>
 gdT x66 h65 (fun k73 => k73 a1 h65) (fun x74 _ =>
 gdT x66 h65 (fun k76 => kIdxA 2 x71 x74 (fun x77 => k76 x77 h65)) (fun x78 _ =>
 gdT x66 h65 (fun k80 => kLoads 2 x78 (Hs.mk h65.hp h65.nx h65.nx) (fun x81 => k80 x81 h65)) (fun x82 _ =>
 gdT x66 h65 (fun k84 => k84 a0 h65) (fun x85 _ =>
 gdT x66 h65 (fun k87 => k87 x63 h65) (fun x88 _ =>
 gdT x66 h65 (fun k90 => kIdxA 2 x85 x88 (fun x91 => k90 x91 h65)) (fun x92 _ =>
 gdT x66 h65 (fun k94 => kLoads 2 x92 (Hs.mk h65.hp h65.nx h65.nx) (fun x95 => k94 x95 h65)) (fun x96 _ =>
 gdT x66 h65 (fun k98 => isVal (fun v99 u100 => dPut k98 v99 (dNext h65 u100 .bar) (andB (dFit h65 u100 .bar) (Nat.ble 0 u100.lo))) (callV (toRn R) [x82, x96] h65 x68)) (fun x101 h102 =>
 gdT x66 h102 (fun k103 => kI64 .lss x101 (Value.int .i64 (.ofNat 0)) (fun x104 => k103 x104 h102)) (fun x105 _ =>
 after (fun v115 u116 => dPut (fun x107 h108 =>
 jn (fun (h110 : Hs) =>
 jn (fun (x112 : Value) (h113 : Hs) =>
 k61 x112 x107 h113) fun k111 =>
 kI64 .sub x63 (Value.int .i64 (.ofNat 1)) (fun x114 =>
 k111 x114 h110)) fun k109 =>
 cnd x107
 (k109 h108)
 (k38 x63 x107 h108)) v115 (dNext h102 u116 .blind) (andB (dFit h102 u116 .blind) (Nat.ble 0 u116.lo))) (pickB (.c x105) (.c (Value.bool false)) enE (Hs.mk .e h102.nx h102.nx) x66)))))))))))))) x22 x24 h37) fun k34 =>
 lpT (T := Value → Value → Hs → An) (fun _ _ _ => none) N (fun k117 =>
 fun (x119 x120 : Value) (h121 : Hs) =>
 kI64 .leq x119 x22 (fun x122 =>
 gdT x122 h121 (fun k123 => k123 a4 h121) (fun x124 _ =>
 gdT x122 h121 (fun k126 => k126 a0 h121) (fun x127 _ =>
 gdT x122 h121 (fun k129 => k129 a1 h121) (fun x130 _ =>
 gdT x122 h121 (fun k132 => kIdxA 2 x127 x130 (fun x133 => k132 x133 h121)) (fun x134 _ =>
 gdT x122 h121 (fun k136 => kLoads 2 x134 (Hs.mk h121.hp h121.nx h121.nx) (fun x137 => k136 x137 h121)) (fun x138 _ =>
 gdT x122 h121 (fun k140 => k140 a0 h121) (fun x141 _ =>
 gdT x122 h121 (fun k143 => k143 x119 h121) (fun x144 _ =>
 gdT x122 h121 (fun k146 => kIdxA 2 x141 x144 (fun x147 => k146 x147 h121)) (fun x148 _ =>
 gdT x122 h121 (fun k150 => kLoads 2 x148 (Hs.mk h121.hp h121.nx h121.nx) (fun x151 => k150 x151 h121)) (fun x152 _ =>
 gdT x122 h121 (fun k154 => isVal (fun v155 u156 => dPut k154 v155 (dNext h121 u156 .bar) (andB (dFit h121 u156 .bar) (Nat.ble 0 u156.lo))) (callV (toRn R) [x138, x152] h121 x124)) (fun x157 h158 =>
 gdT x122 h158 (fun k159 => kI64 .lss x157 (Value.int .i64 (.ofNat 0)) (fun x160 => k159 x160 h158)) (fun x161 _ =>
 gdT x122 h158 (fun k163 => kNot x161 (fun x164 => k163 x164 h158)) (fun x165 _ =>
 after (fun v175 u176 => dPut (fun x167 h168 =>
 jn (fun (h170 : Hs) =>
 jn (fun (x172 : Value) (h173 : Hs) =>
 k117 x172 x167 h173) fun k171 =>
 kI64 .add x119 (Value.int .i64 (.ofNat 1)) (fun x174 =>
 k171 x174 h170)) fun k169 =>
 cnd x167
 (k169 h168)
 (k34 x119 x167 h168)) v175 (dNext h158 u176 .blind) (andB (dFit h158 u176 .blind) (Nat.ble 0 u176.lo))) (pickB (.c x165) (.c (Value.bool false)) enE (Hs.mk .e h158.nx h158.nx) x122))))))))))))))) x21 x23 h26) x10 x11 dunno dunno dunno h9))) v177 (dNext h6 u178 .bar) (andB (dFit h6 u178 .bar) (Nat.ble 0 u178.lo))) (store1 2 h6 (cellsL x3) (addrOf x7)))) v179 (dNext h0 u180 .bar) (andB (dFit h0 u180 .bar) (Nat.ble 0 u180.lo))) (store1 2 h0 (cellsL x1) (addrOf x4)))))))

theorem q26 (R : RnK) (N : Nat) (args : List Value) (h : Hs) : r26 R N args h = callT Try.prog N R 26 args h := by kernel_rfl

/-- slices.partitionCmpFunc[lintel/node.Run] -/
noncomputable def r27 (R : RnK) (N : Nat) (args : List Value) (h : Hs) : An := unC args fun a0 sq0 => unC sq0 fun a1 sq1 => unC sq1 fun a2 sq2 => unC sq2 fun a3 sq3 => unC sq3 fun a4 sq4 => enK h fun h0 =>
 kIdxA 2 a0 a3 (fun x0 =>
 kLoads 2 x0 (Hs.mk h0.hp h0.nx h0.nx) (fun x1 =>
 kIdxA 2 a0 a1 (fun x2 =>
 kLoads 2 x2 (Hs.mk h0.hp h0.nx h0.nx) (fun x3 =>
 kIdxA 2 a0 a1 (fun x4 =>
 after (fun v352 u353 => dPut (fun x5 h6 =>
 kIdxA 2 a0 a3 (fun x7 =>
 after (fun v350 u351 => dPut (fun x8 h9 =>
 kI64 .add a1 (Value.int .i64 (.ofNat 1)) (fun x10 =>
 kI64 .sub a2 (Value.int .i64 (.ofNat 1)) (fun x11 =>
 jn (fun (x13 x14 : Value) (h15 : Hs) =>
 jn (fun (x17 x18 : Value) (h19 : Hs) =>
 kI64 .gtr x13 x17 (fun x20 =>
 jn (fun (x22 x23 : Value) (h24 : Hs) =>
 kIdxA 2 a0 x17 (fun x25 =>
 kLoads 2 x25 (Hs.mk h24.hp h24.nx h24.nx) (fun x26 =>
 kIdxA 2 a0 x13 (fun x27 =>
 kLoads 2 x27 (Hs.mk h24.hp h24.nx h24.nx) (fun x28 =>
 kIdxA 2 a0 x13 (fun x29 =>
 after (fun v218 u219 => dPut (fun x30 h31 =>
 kIdxA 2 a0 x17 (fun x32 =>
 after (fun v216 u217 => dPut (fun x33 h34 =>
 kI64 .add x13 (Value.int .i64 (.ofNat 1)) (fun x35 =>
 kI64 .sub x17 (Value.int .i64 (.ofNat 1)) (fun x36 =>
 jn (fun (x38 x39 x40 x41 x42 : Value) (h43 : Hs) =>
 kIdxA 2 a0 a1 (fun x44 =>
 kLoads 2 x44 (Hs.mk h43.hp h43.nx h43.nx) (fun x45 =>
 kIdxA 2 a0 x39 (fun x46 =>
 kLoads 2 x46 (Hs.mk h43.hp h43.nx h43.nx) (fun x47 =>
 kIdxA 2 a0 x39 (fun x48 =>
 after (fun v56 u57 => dPut (fun x49 h50 =>
 kIdxA 2 a0 a1 (fun x51 =>
 after (fun v54 u55 => dPut (fun x52 h53 =>
 clrK h (Value.tuple #[x39, (Value.bool false)]) h53) v54 (dNext h50 u55 .bar) (andB (dFit h50 u55 .bar) (Nat.ble 0 u55.lo))) (store1 2 h50 (cellsL x47) (addrOf x51)))) v56 (dNext h43 u57 .bar) (andB (dFit h43 u57 .bar) (Nat.ble 0 u57.lo))) (store1 2 h43 (cellsL x45) (addrOf x48)))))))) fun k37 =>
 lpT (T := Value → Value → Value → Value → Value → Hs → An) (fun _ _ _ _ _ _ => none) N (fun k58 =>
 fun (x60 x61 x62 x63 x64 : Value) (h65 : Hs) =>
 jn (fun (x67 x68 x69 x70 x71 : Value) (h72 : Hs) =>
 k58 x67 x68 x69 x70 x71 h72) fun k66 =>
 jn (fun (x74 x75 : Value) (h76 : Hs) =>
 jn (fun (x78 x79 : Value) (h80 : Hs) =>
 kI64 .gtr x74 x78 (fun x81 =>
 jn (fun (h83 : Hs) =>
 kIdxA 2 a0 x78 (fun x84 =>
 kLoads 2 x84 (Hs.mk h83.hp h83.nx h83.nx) (fun x85 =>
 kIdxA 2 a0 x74 (fun x86 =>
 kLoads 2 x86 (Hs.mk h83.hp h83.nx h83.nx) (fun x87 =>
 kIdxA 2 a0 x74 (fun x88 =>
 after (fun v98 u99 => dPut (fun x89 h90 =>
 kIdxA 2 a0 x78 (fun x91 =>
 after (fun v96 u97 => dPut (fun x92 h93 =>
 kI64 .add x74 (Value.int .i64 (.ofNat 1)) (fun x94 =>
 kI64 .sub x78 (Value.int .i64 (.ofNat 1)) (fun x95 =>
 k66 x94 x95 x75 x79 x81 h93))) v96 (dNext h90 u97 .bar) (andB (dFit h90 u97 .bar) (Nat.ble 0 u97.lo))) (store1 2 h90 (cellsL x87) (addrOf x91)))) v98 (dNext h83 u99 .bar) (andB (dFit h83 u99 .bar) (Nat.ble 0 u99.lo))) (store1 2 h83 (cellsL x85) (addrOf x88)))))))) fun k82 =>
 cnd x81
 (k37 x74 x78 x75 x79 x81 h80)
 (k82 h80))) fun k77 =>
 lpT (T := Value → Value → Hs → An) (fun _ _ _ => none) N (fun k100 =>
 fun (x102 x103 : Value) (h104 : Hs) =>
 kI64 .leq x74 x102 (fun x105 =>
 gdT x105 h104 (fun k106 => k106 a4 h104) (fun x107 _ =>
 gdT x105 h104 (fun k109 => k109 a0 h104) (fun x110 _ =>
 gdT x105 h104 (fun k112 => k112 x102 h104) (fun x113 _ =>
 gdT x105 h104 (fun k115 => kIdxA 2 x110 x113 (fun x116 => k115 x116 h104)) (fun x117 _ =>
 gdT x105 h104 (fun k119 => kLoads 2 x117 (Hs.mk h104.hp h104.nx h104.nx) (fun x120 => k119 x120 h104)) (fun x121 _ =>
 gdT x105 h104 (fun k123 => k123 a0 h104) (fun x124 _ =>
 gdT x105 h104 (fun k126 => k126 a1 h104) (fun x127 _ =>
 gdT x105 h104 (fun k129 => kIdxA 2 x124 x127 (fun x130 => k129 x130 h104)) (fun x131 _ =>
 gdT x105 h104 (fun k133 => kLoads 2 x131 (Hs.mk h104.hp h104.nx h104.nx) (fun x134 => k133 x134 h104)) (fun x135 _ =>
 gdT x105 h104 (fun k137 => isVal (fun v138 u139 => dPut k137 v138 (dNext h104 u139 .bar) (andB (dFit h104 u139 .bar) (Nat.ble 0 u139.lo))) (callV (toRn R) [x121, x135] h104 x107)) (fun x140 h141 =>
 gdT x105 h141 (fun k142 => kI64 .lss x140 (Value.int .i64 (.ofNat 0)) (fun x143 => k142 x143 h141)) (fun x144 _ =>
 gdT x105 h141 (fun k146 => kNot x144 (fun x147 => k146 x147 h141)) (fun x148 _ =>
 after (fun v158 u159 => dPut (fun x150 h151 =>
 jn (fun (h153 : Hs) =>
 jn (fun (x155 : Value) (h156 : Hs) =>
 k100 x155 x150 h156) fun k154 =>
 kI64 .sub x102 (Value.int .i64 (.ofNat 1)) (fun x157 =>
 k154 x157 h153)) fun k152 =>
 cnd x150
 (k152 h151)
 (k77 x102 x150 h151)) v158 (dNext h141 u159 .blind) (andB (dFit h141 u159 .blind) (Nat.ble 0 u159.lo))) (pickB (.c x148) (.c (Value.bool false)) enE (Hs.mk .e h141.nx h141.nx) x105))))))))))))))) x61 x63 h76) fun k73 =>
 lpT (T := Value → Value → Hs → An) (fun _ _ _ => none) N (fun k160 =>
 fun (x162 x163 : Value) (h164 : Hs) =>
 kI64 .leq x162 x61 (fun x165 =>
 gdT x165 h164 (fun k166 => k166 a4 h164) (fun x167 _ =>
 gdT x165 h164 (fun k169 => k169 a0 h164) (fun x170 _ =>
 gdT x165 h164 (fun k172 => k172 x162 h164) (fun x173 _ =>
 gdT x165 h164 (fun k175 => kIdxA 2 x170 x173 (fun x176 => k175 x176 h164)) (fun x177 _ =>
 gdT x165 h164 (fun k179 => kLoads 2 x177 (Hs.mk h164.hp h164.nx h164.nx) (fun x180 => k179 x180 h164)) (fun x181 _ =>
 gdT x165 h164 (fun k183 => k183 a0 h164) (fun x184 _ =>
 gdT x165 h164 (fun k186 => k186 a1 h164) (fun x187 _ =>
 gdT x165 h164 (fun k189 => kIdxA 2 x184 x187 (fun x190 => k189 x190 h164)) (fun x191 _ =>
 gdT x165 h164 (fun k193 => kLoads 2 x191 (Hs.mk h164.hp h164.nx h164.nx) (fun x194 => k193 x194 h164)) (fun x195 _ =>
 gdT x165 h164 (fun k197 => isVal (fun v198 u199 => dPut k197 v198 (dNext h164 u199 .bar) (andB (dFit h164 u199 .bar) (Nat.ble 0 u199.lo))) (callV (toRn R) [x181, x195] h164 x167)) (fun x200 h201 =>
 gdT x165 h201 (fun k202 => kI64 .lss x200 (Value.int .i64 (.ofNat 0)) (fun x203 => k202 x203 h201)) (fun x204 _ =>
 after (fun v214 u215 => dPut (fun x206 h207 =>
 jn (fun (h209 : Hs) =>
 jn (fun (x211 : Value) (h212 : Hs) =>
 k160 x211 x206 h212) fun k210 =>
 kI64 .add x162 (Value.int .i64 (.ofNat 1)) (fun x213 =>
 k210 x213 h209)) fun k208 =>
 cnd x206
 (k208 h207)
 (k73 x162 x206 h207)) v214 (dNext h201 u215 .blind) (andB (dFit h201 u215 .blind) (Nat.ble 0 u215.lo))) (pickB (.c x204) (.c (Value.bool false)) enE (Hs.mk .e h201.nx h201.nx) x165)))))))))))))) x60 x62 h65) x35 x36 dunno dunno dunno h34))) v216 (dNext h31 u217 .bar) (andB (dFit h31 u217 .bar) (Nat.ble 0 u217.lo))) (store1 2 h31 (cellsL x28) (addrOf x32)))) v218 (dNext h24 u219 .bar) (andB (dFit h24 u219 .bar) (Nat.ble 0 u219.lo))) (store1 2 h24 (cellsL x26) (addrOf x29)))))))) fun k21 =>
 cnd x20
 (kIdxA 2 a0 a1 (fun x220 =>
 kLoads 2 x220 (Hs.mk h19.hp h19.nx h19.nx) (fun x221 =>
 kIdxA 2 a0 x17 (fun x222 =>
 kLoads 2 x222 (Hs.mk h19.hp h19.nx h19.nx) (fun x223 =>
 kIdxA 2 a0 x17 (fun x224 =>
 after (fun v232 u233 => dPut (fun x225 h226 =>
 kIdxA 2 a0 a1 (fun x227 =>
 after (fun v230 u231 => dPut (fun x228 h229 =>
 clrK h (Value.tuple #[x17, (Value.bool true)]) h229) v230 (dNext h226 u231 .bar) (andB (dFit h226 u231 .bar) (Nat.ble 0 u231.lo))) (store1 2 h226 (cellsL x223) (addrOf x227)))) v232 (dNext h19 u233 .bar) (andB (dFit h19 u233 .bar) (Nat.ble 0 u233.lo))) (store1 2 h19 (cellsL x221) (addrOf x224))))))))
 (k21 (Value.int .i64 (.ofNat 0)) (Value.bool false) h19))) fun k16 =>
 lpT (T := Value → Value → Hs → An) (fun _ _ _ => none) N (fun k234 =>
 fun (x236 x237 : Value) (h238 : Hs) =>
 kI64 .leq x13 x236 (fun x239 =>
 gdT x239 h238 (fun k240 => k240 a4 h238) (fun x241 _ =>
 gdT x239 h238 (fun k243 => k243 a0 h238) (fun x244 _ =>
 gdT x239 h238 (fun k246 => k246 x236 h238) (fun x247 _ =>
 gdT x239 h238 (fun k249 => kIdxA 2 x244 x247 (fun x250 => k249 x250 h238)) (fun x251 _ =>
 gdT x239 h238 (fun k253 => kLoads 2 x251 (Hs.mk h238.hp h238.nx h238.nx) (fun x254 => k253 x254 h238)) (fun x255 _ =>
 gdT x239 h238 (fun k257 => k257 a0 h238) (fun x258 _ =>
 gdT x239 h238 (fun k260 => k260 a1 h238) (fun x261 _ =>
 gdT x239 h238 (fun k263 => kIdxA 2 x258 x261 (fun x264 => k263 x264 h238)) (fun x265 _ =>
 gdT x239 h238 (fun k267 => kLoads 2 x265 (Hs.mk h238.hp h238.nx h238.nx) (fun x268 => k267 x268 h238)) (fun x269 _ =>
 gdT x239 h238 (fun k271 => isVal (fun v272 u273 => dPut k271 v272 (dNext h238 u273 .bar) (andB (dFit h238 u273 .bar) (Nat.ble 0 u273.lo))) (callV (toRn R) [x255, x269] h238 x241)) (fun x274 h275 =>
 gdT x239 h275 (fun k276 => kI64 .lss x274 (Value.int .i64 (.ofNat 0)) (fun x277 => k276 x277 h275)) (fun x278 _ =>
 gdT x239 h275 (fun k280 => kNot x278 (fun x281 => k280 x281 h275)) (fun x282 _ =>
 after (fun v292 u293 => dPut (fun x284 h285 =>
 jn (fun (h287 : Hs) =>
 jn (fun (x289 : Value) (h290 : Hs) =>
 k234 x289 x284 h290) fun k288 =>
 kI64 .sub x236 (Value.int .i64 (.ofNat 1)) (fun x291 =>
 k288 x291 h287)) fun k286 =>
 cnd x284
 (k286 h285)
 (k16 x236 x284 h285)) v292 (dNext h275 u293 .blind) (andB (dFit h275 u293 .blind) (Nat.ble 0 u293.lo))) (pickB (.c x282) (.c (Value.bool false)) enE (Hs.mk .e h275.nx h275.nx) x239))))))))))))))) x11 dunno h15) fun k12 =>
 lpT (T := Value → Value → Hs → An) (fun _ _ _ => none) N (fun k294 =>
 fun (x296 x297 : Value) (h298 : Hs) =>
 kI64 .leq x296 x11 (fun x299 =>
 gdT x299 h298 (fun k300 => k300 a4 h298) (fun x301 _ =>
 gdT x299 h298 (fun k303 => k303 a0 h298) (fun x304 _ =>
 gdT x299 h298 (fun k306 => k306 x296 h298) (fun x307 _ =>
 gdT x299 h298 (fun k309 => kIdxA 2 x304 x307 (fun x310 => k309 x310 h298)) (fun x311 _ =>
 gdT x299 h298 (fun k313 => kLoads 2 x311 (Hs.mk h298.hp h298.nx h298.nx) (fun x314 => k313 x314 h298)) (fun x315 _ =>
 gdT x299 h298 (fun k317 => k317 a0 h298) (fun x318 _ =>
 gdT x299 h298 (fun k320 => k320 a1 h298) (fun x321 _ =>
 gdT x299 h298 (fun k323 => kIdxA 2 x318 x321 (fun x324 => k323 x324 h298)) (fun x325 _ =>
 gdT x299 h298 (fun k327 => kLoads 2 x325 (Hs.mk h298.hp h298.nx h298.nx) (fun x328 => k327 x328 h298)) (fun x329 _ =>
 gdT x299 h298 (fun k331 => isVal (fun v332 u333 => dPut k331 v332 (dNext h298 u333 .bar) (andB (dFit h298 u333 .bar) (Nat.ble 0 u333.lo))) (callV (toRn R) [x315, x329] h298 x301)) (fun x334 h335 =>
 gdT x299 h335 (fun k336 => kI64 .lss x334 (Value.int .i64 (.ofNat 0)) (fun x337 => k336 x337 h335)) (fun x338 _ =>
 after (fun v348 u349 => dPut (fun x340 h341 =>
 jn (fun (h343 : Hs) =>
 jn (fun (x345 : Value) (h346 : Hs) =>
 k294 x345 x340 h346) fun k344 =>
 kI64 .add x296 (Value.int .i64 (.ofNat 1)) (fun x347 =>
 k344 x347 h343)) fun k342 =>
 cnd x340
 (k342 h341)
 (k12 x296 x340 h341)) v348 (dNext h335 u349 .blind) (andB (dFit h335 u349 .blind) (Nat.ble 0 u349.lo))) (pickB (.c x338) (.c (Value.bool false)) enE (Hs.mk .e h335.nx h335.nx) x299)))))))))))))) x10 dunno h9))) v350 (dNext h6 u351 .bar) (andB (dFit h6 u351 .bar) (Nat.ble 0 u351.lo))) (store1 2 h6 (cellsL x3) (addrOf x7)))) v352 (dNext h0 u353 .bar) (andB (dFit h0 u353 .bar) (Nat.ble 0 u353.lo))) (store1 2 h0 (cellsL x1) (addrOf x4)))))))

theorem q27 (R : RnK) (N : Nat) (args : List Value) (h : Hs) : r27 R N args h = callT Try.prog N R 27 args h := by kernel_rfl

/-- math/bits.Len32 -/
noncomputable def r28 (R : RnK) (N : Nat) (args : List Value) (h : Hs) : An := unC args fun a0 sq0 => enK h fun h0 =>
 obK (fun x0 =>
 jn (fun (x2 x3 : Value) (h4 : Hs) =>
 obK (fun x5 =>
 jn (fun (x7 x8 : Value) (h9 : Hs) =>
 kTo8 x7 (fun x10 =>
 after (fun x11 h12 =>
 kTo64 x11 (fun x13 =>
 kI64 .add x8 x13 (fun x14 =>
 clrK h x14 h12))) (oIdxS (.c (Value.string ⟨#[0, 1, 2, 2, 3, 3, 3, 3, 4, 4, 4, 4, 4, 4, 4, 4, 5, 5, 5, 5, 5, 5, 5, 5, 5, 5, 5, 5, 5, 5, 5, 5, 6, 6, 6, 6, 6, 6, 6, 6, 6, 6, 6, 6, 6, 6, 6, 6, 6, 6, 6, 6, 6, 6, 6, 6, 6, 6, 6, 6, 6, 6, 6, 6, 7, 7, 7, 7, 7, 7, 7, 7, 7, 7, 7, 7, 7, 7, 7, 7, 7, 7, 7, 7, 7, 7, 7, 7, 7, 7, 7, 7, 7, 7, 7, 7, 7, 7, 7, 7, 7, 7, 7, 7, 7, 7, 7, 7, 7, 7, 7, 7, 7, 7, 7, 7, 7, 7, 7, 7, 7, 7, 7, 7, 7, 7, 7, 7, 8, 8, 8, 8, 8, 8, 8, 8, 8, 8, 8, 8, 8, 8, 8, 8, 8, 8, 8, 8, 8, 8, 8, 8, 8, 8, 8, 8, 8, 8, 8, 8, 8, 8, 8, 8, 8, 8, 8, 8, 8, 8, 8, 8, 8, 8, 8, 8, 8, 8, 8, 8, 8, 8, 8, 8, 8, 8, 8, 8, 8, 8, 8, 8, 8, 8, 8, 8, 8, 8, 8, 8, 8, 8, 8, 8, 8, 8, 8, 8, 8, 8, 8, 8, 8, 8, 8, 8, 8, 8, 8, 8, 8, 8, 8, 8, 8, 8, 8, 8, 8, 8, 8, 8, 8, 8, 8, 8, 8, 8, 8, 8, 8, 8, 8, 8, 8, 8, 8, 8, 8, 8, 8, 8, 8, 8, 8, 8]⟩)) (.c x10) enE h9))) fun k6 =>
 cnd x5
 (kShr x2 (Value.int .u64 (.ofNat 8)) (fun x15 =>
 kI64 .add x3 (Value.int .i64 (.ofNat 8)) (fun x16 =>
 k6 x15 x16 h4)))
 (k6 x2 x3 h4)) (i2 (fOf .geq) x2 (Value.int .u32 (.ofNat 256)))) fun k1 =>
 cnd x0
 (kShr a0 (Value.int .u64 (.ofNat 16)) (fun x17 =>
 k1 x17 (Value.int .i64 (.ofNat 16)) h0))
 (k1 a0 (Value.int .i64 (.ofNat 0)) h0)) (i2 (fOf .geq) a0 (Value.int .u32 (.ofNat 65536)))

theorem q28 (R : RnK) (N : Nat) (args : List Value) (h : Hs) : r28 R N args h = callT Try.prog N R 28 args h := by kernel_rfl

/-- math/bits.Len64 -/
noncomputable def r29 (R : RnK) (N : Nat) (args : List Value) (h : Hs) : An := unC args fun a0 sq0 => enK h fun h0 =>
 kU64 .geq a0 (Value.int .u64 (.ofNat 4294967296)) (fun x0 =>
 jn (fun (x2 x3 : Value) (h4 : Hs) =>
 kU64 .geq x2 (Value.int .u64 (.ofNat 65536)) (fun x5 =>
 jn (fun (x7 x8 : Value) (h9 : Hs) =>
 kU64 .geq x7 (Value.int .u64 (.ofNat 256)) (fun x10 =>
 jn (fun (x12 x13 : Value) (h14 : Hs) =>
 kTo8 x12 (fun x15 =>
 after (fun x16 h17 =>
 kTo64 x16 (fun x18 =>
 kI64 .add x13 x18 (fun x19 =>
 clrK h x19 h17))) (oIdxS (.c (Value.string ⟨#[0, 1, 2, 2, 3, 3, 3, 3, 4, 4, 4, 4, 4, 4, 4, 4, 5, 5, 5, 5, 5, 5, 5, 5, 5, 5, 5, 5, 5, 5, 5, 5, 6, 6, 6, 6, 6, 6, 6, 6, 6, 6, 6, 6, 6, 6, 6, 6, 6, 6, 6, 6, 6, 6, 6, 6, 6, 6, 6, 6, 6, 6, 6, 6, 7, 7, 7, 7, 7, 7, 7, 7, 7, 7, 7, 7, 7, 7, 7, 7, 7, 7, 7, 7, 7, 7, 7, 7, 7, 7, 7, 7, 7, 7, 7, 7, 7, 7, 7, 7, 7, 7, 7, 7, 7, 7, 7, 7, 7, 7, 7, 7, 7, 7, 7, 7, 7, 7, 7, 7, 7, 7, 7, 7, 7, 7, 7, 7, 8, 8, 8, 8, 8, 8, 8, 8, 8, 8, 8, 8, 8, 8, 8, 8, 8, 8, 8, 8, 8, 8, 8, 8, 8, 8, 8, 8, 8, 8, 8, 8, 8, 8, 8, 8, 8, 8, 8, 8, 8, 8, 8, 8, 8, 8, 8, 8, 8, 8, 8, 8, 8, 8, 8, 8, 8, 8, 8, 8, 8, 8, 8, 8, 8, 8, 8, 8, 8, 8, 8, 8, 8, 8, 8, 8, 8, 8, 8, 8, 8, 8, 8, 8, 8, 8, 8, 8, 8, 8, 8, 8, 8, 8, 8, 8, 8, 8, 8, 8, 8, 8, 8, 8, 8, 8, 8, 8, 8, 8, 8, 8, 8, 8, 8, 8, 8, 8, 8, 8, 8, 8, 8, 8, 8, 8, 8, 8]⟩)) (.c x15) enE h14))) fun k11 =>
 cnd x10
 (kShr x7 (Value.int .u64 (.ofNat 8)) (fun x20 =>
 kI64 .add x8 (Value.int .i64 (.ofNat 8)) (fun x21 =>
 k11 x20 x21 h9)))
 (k11 x7 x8 h9))) fun k6 =>
 cnd x5
 (kShr x2 (Value.int .u64 (.ofNat 16)) (fun x22 =>
 kI64 .add x3 (Value.int .i64 (.ofNat 16)) (fun x23 =>
 k6 x22 x23 h4)))
 (k6 x2 x3 h4))) fun k1 =>
 cnd x0
 (kShr a0 (Value.int .u64 (.ofNat 32)) (fun x24 =>
 k1 x24 (Value.int .i64 (.ofNat 32)) h0))
 (k1 a0 (Value.int .i64 (.ofNat 0)) h0))

theorem q29 (R : RnK) (N : Nat) (args : List Value) (h : Hs) : r29 R N args h = callT Try.prog N R 29 args h := by kernel_rfl

/-- slices.siftDownCmpFunc[lintel/node.Run] -/
noncomputable def r30 (R : RnK) (N : Nat) (args : List Value) (h : Hs) : An := unC args fun a0 sq0 => unC sq0 fun a1 sq1 => unC sq1 fun a2 sq2 => unC sq2 fun a3 sq3 => unC sq3 fun a4 sq4 => enK h fun h0 =>
 jn (fun (x1 x2 x3 x4 x5 : Value) (h6 : Hs) =>
 clrK h (Value.tuple #[]) h6) fun k0 =>
 lpT (T := Value → Value → Value → Value → Value → Hs → An) (fun _ _ _ _ _ _ => none) N (fun k7 =>
 fun (x9 x10 x11 x12 x13 : Value) (h14 : Hs) =>
 jn (fun (x16 x17 x18 x19 x20 : Value) (h21 : Hs) =>
 k7 x16 x17 x18 x19 x20 h21) fun k15 =>
 kI64 .mul (Value.int .i64 (.ofNat 2)) x9 (fun x22 =>
 kI64 .add x22 (Value.int .i64 (.ofNat 1)) (fun x23 =>
 kI64 .geq x23 a2 (fun x24 =>
 jn (fun (h26 : Hs) =>
 kI64 .add x23 (Value.int .i64 (.ofNat 1)) (fun x27 =>
 kI64 .lss x27 a2 (fun x28 =>
 gdT x28 h26 (fun k29 => k29 a4 h26) (fun x30 _ =>
 gdT x28 h26 (fun k32 => k32 a0 h26) (fun x33 _ =>
 gdT x28 h26 (fun k35 => k35 a3 h26) (fun x36 _ =>
 gdT x28 h26 (fun k38 => k38 x23 h26) (fun x39 _ =>
 gdT x28 h26 (fun k41 => kI64 .add x36 x39 (fun x42 => k41 x42 h26)) (fun x43 _ =>
 gdT x28 h26 (fun k45 => kIdxA 2 x33 x43 (fun x46 => k45 x46 h26)) (fun x47 _ =>
 gdT x28 h26 (fun k49 => kLoads 2 x47 (Hs.mk h26.hp h26.nx h26.nx) (fun x50 => k49 x50 h26)) (fun x51 _ =>
 gdT x28 h26 (fun k53 => k53 a0 h26) (fun x54 _ =>
 gdT x28 h26 (fun k56 => k56 a3 h26) (fun x57 _ =>
 gdT x28 h26 (fun k59 => k59 x23 h26) (fun x60 _ =>
 gdT x28 h26 (fun k62 => kI64 .add x57 x60 (fun x63 => k62 x63 h26)) (fun x64 _ =>
 gdT x28 h26 (fun k66 => kI64 .add x64 (Value.int .i64 (.ofNat 1)) (fun x67 => k66 x67 h26)) (fun x68 _ =>
 gdT x28 h26 (fun k70 => kIdxA 2 x54 x68 (fun x71 => k70 x71 h26)) (fun x72 _ =>
 gdT x28 h26 (fun k74 => kLoads 2 x72 (Hs.mk h26.hp h26.nx h26.nx) (fun x75 => k74 x75 h26)) (fun x76 _ =>
 gdT x28 h26 (fun k78 => isVal (fun v79 u80 => dPut k78 v79 (dNext h26 u80 .bar) (andB (dFit h26 u80 .bar) (Nat.ble 0 u80.lo))) (callV (toRn R) [x51, x76] h26 x30)) (fun x81 h82 =>
 gdT x28 h82 (fun k83 => kI64 .lss x81 (Value.int .i64 (.ofNat 0)) (fun x84 => k83 x84 h82)) (fun x85 _ =>
 after (fun v125 u126 => dPut (fun x87 h88 =>
 jn (fun (x90 : Value) (h91 : Hs) =>
 kI64 .add a3 x9 (fun x92 =>
 kIdxA 2 a0 x92 (fun x93 =>
 kLoads 2 x93 (Hs.mk h91.hp h91.nx h91.nx) (fun x94 =>
 kI64 .add a3 x90 (fun x95 =>
 kIdxA 2 a0 x95 (fun x96 =>
 kLoads 2 x96 (Hs.mk h91.hp h91.nx h91.nx) (fun x97 =>
 isVal (fun v122 u123 => dPut (fun x98 h99 =>
 kI64 .lss x98 (Value.int .i64 (.ofNat 0)) (fun x100 =>
 kNot x100 (fun x101 =>
 jn (fun (h103 : Hs) =>
 kI64 .add a3 x9 (fun x104 =>
 kI64 .add a3 x90 (fun x105 =>
 kI64 .add a3 x90 (fun x106 =>
 kIdxA 2 a0 x106 (fun x107 =>
 kLoads 2 x107 (Hs.mk h103.hp h103.nx h103.nx) (fun x108 =>
 kI64 .add a3 x9 (fun x109 =>
 kIdxA 2 a0 x109 (fun x110 =>
 kLoads 2 x110 (Hs.mk h103.hp h103.nx h103.nx) (fun x111 =>
 kIdxA 2 a0 x104 (fun x112 =>
 after (fun v120 u121 => dPut (fun x113 h114 =>
 kIdxA 2 a0 x105 (fun x115 =>
 after (fun v118 u119 => dPut (fun x116 h117 =>
 k15 x90 x90 x24 x87 x101 h117) v118 (dNext h114 u119 .bar) (andB (dFit h114 u119 .bar) (Nat.ble 0 u119.lo))) (store1 2 h114 (cellsL x111) (addrOf x115)))) v120 (dNext h103 u121 .bar) (andB (dFit h103 u121 .bar) (Nat.ble 0 u121.lo))) (store1 2 h103 (cellsL x108) (addrOf x112)))))))))))) fun k102 =>
 cnd x101
 (clrK h (Value.tuple #[]) h99)
 (k102 h99)))) v122 (dNext h91 u123 .bar) (andB (dFit h91 u123 .bar) (Nat.ble 0 u123.lo))) (callV (toRn R) [x94, x97] h91 a4)))))))) fun k89 =>
 cnd x87
 (kI64 .add x23 (Value.int .i64 (.ofNat 1)) (fun x124 =>
 k89 x124 h88))
 (k89 x23 h88)) v125 (dNext h82 u126 .blind) (andB (dFit h82 u126 .blind) (Nat.ble 0 u126.lo))) (pickB (.c x85) (.c (Value.bool false)) enE (Hs.mk .e h82.nx h82.nx) x28)))))))))))))))))))) fun k25 =>
 cnd x24
 (k0 x9 x23 x24 x12 x13 h14)
 (k25 h14))))) a1 dunno dunno dunno dunno h0

theorem q30 (R : RnK) (N : Nat) (args : List Value) (h : Hs) : r30 R N args h = callT Try.prog N R 30 args h := by kernel_rfl

/-- slices.nextPowerOfTwo -/
noncomputable def r31 (R : RnK) (N : Nat) (args : List Value) (h : Hs) : An := unC args fun a0 sq0 => enK h fun h0 =>
 kToU a0 (fun x0 =>
 kCall R 18 [x0] h0 (fun x1 h2 =>
 kShl (Value.int .u64 (.ofNat 1)) x1 (fun x3 =>
 clrK h x3 h2)))

theorem q31 (R : RnK) (N : Nat) (args : List Value) (h : Hs) : r31 R N args h = callT Try.prog N R 31 args h := by kernel_rfl

/-- (*slices.xorshift).Next -/
noncomputable def r32 (R : RnK) (N : Nat) (args : List Value) (h : Hs) : An := unC args fun a0 sq0 => enK h fun h0 =>
 kNil a0 (fun x0 =>
 kLoad x0 (Hs.mk h0.hp h0.nx h0.nx) (fun x1 =>
 kNil a0 (fun x2 =>
 kLoad x2 (Hs.mk h0.hp h0.nx h0.nx) (fun x3 =>
 kShl x3 (Value.int .u64 (.ofNat 13)) (fun x4 =>
 kU64 .xor x1 x4 (fun x5 =>
 kNil a0 (fun x6 =>
 kStore1 x6 x5 h0 (fun v33 u34 => dPut (fun x7 h8 =>
 kNil a0 (fun x9 =>
 kLoad x9 (Hs.mk h8.hp h8.nx h8.nx) (fun x10 =>
 kNil a0 (fun x11 =>
 kLoad x11 (Hs.mk h8.hp h8.nx h8.nx) (fun x12 =>
 kShr x12 (Value.int .u64 (.ofNat 7)) (fun x13 =>
 kU64 .xor x10 x13 (fun x14 =>
 kNil a0 (fun x15 =>
 kStore1 x15 x14 h8 (fun v31 u32 => dPut (fun x16 h17 =>
 kNil a0 (fun x18 =>
 kLoad x18 (Hs.mk h17.hp h17.nx h17.nx) (fun x19 =>
 kNil a0 (fun x20 =>
 kLoad x20 (Hs.mk h17.hp h17.nx h17.nx) (fun x21 =>
 kShl x21 (Value.int .u64 (.ofNat 17)) (fun x22 =>
 kU64 .xor x19 x22 (fun x23 =>
 kNil a0 (fun x24 =>
 kStore1 x24 x23 h17 (fun v29 u30 => dPut (fun x25 h26 =>
 kNil a0 (fun x27 =>
 kLoad x27 h26 (fun x28 =>
 clrK h x28 h26))) v29 (dNext h17 u30 .bar) (andB (dFit h17 u30 .bar) (Nat.ble 0 u30.lo))))))))))) v31 (dNext h8 u32 .bar) (andB (dFit h8 u32 .bar) (Nat.ble 0 u32.lo))))))))))) v33 (dNext h0 u34 .bar) (andB (dFit h0 u34 .bar) (Nat.ble 0 u34.lo))))))))))

theorem q32 (R : RnK) (N : Nat) (args : List Value) (h : Hs) : r32 R N args h = callT Try.prog N R 32 args h := by kernel_rfl

/-- slices.medianAdjacentCmpFunc[lintel/node.Run] -/
noncomputable def r33 (R : RnK) (N : Nat) (args : List Value) (h : Hs) : An := unC args fun a0 sq0 => unC sq0 fun a1 sq1 => unC sq1 fun a2 sq2 => unC sq2 fun a3 sq3 => enK h fun h0 =>
 kI64 .sub a1 (Value.int .i64 (.ofNat 1)) (fun x0 =>
 kI64 .add a1 (Value.int .i64 (.ofNat 1)) (fun x1 =>
 kCall R 34 [a0, x0, a1, x1, a2, a3] h0 (fun x2 h3 =>
 clrK h x2 h3)))

theorem q33 (R : RnK) (N : Nat) (args : List Value) (h : Hs) : r33 R N args h = callT Try.prog N R 33 args h := by kernel_rfl

/-- slices.medianCmpFunc[lintel/node.Run] -/
noncomputable def r34 (R : RnK) (N : Nat) (args : List Value) (h : Hs) : An := unC args fun a0 sq0 => unC sq0 fun a1 sq1 => unC sq1 fun a2 sq2 => unC sq2 fun a3 sq3 => unC sq3 fun a4 sq4 => unC sq4 fun a5 sq5 => enK h fun h0 =>
 kCall R 35 [a0, a1, a2, a4, a5] h0 (fun x0 h1 =>
 kExtr x0 0 (fun x2 =>
 kExtr x0 1 (fun x3 =>
 kCall R 35 [a0, x3, a3, a4, a5] h1 (fun x4 h5 =>
 kExtr x4 0 (fun x6 =>
 kExtr x4 1 (fun x7 =>
 kCall R 35 [a0, x2, x6, a4, a5] h5 (fun x8 h9 =>
 kExtr x8 0 (fun x10 =>
 kExtr x8 1 (fun x11 =>
 clrK h x11 h9)))))))))

theorem q34 (R : RnK) (N : Nat) (args : List Value) (h : Hs) : r34 R N args h = callT Try.prog N R 34 args h := by kernel_rfl

/-- slices.order2CmpFunc[lintel/node.Run] -/
noncomputable def r35 (R : RnK) (N : Nat) (args : List Value) (h : Hs) : An := unC args fun a0 sq0 => unC sq0 fun a1 sq1 => unC sq1 fun a2 sq2 => unC sq2 fun a3 sq3 => unC sq3 fun a4 sq4 => enK h fun h0 =>
 kIdxA 2 a0 a2 (fun x0 =>
 kLoads 2 x0 (Hs.mk h0.hp h0.nx h0.nx) (fun x1 =>
 kIdxA 2 a0 a1 (fun x2 =>
 kLoads 2 x2 (Hs.mk h0.hp h0.nx h0.nx) (fun x3 =>
 isVal (fun v17 u18 => dPut (fun x4 h5 =>
 kI64 .lss x4 (Value.int .i64 (.ofNat 0)) (fun x6 =>
 jn (fun (x8 x9 : Value) (h10 : Hs) =>
 clrK h (Value.tuple #[a1, a2]) h10) fun k7 =>
 cnd x6
 (kNil a3 (fun x11 =>
 kLoad x11 h5 (fun x12 =>
 kI64 .add x12 (Value.int .i64 (.ofNat 1)) (fun x13 =>
 kNil a3 (fun x14 =>
 kStore1 x14 x13 h5 (fun x15 h16 =>
 clrK h (Value.tuple #[a2, a1]) h16))))))
 (k7 (Value.int .i64 (.ofNat 0)) (Value.int .i64 (.ofNat 0)) h5))) v17 (dNext h0 u18 .bar) (andB (dFit h0 u18 .bar) (Nat.ble 0 u18.lo))) (callV (toRn R) [x1, x3] h0 a4)))))

theorem q35 (R : RnK) (N : Nat) (args : List Value) (h : Hs) : r35 R N args h = callT Try.prog N R 35 args h := by kernel_rfl

noncomputable def entries : List (Nat × FnK) := [(4, r4), (7, r7), (8, r8), (9, r9), (10, r10), (11, r11), (12, r12), (13, r13), (14, r14), (15, r15), (16, r16), (17, r17), (18, r18), (19, r19), (20, r20), (21, r21), (22, r22), (23, r23), (24, r24), (25, r25), (26, r26), (27, r27), (28, r28), (29, r29), (30, r30), (31, r31), (32, r32), (33, r33), (34, r34), (35, r35)]
theorem entries_ok : AllOk Try.prog entries := ⟨q4, q7, q8, q9, q10, q11, q12, q13, q14, q15, q16, q17, q18, q19, q20, q21, q22, q23, q24, q25, q26, q27, q28, q29, q30, q31, q32, q33, q34, q35, trivial⟩
end Go.Proofs.Ytcejpcbhbnklaaa.runsMerged
