/- The functions that 'TreeLinks' reaches, in the fast evaluator's form, each held against the program's own text by the kernel. Written by a program. -/
import Derived.Test.YtefdkblhnlkgaaaGreatDoorGevKM
import Derived.Test.YtefdkblhnlkgaaaGreatDoorProg
import Derived.KernelRfl
namespace Go.Proofs.YtefdkblhnlkgaaaGreatDoor.treeLinks
open Go.Gev
set_option linter.unusedVariables false
/-- lintel/lintellaw17.TreeLinks -/
noncomputable def r4 (R : RnK) (N : Nat) (args : List Value) (h : Hs) : An := unC args fun a0 sq0 => unC sq0 fun a1 sq1 => unC sq1 fun a2 sq2 => enK h fun h0 =>
 kCall R 5 [] h0 (fun x0 h1 =>
 kNot x0 (fun x2 =>
 jn (fun (x4 : Value) (h5 : Hs) =>
 kI64 .lss a0 (Value.int .i64 (.ofNat 1)) (fun x6 =>
 gdF x6 h5 (fun k7 => k7 a0 h5) (fun x8 h9 =>
 gdF x6 h9 (fun k10 => kI64 .gtr x8 (Value.int .i64 (.ofNat 8)) (fun x11 => k10 x11 h9)) (fun x12 h13 =>
 after (fun x14 h15 =>
 gdF x14 h15 (fun k16 => k16 a1 h15) (fun x17 h18 =>
 gdF x14 h18 (fun k19 => kLenV x17 (fun x20 => k19 x20 h18)) (fun x21 h22 =>
 gdF x14 h22 (fun k23 => kI64 .gtr x21 (Value.int .i64 (.ofNat 500)) (fun x24 => k23 x24 h22)) (fun x25 h26 =>
 after (fun x27 h28 =>
 gdF x27 h28 (fun k29 => k29 a2 h28) (fun x30 h31 =>
 gdF x27 h31 (fun k32 => kI64 .lss x30 (Value.int .i64 (.ofNat 0)) (fun x33 => k32 x33 h31)) (fun x34 h35 =>
 after (fun x36 h37 =>
 gdF x36 h37 (fun k38 => k38 a2 h37) (fun x39 h40 =>
 gdF x36 h40 (fun k41 => k41 a0 h40) (fun x42 h43 =>
 gdF x36 h43 (fun k44 => kI64 .geq x39 x42 (fun x45 => k44 x45 h43)) (fun x46 h47 =>
 after (fun x48 h49 =>
 jn (fun (x51 : Value) (h52 : Hs) =>
 kCall R 6 [(Value.int .i64 (.ofNat 10))] h52 (fun x53 h54 =>
 after (fun x55 h56 =>
 kCall R 7 [x53, x55] h56 (fun x57 h58 =>
 jn (fun (x60 x61 x62 x63 : Value) (h64 : Hs) =>
 kTo8 a2 (fun x65 =>
 kU8 .add (Value.int .u8 (.ofNat 48)) x65 (fun x66 =>
 after (fun x67 h68 =>
 after (fun x69 h70 =>
 obK (fun x71 =>
 after (fun x72 h73 =>
 kCall R 7 [x53, x72] h73 (fun x74 h75 =>
 jn (fun (x77 x78 x79 x80 x81 x82 : Value) (h83 : Hs) =>
 jn (fun (x85 x86 x87 x88 : Value) (h89 : Hs) =>
 kCall R 6 [(Value.int .i64 (.ofNat 10))] h89 (fun x90 h91 =>
 kCall R 8 [x53, x90] h91 (fun x92 h93 =>
 gdT x92 h93 (fun k94 => k94 x53 h93) (fun x95 h96 =>
 gdT x92 h96 (fun k97 => after (k97) (oBuild [(Value.int .i64 (.ofNat 0)), (Value.string ⟨#[]⟩), (Value.string ⟨#[]⟩), (Value.int .i64 (.ofNat 0)), (Value.int .i64 (.ofNat 0)), (Value.slice none 0 0)] [(0, 1, .c (Value.int .i64 (.ofNat 12))), (1, 1, .c (Value.string ⟨#[47, 48]⟩))] enE h96)) (fun x98 h99 =>
 gdT x92 h99 (fun k100 => kCall R 7 [x95, x98] h99 (k100)) (fun x101 h102 =>
 gdT x92 h102 (fun k103 => kField 0 x101 (fun x104 => k103 x104 h102)) (fun x105 h106 =>
 gdT x92 h106 (fun k107 => kI64 .eql x105 (Value.int .i64 (.ofNat 2)) (fun x108 => k107 x108 h106)) (fun x109 h110 =>
 after (fun x111 h112 =>
 clrK h x111 h112) (pickB (.c x109) (.c (Value.bool false)) enE h110 x92))))))))) fun k84 =>
 lpT (T := Value → Value → Value → Value → Hs → An) (fun _ _ _ _ _ => none) N (fun k113 =>
 fun (x115 x116 x117 x118 : Value) (h119 : Hs) =>
 kI64 .lss x115 a0 (fun x120 =>
 jn (fun (h122 : Hs) =>
 jn (fun (x124 x125 : Value) (h126 : Hs) =>
 kI64 .add x115 (Value.int .i64 (.ofNat 1)) (fun x127 =>
 k113 x127 x120 x124 x125 h126)) fun k123 =>
 kTo8 x115 (fun x128 =>
 kU8 .add (Value.int .u8 (.ofNat 48)) x128 (fun x129 =>
 after (fun x130 h131 =>
 after (fun x132 h133 =>
 obK (fun x134 =>
 after (fun x135 h136 =>
 kCall R 7 [x53, x135] h136 (fun x137 h138 =>
 kField 0 x137 (fun x139 =>
 kI64 .neq x139 (Value.int .i64 (.ofNat 0)) (fun x140 =>
 jn (fun (x142 : Value) (h143 : Hs) =>
 k123 x140 x142 h143) fun k141 =>
 cnd x140
 (clrK h (Value.bool false) h138)
 (k141 x118 h138))))) (oBuild [(Value.int .i64 (.ofNat 0)), (Value.string ⟨#[]⟩), (Value.string ⟨#[]⟩), (Value.int .i64 (.ofNat 0)), (Value.int .i64 (.ofNat 0)), (Value.slice none 0 0)] [(0, 1, .c (Value.int .i64 (.ofNat 4))), (1, 1, .c x134)] enE h133)) (s2 .add (Value.string ⟨#[47]⟩) x132)) (ret1 h131 (toStr1 h131 x130))) (oMkrow 5 1 1 [(Value.int .u8 (.ofNat 0))] [(0, 1, .c x129)] enE h122)))) fun k121 =>
 cnd x120
 (k121 h119)
 (k84 x115 x120 x117 x118 h119))) (Value.int .i64 (.ofNat 0)) dunno dunno x82 h83) fun k76 =>
 lpT (T := Value → Value → Value → Value → Value → Value → Hs → An) (fun _ _ _ _ _ _ _ => none) N (fun k144 =>
 fun (x146 x147 x148 x149 x150 x151 : Value) (h152 : Hs) =>
 kI64 .lss x146 a0 (fun x153 =>
 jn (fun (h155 : Hs) =>
 jn (fun (x157 x158 x159 x160 : Value) (h161 : Hs) =>
 kI64 .add x146 (Value.int .i64 (.ofNat 1)) (fun x162 =>
 k144 x162 x153 x157 x158 x159 x160 h161)) fun k156 =>
 kTo8 x146 (fun x163 =>
 kU8 .add (Value.int .u8 (.ofNat 48)) x163 (fun x164 =>
 after (fun x165 h166 =>
 after (fun x167 h168 =>
 obK (fun x169 =>
 after (fun x170 h171 =>
 kCall R 7 [x53, x170] h171 (fun x172 h173 =>
 after (fun x174 h175 =>
 after (fun x176 h177 =>
 kTo8 x146 (fun x178 =>
 kU8 .add (Value.int .u8 (.ofNat 48)) x178 (fun x179 =>
 after (fun x180 h181 =>
 after (fun x182 h183 =>
 obK (fun x184 =>
 after (fun x185 h186 =>
 kCall R 7 [x53, x185] h186 (fun x187 h188 =>
 after (fun x189 h190 =>
 after (fun x191 h192 =>
 kFieldA 5 x174 (fun x193 =>
 kLoad x193 h192 (fun x194 =>
 after (fun x195 h196 =>
 after (fun x197 h198 =>
 obK (fun x199 =>
 gdF x199 h198 (fun k200 => kFieldA 3 x189 (fun x201 => k200 x201 h198)) (fun x202 h203 =>
 gdF x199 h203 (fun k204 => kLoad x202 h203 (fun x205 => k204 x205 h203)) (fun x206 h207 =>
 gdF x199 h207 (fun k208 => k208 a0 h207) (fun x209 h210 =>
 gdF x199 h210 (fun k211 => kI64 .neq x206 x209 (fun x212 => k211 x212 h210)) (fun x213 h214 =>
 after (fun x215 h216 =>
 gdF x215 h216 (fun k217 => kFieldA 1 x189 (fun x218 => k217 x218 h216)) (fun x219 h220 =>
 gdF x215 h220 (fun k221 => kLoad x219 h220 (fun x222 => k221 x222 h220)) (fun x223 h224 =>
 gdF x215 h224 (fun k225 => kI64 .neq x223 (Value.int .i64 (.ofNat 3)) (fun x226 => k225 x226 h224)) (fun x227 h228 =>
 after (fun x229 h230 =>
 jn (fun (x232 : Value) (h233 : Hs) =>
 k156 x174 x189 x229 x232 h233) fun k231 =>
 cnd x229
 (clrK h (Value.bool false) h230)
 (k231 x151 h230)) (pickB (.c (Value.bool true)) (.c x227) enE h228 x215))))) (pickB (.c (Value.bool true)) (.c x213) enE h214 x199)))))) (s2 .neq x195 x197)) (ret1 h196 (toStr1 h196 a1))) (ret1 h192 (toStr1 h192 x194))))) (store1 7 h190 (cellsL x187) (addrOf x189))) (oAlloc 29 [(Value.int .i64 (.ofNat 0)), (Value.int .i64 (.ofNat 0)), (Value.int .i64 (.ofNat 0)), (Value.int .i64 (.ofNat 0)), (Value.int .i64 (.ofNat 0)), (Value.slice none 0 0), (Value.slice none 0 0)] enE h188))) (oBuild [(Value.int .i64 (.ofNat 0)), (Value.string ⟨#[]⟩), (Value.string ⟨#[]⟩), (Value.int .i64 (.ofNat 0)), (Value.int .i64 (.ofNat 0)), (Value.slice none 0 0)] [(0, 1, .c (Value.int .i64 (.ofNat 12))), (1, 1, .c x184)] enE h183)) (s2 .add (Value.string ⟨#[47]⟩) x182)) (ret1 h181 (toStr1 h181 x180))) (oMkrow 5 1 1 [(Value.int .u8 (.ofNat 0))] [(0, 1, .c x179)] enE h177)))) (store1 7 h175 (cellsL x172) (addrOf x174))) (oAlloc 29 [(Value.int .i64 (.ofNat 0)), (Value.int .i64 (.ofNat 0)), (Value.int .i64 (.ofNat 0)), (Value.int .i64 (.ofNat 0)), (Value.int .i64 (.ofNat 0)), (Value.slice none 0 0), (Value.slice none 0 0)] enE h173))) (oBuild [(Value.int .i64 (.ofNat 0)), (Value.string ⟨#[]⟩), (Value.string ⟨#[]⟩), (Value.int .i64 (.ofNat 0)), (Value.int .i64 (.ofNat 0)), (Value.slice none 0 0)] [(0, 1, .c (Value.int .i64 (.ofNat 9))), (1, 1, .c x169), (4, 1, .c (Value.int .i64 (.ofNat 1000)))] enE h168)) (s2 .add (Value.string ⟨#[47]⟩) x167)) (ret1 h166 (toStr1 h166 x165))) (oMkrow 5 1 1 [(Value.int .u8 (.ofNat 0))] [(0, 1, .c x164)] enE h155)))) fun k154 =>
 cnd x153
 (k154 h152)
 (k76 x146 x153 x148 x149 x150 x151 h152))) (Value.int .i64 (.ofNat 0)) dunno dunno dunno dunno x63 h75)) (oBuild [(Value.int .i64 (.ofNat 0)), (Value.string ⟨#[]⟩), (Value.string ⟨#[]⟩), (Value.int .i64 (.ofNat 0)), (Value.int .i64 (.ofNat 0)), (Value.slice none 0 0)] [(0, 1, .c (Value.int .i64 (.ofNat 10))), (1, 1, .c x71), (5, 1, .c a1)] enE h70)) (s2 .add (Value.string ⟨#[47]⟩) x69)) (ret1 h68 (toStr1 h68 x67))) (oMkrow 5 1 1 [(Value.int .u8 (.ofNat 0))] [(0, 1, .c x66)] enE h64)))) fun k59 =>
 lpT (T := Value → Value → Value → Value → Hs → An) (fun _ _ _ _ _ => none) N (fun k234 =>
 fun (x236 x237 x238 x239 : Value) (h240 : Hs) =>
 kI64 .lss x236 a0 (fun x241 =>
 jn (fun (h243 : Hs) =>
 jn (fun (x245 x246 : Value) (h247 : Hs) =>
 kI64 .add x236 (Value.int .i64 (.ofNat 1)) (fun x248 =>
 k234 x248 x241 x245 x246 h247)) fun k244 =>
 kTo8 x236 (fun x249 =>
 kU8 .add (Value.int .u8 (.ofNat 48)) x249 (fun x250 =>
 after (fun x251 h252 =>
 after (fun x253 h254 =>
 obK (fun x255 =>
 after (fun x256 h257 =>
 kCall R 7 [x53, x256] h257 (fun x258 h259 =>
 kField 0 x258 (fun x260 =>
 kI64 .neq x260 (Value.int .i64 (.ofNat 0)) (fun x261 =>
 jn (fun (x263 : Value) (h264 : Hs) =>
 k244 x261 x263 h264) fun k262 =>
 cnd x261
 (clrK h (Value.bool false) h259)
 (k262 x239 h259))))) (oBuild [(Value.int .i64 (.ofNat 0)), (Value.string ⟨#[]⟩), (Value.string ⟨#[]⟩), (Value.int .i64 (.ofNat 0)), (Value.int .i64 (.ofNat 0)), (Value.slice none 0 0)] [(0, 1, .c (Value.int .i64 (.ofNat 3))), (1, 1, .c (Value.string ⟨#[47, 48]⟩)), (2, 1, .c x255)] enE h254)) (s2 .add (Value.string ⟨#[47]⟩) x253)) (ret1 h252 (toStr1 h252 x251))) (oMkrow 5 1 1 [(Value.int .u8 (.ofNat 0))] [(0, 1, .c x250)] enE h243)))) fun k242 =>
 cnd x241
 (k242 h240)
 (k59 x236 x241 x238 x239 h240))) (Value.int .i64 (.ofNat 1)) dunno dunno x51 h58)) (oBuild [(Value.int .i64 (.ofNat 0)), (Value.string ⟨#[]⟩), (Value.string ⟨#[]⟩), (Value.int .i64 (.ofNat 0)), (Value.int .i64 (.ofNat 0)), (Value.slice none 0 0)] [(0, 1, .c (Value.int .i64 (.ofNat 2))), (1, 1, .c (Value.string ⟨#[47, 48]⟩))] enE h54))) fun k50 =>
 cnd x48
 (clrK h (Value.bool true) h49)
 (k50 x4 h49)) (pickB (.c (Value.bool true)) (.c x46) enE h47 x36))))) (pickB (.c (Value.bool true)) (.c x34) enE h35 x27)))) (pickB (.c (Value.bool true)) (.c x25) enE h26 x14))))) (pickB (.c (Value.bool true)) (.c x12) enE h13 x6))))) fun k3 =>
 cnd x2
 (clrK h (Value.bool false) h1)
 (k3 (Value.bool false) h1)))

theorem q4 (R : RnK) (N : Nat) (args : List Value) (h : Hs) : r4 R N args h = callT Tryz.prog N R 4 args h := by kernel_rfl

/-- (*lintel/tree.Tree).Do -/
noncomputable def r7 (R : RnK) (N : Nat) (args : List Value) (h : Hs) : An := unC args fun a0 sq0 => unC sq0 fun a1 sq1 => enK h fun h0 =>
 after (fun x0 h1 =>
 after (fun x2 h3 =>
 kFieldA 0 x0 (fun x4 =>
 kLoad x4 h3 (fun x5 =>
 jn (fun (x7 x8 x9 x10 x11 x12 x13 x14 x15 x16 : Value) (h17 : Hs) =>
 kCall R 12 [(Value.int .i64 (.ofNat 1))] h17 (fun x18 h19 =>
 after (fun x20 h21 =>
 clearUp h (packR h21 (resV enE h21 [.cell (.c x2) 7 true]))) (store1 7 h19 (cellsL x18) (addrOf x2)))) fun k6 =>
 kI64 .eql x5 (Value.int .i64 (.ofNat 1)) (fun x22 =>
 jn (fun (x24 x25 x26 x27 x28 x29 x30 x31 x32 : Value) (h33 : Hs) =>
 k6 x22 x24 x25 x26 x27 x28 x29 x30 x31 x32 h33) fun k23 =>
 cnd x22
 (kFieldA 1 x0 (fun x34 =>
 kLoad x34 h3 (fun x35 =>
 after (fun x36 h37 =>
 after (fun x38 h39 =>
 after (fun x40 h41 =>
 kCall R 11 [a0, x35, x40] h41 (fun x42 h43 =>
 after (fun x44 h45 =>
 clearUp h (packR h45 (resV enE h45 [.cell (.c x2) 7 true]))) (store1 7 h43 (cellsL x42) (addrOf x2)))) (oBox 45 (.c x38) enE h39)) (oBuild [(Value.int .i64 (.ofNat 0)), (Value.slice none 0 0), (Value.map none), (Value.int .i64 (.ofNat 0)), (Value.int .i64 (.ofNat 0))] [(0, 1, .c (Value.int .i64 (.ofNat 2))), (2, 1, .c x36)] enE h37)) (mkmap1 h3 (Value.int .i64 0)))))
 (kI64 .eql x5 (Value.int .i64 (.ofNat 2)) (fun x46 =>
 jn (fun (x48 x49 x50 x51 x52 x53 x54 x55 : Value) (h56 : Hs) =>
 k23 x46 x48 x49 x50 x51 x52 x53 x54 x55 h56) fun k47 =>
 cnd x46
 (kFieldA 1 x0 (fun x57 =>
 kLoad x57 h3 (fun x58 =>
 after (fun x59 h60 =>
 after (fun x61 h62 =>
 kCall R 11 [a0, x58, x61] h62 (fun x63 h64 =>
 after (fun x65 h66 =>
 clearUp h (packR h66 (resV enE h66 [.cell (.c x2) 7 true]))) (store1 7 h64 (cellsL x63) (addrOf x2)))) (oBox 45 (.c x59) enE h60)) (oBuild [(Value.int .i64 (.ofNat 0)), (Value.slice none 0 0), (Value.map none), (Value.int .i64 (.ofNat 0)), (Value.int .i64 (.ofNat 0))] [(0, 1, .c (Value.int .i64 (.ofNat 1)))] enE h3))))
 (kI64 .eql x5 (Value.int .i64 (.ofNat 7)) (fun x67 =>
 jn (fun (x69 x70 x71 x72 x73 x74 x75 : Value) (h76 : Hs) =>
 k47 x67 x69 x70 x71 x72 x73 x74 x75 h76) fun k68 =>
 cnd x67
 (kFieldA 5 x0 (fun x77 =>
 kLoad x77 h3 (fun x78 =>
 kLenV x78 (fun x79 =>
 kI64 .lss x79 (Value.int .i64 (.ofNat 1)) (fun x80 =>
 gdF x80 h3 (fun k81 => kFieldA 5 x0 (fun x82 => k81 x82 h3)) (fun x83 h84 =>
 gdF x80 h84 (fun k85 => kLoad x83 h84 (fun x86 => k85 x86 h84)) (fun x87 h88 =>
 gdF x80 h88 (fun k89 => kLenV x87 (fun x90 => k89 x90 h88)) (fun x91 h92 =>
 gdF x80 h92 (fun k93 => kI64 .gtr x91 (Value.int .i64 (.ofNat 400)) (fun x94 => k93 x94 h92)) (fun x95 h96 =>
 after (fun x97 h98 =>
 jn (fun (h100 : Hs) =>
 kFieldA 1 x0 (fun x101 =>
 kLoad x101 (Hs.mk h100.hp h100.nx h100.nx) (fun x102 =>
 kFieldA 5 x0 (fun x103 =>
 kLoad x103 (Hs.mk h100.hp h100.nx h100.nx) (fun x104 =>
 kCall R 13 [x104] (Hs.mk h100.hp h100.nx h100.nx) (fun v123 u124 => dPut (fun x105 h106 =>
 after (fun v121 u122 => dPut (fun x107 h108 =>
 after (fun v119 u120 => dPut (fun x109 h110 =>
 kCall R 11 [a0, x102, x109] h110 (fun v117 u118 => dPut (fun x111 h112 =>
 after (fun v115 u116 => dPut (fun x113 h114 =>
 clearUp h (packR h114 (resV enE h114 [.cell (.c x2) 7 true]))) v115 (dNext h112 u116 .bar) (andB (dFit h112 u116 .bar) (Nat.ble 0 u116.lo))) (store1 7 h112 (cellsL x111) (addrOf x2))) v117 (dNext h110 u118 .bar) (andB (dFit h110 u118 .bar) (Nat.ble 0 u118.lo)))) v119 (dNext h108 u120 .make) (andB (dFit h108 u120 .make) (Nat.ble 0 u120.lo))) (oBox 45 (.c x107) enE (Hs.mk .e h108.nx h108.nx))) v121 (dNext h106 u122 .blind) (andB (dFit h106 u122 .blind) (Nat.ble 0 u122.lo))) (oBuild [(Value.int .i64 (.ofNat 0)), (Value.slice none 0 0), (Value.map none), (Value.int .i64 (.ofNat 0)), (Value.int .i64 (.ofNat 0))] [(0, 1, .c (Value.int .i64 (.ofNat 3))), (1, 1, .c x105)] enE (Hs.mk .e h106.nx h106.nx))) v123 (dNext h100 u124 .light) (andB (dFit h100 u124 .light) (Nat.ble 0 u124.lo)))))))) fun k99 =>
 cnd x97
 (kCall R 12 [(Value.int .i64 (.ofNat 1))] h98 (fun x125 h126 =>
 after (fun x127 h128 =>
 clearUp h (packR h128 (resV enE h128 [.cell (.c x2) 7 true]))) (store1 7 h126 (cellsL x125) (addrOf x2))))
 (k99 h98)) (pickB (.c (Value.bool true)) (.c x95) enE h96 x80))))))))))
 (kI64 .eql x5 (Value.int .i64 (.ofNat 3)) (fun x129 =>
 jn (fun (x131 x132 x133 x134 x135 : Value) (h136 : Hs) =>
 k68 dunno x129 x131 x132 x133 x134 x135 h136) fun k130 =>
 cnd x129
 (kLoads 6 x0 h3 (fun x137 =>
 kCall R 14 [a0, x137] h3 (fun x138 h139 =>
 after (fun x140 h141 =>
 clearUp h (packR h141 (resV enE h141 [.cell (.c x2) 7 true]))) (store1 7 h139 (cellsL x138) (addrOf x2)))))
 (kI64 .eql x5 (Value.int .i64 (.ofNat 4)) (fun x142 =>
 jn (fun (x144 x145 x146 x147 : Value) (h148 : Hs) =>
 k130 x142 x144 x145 x146 x147 h148) fun k143 =>
 cnd x142
 (kLoads 6 x0 h3 (fun x149 =>
 kCall R 15 [a0, x149] h3 (fun x150 h151 =>
 after (fun x152 h153 =>
 clearUp h (packR h153 (resV enE h153 [.cell (.c x2) 7 true]))) (store1 7 h151 (cellsL x150) (addrOf x2)))))
 (kI64 .eql x5 (Value.int .i64 (.ofNat 5)) (fun x154 =>
 jn (fun (x156 x157 x158 : Value) (h159 : Hs) =>
 k143 x154 x156 x157 x158 h159) fun k155 =>
 cnd x154
 (kLoads 6 x0 h3 (fun x160 =>
 kCall R 16 [a0, x160] h3 (fun x161 h162 =>
 after (fun x163 h164 =>
 clearUp h (packR h164 (resV enE h164 [.cell (.c x2) 7 true]))) (store1 7 h162 (cellsL x161) (addrOf x2)))))
 (kI64 .eql x5 (Value.int .i64 (.ofNat 6)) (fun x165 =>
 jn (fun (x167 x168 : Value) (h169 : Hs) =>
 k155 x165 x167 x168 h169) fun k166 =>
 cnd x165
 (kLoads 6 x0 h3 (fun x170 =>
 kCall R 17 [a0, x170] h3 (fun x171 h172 =>
 after (fun x173 h174 =>
 clearUp h (packR h174 (resV enE h174 [.cell (.c x2) 7 true]))) (store1 7 h172 (cellsL x171) (addrOf x2)))))
 (kI64 .eql x5 (Value.int .i64 (.ofNat 8)) (fun x175 =>
 jn (fun (x177 : Value) (h178 : Hs) =>
 jn (fun (x180 : Value) (h181 : Hs) =>
 k166 x177 x180 h181) fun k179 =>
 cnd x177
 (kLoads 6 x0 h178 (fun x182 =>
 kCall R 18 [a0, x182] h178 (fun x183 h184 =>
 after (fun x185 h186 =>
 clearUp h (packR h186 (resV enE h186 [.cell (.c x2) 7 true]))) (store1 7 h184 (cellsL x183) (addrOf x2)))))
 (kI64 .eql x5 (Value.int .i64 (.ofNat 9)) (fun x187 =>
 jn (fun (x189 : Value) (h190 : Hs) =>
 jn (fun (h192 : Hs) =>
 k179 x189 h192) fun k191 =>
 cnd x189
 (kLoads 6 x0 h190 (fun x193 =>
 kCall R 19 [a0, x193] h190 (fun x194 h195 =>
 after (fun x196 h197 =>
 clearUp h (packR h197 (resV enE h197 [.cell (.c x2) 7 true]))) (store1 7 h195 (cellsL x194) (addrOf x2)))))
 (k191 h190)) fun k188 =>
 cnd x187
 (k188 x187 h178)
 (kI64 .eql x5 (Value.int .i64 (.ofNat 10)) (fun x198 =>
 jn (fun (x200 : Value) (h201 : Hs) =>
 k188 x200 h201) fun k199 =>
 cnd x198
 (k199 x198 h178)
 (kI64 .eql x5 (Value.int .i64 (.ofNat 11)) (fun x202 =>
 k199 x202 h178))))))) fun k176 =>
 cnd x175
 (k176 x175 h3)
 (kI64 .eql x5 (Value.int .i64 (.ofNat 12)) (fun x203 =>
 jn (fun (x205 : Value) (h206 : Hs) =>
 k176 x205 h206) fun k204 =>
 cnd x203
 (k204 x203 h3)
 (kI64 .eql x5 (Value.int .i64 (.ofNat 13)) (fun x207 =>
 k204 x207 h3)))))))))))))))))))))) (oAlloc 29 [(Value.int .i64 (.ofNat 0)), (Value.int .i64 (.ofNat 0)), (Value.int .i64 (.ofNat 0)), (Value.int .i64 (.ofNat 0)), (Value.int .i64 (.ofNat 0)), (Value.slice none 0 0), (Value.slice none 0 0)] enE h1)) (oBox 32 (.c a1) enE h0)

theorem q7 (R : RnK) (N : Nat) (args : List Value) (h : Hs) : r7 R N args h = callT Tryz.prog N R 7 args h := by kernel_rfl

/-- lintel/tree.fail -/
noncomputable def r12 (R : RnK) (N : Nat) (args : List Value) (h : Hs) : An := unC args fun a0 sq0 => enK h fun h0 =>
 after (fun x0 h1 =>
 after (fun x2 h3 =>
 after (fun x4 h5 =>
 clearUp h (packR h5 (resV enE h5 [.cell (.c x0) 7 true]))) (store1 7 h3 (cellsL x2) (addrOf x0))) (oBuild [(Value.int .i64 (.ofNat 0)), (Value.int .i64 (.ofNat 0)), (Value.int .i64 (.ofNat 0)), (Value.int .i64 (.ofNat 0)), (Value.int .i64 (.ofNat 0)), (Value.slice none 0 0), (Value.slice none 0 0)] [(0, 1, .c a0)] enE h1)) (oAlloc 29 [(Value.int .i64 (.ofNat 0)), (Value.int .i64 (.ofNat 0)), (Value.int .i64 (.ofNat 0)), (Value.int .i64 (.ofNat 0)), (Value.int .i64 (.ofNat 0)), (Value.slice none 0 0), (Value.slice none 0 0)] enE h0)

theorem q12 (R : RnK) (N : Nat) (args : List Value) (h : Hs) : r12 R N args h = callT Tryz.prog N R 12 args h := by kernel_rfl

/-- bytes.Clone -/
noncomputable def r13 (R : RnK) (N : Nat) (args : List Value) (h : Hs) : An := unC args fun a0 sq0 => enK h fun h0 =>
 obK (fun x0 =>
 jn (fun (x2 : Value) (h3 : Hs) =>
 after (fun x4 h5 =>
 after (fun x6 h7 =>
 clrK h x6 h7) (app0 5 1 1 h5 x4 a0)) (oMkrow 5 1 0 [(Value.int .u8 (.ofNat 0))] [] enE h3)) fun k1 =>
 cnd x0
 (clrK h (Value.slice none 0 0) h0)
 (k1 (Value.slice none 0 0) h0)) (e2 false qS a0 (Value.slice none 0 0))

theorem q13 (R : RnK) (N : Nat) (args : List Value) (h : Hs) : r13 R N args h = callT Tryz.prog N R 13 args h := by kernel_rfl

/-- (*lintel/tree.Tree).look -/
noncomputable def r18 (R : RnK) (N : Nat) (args : List Value) (h : Hs) : An := unC args fun a0 sq0 => unC sq0 fun a1 sq1 => enK h fun h0 =>
 after (fun x0 h1 =>
 after (fun x2 h3 =>
 kFieldA 1 x0 (fun x4 =>
 kLoad x4 h3 (fun x5 =>
 kFieldA 0 x0 (fun x6 =>
 kLoad x6 h3 (fun x7 =>
 kI64 .eql x7 (Value.int .i64 (.ofNat 13)) (fun x8 =>
 kCall R 31 [a0, x5, x8] h3 (fun x9 h10 =>
 kExtr x9 0 (fun x11 =>
 kExtr x9 1 (fun x12 =>
 kI64 .neq x12 (Value.int .i64 (.ofNat 0)) (fun x13 =>
 jn (fun (h15 : Hs) =>
 kNil a0 (fun x16 =>
 kFieldA 1 x16 (fun x17 =>
 kLoad x17 h15 (fun x18 =>
 after (fun x19 h20 =>
 kFieldA 0 x0 (fun x21 =>
 kLoad x21 h20 (fun x22 =>
 jn (fun (x24 x25 x26 x27 : Value) (h28 : Hs) =>
 kNil x19 (fun x29 =>
 kFieldA 4 x29 (fun x30 =>
 kLoad x30 h28 (fun x31 =>
 kNil x19 (fun x32 =>
 kFieldA 0 x32 (fun x33 =>
 kLoad x33 h28 (fun x34 =>
 kI64 .eql x34 (Value.int .i64 (.ofNat 2)) (fun x35 =>
 jn (fun (x37 : Value) (h38 : Hs) =>
 kNil x19 (fun x39 =>
 kFieldA 0 x39 (fun x40 =>
 kLoad x40 (Hs.mk h38.hp h38.nx h38.nx) (fun x41 =>
 kCall R 40 [x19] (Hs.mk h38.hp h38.nx h38.nx) (fun v52 u53 => dPut (fun x42 h43 =>
 after (fun v50 u51 => dPut (fun x44 h45 =>
 after (fun v48 u49 => dPut (fun x46 h47 =>
 clearUp h (packR h47 (resV enE h47 [.cell (.c x2) 7 true]))) v48 (dNext h45 u49 .bar) (andB (dFit h45 u49 .bar) (Nat.ble 0 u49.lo))) (store1 7 h45 (cellsL x44) (addrOf x2))) v50 (dNext h43 u51 .blind) (andB (dFit h43 u51 .blind) (Nat.ble 0 u51.lo))) (oBuild [(Value.int .i64 (.ofNat 0)), (Value.int .i64 (.ofNat 0)), (Value.int .i64 (.ofNat 0)), (Value.int .i64 (.ofNat 0)), (Value.int .i64 (.ofNat 0)), (Value.slice none 0 0), (Value.slice none 0 0)] [(1, 1, .c x11), (2, 1, .c x41), (3, 1, .c x37), (4, 1, .c x42)] enE (Hs.mk .e h43.nx h43.nx))) v52 (dNext h38 u53 .light) (andB (dFit h38 u53 .light) (Nat.ble 0 u53.lo))))))) fun k36 =>
 cnd x35
 (k36 (Value.int .i64 (.ofNat 1)) h28)
 (k36 x31 h28))))))))) fun k23 =>
 kI64 .eql x22 (Value.int .i64 (.ofNat 8)) (fun x54 =>
 jn (fun (x56 x57 x58 : Value) (h59 : Hs) =>
 k23 x54 x56 x57 x58 h59) fun k55 =>
 cnd x54
 (kNil x19 (fun x60 =>
 kFieldA 0 x60 (fun x61 =>
 kLoad x61 h20 (fun x62 =>
 kI64 .neq x62 (Value.int .i64 (.ofNat 3)) (fun x63 =>
 jn (fun (h65 : Hs) =>
 kNil x19 (fun x66 =>
 kFieldA 1 x66 (fun x67 =>
 kLoad x67 h65 (fun x68 =>
 kCall R 13 [x68] h65 (fun x69 h70 =>
 after (fun x71 h72 =>
 after (fun x73 h74 =>
 clearUp h (packR h74 (resV enE h74 [.cell (.c x2) 7 true]))) (store1 7 h72 (cellsL x71) (addrOf x2))) (oBuild [(Value.int .i64 (.ofNat 0)), (Value.int .i64 (.ofNat 0)), (Value.int .i64 (.ofNat 0)), (Value.int .i64 (.ofNat 0)), (Value.int .i64 (.ofNat 0)), (Value.slice none 0 0), (Value.slice none 0 0)] [(1, 1, .c x11), (5, 1, .c x69)] enE h70)))))) fun k64 =>
 cnd x63
 (kCall R 12 [(Value.int .i64 (.ofNat 1))] h20 (fun x75 h76 =>
 after (fun x77 h78 =>
 clearUp h (packR h78 (resV enE h78 [.cell (.c x2) 7 true]))) (store1 7 h76 (cellsL x75) (addrOf x2))))
 (k64 h20))))))
 (kI64 .eql x22 (Value.int .i64 (.ofNat 13)) (fun x79 =>
 jn (fun (x81 : Value) (h82 : Hs) =>
 k55 dunno x79 x81 h82) fun k80 =>
 cnd x79
 (kNil x19 (fun x83 =>
 kFieldA 0 x83 (fun x84 =>
 kLoad x84 h20 (fun x85 =>
 kI64 .neq x85 (Value.int .i64 (.ofNat 2)) (fun x86 =>
 jn (fun (h88 : Hs) =>
 kCall R 39 [a0, x11] h88 (fun x89 h90 =>
 after (fun x91 h92 =>
 after (fun x93 h94 =>
 clearUp h (packR h94 (resV enE h94 [.cell (.c x2) 7 true]))) (store1 7 h92 (cellsL x91) (addrOf x2))) (oBuild [(Value.int .i64 (.ofNat 0)), (Value.int .i64 (.ofNat 0)), (Value.int .i64 (.ofNat 0)), (Value.int .i64 (.ofNat 0)), (Value.int .i64 (.ofNat 0)), (Value.slice none 0 0), (Value.slice none 0 0)] [(1, 1, .c x11), (6, 1, .c x89)] enE h90))) fun k87 =>
 cnd x86
 (kCall R 12 [(Value.int .i64 (.ofNat 4))] h20 (fun x95 h96 =>
 after (fun x97 h98 =>
 clearUp h (packR h98 (resV enE h98 [.cell (.c x2) 7 true]))) (store1 7 h96 (cellsL x95) (addrOf x2))))
 (k87 h20))))))
 (k80 dunno h20))))))) (ret1 h15 (lk1 true h15 (Value.pointer none) false x11 x18)))))) fun k14 =>
 cnd x13
 (kCall R 12 [x12] h10 (fun x99 h100 =>
 after (fun x101 h102 =>
 clearUp h (packR h102 (resV enE h102 [.cell (.c x2) 7 true]))) (store1 7 h100 (cellsL x99) (addrOf x2))))
 (k14 h10))))))))))) (oAlloc 29 [(Value.int .i64 (.ofNat 0)), (Value.int .i64 (.ofNat 0)), (Value.int .i64 (.ofNat 0)), (Value.int .i64 (.ofNat 0)), (Value.int .i64 (.ofNat 0)), (Value.slice none 0 0), (Value.slice none 0 0)] enE h1)) (oBox 32 (.c a1) enE h0)

theorem q18 (R : RnK) (N : Nat) (args : List Value) (h : Hs) : r18 R N args h = callT Tryz.prog N R 18 args h := by kernel_rfl

/-- (*lintel/tree.Tree).file -/
noncomputable def r19 (R : RnK) (N : Nat) (args : List Value) (h : Hs) : An := unC args fun a0 sq0 => unC sq0 fun a1 sq1 => enK h fun h0 =>
 after (fun x0 h1 =>
 after (fun x2 h3 =>
 kFieldA 3 x0 (fun x4 =>
 kLoad x4 h3 (fun x5 =>
 kI64 .lss x5 (Value.int .i64 (.ofNat 0)) (fun x6 =>
 gdT x6 h3 (fun k7 => kFieldA 0 x0 (fun x8 => k7 x8 h3)) (fun x9 h10 =>
 gdT x6 h10 (fun k11 => kLoad x9 h10 (fun x12 => k11 x12 h10)) (fun x13 h14 =>
 gdT x6 h14 (fun k15 => kI64 .neq x13 (Value.int .i64 (.ofNat 11)) (fun x16 => k15 x16 h14)) (fun x17 h18 =>
 after (fun x19 h20 =>
 gdF x19 h20 (fun k21 => kFieldA 4 x0 (fun x22 => k21 x22 h20)) (fun x23 h24 =>
 gdF x19 h24 (fun k25 => kLoad x23 h24 (fun x26 => k25 x26 h24)) (fun x27 h28 =>
 gdF x19 h28 (fun k29 => kI64 .lss x27 (Value.int .i64 (.ofNat 0)) (fun x30 => k29 x30 h28)) (fun x31 h32 =>
 gdF x19 h32 (fun k33 => k33 x31 h32) (fun x34 h35 =>
 gdT x34 h35 (fun k36 => kFieldA 0 x0 (fun x37 => k36 x37 h35)) (fun x38 h39 =>
 gdT x34 h39 (fun k40 => kLoad x38 h39 (fun x41 => k40 x41 h39)) (fun x42 h43 =>
 gdT x34 h43 (fun k44 => kI64 .neq x42 (Value.int .i64 (.ofNat 10)) (fun x45 => k44 x45 h43)) (fun x46 h47 =>
 gdF x19 h47 (fun k48 => after (k48) (pickB (.c x46) (.c (Value.bool false)) enE h47 x34)) (fun x49 h50 =>
 after (fun x51 h52 =>
 jn (fun (h54 : Hs) =>
 kFieldA 1 x0 (fun x55 =>
 kLoad x55 h54 (fun x56 =>
 kCall R 31 [a0, x56, (Value.bool true)] h54 (fun x57 h58 =>
 kExtr x57 0 (fun x59 =>
 kExtr x57 1 (fun x60 =>
 kI64 .neq x60 (Value.int .i64 (.ofNat 0)) (fun x61 =>
 jn (fun (h63 : Hs) =>
 kNil a0 (fun x64 =>
 kFieldA 1 x64 (fun x65 =>
 kLoad x65 h63 (fun x66 =>
 after (fun x67 h68 =>
 kNil x67 (fun x69 =>
 kFieldA 0 x69 (fun x70 =>
 kLoad x70 h68 (fun x71 =>
 kI64 .eql x71 (Value.int .i64 (.ofNat 2)) (fun x72 =>
 jn (fun (h74 : Hs) =>
 kFieldA 0 x0 (fun x75 =>
 kLoad x75 h74 (fun x76 =>
 jn (fun (x78 x79 x80 : Value) (h81 : Hs) =>
 kFieldA 4 x0 (fun x82 =>
 kLoad x82 h81 (fun x83 =>
 kI64 .gtr x83 (Value.int .i64 (.ofNat 4096)) (fun x84 =>
 jn (fun (h86 : Hs) =>
 kFieldA 4 x0 (fun x87 =>
 kLoad x87 h86 (fun x88 =>
 kCall R 42 [x67, x88] h86 (fun x89 h90 =>
 kNil x67 (fun x91 =>
 kFieldA 1 x91 (fun x92 =>
 kLoad x92 h90 (fun x93 =>
 kLenV x93 (fun x94 =>
 after (fun x95 h96 =>
 after (fun x97 h98 =>
 clearUp h (packR h98 (resV enE h98 [.cell (.c x2) 7 true]))) (store1 7 h96 (cellsL x95) (addrOf x2))) (oBuild [(Value.int .i64 (.ofNat 0)), (Value.int .i64 (.ofNat 0)), (Value.int .i64 (.ofNat 0)), (Value.int .i64 (.ofNat 0)), (Value.int .i64 (.ofNat 0)), (Value.slice none 0 0), (Value.slice none 0 0)] [(1, 1, .c x59), (4, 1, .c x94)] enE h90))))))))) fun k85 =>
 cnd x84
 (kCall R 12 [(Value.int .i64 (.ofNat 9))] h81 (fun x99 h100 =>
 after (fun x101 h102 =>
 clearUp h (packR h102 (resV enE h102 [.cell (.c x2) 7 true]))) (store1 7 h100 (cellsL x99) (addrOf x2))))
 (k85 h81))))) fun k77 =>
 kI64 .eql x76 (Value.int .i64 (.ofNat 9)) (fun x103 =>
 jn (fun (x105 x106 : Value) (h107 : Hs) =>
 k77 x103 x105 x106 h107) fun k104 =>
 cnd x103
 (kFieldA 3 x0 (fun x108 =>
 kLoad x108 (Hs.mk h74.hp h74.nx h74.nx) (fun x109 =>
 kNil x67 (fun x110 =>
 kFieldA 1 x110 (fun x111 =>
 kLoad x111 (Hs.mk h74.hp h74.nx h74.nx) (fun x112 =>
 kLenV x112 (fun x113 =>
 after (fun v147 u148 => dPut (fun x114 h115 =>
 kNil x67 (fun x116 =>
 kFieldA 1 x116 (fun x117 =>
 kLoad x117 (Hs.mk h115.hp h115.nx h115.nx) (fun x118 =>
 kFieldA 4 x0 (fun x119 =>
 kLoad x119 (Hs.mk h115.hp h115.nx h115.nx) (fun x120 =>
 kNil x67 (fun x121 =>
 kFieldA 1 x121 (fun x122 =>
 kLoad x122 (Hs.mk h115.hp h115.nx h115.nx) (fun x123 =>
 kLenV x123 (fun x124 =>
 kI64 .sub x124 x114 (fun x125 =>
 after (fun v145 u146 => dPut (fun x126 h127 =>
 kI64 .add x114 x126 (fun x128 =>
 after (fun v143 u144 => dPut (fun x129 h130 =>
 kCall R 13 [x129] h130 (fun v141 u142 => dPut (fun x131 h132 =>
 after (fun v139 u140 => dPut (fun x133 h134 =>
 after (fun v137 u138 => dPut (fun x135 h136 =>
 clearUp h (packR h136 (resV enE h136 [.cell (.c x2) 7 true]))) v137 (dNext h134 u138 .bar) (andB (dFit h134 u138 .bar) (Nat.ble 0 u138.lo))) (store1 7 h134 (cellsL x133) (addrOf x2))) v139 (dNext h132 u140 .blind) (andB (dFit h132 u140 .blind) (Nat.ble 0 u140.lo))) (oBuild [(Value.int .i64 (.ofNat 0)), (Value.int .i64 (.ofNat 0)), (Value.int .i64 (.ofNat 0)), (Value.int .i64 (.ofNat 0)), (Value.int .i64 (.ofNat 0)), (Value.slice none 0 0), (Value.slice none 0 0)] [(1, 1, .c x59), (5, 1, .c x131)] enE (Hs.mk .e h132.nx h132.nx))) v141 (dNext h130 u142 .bar) (andB (dFit h130 u142 .bar) (Nat.ble 0 u142.lo)))) v143 (dNext h127 u144 .bar) (andB (dFit h127 u144 .bar) (Nat.ble 0 u144.lo))) (oSlice 1 (.c x118) (some (.c x114)) (some (.c x128)) none enE h127))) v145 (dNext h115 u146 .blind) (andB (dFit h115 u146 .blind) (Nat.ble 0 u146.lo))) (oMinmax false [.c x120, .c x125] enE (Hs.mk .e h115.nx h115.nx))))))))))))) v147 (dNext h74 u148 .blind) (andB (dFit h74 u148 .blind) (Nat.ble 0 u148.lo))) (oMinmax false [.c x109, .c x113] enE (Hs.mk .e h74.nx h74.nx)))))))))
 (kI64 .eql x76 (Value.int .i64 (.ofNat 10)) (fun x149 =>
 jn (fun (h151 : Hs) =>
 k104 dunno x149 h151) fun k150 =>
 cnd x149
 (kLoads 6 x0 h74 (fun x152 =>
 kCall R 41 [a0, x59, x152] h74 (fun x153 h154 =>
 after (fun x155 h156 =>
 clearUp h (packR h156 (resV enE h156 [.cell (.c x2) 7 true]))) (store1 7 h154 (cellsL x153) (addrOf x2)))))
 (k150 h74))))))) fun k73 =>
 cnd x72
 (kCall R 12 [(Value.int .i64 (.ofNat 5))] h68 (fun x157 h158 =>
 after (fun x159 h160 =>
 clearUp h (packR h160 (resV enE h160 [.cell (.c x2) 7 true]))) (store1 7 h158 (cellsL x157) (addrOf x2))))
 (k73 h68)))))) (ret1 h63 (lk1 true h63 (Value.pointer none) false x59 x66)))))) fun k62 =>
 cnd x61
 (kCall R 12 [x60] h58 (fun x161 h162 =>
 after (fun x163 h164 =>
 clearUp h (packR h164 (resV enE h164 [.cell (.c x2) 7 true]))) (store1 7 h162 (cellsL x161) (addrOf x2))))
 (k62 h58)))))))) fun k53 =>
 cnd x51
 (kCall R 12 [(Value.int .i64 (.ofNat 1))] h52 (fun x165 h166 =>
 after (fun x167 h168 =>
 clearUp h (packR h168 (resV enE h168 [.cell (.c x2) 7 true]))) (store1 7 h166 (cellsL x165) (addrOf x2))))
 (k53 h52)) (pickB (.c (Value.bool true)) (.c x49) enE h50 x19)))))))))) (pickB (.c x17) (.c (Value.bool false)) enE h18 x6)))))))) (oAlloc 29 [(Value.int .i64 (.ofNat 0)), (Value.int .i64 (.ofNat 0)), (Value.int .i64 (.ofNat 0)), (Value.int .i64 (.ofNat 0)), (Value.int .i64 (.ofNat 0)), (Value.slice none 0 0), (Value.slice none 0 0)] enE h1)) (oBox 32 (.c a1) enE h0)

theorem q19 (R : RnK) (N : Nat) (args : List Value) (h : Hs) : r19 R N args h = callT Tryz.prog N R 19 args h := by kernel_rfl

/-- (*lintel/tree.item).size -/
noncomputable def r40 (R : RnK) (N : Nat) (args : List Value) (h : Hs) : An := unC args fun a0 sq0 => enK h fun h0 =>
 kNil a0 (fun x0 =>
 kFieldA 0 x0 (fun x1 =>
 kLoad x1 h0 (fun x2 =>
 kI64 .eql x2 (Value.int .i64 (.ofNat 2)) (fun x3 =>
 jn (fun (x5 : Value) (h6 : Hs) =>
 kNil a0 (fun x7 =>
 kFieldA 1 x7 (fun x8 =>
 kLoad x8 h6 (fun x9 =>
 kLenV x9 (fun x10 =>
 clrK h x10 h6))))) fun k4 =>
 cnd x3
 (kNil a0 (fun x11 =>
 kFieldA 2 x11 (fun x12 =>
 kLoad x12 h0 (fun x13 =>
 after (fun x14 h15 =>
 clrK h x14 h15) (ret1 h0 (maplen1 h0 x13))))))
 (k4 (Value.int .i64 (.ofNat 0)) h0)))))

theorem q40 (R : RnK) (N : Nat) (args : List Value) (h : Hs) : r40 R N args h = callT Tryz.prog N R 40 args h := by kernel_rfl

/-- (*lintel/tree.Tree).write -/
noncomputable def r41 (R : RnK) (N : Nat) (args : List Value) (h : Hs) : An := unC args fun a0 sq0 => unC sq0 fun a1 sq1 => unC sq1 fun a2 sq2 => enK h fun h0 =>
 after (fun x0 h1 =>
 after (fun x2 h3 =>
 kNil a0 (fun x4 =>
 kFieldA 1 x4 (fun x5 =>
 kLoad x5 h3 (fun x6 =>
 after (fun x7 h8 =>
 kFieldA 5 x0 (fun x9 =>
 kLoad x9 h8 (fun x10 =>
 kLenV x10 (fun x11 =>
 kI64 .gtr x11 (Value.int .i64 (.ofNat 0)) (fun x12 =>
 jn (fun (x14 : Value) (h15 : Hs) =>
 kNil x7 (fun x16 =>
 kFieldA 1 x16 (fun x17 =>
 kLoad x17 h15 (fun x18 =>
 kLenV x18 (fun x19 =>
 after (fun x20 h21 =>
 after (fun x22 h23 =>
 clearUp h (packR h23 (resV enE h23 [.cell (.c x2) 7 true]))) (store1 7 h21 (cellsL x20) (addrOf x2))) (oBuild [(Value.int .i64 (.ofNat 0)), (Value.int .i64 (.ofNat 0)), (Value.int .i64 (.ofNat 0)), (Value.int .i64 (.ofNat 0)), (Value.int .i64 (.ofNat 0)), (Value.slice none 0 0), (Value.slice none 0 0)] [(1, 1, .c a1), (4, 1, .c x19)] enE h15)))))) fun k13 =>
 cnd x12
 (kFieldA 3 x0 (fun x24 =>
 kLoad x24 h8 (fun x25 =>
 kI64 .gtr x25 (Value.int .i64 (.ofNat 4096)) (fun x26 =>
 gdF x26 h8 (fun k27 => kFieldA 5 x0 (fun x28 => k27 x28 h8)) (fun x29 h30 =>
 gdF x26 h30 (fun k31 => kLoad x29 h30 (fun x32 => k31 x32 h30)) (fun x33 h34 =>
 gdF x26 h34 (fun k35 => kLenV x33 (fun x36 => k35 x36 h34)) (fun x37 h38 =>
 gdF x26 h38 (fun k39 => kFieldA 3 x0 (fun x40 => k39 x40 h38)) (fun x41 h42 =>
 gdF x26 h42 (fun k43 => kLoad x41 h42 (fun x44 => k43 x44 h42)) (fun x45 h46 =>
 gdF x26 h46 (fun k47 => kI64 .sub (Value.int .i64 (.ofNat 4096)) x45 (fun x48 => k47 x48 h46)) (fun x49 h50 =>
 gdF x26 h50 (fun k51 => kI64 .gtr x37 x49 (fun x52 => k51 x52 h50)) (fun x53 h54 =>
 after (fun x55 h56 =>
 jn (fun (h58 : Hs) =>
 kNil x7 (fun x59 =>
 kFieldA 1 x59 (fun x60 =>
 kLoad x60 (Hs.mk h58.hp h58.nx h58.nx) (fun x61 =>
 kLenV x61 (fun x62 =>
 kFieldA 3 x0 (fun x63 =>
 kLoad x63 (Hs.mk h58.hp h58.nx h58.nx) (fun x64 =>
 kFieldA 5 x0 (fun x65 =>
 kLoad x65 (Hs.mk h58.hp h58.nx h58.nx) (fun x66 =>
 kLenV x66 (fun x67 =>
 kI64 .add x64 x67 (fun x68 =>
 after (fun v90 u91 => dPut (fun x69 h70 =>
 kCall R 42 [x7, x69] h70 (fun v88 u89 => dPut (fun x71 h72 =>
 kNil x7 (fun x73 =>
 kFieldA 1 x73 (fun x74 =>
 kLoad x74 (Hs.mk h72.hp h72.nx h72.nx) (fun x75 =>
 kFieldA 3 x0 (fun x76 =>
 kLoad x76 (Hs.mk h72.hp h72.nx h72.nx) (fun x77 =>
 after (fun v86 u87 => dPut (fun x78 h79 =>
 kFieldA 5 x0 (fun x80 =>
 kLoad x80 (dHidS .light [true, false, false, false, false, false, false, false] [none, some (h72.nx, h79.nx), none, none, none, none, none, none] h79) (fun x81 =>
 after (fun v84 u85 => dPut (fun x82 h83 =>
 k13 x55 h83) v84 (dNext h79 u85 .bar) (andB (dFit h79 u85 .bar) (Nat.ble 0 u85.lo))) (copy0 1 h79 x78 x81)))) v86 (dNext h72 u87 .light) (andB (dFit h72 u87 .light) (Nat.ble 0 u87.lo))) (oSlice 1 (.c x75) (some (.c x77)) none none enE (Hs.mk h72.hp h72.nx h72.nx)))))))) v88 (dNext h70 u89 .bar) (andB (dFit h70 u89 .bar) (Nat.ble 0 u89.lo)))) v90 (dNext h58 u91 .blind) (andB (dFit h58 u91 .blind) (Nat.ble 0 u91.lo))) (oMinmax true [.c x62, .c x68] enE (Hs.mk .e h58.nx h58.nx))))))))))))) fun k57 =>
 cnd x55
 (kCall R 12 [(Value.int .i64 (.ofNat 9))] h56 (fun x92 h93 =>
 after (fun x94 h95 =>
 clearUp h (packR h95 (resV enE h95 [.cell (.c x2) 7 true]))) (store1 7 h93 (cellsL x92) (addrOf x2))))
 (k57 h56)) (pickB (.c (Value.bool true)) (.c x53) enE h54 x26))))))))))))
 (k13 dunno h8)))))) (ret1 h3 (lk1 true h3 (Value.pointer none) false a1 x6)))))) (oAlloc 29 [(Value.int .i64 (.ofNat 0)), (Value.int .i64 (.ofNat 0)), (Value.int .i64 (.ofNat 0)), (Value.int .i64 (.ofNat 0)), (Value.int .i64 (.ofNat 0)), (Value.slice none 0 0), (Value.slice none 0 0)] enE h1)) (oBox 32 (.c a2) enE h0)

theorem q41 (R : RnK) (N : Nat) (args : List Value) (h : Hs) : r41 R N args h = callT Tryz.prog N R 41 args h := by kernel_rfl

/-- (*lintel/tree.item).fit -/
noncomputable def r42 (R : RnK) (N : Nat) (args : List Value) (h : Hs) : An := unC args fun a0 sq0 => unC sq0 fun a1 sq1 => enK h fun h0 =>
 after (fun x0 h1 =>
 kNil a0 (fun x2 =>
 kFieldA 1 x2 (fun x3 =>
 kLoad x3 h1 (fun x4 =>
 after (fun x5 h6 =>
 kNil a0 (fun x7 =>
 kFieldA 1 x7 (fun x8 =>
 kStore1 x8 x0 h6 (fun x9 h10 =>
 clrK h (Value.tuple #[]) h10)))) (copy0 1 h1 x0 x4))))) (mkslice1 5 1 1 [(Value.int .u8 (.ofNat 0))] h0 (natOf a1) (natOf a1))

theorem q42 (R : RnK) (N : Nat) (args : List Value) (h : Hs) : r42 R N args h = callT Tryz.prog N R 42 args h := by kernel_rfl

noncomputable def entries : List (Nat × FnK) := [(4, r4), (7, r7), (12, r12), (13, r13), (18, r18), (19, r19), (40, r40), (41, r41), (42, r42)]
theorem entries_ok : AllOk Tryz.prog entries := ⟨q4, q7, q12, q13, q18, q19, q40, q41, q42, trivial⟩
end Go.Proofs.YtefdkblhnlkgaaaGreatDoor.treeLinks
