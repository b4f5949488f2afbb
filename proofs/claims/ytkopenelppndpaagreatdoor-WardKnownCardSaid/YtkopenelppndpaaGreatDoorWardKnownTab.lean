/- The functions that 'WardKnown' reaches, in the fast evaluator's form, each held against the program's own text by the kernel. Written by a program. -/
import Derived.Test.YtkopenelppndpaaGreatDoorGevKM
import Derived.Test.YtkopenelppndpaaGreatDoorProg
import Derived.KernelRfl
namespace Go.Proofs.YtkopenelppndpaaGreatDoor.wardKnown
open Go.Gev
set_option linter.unusedVariables false
/-- lintel/mend.Run -/
noncomputable def r23 (R : RnK) (N : Nat) (args : List Value) (h : Hs) : An := unC args fun a0 sq0 => enK h fun h0 =>
 obK (fun x0 =>
 jn (fun (x2 x3 : Value) (h4 : Hs) =>
 kCall R 19 [a0] h4 (fun x5 h6 =>
 jn (fun (x8 x9 : Value) (h10 : Hs) =>
 kCall R 27 [a0] h10 (fun x11 h12 =>
 kCall R 46 [x11] h12 (fun x13 h14 =>
 kExtr x13 0 (fun x15 =>
 kExtr x13 1 (fun x16 =>
 kExtr x13 2 (fun x17 =>
 after (fun x18 h19 =>
 after (fun x20 h21 =>
 kNot x16 (fun x22 =>
 gdT x22 h21 (fun k23 => k23 x17 h21) (fun x24 h25 =>
 gdT x22 h25 (fun k26 => kNot x24 (fun x27 => k26 x27 h25)) (fun x28 h29 =>
 after (fun x30 h31 =>
 jn (fun (x33 x34 : Value) (h35 : Hs) =>
 kCall R 37 [a0] h35 (fun x36 h37 =>
 kExtr x36 0 (fun x38 =>
 kExtr x36 1 (fun x39 =>
 kI64 .neq x39 (Value.int .i64 (.ofNat 0)) (fun x40 =>
 jn (fun (x42 x43 : Value) (h44 : Hs) =>
 kFieldA 0 x18 (fun x45 =>
 kLoads 4 x45 h44 (fun x46 =>
 kCall R 47 [x46, (Value.int .i64 (.ofNat 0))] h44 (fun x47 h48 =>
 kExtr x47 0 (fun x49 =>
 kExtr x47 1 (fun x50 =>
 kCall R 48 [a0, x49, x50] h48 (fun x51 h52 =>
 kExtr x51 0 (fun x53 =>
 kExtr x51 1 (fun x54 =>
 after (fun x55 h56 =>
 after (fun x57 h58 =>
 kI64 .neq x54 (Value.int .i64 (.ofNat 0)) (fun x59 =>
 jn (fun (x61 x62 : Value) (h63 : Hs) =>
 kCall R 27 [a0] h63 (fun x64 h65 =>
 kCall R 49 [x64] h65 (fun x66 h67 =>
 kExtr x66 0 (fun x68 =>
 kExtr x66 1 (fun x69 =>
 kI64 .neq x69 (Value.int .i64 (.ofNat 0)) (fun x70 =>
 jn (fun (x72 x73 : Value) (h74 : Hs) =>
 kLoads 3 x55 h74 (fun x75 =>
 kCall R 50 [x75, (Value.int .i64 (.ofNat 0))] h74 (fun x76 h77 =>
 after (fun x78 h79 =>
 after (fun x80 h81 =>
 kLenV x68 (fun x82 =>
 jn (fun (x84 x85 x86 x87 x88 x89 x90 x91 x92 : Value) (h93 : Hs) =>
 kCall R 27 [a0] h93 (fun x94 h95 =>
 kLenV x94 (fun x96 =>
 jn (fun (x98 x99 x100 x101 x102 x103 : Value) (h104 : Hs) =>
 clrK h (Value.tuple #[x103, (Value.int .i64 (.ofNat 0))]) h104) fun k97 =>
 lpT (T := Value → Value → Value → Value → Value → Value → Hs → An) (fun _ _ _ _ _ _ _ => none) N (fun k105 =>
 fun (x107 x108 x109 x110 x111 x112 : Value) (h113 : Hs) =>
 kI64 .lss x107 x96 (fun x114 =>
 jn (fun (h116 : Hs) =>
 jn (fun (x118 x119 x120 x121 : Value) (h122 : Hs) =>
 kI64 .add x107 (Value.int .i64 (.ofNat 1)) (fun x123 =>
 k105 x123 x114 x118 x119 x120 x121 h122)) fun k117 =>
 kIdxA 1 x94 x107 (fun x124 =>
 kLoad x124 h116 (fun x125 =>
 kIdxA 1 x11 x107 (fun x126 =>
 kLoad x126 h116 (fun x127 =>
 kU64 .neq x127 x125 (fun x128 =>
 jn (fun (x130 : Value) (h131 : Hs) =>
 k117 x107 x125 x128 x130 h131) fun k129 =>
 cnd x128
 (kI64 .add x112 (Value.int .i64 (.ofNat 1)) (fun x132 =>
 k129 x132 h116))
 (k129 x112 h116))))))) fun k115 =>
 cnd x114
 (k115 h113)
 (k97 x107 x114 x109 x110 x111 x112 h113))) (Value.int .i64 (.ofNat 0)) dunno dunno dunno dunno x91 h95))) fun k83 =>
 lpT (T := Value → Value → Value → Value → Value → Value → Value → Value → Value → Hs → An) (fun _ _ _ _ _ _ _ _ _ _ => none) N (fun k133 =>
 fun (x135 x136 x137 x138 x139 x140 x141 x142 x143 : Value) (h144 : Hs) =>
 kI64 .lss x135 x82 (fun x145 =>
 jn (fun (h147 : Hs) =>
 jn (fun (x149 x150 x151 x152 x153 x154 x155 : Value) (h156 : Hs) =>
 kI64 .add x135 (Value.int .i64 (.ofNat 1)) (fun x157 =>
 k133 x157 x145 x149 x150 x151 x152 x153 x154 x155 h156)) fun k148 =>
 kIdxA 3 x68 x135 (fun x158 =>
 kLoads 3 x158 h147 (fun x159 =>
 after (fun x160 h161 =>
 after (fun x162 h163 =>
 kFieldA 1 x160 (fun x164 =>
 kLoad x164 h163 (fun x165 =>
 kI64 .eql x165 (Value.int .i64 (.ofNat 0)) (fun x166 =>
 gdF x166 h163 (fun k167 => kFieldA 1 x160 (fun x168 => k167 x168 h163)) (fun x169 _ =>
 gdF x166 h163 (fun k171 => kLoad x169 (Hs.mk h163.hp h163.nx h163.nx) (fun x172 => k171 x172 h163)) (fun x173 _ =>
 gdF x166 h163 (fun k175 => kFieldA 0 x18 (fun x176 => k175 x176 h163)) (fun x177 _ =>
 gdF x166 h163 (fun k179 => kLoads 4 x177 (Hs.mk h163.hp h163.nx h163.nx) (fun x180 => k179 x180 h163)) (fun x181 _ =>
 gdF x166 h163 (fun k183 => kCall R 52 [x181] (Hs.mk h163.hp h163.nx h163.nx) (fun v184 u185 => dPut k183 v184 (dNext h163 u185 .light) (andB (dFit h163 u185 .light) (Nat.ble 0 u185.lo)))) (fun x186 h187 =>
 gdF x166 h187 (fun k188 => kI64 .eql x173 x186 (fun x189 => k188 x189 h187)) (fun x190 _ =>
 after (fun v206 u207 => dPut (fun x192 h193 =>
 jn (fun (x195 : Value) (h196 : Hs) =>
 kLoads 4 x78 h196 (fun x197 =>
 kLoads 3 x160 h196 (fun x198 =>
 kCallV R x195 [x197, x198] h196 (fun x199 h200 =>
 kI64 .neq x199 (Value.int .i64 (.ofNat 0)) (fun x201 =>
 jn (fun (x203 x204 : Value) (h205 : Hs) =>
 k148 x160 x192 x195 x199 x201 x203 x204 h205) fun k202 =>
 cnd x201
 (clrK h (Value.tuple #[(Value.int .i64 (.ofNat 0)), x199]) h200)
 (k202 x142 x143 h200)))))) fun k194 =>
 cnd x192
 (k194 (Value.func (.func 53) #[] #[]) h193)
 (k194 (Value.func (.func 51) #[] #[]) h193)) v206 (dNext h187 u207 .blind) (andB (dFit h187 u207 .blind) (Nat.ble 0 u207.lo))) (pickB (.c (Value.bool true)) (.c x190) enE (Hs.mk .e h187.nx h187.nx) x166))))))))))) (store1 3 h161 (cellsL x159) (addrOf x160))) (oAlloc 123 [(Value.int .i64 (.ofNat 0)), (Value.int .i64 (.ofNat 0)), (Value.slice none 0 0)] enE h147)))) fun k146 =>
 cnd x145
 (k146 h144)
 (k83 x135 x145 x137 x138 x139 x140 x141 x142 x143 h144))) (Value.int .i64 (.ofNat 0)) dunno dunno dunno dunno dunno dunno x72 x73 h81)) (store1 4 h79 (cellsL x76) (addrOf x78))) (oAlloc 120 [(Value.pointer none), (Value.int .i64 (.ofNat 0)), (Value.int .i64 (.ofNat 0)), (Value.int .i64 (.ofNat 0))] enE h77)))) fun k71 =>
 cnd x70
 (clrK h (Value.tuple #[(Value.int .i64 (.ofNat 0)), x69]) h67)
 (k71 x61 x62 h67))))))) fun k60 =>
 cnd x59
 (clrK h (Value.tuple #[(Value.int .i64 (.ofNat 0)), x54]) h58)
 (k60 x42 x43 h58))) (store1 3 h56 (cellsL x53) (addrOf x55))) (oAlloc 113 [(Value.pointer none), (Value.int .i64 (.ofNat 0)), (Value.int .i64 (.ofNat 0))] enE h52)))))))))) fun k41 =>
 cnd x40
 (clrK h (Value.tuple #[(Value.int .i64 (.ofNat 0)), x39]) h37)
 (k41 x33 x34 h37)))))) fun k32 =>
 cnd x30
 (clrK h (Value.tuple #[(Value.int .i64 (.ofNat 0)), (Value.int .i64 (.ofNat 13))]) h31)
 (k32 x8 x9 h31)) (pickB (.c x28) (.c (Value.bool false)) enE h29 x22))))) (store1 5 h19 (cellsL x15) (addrOf x18))) (oAlloc 107 [(Value.int .i64 (.ofNat 0)), (Value.int .i64 (.ofNat 0)), (Value.int .i64 (.ofNat 0)), (Value.int .i64 (.ofNat 0)), (Value.int .u64 (.ofNat 0))] enE h14))))))) fun k7 =>
 cnd x5
 (clrK h (Value.tuple #[(Value.int .i64 (.ofNat 0)), (Value.int .i64 (.ofNat 14))]) h6)
 (k7 x2 x3 h6))) fun k1 =>
 cnd x0
 (clrK h (Value.tuple #[(Value.int .i64 (.ofNat 0)), (Value.int .i64 (.ofNat 1))]) h0)
 (k1 (Value.int .i64 (.ofNat 0)) (Value.int .i64 (.ofNat 0)) h0)) (e2 false qP a0 (Value.pointer none))

theorem q23 (R : RnK) (N : Nat) (args : List Value) (h : Hs) : r23 R N args h = callT Tryz.prog N R 23 args h := by kernel_rfl

/-- (*lintel/pmem.Mem).Words -/
noncomputable def r27 (R : RnK) (N : Nat) (args : List Value) (h : Hs) : An := unC args fun a0 sq0 => enK h fun h0 =>
 kNil a0 (fun x0 =>
 kFieldA 0 x0 (fun x1 =>
 kLoad x1 h0 (fun x2 =>
 kLenV x2 (fun x3 =>
 jn (fun (x5 x6 x7 x8 x9 x10 x11 : Value) (h12 : Hs) =>
 clrK h x9 h12) fun k4 =>
 lpT (T := Value → Value → Value → Value → Value → Value → Value → Hs → An) (fun _ _ _ _ _ _ _ _ => none) N (fun k13 =>
 fun (x15 x16 x17 x18 x19 x20 x21 : Value) (h22 : Hs) =>
 kI64 .lss x15 x3 (fun x23 =>
 jn (fun (h25 : Hs) =>
 jn (fun (x27 x28 x29 x30 x31 : Value) (h32 : Hs) =>
 kI64 .add x15 (Value.int .i64 (.ofNat 1)) (fun x33 =>
 k13 x33 x23 x27 x28 x29 x30 x31 h32)) fun k26 =>
 kIdxA 1 x2 x15 (fun x34 =>
 kLoad x34 h25 (fun x35 =>
 jn (fun (x37 x38 x39 x40 : Value) (h41 : Hs) =>
 k26 x37 x38 x39 x35 x40 h41) fun k36 =>
 lpT (T := Value → Value → Value → Value → Hs → An) (fun _ _ _ _ _ => none) N (fun k42 =>
 fun (x44 x45 x46 x47 : Value) (h48 : Hs) =>
 kI64 .lss x44 (Value.int .i64 (.ofNat 8)) (fun x49 =>
 jn (fun (h51 : Hs) =>
 jn (fun (x53 x54 : Value) (h55 : Hs) =>
 kI64 .add x44 (Value.int .i64 (.ofNat 1)) (fun x56 =>
 k42 x56 x49 x53 x54 h55)) fun k52 =>
 kCall R 55 [x35, x44] h51 (fun x57 h58 =>
 after (fun x59 h60 =>
 after (fun x61 h62 =>
 k52 x61 x44 h62) (app0 31 1 8 h60 x46 x59)) (oMkrow 31 1 1 [(Value.int .u64 (.ofNat 0))] [(0, 1, .c x57)] enE h58))) fun k50 =>
 cnd x49
 (k50 h48)
 (k36 x44 x49 x46 x47 h48))) (Value.int .i64 (.ofNat 0)) x18 x19 x21 h25))) fun k24 =>
 cnd x23
 (k24 h22)
 (k4 x15 x23 x17 x18 x19 x20 x21 h22))) (Value.int .i64 (.ofNat 0)) dunno dunno dunno (Value.slice none 0 0) dunno dunno h0))))

theorem q27 (R : RnK) (N : Nat) (args : List Value) (h : Hs) : r27 R N args h = callT Tryz.prog N R 27 args h := by kernel_rfl

/-- (lintel/image.Image).Tree -/
noncomputable def r28 (R : RnK) (N : Nat) (args : List Value) (h : Hs) : An := unC args fun a0 sq0 => enK h fun h0 =>
 after (fun x0 h1 =>
 jn (fun (x3 x4 x5 x6 x7 x8 x9 x10 x11 x12 x13 x14 x15 x16 x17 x18 : Value) (h19 : Hs) =>
 kFieldA 0 x0 (fun x20 =>
 kFieldA 1 x20 (fun x21 =>
 kLoad x21 h19 (fun x22 =>
 kCall R 59 [x22, x16] h19 (fun x23 h24 =>
 kExtr x23 0 (fun x25 =>
 kExtr x23 1 (fun x26 =>
 kI64 .neq x26 (Value.int .i64 (.ofNat 0)) (fun x27 =>
 jn (fun (x29 x30 : Value) (h31 : Hs) =>
 clrK h (Value.tuple #[x25, (Value.int .i64 (.ofNat 0))]) h31) fun k28 =>
 cnd x27
 (clrK h (Value.tuple #[(Value.pointer none), (Value.int .i64 (.ofNat 13))]) h24)
 (k28 x17 x18 h24))))))))) fun k2 =>
 lpT (T := Value → Value → Value → Value → Value → Value → Value → Value → Value → Value → Value → Value → Value → Value → Value → Value → Hs → An) (fun _ _ _ _ _ _ _ _ _ _ _ _ _ _ _ _ _ => none) N (fun k32 =>
 fun (x34 x35 x36 x37 x38 x39 x40 x41 x42 x43 x44 x45 x46 x47 x48 x49 : Value) (h50 : Hs) =>
 kFieldA 0 x0 (fun x51 =>
 kFieldA 1 x51 (fun x52 =>
 kLoad x52 h50 (fun x53 =>
 kI64 .leq x34 x53 (fun x54 =>
 jn (fun (h56 : Hs) =>
 jn (fun (x58 x59 x60 x61 x62 x63 x64 x65 x66 x67 x68 x69 x70 x71 : Value) (h72 : Hs) =>
 kI64 .add x34 (Value.int .i64 (.ofNat 1)) (fun x73 =>
 k32 x73 x54 x58 x59 x60 x61 x62 x63 x64 x65 x66 x67 x68 x69 x70 x71 h72)) fun k57 =>
 kLoads 5 x0 h56 (fun x74 =>
 kCall R 56 [x74, x34] h56 (fun x75 h76 =>
 kExtr x75 0 (fun x77 =>
 kExtr x75 1 (fun x78 =>
 after (fun x79 h80 =>
 after (fun x81 h82 =>
 kNot x78 (fun x83 =>
 jn (fun (x85 x86 : Value) (h87 : Hs) =>
 kFieldA 0 x79 (fun x88 =>
 kLoad x88 h87 (fun x89 =>
 kI64 .eql x89 (Value.int .i64 (.ofNat 0)) (fun x90 =>
 jn (fun (h92 : Hs) =>
 kFieldA 0 x79 (fun x93 =>
 kLoad x93 (Hs.mk h92.hp h92.nx h92.nx) (fun x94 =>
 kLoads 5 x0 (Hs.mk h92.hp h92.nx h92.nx) (fun x95 =>
 kCall R 57 [x95, x34] (Hs.mk h92.hp h92.nx h92.nx) (fun v166 u167 => dPut (fun x96 h97 =>
 after (fun v164 u165 => dPut (fun x98 h99 =>
 after (fun v162 u163 => dPut (fun x100 h101 =>
 after (fun v160 u161 => dPut (fun x102 h103 =>
 kLoads 5 x0 h103 (fun x104 =>
 kCall R 58 [x104, x34] h103 (fun x105 h106 =>
 kLenV x105 (fun x107 =>
 jn (fun (x109 x110 x111 x112 : Value) (h113 : Hs) =>
 kLoads 4 x100 h113 (fun x114 =>
 after (fun x115 h116 =>
 after (fun x117 h118 =>
 k57 x78 x83 x79 x90 x109 x107 x110 x105 x111 x112 x100 x117 x85 x86 h118) (app0 84 4 64 h116 x47 x115)) (oMkrow 84 4 1 [(Value.int .i64 (.ofNat 0)), (Value.int .i64 (.ofNat 0)), (Value.slice none 0 0), (Value.slice none 0 0)] [(0, 4, .c x114)] enE h113))) fun k108 =>
 lpT (T := Value → Value → Value → Value → Hs → An) (fun _ _ _ _ _ => none) N (fun k119 =>
 fun (x121 x122 x123 x124 : Value) (h125 : Hs) =>
 kI64 .lss x121 x107 (fun x126 =>
 jn (fun (h128 : Hs) =>
 jn (fun (x130 x131 : Value) (h132 : Hs) =>
 kI64 .add x121 (Value.int .i64 (.ofNat 1)) (fun x133 =>
 k119 x133 x126 x130 x131 h132)) fun k129 =>
 kIdxA 2 x105 x121 (fun x134 =>
 kLoads 2 x134 h128 (fun x135 =>
 after (fun x136 h137 =>
 after (fun x138 h139 =>
 kFieldA 0 x136 (fun x140 =>
 kLoad x140 h139 (fun x141 =>
 kI64 .neq x141 (Value.int .i64 (.ofNat 0)) (fun x142 =>
 jn (fun (h144 : Hs) =>
 k129 x136 x142 h144) fun k143 =>
 cnd x142
 (kFieldA 3 x100 (fun x145 =>
 kLoad x145 h139 (fun x146 =>
 kFieldA 1 x136 (fun x147 =>
 kLoad x147 h139 (fun x148 =>
 kFieldA 0 x136 (fun x149 =>
 kLoad x149 h139 (fun x150 =>
 after (fun x151 h152 =>
 after (fun x153 h154 =>
 after (fun x155 h156 =>
 kFieldA 3 x100 (fun x157 =>
 kStore1 x157 x155 h156 (fun x158 h159 =>
 k143 h159))) (app0 90 2 24 h154 x146 x153)) (oMkrow 90 2 1 [(Value.string ⟨#[]⟩), (Value.int .i64 (.ofNat 0))] [(0, 2, .c x151)] enE h152)) (oBuild [(Value.string ⟨#[]⟩), (Value.int .i64 (.ofNat 0))] [(0, 1, .c x148), (1, 1, .c x150)] enE h139))))))))
 (k143 h139))))) (store1 2 h137 (cellsL x135) (addrOf x136))) (oAlloc 137 [(Value.int .i64 (.ofNat 0)), (Value.string ⟨#[]⟩)] enE h128)))) fun k127 =>
 cnd x126
 (k127 h125)
 (k108 x121 x126 x123 x124 h125))) (Value.int .i64 (.ofNat 0)) x42 x44 x45 h106)))) v160 (dNext h101 u161 .bar) (andB (dFit h101 u161 .bar) (Nat.ble 0 u161.lo))) (store1 4 h101 (cellsL x98) (addrOf x100))) v162 (dNext h99 u163 .make) (andB (dFit h99 u163 .make) (Nat.ble 0 u163.lo))) (oAlloc 84 [(Value.int .i64 (.ofNat 0)), (Value.int .i64 (.ofNat 0)), (Value.slice none 0 0), (Value.slice none 0 0)] enE (Hs.mk .e h99.nx h99.nx))) v164 (dNext h97 u165 .blind) (andB (dFit h97 u165 .blind) (Nat.ble 0 u165.lo))) (oBuild [(Value.int .i64 (.ofNat 0)), (Value.int .i64 (.ofNat 0)), (Value.slice none 0 0), (Value.slice none 0 0)] [(0, 1, .c x34), (1, 1, .c x94), (2, 1, .c x96)] enE (Hs.mk .e h97.nx h97.nx))) v166 (dNext h92 u167 .light) (andB (dFit h92 u167 .light) (Nat.ble 0 u167.lo))))))) fun k91 =>
 cnd x90
 (k57 x78 x83 x79 x90 x40 x41 x42 x43 x44 x45 x46 x47 x85 x86 h87)
 (k91 h87))))) fun k84 =>
 cnd x83
 (clrK h (Value.tuple #[(Value.pointer none), (Value.int .i64 (.ofNat 13))]) h82)
 (k84 x48 x49 h82))) (store1 4 h80 (cellsL x77) (addrOf x79))) (oAlloc 130 [(Value.int .i64 (.ofNat 0)), (Value.int .i64 (.ofNat 0)), (Value.int .i64 (.ofNat 0)), (Value.slice none 0 0)] enE h76)))))) fun k55 =>
 cnd x54
 (k55 h50)
 (k2 x34 x54 x36 x37 x38 x39 x40 x41 x42 x43 x44 x45 x46 x47 x48 x49 h50)))))) (Value.int .i64 (.ofNat 1)) dunno dunno dunno dunno dunno dunno dunno dunno dunno dunno dunno dunno (Value.slice none 0 0) (Value.pointer none) (Value.int .i64 (.ofNat 0)) h1) (oBox 67 (.c a0) enE h0)

theorem q28 (R : RnK) (N : Nat) (args : List Value) (h : Hs) : r28 R N args h = callT Tryz.prog N R 28 args h := by kernel_rfl

/-- lintel/image.Make -/
noncomputable def r35 (R : RnK) (N : Nat) (args : List Value) (h : Hs) : An := unC args fun a0 sq0 => enK h fun h0 =>
 after (fun x0 h1 =>
 kLoads 4 x0 h1 (fun x2 =>
 kCall R 77 [x2] h1 (fun x3 h4 =>
 kNot x3 (fun x5 =>
 jn (fun (x7 x8 : Value) (h9 : Hs) =>
 kFieldA 0 x0 (fun x10 =>
 kLoad x10 h9 (fun x11 =>
 kI64 .mul (Value.int .i64 (.ofNat 8)) x11 (fun x12 =>
 after (fun x13 h14 =>
 after (fun x15 h16 =>
 kStore1 x15 x13 h16 (fun x17 h18 =>
 after (fun x19 h20 =>
 kLoads 4 x0 h20 (fun x21 =>
 kCall R 79 [x21] h20 (fun x22 h23 =>
 kExtr x22 0 (fun x24 =>
 kExtr x22 1 (fun x25 =>
 kLoads 4 x0 h23 (fun x26 =>
 after (fun x27 h28 =>
 kCall R 80 [x27] h28 (fun x29 h30 =>
 kCallV R x19 [(Value.int .i64 (.ofNat 0)), x29] h30 (fun x31 h32 =>
 kLoads 4 x0 (Hs.mk h32.hp h32.nx h32.nx) (fun x33 =>
 kCall R 52 [x33] (Hs.mk h32.hp h32.nx h32.nx) (fun v146 u147 => dPut (fun x34 h35 =>
 kLoads 4 x0 (dHidS .light [false, false, false] [some (h32.nx, h35.nx), none, none] h35) (fun x36 =>
 after (fun v144 u145 => dPut (fun x37 h38 =>
 kCall R 80 [x37] h38 (fun v142 u143 => dPut (fun x39 h40 =>
 isVal (fun v140 u141 => dPut (fun x41 h42 =>
 kLoads 4 x0 h42 (fun x43 =>
 kCall R 81 [x43, (Value.int .i64 (.ofNat 1))] h42 (fun x44 h45 =>
 after (fun x46 h47 =>
 kCall R 82 [x46] h47 (fun x48 h49 =>
 kCallV R x19 [x44, x48] h49 (fun x50 h51 =>
 kLoads 4 x0 h51 (fun x52 =>
 kCall R 81 [x52, (Value.int .i64 (.ofNat 2))] h51 (fun x53 h54 =>
 after (fun x55 h56 =>
 after (fun x57 h58 =>
 after (fun x59 h60 =>
 kCall R 82 [x59] h60 (fun x61 h62 =>
 kCallV R x19 [x53, x61] h62 (fun x63 h64 =>
 kLoads 4 x0 h64 (fun x65 =>
 kCall R 83 [x65] h64 (fun x66 h67 =>
 kExtr x66 0 (fun x68 =>
 kExtr x66 1 (fun x69 =>
 kFieldA 0 x0 (fun x70 =>
 kLoad x70 h67 (fun x71 =>
 kCall R 84 [x71] h67 (fun x72 h73 =>
 after (fun x74 h75 =>
 kStore1 x74 x72 h75 (fun x76 h77 =>
 kFieldA 0 x0 (fun x78 =>
 kLoad x78 h77 (fun x79 =>
 jn (fun (x81 x82 x83 x84 : Value) (h85 : Hs) =>
 kLoads 4 x0 h85 (fun x86 =>
 kCall R 86 [x86] h85 (fun x87 h88 =>
 kExtr x87 0 (fun x89 =>
 kExtr x87 1 (fun x90 =>
 kFieldA 0 x74 (fun x91 =>
 kLoad x91 h88 (fun x92 =>
 kCallV R x19 [x89, x92] h88 (fun x93 h94 =>
 kLoad x15 h94 (fun x95 =>
 clrK h (Value.tuple #[x95, (Value.int .i64 (.ofNat 0))]) h94))))))))) fun k80 =>
 lpT (T := Value → Value → Value → Value → Hs → An) (fun _ _ _ _ _ => none) N (fun k96 =>
 fun (x98 x99 x100 x101 : Value) (h102 : Hs) =>
 kI64 .lss x98 x79 (fun x103 =>
 jn (fun (h105 : Hs) =>
 jn (fun (x107 x108 : Value) (h109 : Hs) =>
 kI64 .add x98 (Value.int .i64 (.ofNat 1)) (fun x110 =>
 k96 x110 x103 x107 x108 h109)) fun k106 =>
 kI64 .lss x98 x68 (fun x111 =>
 gdF x111 h105 (fun k112 => k112 x98 h105) (fun x113 h114 =>
 gdF x111 h114 (fun k115 => k115 x68 h114) (fun x116 h117 =>
 gdF x111 h117 (fun k118 => k118 x69 h117) (fun x119 h120 =>
 gdF x111 h120 (fun k121 => kI64 .add x116 x119 (fun x122 => k121 x122 h120)) (fun x123 h124 =>
 gdF x111 h124 (fun k125 => kI64 .geq x113 x123 (fun x126 => k125 x126 h124)) (fun x127 h128 =>
 after (fun x129 h130 =>
 jn (fun (h132 : Hs) =>
 k106 x98 x129 h132) fun k131 =>
 cnd x129
 (kLoads 1 x74 h130 (fun x133 =>
 after (fun x134 h135 =>
 kCall R 85 [x133, (Value.bool true), x134] h135 (fun x136 h137 =>
 kStore1 x74 x136 h137 (fun x138 h139 =>
 k131 h139))) (oMkrow 3 1 1 [(Value.int .i64 (.ofNat 0))] [(0, 1, .c x98)] enE h130)))
 (k131 h130)) (pickB (.c (Value.bool true)) (.c x127) enE h128 x111)))))))) fun k104 =>
 cnd x103
 (k104 h102)
 (k80 x98 x103 x100 x101 h102))) (Value.int .i64 (.ofNat 0)) dunno dunno dunno h77)))) (oAlloc 163 [(Value.slice none 0 0)] enE h73))))))))))) (oBuild [(Value.int .i64 (.ofNat 0)), (Value.int .i64 (.ofNat 0)), (Value.int .i64 (.ofNat 0)), (Value.slice none 0 0)] [(0, 1, .c (Value.int .i64 (.ofNat 2))), (1, 1, .c (Value.int .i64 (.ofNat 1))), (2, 1, .c x25), (3, 1, .c x57)] enE h58)) (oMkrow 161 2 1 [(Value.int .i64 (.ofNat 0)), (Value.int .i64 (.ofNat 0))] [(0, 2, .c x55)] enE h56)) (oBuild [(Value.int .i64 (.ofNat 0)), (Value.int .i64 (.ofNat 0))] [(0, 1, .c x24), (1, 1, .c x25)] enE h54)))))) (oBuild [(Value.int .i64 (.ofNat 0)), (Value.int .i64 (.ofNat 0)), (Value.int .i64 (.ofNat 0)), (Value.slice none 0 0)] [(0, 1, .c (Value.int .i64 (.ofNat 2))), (1, 1, .c (Value.int .i64 (.ofNat 1)))] enE h45)))) v140 (dNext h40 u141 .bar) (andB (dFit h40 u141 .bar) (Nat.ble 0 u141.lo))) (callV (toRn R) [x34, x39] h40 x19)) v142 (dNext h38 u143 .bar) (andB (dFit h38 u143 .bar) (Nat.ble 0 u143.lo)))) v144 (dNext h35 u145 .blind) (andB (dFit h35 u145 .blind) (Nat.ble 0 u145.lo))) (oBuild [(Value.int .i64 (.ofNat 0)), (Value.int .i64 (.ofNat 0)), (Value.int .i64 (.ofNat 0)), (Value.int .i64 (.ofNat 0)), (Value.int .u64 (.ofNat 0))] [(0, 4, .c x36)] enE (Hs.mk .e h35.nx h35.nx)))) v146 (dNext h32 u147 .light) (andB (dFit h32 u147 .light) (Nat.ble 0 u147.lo))))))) (oBuild [(Value.int .i64 (.ofNat 0)), (Value.int .i64 (.ofNat 0)), (Value.int .i64 (.ofNat 0)), (Value.int .i64 (.ofNat 0)), (Value.int .u64 (.ofNat 0))] [(0, 4, .c x26)] enE h23))))))) (oMkfunc (.func 78) [] [.c x15] enE h18))) (oAlloc 48 [(Value.slice none 0 0)] enE h14)) (mkslice1 31 1 8 [(Value.int .u64 (.ofNat 0))] h9 (natOf x12) (natOf x12)))))) fun k6 =>
 cnd x5
 (clrK h (Value.tuple #[(Value.slice none 0 0), (Value.int .i64 (.ofNat 1))]) h4)
 (k6 (Value.slice none 0 0) (Value.int .i64 (.ofNat 0)) h4))))) (oBox 28 (.c a0) enE h0)

theorem q35 (R : RnK) (N : Nat) (args : List Value) (h : Hs) : r35 R N args h = callT Tryz.prog N R 35 args h := by kernel_rfl

/-- lintel/pmem.From -/
noncomputable def r36 (R : RnK) (N : Nat) (args : List Value) (h : Hs) : An := unC args fun a0 sq0 => enK h fun h0 =>
 kLenV a0 (fun x0 =>
 kI64 .eql x0 (Value.int .i64 (.ofNat 0)) (fun x1 =>
 gdF x1 h0 (fun k2 => k2 a0 h0) (fun x3 h4 =>
 gdF x1 h4 (fun k5 => kLenV x3 (fun x6 => k5 x6 h4)) (fun x7 h8 =>
 gdF x1 h8 (fun k9 => kI64 .rem x7 (Value.int .i64 (.ofNat 8)) (fun x10 => k9 x10 h8)) (fun x11 h12 =>
 gdF x1 h12 (fun k13 => kI64 .neq x11 (Value.int .i64 (.ofNat 0)) (fun x14 => k13 x14 h12)) (fun x15 h16 =>
 after (fun x17 h18 =>
 gdF x17 h18 (fun k19 => k19 a0 h18) (fun x20 h21 =>
 gdF x17 h21 (fun k22 => kLenV x20 (fun x23 => k22 x23 h21)) (fun x24 h25 =>
 gdF x17 h25 (fun k26 => kI64 .quo x24 (Value.int .i64 (.ofNat 8)) (fun x27 => k26 x27 h25)) (fun x28 h29 =>
 gdF x17 h29 (fun k30 => kI64 .gtr x28 (Value.int .i64 (.ofNat 1024)) (fun x31 => k30 x31 h29)) (fun x32 h33 =>
 after (fun x34 h35 =>
 jn (fun (x37 x38 : Value) (h39 : Hs) =>
 after (fun x40 h41 =>
 after (fun x42 h43 =>
 after (fun x44 h45 =>
 kStore1 x44 x42 h45 (fun x46 h47 =>
 kCall R 87 [a0, (Value.int .i64 (.ofNat 8))] h47 (fun x48 h49 =>
 jn (fun (h51 : Hs) =>
 kLoad x44 h51 (fun x52 =>
 clrK h (Value.tuple #[x52, (Value.int .i64 (.ofNat 0))]) h51)) fun k50 =>
 kRf (callT0 Tryz.prog N) R x48 h49 (fun l53 xs54 h55 => getLp h55 l53 fun _ => unC xs54 fun p58 s59 => nilC s59 (
 busyH l53 h55 fun h57 =>
 jn (fun (h61 : Hs) =>
 endR l53 0 true h61) fun k60 =>
 lwF x44 h57 (fun h62 =>
 kLoad x44 (lowF (cutV x44) h62 h62) (fun x63 =>
 kLoad x44 (lowF (cutV x44) h62 h62) (fun x64 =>
 kNil x64 (fun x65 =>
 kFieldA 0 x65 (fun x66 =>
 kLoad x66 (Hs.mk h62.hp h62.nx h62.nx) (fun x67 =>
 kCall R 88 [p58] (Hs.mk h62.hp h62.nx h62.nx) (fun v85 u86 => dPut (fun x68 h69 =>
 after (fun v83 u84 => dPut (fun x70 h71 =>
 after (fun v81 u82 => dPut (fun x72 h73 =>
 kNil x63 (fun x74 =>
 kFieldA 0 x74 (fun x75 =>
 kStore1 x75 x72 h73 (fun v79 u80 => dPut (fun x76 h77 =>
 lwFE x44 h57 h77 (fun h78 =>
 k60 h78)) v79 (dNext h73 u80 .bar) (andB (dFit h73 u80 .bar) (Nat.ble 0 u80.lo)))))) v81 (dNext h71 u82 .bar) (andB (dFit h71 u82 .bar) (Nat.ble 0 u82.lo))) (app0 100 1 8 h71 x67 x70)) v83 (dNext h69 u84 .light) (andB (dFit h69 u84 .light) (Nat.ble 0 u84.lo))) (oMkrow 100 1 1 [(Value.pointer none)] [(0, 1, .c x68)] enE (dHidS .light [true, true, false, false, false, false, false] [some (h62.nx, h69.nx), none, none, none, none, none, none] h69))) v85 (dNext h62 u86 .light) (andB (dFit h62 u86 .light) (Nat.ble 0 u86.lo))))))))))) (fun h56 =>
 k50 h56) (fun h56 => clrK h (Value.tuple #[x37, x38]) h56) (fun i87 h56 => Bool.rec (motive := fun _ => An) (none) (k50 h56) (Nat.beq i87 0))))) (oAlloc 52 [(Value.pointer none)] enE h43)) (oBox 99 (.c x40) enE h41)) (oBuild [(Value.slice none 0 0), (Value.bool false), (Value.int .i64 (.ofNat 0)), (Value.slice none 0 0), (Value.int .i64 (.ofNat 0)), (Value.int .i64 (.ofNat 0)), (Value.int .i64 (.ofNat 0))] [] enE h39)) fun k36 =>
 cnd x34
 (clrK h (Value.tuple #[(Value.pointer none), (Value.int .i64 (.ofNat 1))]) h35)
 (k36 (Value.pointer none) (Value.int .i64 (.ofNat 0)) h35)) (pickB (.c (Value.bool true)) (.c x32) enE h33 x17)))))) (pickB (.c (Value.bool true)) (.c x15) enE h16 x1)))))))

theorem q36 (R : RnK) (N : Nat) (args : List Value) (h : Hs) : r36 R N args h = callT Tryz.prog N R 36 args h := by kernel_rfl

/-- (*lintel/pmem.Mem).Store -/
noncomputable def r43 (R : RnK) (N : Nat) (args : List Value) (h : Hs) : An := unC args fun a0 sq0 => unC sq0 fun a1 sq1 => unC sq1 fun a2 sq2 => enK h fun h0 =>
 jn (fun (x1 x2 x3 x4 : Value) (h5 : Hs) =>
 kNil a0 (fun x6 =>
 kFieldA 0 x6 (fun x7 =>
 kLoad x7 h5 (fun x8 =>
 kI64 .quo a1 (Value.int .i64 (.ofNat 8)) (fun x9 =>
 kIdxA 1 x8 x9 (fun x10 =>
 kLoad x10 h5 (fun x11 =>
 kI64 .rem a1 (Value.int .i64 (.ofNat 8)) (fun x12 =>
 kCall R 100 [x11, x12, a2] h5 (fun x13 h14 =>
 kNil a0 (fun x15 =>
 kFieldA 4 x15 (fun x16 =>
 kLoad x16 h14 (fun x17 =>
 kI64 .add x17 (Value.int .i64 (.ofNat 1)) (fun x18 =>
 kNil a0 (fun x19 =>
 kFieldA 4 x19 (fun x20 =>
 kStore1 x20 x18 h14 (fun x21 h22 =>
 clrK h (Value.int .i64 (.ofNat 0)) h22)))))))))))))))) fun k0 =>
 kNil a0 (fun x23 =>
 kFieldA 1 x23 (fun x24 =>
 kLoad x24 h0 (fun x25 =>
 jn (fun (x27 x28 x29 : Value) (h30 : Hs) =>
 k0 x25 x27 x28 x29 h30) fun k26 =>
 cnd x25
 (clrK h (Value.int .i64 (.ofNat 14)) h0)
 (kCall R 98 [a0, a1] h0 (fun x31 h32 =>
 kNot x31 (fun x33 =>
 jn (fun (x35 x36 : Value) (h37 : Hs) =>
 k26 x33 x35 x36 h37) fun k34 =>
 cnd x33
 (clrK h (Value.int .i64 (.ofNat 1)) h32)
 (kCall R 99 [a0] h32 (fun x38 h39 =>
 kNot x38 (fun x40 =>
 jn (fun (x42 : Value) (h43 : Hs) =>
 k34 x40 x42 h43) fun k41 =>
 cnd x40
 (clrK h (Value.int .i64 (.ofNat 14)) h39)
 (k41 (Value.int .i64 (.ofNat 0)) h39))))))))))

theorem q43 (R : RnK) (N : Nat) (args : List Value) (h : Hs) : r43 R N args h = callT Tryz.prog N R 43 args h := by kernel_rfl

/-- (*lintel/pmem.Mem).Fence -/
noncomputable def r45 (R : RnK) (N : Nat) (args : List Value) (h : Hs) : An := unC args fun a0 sq0 => enK h fun h0 =>
 kNil a0 (fun x0 =>
 kFieldA 1 x0 (fun x1 =>
 kLoad x1 h0 (fun x2 =>
 gdF x2 h0 (fun k3 => k3 a0 h0) (fun x4 h5 =>
 gdF x2 h5 (fun k6 => kCall R 99 [x4] h5 (k6)) (fun x7 h8 =>
 gdF x2 h8 (fun k9 => kNot x7 (fun x10 => k9 x10 h8)) (fun x11 h12 =>
 after (fun x13 h14 =>
 jn (fun (x16 : Value) (h17 : Hs) =>
 kNil a0 (fun x18 =>
 kFieldA 0 x18 (fun x19 =>
 kLoad x19 h17 (fun x20 =>
 kLenV x20 (fun x21 =>
 jn (fun (x23 x24 x25 : Value) (h26 : Hs) =>
 kNil a0 (fun x27 =>
 kFieldA 6 x27 (fun x28 =>
 kLoad x28 h26 (fun x29 =>
 kI64 .add x29 (Value.int .i64 (.ofNat 1)) (fun x30 =>
 kNil a0 (fun x31 =>
 kFieldA 6 x31 (fun x32 =>
 kStore1 x32 x30 h26 (fun x33 h34 =>
 clrK h (Value.int .i64 (.ofNat 0)) h34)))))))) fun k22 =>
 lpT (T := Value → Value → Value → Hs → An) (fun _ _ _ _ => none) N (fun k35 =>
 fun (x37 x38 x39 : Value) (h40 : Hs) =>
 kI64 .lss x37 x21 (fun x41 =>
 jn (fun (h43 : Hs) =>
 jn (fun (x45 : Value) (h46 : Hs) =>
 kI64 .add x37 (Value.int .i64 (.ofNat 1)) (fun x47 =>
 k35 x47 x41 x45 h46)) fun k44 =>
 kIdxA 1 x20 x37 (fun x48 =>
 kLoad x48 h43 (fun x49 =>
 kCall R 104 [x49] h43 (fun x50 h51 =>
 k44 x49 h51)))) fun k42 =>
 cnd x41
 (k42 h40)
 (k22 x37 x41 x39 h40))) (Value.int .i64 (.ofNat 0)) dunno dunno h17))))) fun k15 =>
 cnd x13
 (clrK h (Value.int .i64 (.ofNat 14)) h14)
 (k15 (Value.int .i64 (.ofNat 0)) h14)) (pickB (.c (Value.bool true)) (.c x11) enE h12 x2)))))))

theorem q45 (R : RnK) (N : Nat) (args : List Value) (h : Hs) : r45 R N args h = callT Tryz.prog N R 45 args h := by kernel_rfl

/-- slices.Clone[[]uint64,uint64] -/
noncomputable def r54 (R : RnK) (N : Nat) (args : List Value) (h : Hs) : An := unC args fun a0 sq0 => enK h fun h0 =>
 obK (fun x0 =>
 jn (fun (x2 : Value) (h3 : Hs) =>
 after (fun x4 h5 =>
 after (fun x6 h7 =>
 clrK h x6 h7) (app0 31 1 8 h5 x4 a0)) (oMkrow 31 1 0 [(Value.int .u64 (.ofNat 0))] [] enE h3)) fun k1 =>
 cnd x0
 (clrK h (Value.slice none 0 0) h0)
 (k1 (Value.slice none 0 0) h0)) (e2 false qS a0 (Value.slice none 0 0))

theorem q54 (R : RnK) (N : Nat) (args : List Value) (h : Hs) : r54 R N args h = callT Tryz.prog N R 54 args h := by kernel_rfl

/-- (*lintel/line.Line).Load -/
noncomputable def r55 (R : RnK) (N : Nat) (args : List Value) (h : Hs) : An := unC args fun a0 sq0 => unC sq0 fun a1 sq1 => enK h fun h0 =>
 kI64 .lss a1 (Value.int .i64 (.ofNat 0)) (fun x0 =>
 gdF x0 h0 (fun k1 => k1 a1 h0) (fun x2 h3 =>
 gdF x0 h3 (fun k4 => kI64 .geq x2 (Value.int .i64 (.ofNat 8)) (fun x5 => k4 x5 h3)) (fun x6 h7 =>
 after (fun x8 h9 =>
 jn (fun (x11 : Value) (h12 : Hs) =>
 kNil a0 (fun x13 =>
 kFieldA 0 x13 (fun x14 =>
 obK (fun x15 =>
 kLoad x15 h12 (fun x16 =>
 kNil a0 (fun x17 =>
 kFieldA 8 x17 (fun x18 =>
 kLoad x18 h12 (fun x19 =>
 kLenV x19 (fun x20 =>
 jn (fun (x22 x23 x24 x25 x26 : Value) (h27 : Hs) =>
 clrK h x26 h27) fun k21 =>
 lpT (T := Value → Value → Value → Value → Value → Hs → An) (fun _ _ _ _ _ _ => none) N (fun k28 =>
 fun (x30 x31 x32 x33 x34 : Value) (h35 : Hs) =>
 kI64 .lss x30 x20 (fun x36 =>
 jn (fun (h38 : Hs) =>
 jn (fun (x40 x41 x42 : Value) (h43 : Hs) =>
 kI64 .add x30 (Value.int .i64 (.ofNat 1)) (fun x44 =>
 k28 x44 x36 x40 x41 x42 h43)) fun k39 =>
 kIdxA 2 x19 x30 (fun x45 =>
 kLoads 2 x45 h38 (fun x46 =>
 after (fun x47 h48 =>
 after (fun x49 h50 =>
 kFieldA 0 x47 (fun x51 =>
 kLoad x51 h50 (fun x52 =>
 kI64 .eql x52 a1 (fun x53 =>
 jn (fun (x55 : Value) (h56 : Hs) =>
 k39 x47 x53 x55 h56) fun k54 =>
 cnd x53
 (kFieldA 1 x47 (fun x57 =>
 kLoad x57 h50 (fun x58 =>
 k54 x58 h50)))
 (k54 x34 h50))))) (store1 2 h48 (cellsL x46) (addrOf x47))) (oAlloc 212 [(Value.int .i64 (.ofNat 0)), (Value.int .u64 (.ofNat 0))] enE h38)))) fun k37 =>
 cnd x36
 (k37 h35)
 (k21 x30 x36 x32 x33 x34 h35))) (Value.int .i64 (.ofNat 0)) dunno dunno dunno x16 h12)))))) (idxArr1 1 8 (natOf a1) x14)))) fun k10 =>
 cnd x8
 (clrK h (Value.int .u64 (.ofNat 0)) h9)
 (k10 (Value.int .u64 (.ofNat 0)) h9)) (pickB (.c (Value.bool true)) (.c x6) enE h7 x0))))

theorem q55 (R : RnK) (N : Nat) (args : List Value) (h : Hs) : r55 R N args h = callT Tryz.prog N R 55 args h := by kernel_rfl

/-- (lintel/image.Image).Node -/
noncomputable def r56 (R : RnK) (N : Nat) (args : List Value) (h : Hs) : An := unC args fun a0 sq0 => unC sq0 fun a1 sq1 => enK h fun h0 =>
 after (fun x0 h1 =>
 after (fun x2 h3 =>
 kFieldA 0 x0 (fun x4 =>
 kLoads 4 x4 h3 (fun x5 =>
 kCall R 81 [x5, a1] h3 (fun x6 h7 =>
 kI64 .eql x6 (Value.int .i64 (.ofNat 0)) (fun x8 =>
 jn (fun (x10 : Value) (h11 : Hs) =>
 kLoads 5 x0 h11 (fun x12 =>
 kCall R 115 [x12, x6] h11 (fun x13 h14 =>
 kCall R 114 [x13] h14 (fun x15 h16 =>
 kExtr x15 0 (fun x17 =>
 kExtr x15 1 (fun x18 =>
 after (fun x19 h20 =>
 after (fun x21 h22 =>
 kNot x18 (fun x23 =>
 gdF x23 h22 (fun k24 => kFieldA 0 x0 (fun x25 => k24 x25 h22)) (fun x26 h27 =>
 gdF x23 h27 (fun k28 => kLoads 4 x26 h27 (fun x29 => k28 x29 h27)) (fun x30 h31 =>
 gdF x23 h31 (fun k32 => kLoads 4 x19 h31 (fun x33 => k32 x33 h31)) (fun x34 h35 =>
 gdF x23 h35 (fun k36 => kCall R 116 [x30, x34] h35 (k36)) (fun x37 h38 =>
 gdF x23 h38 (fun k39 => kNot x37 (fun x40 => k39 x40 h38)) (fun x41 h42 =>
 after (fun x43 h44 =>
 jn (fun (x46 : Value) (h47 : Hs) =>
 kLoads 4 x19 h47 (fun x48 =>
 after (fun x49 h50 =>
 clearUp h (packR h50 (resV enE h50 [.cell (.c x2) 4 true, .t (.c (Value.bool true))]))) (store1 4 h47 (cellsL x48) (addrOf x2)))) fun k45 =>
 cnd x43
 (after (fun x51 h52 =>
 after (fun x53 h54 =>
 clearUp h (packR h54 (resV enE h54 [.cell (.c x2) 4 true, .t (.c (Value.bool false))]))) (store1 4 h52 (cellsL x51) (addrOf x2))) (oBuild [(Value.int .i64 (.ofNat 0)), (Value.int .i64 (.ofNat 0)), (Value.int .i64 (.ofNat 0)), (Value.slice none 0 0)] [] enE h44))
 (k45 x10 h44)) (pickB (.c (Value.bool true)) (.c x41) enE h42 x23)))))))) (store1 4 h20 (cellsL x17) (addrOf x19))) (oAlloc 130 [(Value.int .i64 (.ofNat 0)), (Value.int .i64 (.ofNat 0)), (Value.int .i64 (.ofNat 0)), (Value.slice none 0 0)] enE h16))))))) fun k9 =>
 cnd x8
 (after (fun x55 h56 =>
 after (fun x57 h58 =>
 clearUp h (packR h58 (resV enE h58 [.cell (.c x2) 4 true, .t (.c (Value.bool false))]))) (store1 4 h56 (cellsL x55) (addrOf x2))) (oBuild [(Value.int .i64 (.ofNat 0)), (Value.int .i64 (.ofNat 0)), (Value.int .i64 (.ofNat 0)), (Value.slice none 0 0)] [] enE h7))
 (k9 (Value.bool false) h7)))))) (oAlloc 130 [(Value.int .i64 (.ofNat 0)), (Value.int .i64 (.ofNat 0)), (Value.int .i64 (.ofNat 0)), (Value.slice none 0 0)] enE h1)) (oBox 67 (.c a0) enE h0)

theorem q56 (R : RnK) (N : Nat) (args : List Value) (h : Hs) : r56 R N args h = callT Tryz.prog N R 56 args h := by kernel_rfl

/-- (lintel/image.Image).Slots -/
noncomputable def r58 (R : RnK) (N : Nat) (args : List Value) (h : Hs) : An := unC args fun a0 sq0 => unC sq0 fun a1 sq1 => enK h fun h0 =>
 after (fun x0 h1 =>
 kLoads 5 x0 h1 (fun x2 =>
 kCall R 56 [x2, a1] h1 (fun x3 h4 =>
 kExtr x3 0 (fun x5 =>
 kExtr x3 1 (fun x6 =>
 after (fun x7 h8 =>
 after (fun x9 h10 =>
 kNot x6 (fun x11 =>
 gdF x11 h10 (fun k12 => kFieldA 0 x7 (fun x13 => k12 x13 h10)) (fun x14 h15 =>
 gdF x11 h15 (fun k16 => kLoad x14 h15 (fun x17 => k16 x17 h15)) (fun x18 h19 =>
 gdF x11 h19 (fun k20 => kI64 .neq x18 (Value.int .i64 (.ofNat 2)) (fun x21 => k20 x21 h19)) (fun x22 h23 =>
 after (fun x24 h25 =>
 jn (fun (x27 : Value) (h28 : Hs) =>
 kFieldA 2 x7 (fun x29 =>
 kLoad x29 h28 (fun x30 =>
 jn (fun (x32 x33 x34 x35 x36 x37 : Value) (h38 : Hs) =>
 clrK h x36 h38) fun k31 =>
 lpT (T := Value → Value → Value → Value → Value → Value → Hs → An) (fun _ _ _ _ _ _ _ => none) N (fun k39 =>
 fun (x41 x42 x43 x44 x45 x46 : Value) (h47 : Hs) =>
 kI64 .lss x41 x30 (fun x48 =>
 jn (fun (h50 : Hs) =>
 jn (fun (x52 x53 x54 x55 : Value) (h56 : Hs) =>
 kI64 .add x41 (Value.int .i64 (.ofNat 1)) (fun x57 =>
 k39 x57 x48 x52 x53 x54 x55 h56)) fun k51 =>
 kFieldA 3 x7 (fun x58 =>
 kLoad x58 h50 (fun x59 =>
 kCall R 117 [x59, x41] h50 (fun x60 h61 =>
 kExtr x60 0 (fun x62 =>
 kExtr x60 1 (fun x63 =>
 kLoads 5 x0 h61 (fun x64 =>
 kCall R 115 [x64, x62] h61 (fun x65 h66 =>
 kCall R 118 [x65] h66 (fun x67 h68 =>
 kExtr x67 0 (fun x69 =>
 kExtr x67 1 (fun x70 =>
 after (fun x71 h72 =>
 after (fun x73 h74 =>
 kLoads 2 x71 h74 (fun x75 =>
 after (fun x76 h77 =>
 after (fun x78 h79 =>
 k51 x41 x62 x78 x71 h79) (app0 137 2 24 h77 x45 x76)) (oMkrow 137 2 1 [(Value.int .i64 (.ofNat 0)), (Value.string ⟨#[]⟩)] [(0, 2, .c x75)] enE h74))) (store1 2 h72 (cellsL x69) (addrOf x71))) (oAlloc 137 [(Value.int .i64 (.ofNat 0)), (Value.string ⟨#[]⟩)] enE h68)))))))))))) fun k49 =>
 cnd x48
 (k49 h47)
 (k31 x41 x48 x43 x44 x45 x46 h47))) (Value.int .i64 (.ofNat 0)) dunno dunno dunno (Value.slice none 0 0) dunno h28))) fun k26 =>
 cnd x24
 (clrK h (Value.slice none 0 0) h25)
 (k26 (Value.slice none 0 0) h25)) (pickB (.c (Value.bool true)) (.c x22) enE h23 x11)))))) (store1 4 h8 (cellsL x5) (addrOf x7))) (oAlloc 130 [(Value.int .i64 (.ofNat 0)), (Value.int .i64 (.ofNat 0)), (Value.int .i64 (.ofNat 0)), (Value.slice none 0 0)] enE h4)))))) (oBox 67 (.c a0) enE h0)

theorem q58 (R : RnK) (N : Nat) (args : List Value) (h : Hs) : r58 R N args h = callT Tryz.prog N R 58 args h := by kernel_rfl

/-- (*lintel/check.looker).node -/
noncomputable def r62 (R : RnK) (N : Nat) (args : List Value) (h : Hs) : An := unC args fun a0 sq0 => unC sq0 fun a1 sq1 => enK h fun h0 =>
 kNil a0 (fun x0 =>
 kFieldA 0 x0 (fun x1 =>
 kLoads 5 x1 (Hs.mk h0.hp h0.nx h0.nx) (fun x2 =>
 kNil a0 (fun x3 =>
 kFieldA 0 x3 (fun x4 =>
 kFieldA 0 x4 (fun x5 =>
 kLoads 4 x5 (Hs.mk h0.hp h0.nx h0.nx) (fun x6 =>
 kCall R 81 [x6, a1] (Hs.mk h0.hp h0.nx h0.nx) (fun v236 u237 => dPut (fun x7 h8 =>
 kCall R 115 [x2, x7] h8 (fun v234 u235 => dPut (fun x9 h10 =>
 kCall R 114 [x9] h10 (fun v232 u233 => dPut (fun x11 h12 =>
 kExtr x11 0 (fun x13 =>
 kExtr x11 1 (fun x14 =>
 after (fun v230 u231 => dPut (fun x15 h16 =>
 after (fun v228 u229 => dPut (fun x17 h18 =>
 jn (fun (x20 x21 x22 x23 x24 x25 : Value) (h26 : Hs) =>
 clrK h (Value.tuple #[]) h26) fun k19 =>
 kNot x14 (fun x27 =>
 jn (fun (x29 x30 x31 x32 x33 : Value) (h34 : Hs) =>
 k19 x27 x29 x30 x31 x32 x33 h34) fun k28 =>
 cnd x27
 (kCall R 122 [a0, (Value.int .i64 (.ofNat 2)), (Value.int .i64 (.ofNat 1)), a1, (Value.int .i64 (.ofNat 0))] h18 (fun x35 h36 =>
 k28 dunno dunno dunno dunno dunno h36))
 (kNil a0 (fun x37 =>
 kFieldA 0 x37 (fun x38 =>
 kFieldA 0 x38 (fun x39 =>
 kLoads 4 x39 (Hs.mk h18.hp h18.nx h18.nx) (fun x40 =>
 kLoads 4 x15 (Hs.mk h18.hp h18.nx h18.nx) (fun x41 =>
 kCall R 116 [x40, x41] h18 (fun v226 u227 => dPut (fun x42 h43 =>
 kNot x42 (fun x44 =>
 jn (fun (x46 x47 x48 x49 : Value) (h50 : Hs) =>
 k28 x44 x46 x47 x48 x49 h50) fun k45 =>
 cnd x44
 (kCall R 122 [a0, (Value.int .i64 (.ofNat 2)), (Value.int .i64 (.ofNat 2)), a1, (Value.int .i64 (.ofNat 0))] h43 (fun x51 h52 =>
 k45 dunno dunno dunno dunno h52))
 (kI64 .eql a1 (Value.int .i64 (.ofNat 1)) (fun x53 =>
 gdT x53 h43 (fun k54 => kFieldA 0 x15 (fun x55 => k54 x55 h43)) (fun x56 h57 =>
 gdT x53 h57 (fun k58 => kLoad x56 h57 (fun x59 => k58 x59 h57)) (fun x60 h61 =>
 gdT x53 h61 (fun k62 => kI64 .neq x60 (Value.int .i64 (.ofNat 2)) (fun x63 => k62 x63 h61)) (fun x64 h65 =>
 after (fun x66 h67 =>
 jn (fun (x69 x70 x71 : Value) (h72 : Hs) =>
 k45 x66 x69 x70 x71 h72) fun k68 =>
 cnd x66
 (kCall R 122 [a0, (Value.int .i64 (.ofNat 2)), (Value.int .i64 (.ofNat 3)), a1, (Value.int .i64 (.ofNat 0))] h67 (fun x73 h74 =>
 k68 dunno dunno dunno h74))
 (kI64 .eql a1 (Value.int .i64 (.ofNat 2)) (fun x75 =>
 gdT x75 h67 (fun k76 => kFieldA 0 x15 (fun x77 => k76 x77 h67)) (fun x78 _ =>
 gdT x75 h67 (fun k80 => kLoad x78 h67 (fun x81 => k80 x81 h67)) (fun x82 _ =>
 gdT x75 h67 (fun k84 => kI64 .neq x82 (Value.int .i64 (.ofNat 2)) (fun x85 => k84 x85 h67)) (fun x86 _ =>
 gdT x75 h67 (fun k88 => k88 x86 h67) (fun x89 _ =>
 gdF x89 h67 (fun k91 => k91 a0 h67) (fun x92 _ =>
 gdF x89 h67 (fun k94 => kLoads 4 x15 h67 (fun x95 => k94 x95 h67)) (fun x96 _ =>
 gdF x89 h67 (fun k98 => kCall R 123 [x92, x96] h67 (fun v99 u100 => dPut k98 v99 (dNext h67 u100 .bar) (andB (dFit h67 u100 .bar) (Nat.ble 0 u100.lo)))) (fun x101 h102 =>
 gdF x89 h102 (fun k103 => kNot x101 (fun x104 => k103 x104 h102)) (fun x105 _ =>
 gdT x75 h102 (fun k107 => after (fun v108 u109 => dPut k107 v108 (dNext h102 u109 .blind) (andB (dFit h102 u109 .blind) (Nat.ble 0 u109.lo))) (pickB (.c (Value.bool true)) (.c x105) enE (Hs.mk .e h102.nx h102.nx) x89)) (fun x110 h111 =>
 gdT x75 h111 (fun k112 => k112 x110 h111) (fun x113 _ =>
 gdF x113 h111 (fun k115 => kFieldA 2 x15 (fun x116 => k115 x116 h111)) (fun x117 _ =>
 gdF x113 h111 (fun k119 => kLoad x117 (dHidS .light [true, true, true, true, true, true, true, true, true, true, true, true, true, true] [none, none, some (h102.nx, h111.nx), none, some (h67.nx, h102.nx), none, none, none, none, none, none, none, none, none] h111) (fun x120 => k119 x120 h111)) (fun x121 _ =>
 gdF x113 h111 (fun k123 => k123 a0 h111) (fun x124 _ =>
 gdF x113 h111 (fun k126 => kNil x124 (fun x127 => k126 x127 h111)) (fun x128 _ =>
 gdF x113 h111 (fun k130 => kFieldA 0 x128 (fun x131 => k130 x131 h111)) (fun x132 _ =>
 gdF x113 h111 (fun k134 => kFieldA 0 x132 (fun x135 => k134 x135 h111)) (fun x136 _ =>
 gdF x113 h111 (fun k138 => kFieldA 1 x136 (fun x139 => k138 x139 h111)) (fun x140 _ =>
 gdF x113 h111 (fun k142 => kLoad x140 (dHidS .light [true, true, true, true, true, false, false, true, true, true, true, true, true, true, true, true, true, true, true, true] [none, none, none, none, none, none, none, none, some (h102.nx, h111.nx), none, some (h67.nx, h102.nx), none, none, none, none, none, none, none, none, none] h111) (fun x143 => k142 x143 h111)) (fun x144 _ =>
 gdF x113 h111 (fun k146 => kI64 .neq x121 x144 (fun x147 => k146 x147 h111)) (fun x148 _ =>
 gdT x75 h111 (fun k150 => after (fun v151 u152 => dPut k150 v151 (dNext h111 u152 .blind) (andB (dFit h111 u152 .blind) (Nat.ble 0 u152.lo))) (pickB (.c (Value.bool true)) (.c x148) enE (Hs.mk .e h111.nx h111.nx) x113)) (fun x153 h154 =>
 after (fun v224 u225 => dPut (fun x155 h156 =>
 jn (fun (x158 x159 : Value) (h160 : Hs) =>
 k68 x155 x158 x159 h160) fun k157 =>
 cnd x155
 (kCall R 122 [a0, (Value.int .i64 (.ofNat 2)), (Value.int .i64 (.ofNat 4)), a1, (Value.int .i64 (.ofNat 0))] h156 (fun x161 h162 =>
 k157 dunno dunno h162))
 (kI64 .neq a1 (Value.int .i64 (.ofNat 2)) (fun x163 =>
 gdT x163 h156 (fun k164 => k164 a0 h156) (fun x165 h166 =>
 gdT x163 h166 (fun k167 => kLoads 4 x15 h166 (fun x168 => k167 x168 h166)) (fun x169 h170 =>
 gdT x163 h170 (fun k171 => kCall R 123 [x165, x169] h170 (k171)) (fun x172 h173 =>
 after (fun x174 h175 =>
 jn (fun (x177 : Value) (h178 : Hs) =>
 k157 x174 x177 h178) fun k176 =>
 cnd x174
 (kCall R 122 [a0, (Value.int .i64 (.ofNat 2)), (Value.int .i64 (.ofNat 5)), a1, (Value.int .i64 (.ofNat 0))] h175 (fun x179 h180 =>
 k176 dunno h180))
 (kFieldA 0 x15 (fun x181 =>
 kLoad x181 h175 (fun x182 =>
 kI64 .eql x182 (Value.int .i64 (.ofNat 2)) (fun x183 =>
 gdT x183 h175 (fun k184 => kFieldA 1 x15 (fun x185 => k184 x185 h175)) (fun x186 h187 =>
 gdT x183 h187 (fun k188 => kLoad x186 h187 (fun x189 => k188 x189 h187)) (fun x190 h191 =>
 gdT x183 h191 (fun k192 => kI64 .neq x190 (Value.int .i64 (.ofNat 1)) (fun x193 => k192 x193 h191)) (fun x194 h195 =>
 after (fun x196 h197 =>
 jn (fun (h199 : Hs) =>
 k176 x196 h199) fun k198 =>
 cnd x196
 (kCall R 122 [a0, (Value.int .i64 (.ofNat 2)), (Value.int .i64 (.ofNat 6)), a1, (Value.int .i64 (.ofNat 0))] h197 (fun x200 h201 =>
 k198 h201))
 (lwF x15 h197 (fun h202 =>
 kNil a0 (fun x203 =>
 kFieldA 5 x203 (fun x204 =>
 kLoad x204 (Hs.mk h202.hp h202.nx h202.nx) (fun x205 =>
 kNil a0 (fun x206 =>
 kFieldA 6 x206 (fun x207 =>
 kLoad x207 (Hs.mk h202.hp h202.nx h202.nx) (fun x208 =>
 kLoads 4 x15 (Hs.mk h202.hp h202.nx h202.nx) (fun x209 =>
 kFieldA 0 x15 (fun x210 =>
 kLoad x210 (lowF (cutV x15) h202 h202) (fun x211 =>
 kI64 .neq x211 (Value.int .i64 (.ofNat 0)) (fun x212 =>
 kIdxA 4 x205 a1 (fun x213 =>
 after (fun v222 u223 => dPut (fun x214 h215 =>
 kIdxA 1 x208 a1 (fun x216 =>
 kStore1 x216 x212 h215 (fun v220 u221 => dPut (fun x217 h218 =>
 lwFE x15 h197 h218 (fun h219 =>
 k198 h219)) v220 (dNext h215 u221 .bar) (andB (dFit h215 u221 .bar) (Nat.ble 0 u221.lo))))) v222 (dNext h202 u223 .bar) (andB (dFit h202 u223 .bar) (Nat.ble 0 u223.lo))) (store1 4 h202 (cellsL x209) (addrOf x213)))))))))))))))) (pickB (.c x194) (.c (Value.bool false)) enE h195 x183))))))))) (pickB (.c x172) (.c (Value.bool false)) enE h173 x163))))))) v224 (dNext h154 u225 .blind) (andB (dFit h154 u225 .blind) (Nat.ble 0 u225.lo))) (pickB (.c x153) (.c (Value.bool false)) enE (Hs.mk .e h154.nx h154.nx) x75)))))))))))))))))))))))) (pickB (.c x64) (.c (Value.bool false)) enE h65 x53)))))))) v226 (dNext h18 u227 .bar) (andB (dFit h18 u227 .bar) (Nat.ble 0 u227.lo))))))))))) v228 (dNext h16 u229 .bar) (andB (dFit h16 u229 .bar) (Nat.ble 0 u229.lo))) (store1 4 h16 (cellsL x13) (addrOf x15))) v230 (dNext h12 u231 .make) (andB (dFit h12 u231 .make) (Nat.ble 0 u231.lo))) (oAlloc 130 [(Value.int .i64 (.ofNat 0)), (Value.int .i64 (.ofNat 0)), (Value.int .i64 (.ofNat 0)), (Value.slice none 0 0)] enE (Hs.mk .e h12.nx h12.nx))))) v232 (dNext h10 u233 .bar) (andB (dFit h10 u233 .bar) (Nat.ble 0 u233.lo)))) v234 (dNext h8 u235 .bar) (andB (dFit h8 u235 .bar) (Nat.ble 0 u235.lo)))) v236 (dNext h0 u237 .light) (andB (dFit h0 u237 .light) (Nat.ble 0 u237.lo))))))))))

theorem q62 (R : RnK) (N : Nat) (args : List Value) (h : Hs) : r62 R N args h = callT Tryz.prog N R 62 args h := by kernel_rfl

/-- (*lintel/check.looker).slots -/
noncomputable def r64 (R : RnK) (N : Nat) (args : List Value) (h : Hs) : An := unC args fun a0 sq0 => enK h fun h0 =>
 after (fun x0 h1 =>
 kNil a0 (fun x2 =>
 kFieldA 6 x2 (fun x3 =>
 kLoad x3 h1 (fun x4 =>
 kLenV x4 (fun x5 =>
 jn (fun (x7 x8 x9 x10 x11 x12 x13 x14 x15 x16 x17 x18 x19 x20 x21 x22 x23 x24 x25 : Value) (h26 : Hs) =>
 clrK h (Value.tuple #[]) h26) fun k6 =>
 lpT (T := Value → Value → Value → Value → Value → Value → Value → Value → Value → Value → Value → Value → Value → Value → Value → Value → Value → Value → Value → Hs → An) (fun _ _ _ _ _ _ _ _ _ _ _ _ _ _ _ _ _ _ _ _ => none) N (fun k27 =>
 fun (x29 x30 x31 x32 x33 x34 x35 x36 x37 x38 x39 x40 x41 x42 x43 x44 x45 x46 x47 : Value) (h48 : Hs) =>
 kI64 .lss x29 x5 (fun x49 =>
 jn (fun (h51 : Hs) =>
 jn (fun (x53 x54 x55 x56 x57 x58 x59 x60 x61 x62 x63 x64 x65 x66 x67 x68 x69 : Value) (h70 : Hs) =>
 kI64 .add x29 (Value.int .i64 (.ofNat 1)) (fun x71 =>
 k27 x71 x49 x53 x54 x55 x56 x57 x58 x59 x60 x61 x62 x63 x64 x65 x66 x67 x68 x69 h70)) fun k52 =>
 kNil a0 (fun x72 =>
 kFieldA 6 x72 (fun x73 =>
 kLoad x73 h51 (fun x74 =>
 kIdxA 1 x74 x29 (fun x75 =>
 kLoad x75 h51 (fun x76 =>
 kNot x76 (fun x77 =>
 gdF x77 h51 (fun k78 => k78 a0 h51) (fun x79 h80 =>
 gdF x77 h80 (fun k81 => kNil x79 (fun x82 => k81 x82 h80)) (fun x83 h84 =>
 gdF x77 h84 (fun k85 => kFieldA 5 x83 (fun x86 => k85 x86 h84)) (fun x87 h88 =>
 gdF x77 h88 (fun k89 => kLoad x87 h88 (fun x90 => k89 x90 h88)) (fun x91 h92 =>
 gdF x77 h92 (fun k93 => k93 x29 h92) (fun x94 h95 =>
 gdF x77 h95 (fun k96 => kIdxA 4 x91 x94 (fun x97 => k96 x97 h95)) (fun x98 h99 =>
 gdF x77 h99 (fun k100 => kFieldA 0 x98 (fun x101 => k100 x101 h99)) (fun x102 h103 =>
 gdF x77 h103 (fun k104 => kLoad x102 h103 (fun x105 => k104 x105 h103)) (fun x106 h107 =>
 gdF x77 h107 (fun k108 => kI64 .neq x106 (Value.int .i64 (.ofNat 2)) (fun x109 => k108 x109 h107)) (fun x110 h111 =>
 after (fun x112 h113 =>
 jn (fun (h115 : Hs) =>
 after (fun x116 h117 =>
 kCall R 124 [a0, x29] h117 (fun x118 h119 =>
 kLenV x118 (fun x120 =>
 jn (fun (x122 x123 x124 x125 x126 x127 x128 x129 x130 x131 x132 x133 : Value) (h134 : Hs) =>
 k52 x29 x112 x122 x120 x123 x118 x124 x125 x126 x127 x128 x129 x116 x130 x131 x132 x133 h134) fun k121 =>
 lpT (T := Value → Value → Value → Value → Value → Value → Value → Value → Value → Value → Value → Value → Hs → An) (fun _ _ _ _ _ _ _ _ _ _ _ _ _ => none) N (fun k135 =>
 fun (x137 x138 x139 x140 x141 x142 x143 x144 x145 x146 x147 x148 : Value) (h149 : Hs) =>
 kI64 .lss x137 x120 (fun x150 =>
 jn (fun (h152 : Hs) =>
 jn (fun (x154 x155 x156 x157 x158 x159 x160 x161 x162 x163 : Value) (h164 : Hs) =>
 kI64 .add x137 (Value.int .i64 (.ofNat 1)) (fun x165 =>
 k135 x165 x150 x154 x155 x156 x157 x158 x159 x160 x161 x162 x163 h164)) fun k153 =>
 kIdxA 1 x118 x137 (fun x166 =>
 kLoad x166 h152 (fun x167 =>
 kNil a0 (fun x168 =>
 kFieldA 0 x168 (fun x169 =>
 kLoads 5 x169 h152 (fun x170 =>
 kCall R 115 [x170, x167] h152 (fun x171 h172 =>
 kCall R 118 [x171] h172 (fun x173 h174 =>
 kExtr x173 0 (fun x175 =>
 kExtr x173 1 (fun x176 =>
 after (fun x177 h178 =>
 after (fun x179 h180 =>
 kNot x176 (fun x181 =>
 jn (fun (h183 : Hs) =>
 kFieldA 0 x177 (fun x184 =>
 kLoad x184 h183 (fun x185 =>
 kI64 .eql x185 (Value.int .i64 (.ofNat 0)) (fun x186 =>
 jn (fun (h188 : Hs) =>
 kLoads 2 x177 h188 (fun x189 =>
 after (fun x190 h191 =>
 kFieldA 1 x177 (fun x192 =>
 kLoad x192 h191 (fun x193 =>
 after (fun x194 h195 =>
 kCall R 125 [a0, x190, x194] h195 (fun x196 h197 =>
 kFieldA 1 x177 (fun x198 =>
 kLoad x198 h197 (fun x199 =>
 after (fun x200 h201 =>
 kI64 .eql x196 (Value.int .i64 (.ofNat 0)) (fun x202 =>
 gdT x202 h201 (fun k203 => k203 a0 h201) (fun x204 _ =>
 gdT x202 h201 (fun k206 => kNil x204 (fun x207 => k206 x207 h201)) (fun x208 _ =>
 gdT x202 h201 (fun k210 => kFieldA 5 x208 (fun x211 => k210 x211 h201)) (fun x212 _ =>
 gdT x202 h201 (fun k214 => kLoad x212 (Hs.mk h201.hp h201.nx h201.nx) (fun x215 => k214 x215 h201)) (fun x216 _ =>
 gdT x202 h201 (fun k218 => kFieldA 0 x177 (fun x219 => k218 x219 h201)) (fun x220 _ =>
 gdT x202 h201 (fun k222 => kLoad x220 (Hs.mk h201.hp h201.nx h201.nx) (fun x223 => k222 x223 h201)) (fun x224 _ =>
 gdT x202 h201 (fun k226 => kIdxA 4 x216 x224 (fun x227 => k226 x227 h201)) (fun x228 _ =>
 gdT x202 h201 (fun k230 => kFieldA 0 x228 (fun x231 => k230 x231 h201)) (fun x232 _ =>
 gdT x202 h201 (fun k234 => kLoad x232 h201 (fun x235 => k234 x235 h201)) (fun x236 _ =>
 gdT x202 h201 (fun k238 => kI64 .eql x236 (Value.int .i64 (.ofNat 2)) (fun x239 => k238 x239 h201)) (fun x240 _ =>
 after (fun v286 u287 => dPut (fun x242 h243 =>
 jn (fun (x245 x246 : Value) (h247 : Hs) =>
 kI64 .neq x245 (Value.int .i64 (.ofNat 0)) (fun x248 =>
 jn (fun (h250 : Hs) =>
 k153 x167 x176 x181 x137 x177 x186 x245 x242 x246 x248 h250) fun k249 =>
 cnd x248
 (kCall R 122 [a0, (Value.int .i64 (.ofNat 4)), x245, x29, x137] h247 (fun x251 h252 =>
 k249 h252))
 (kNil a0 (fun x253 =>
 kFieldA 7 x253 (fun x254 =>
 kLoad x254 (Hs.mk h247.hp h247.nx h247.nx) (fun x255 =>
 kLoads 2 x177 (Hs.mk h247.hp h247.nx h247.nx) (fun x256 =>
 after (fun v273 u274 => dPut (fun x257 h258 =>
 after (fun v271 u272 => dPut (fun x259 h260 =>
 after (fun v269 u270 => dPut (fun x261 h262 =>
 kNil a0 (fun x263 =>
 kFieldA 7 x263 (fun x264 =>
 kStore1 x264 x261 h262 (fun v267 u268 => dPut (fun x265 h266 =>
 k249 h266) v267 (dNext h262 u268 .bar) (andB (dFit h262 u268 .bar) (Nat.ble 0 u268.lo)))))) v269 (dNext h260 u270 .bar) (andB (dFit h260 u270 .bar) (Nat.ble 0 u270.lo))) (app0 230 4 40 h260 x255 x259)) v271 (dNext h258 u272 .light) (andB (dFit h258 u272 .light) (Nat.ble 0 u272.lo))) (oMkrow 230 4 1 [(Value.int .i64 (.ofNat 0)), (Value.int .i64 (.ofNat 0)), (Value.int .i64 (.ofNat 0)), (Value.string ⟨#[]⟩)] [(0, 4, .c x257)] enE (dHidS .light [true, true, true, true, false, false, false, false, false] [some (h247.nx, h258.nx), none, none, none, none, none, none, none, none] h258))) v273 (dNext h247 u274 .blind) (andB (dFit h247 u274 .blind) (Nat.ble 0 u274.lo))) (oBuild [(Value.int .i64 (.ofNat 0)), (Value.int .i64 (.ofNat 0)), (Value.int .i64 (.ofNat 0)), (Value.string ⟨#[]⟩)] [(0, 1, .c x29), (1, 1, .c x137), (2, 2, .c x256)] enE (Hs.mk .e h247.nx h247.nx))))))))) fun k244 =>
 cnd x242
 (kFieldA 0 x177 (fun x275 =>
 kLoad x275 h243 (fun x276 =>
 after (fun x277 h278 =>
 jn (fun (x280 : Value) (h281 : Hs) =>
 kFieldA 0 x177 (fun x282 =>
 kLoad x282 h281 (fun x283 =>
 after (fun x284 h285 =>
 k244 x280 x277 h285) (mapup1 true h281 x283 (Value.bool true) x0)))) fun k279 =>
 cnd x277
 (k279 (Value.int .i64 (.ofNat 6)) h278)
 (k279 x196 h278)) (ret1 h243 (lk1 true h243 (Value.bool false) false x276 x0)))))
 (k244 x196 x147 h243)) v286 (dNext h201 u287 .blind) (andB (dFit h201 u287 .blind) (Nat.ble 0 u287.lo))) (pickB (.c x240) (.c (Value.bool false)) enE (Hs.mk .e h201.nx h201.nx) x202))))))))))))) (mapup1 false h197 x199 (Value.bool true) x116))))) (ret1 h191 (lk1 false h191 (Value.bool false) false x193 x116))))) (oBuild [(Value.int .i64 (.ofNat 0)), (Value.int .i64 (.ofNat 0)), (Value.int .i64 (.ofNat 0)), (Value.string ⟨#[]⟩)] [(0, 1, .c x29), (1, 1, .c x137), (2, 2, .c x189)] enE h188))) fun k187 =>
 cnd x186
 (k153 x167 x176 x181 x137 x177 x186 x145 x146 x147 x148 h183)
 (k187 h183))))) fun k182 =>
 cnd x181
 (kCall R 122 [a0, (Value.int .i64 (.ofNat 4)), (Value.int .i64 (.ofNat 1)), x29, x137] h180 (fun x288 h289 =>
 k153 x167 x176 x181 x137 x177 x144 x145 x146 x147 x148 h289))
 (k182 h180))) (store1 2 h178 (cellsL x175) (addrOf x177))) (oAlloc 137 [(Value.int .i64 (.ofNat 0)), (Value.string ⟨#[]⟩)] enE h174))))))))))) fun k151 =>
 cnd x150
 (k151 h149)
 (k121 x137 x150 x139 x140 x141 x142 x143 x144 x145 x146 x147 x148 h149))) (Value.int .i64 (.ofNat 0)) x35 x37 x38 x39 x40 x41 x42 x44 x45 x46 x47 h119))) (mkmap1 h115 (Value.int .i64 0))) fun k114 =>
 cnd x112
 (k52 x29 x112 x33 x34 x35 x36 x37 x38 x39 x40 x41 x42 x43 x44 x45 x46 x47 h113)
 (k114 h113)) (pickB (.c (Value.bool true)) (.c x110) enE h111 x77))))))))))))))))) fun k50 =>
 cnd x49
 (k50 h48)
 (k6 x29 x49 x31 x32 x33 x34 x35 x36 x37 x38 x39 x40 x41 x42 x43 x44 x45 x46 x47 h48))) (Value.int .i64 (.ofNat 0)) dunno dunno dunno dunno dunno dunno dunno dunno dunno dunno dunno dunno dunno dunno dunno dunno dunno dunno h1))))) (mkmap1 h0 (Value.int .i64 0))

theorem q64 (R : RnK) (N : Nat) (args : List Value) (h : Hs) : r64 R N args h = callT Tryz.prog N R 64 args h := by kernel_rfl

/-- (*lintel/check.looker).links -/
noncomputable def r66 (R : RnK) (N : Nat) (args : List Value) (h : Hs) : An := unC args fun a0 sq0 => enK h fun h0 =>
 after (fun x0 h1 =>
 kNil a0 (fun x2 =>
 kFieldA 7 x2 (fun x3 =>
 kLoad x3 h1 (fun x4 =>
 kLenV x4 (fun x5 =>
 jn (fun (x7 x8 x9 : Value) (h10 : Hs) =>
 kNil a0 (fun x11 =>
 kFieldA 6 x11 (fun x12 =>
 kLoad x12 h10 (fun x13 =>
 kLenV x13 (fun x14 =>
 jn (fun (x16 x17 x18 x19 x20 : Value) (h21 : Hs) =>
 clrK h (Value.tuple #[]) h21) fun k15 =>
 lpT (T := Value → Value → Value → Value → Value → Hs → An) (fun _ _ _ _ _ _ => none) N (fun k22 =>
 fun (x24 x25 x26 x27 x28 : Value) (h29 : Hs) =>
 kI64 .lss x24 x14 (fun x30 =>
 jn (fun (h32 : Hs) =>
 jn (fun (x34 x35 x36 : Value) (h37 : Hs) =>
 kI64 .add x24 (Value.int .i64 (.ofNat 1)) (fun x38 =>
 k22 x38 x30 x34 x35 x36 h37)) fun k33 =>
 kIdxA 1 x13 x24 (fun x39 =>
 kLoad x39 h32 (fun x40 =>
 gdT x40 h32 (fun k41 => k41 a0 h32) (fun x42 _ =>
 gdT x40 h32 (fun k44 => kNil x42 (fun x45 => k44 x45 h32)) (fun x46 _ =>
 gdT x40 h32 (fun k48 => kFieldA 5 x46 (fun x49 => k48 x49 h32)) (fun x50 _ =>
 gdT x40 h32 (fun k52 => kLoad x50 h32 (fun x53 => k52 x53 h32)) (fun x54 _ =>
 gdT x40 h32 (fun k56 => k56 x24 h32) (fun x57 _ =>
 gdT x40 h32 (fun k59 => kIdxA 4 x54 x57 (fun x60 => k59 x60 h32)) (fun x61 _ =>
 gdT x40 h32 (fun k63 => kFieldA 0 x61 (fun x64 => k63 x64 h32)) (fun x65 _ =>
 gdT x40 h32 (fun k67 => kLoad x65 h32 (fun x68 => k67 x68 h32)) (fun x69 _ =>
 gdT x40 h32 (fun k71 => kI64 .neq x69 (Value.int .i64 (.ofNat 2)) (fun x72 => k71 x72 h32)) (fun x73 _ =>
 after (fun v132 u133 => dPut (fun x75 h76 =>
 gdT x75 h76 (fun k77 => k77 x0 h76) (fun x78 _ =>
 gdT x75 h76 (fun k80 => k80 x24 h76) (fun x81 _ =>
 gdT x75 h76 (fun k83 => after (fun v84 u85 => dPut k83 v84 (dNext h76 u85 .light) (andB (dFit h76 u85 .light) (Nat.ble 0 u85.lo))) (ret1 (dHidS .light [true, true, true, true, true, true, true, true, true, true, true, true, true, true, true] [none, none, none, some (h32.nx, h76.nx), none, none, none, none, none, none, none, none, none, none, none] h76) (lk1 true (dHidS .light [true, true, true, true, true, true, true, true, true, true, true, true, true, true, true] [none, none, none, some (h32.nx, h76.nx), none, none, none, none, none, none, none, none, none, none, none] h76) (Value.int .i64 (.ofNat 0)) false x81 x78))) (fun x86 h87 =>
 gdT x75 h87 (fun k88 => k88 a0 h87) (fun x89 _ =>
 gdT x75 h87 (fun k91 => kNil x89 (fun x92 => k91 x92 h87)) (fun x93 _ =>
 gdT x75 h87 (fun k95 => kFieldA 5 x93 (fun x96 => k95 x96 h87)) (fun x97 _ =>
 gdT x75 h87 (fun k99 => kLoad x97 (dHidS .light [true, true, true, false, false, false, true, true, true, true, true, true, true, true, true, true, true, true, true] [none, none, none, some (h76.nx, h87.nx), none, none, none, some (h32.nx, h76.nx), none, none, none, none, none, none, none, none, none, none, none] h87) (fun x100 => k99 x100 h87)) (fun x101 _ =>
 gdT x75 h87 (fun k103 => k103 x24 h87) (fun x104 _ =>
 gdT x75 h87 (fun k106 => kIdxA 4 x101 x104 (fun x107 => k106 x107 h87)) (fun x108 _ =>
 gdT x75 h87 (fun k110 => kFieldA 1 x108 (fun x111 => k110 x111 h87)) (fun x112 _ =>
 gdT x75 h87 (fun k114 => kLoad x112 (dHidS .light [true, true, true, true, true, true, true, false, false, false, true, true, true, true, true, true, true, true, true, true, true, true, true] [none, none, none, none, none, none, none, some (h76.nx, h87.nx), none, none, none, some (h32.nx, h76.nx), none, none, none, none, none, none, none, none, none, none, none] h87) (fun x115 => k114 x115 h87)) (fun x116 _ =>
 gdT x75 h87 (fun k118 => kI64 .neq x86 x116 (fun x119 => k118 x119 h87)) (fun x120 _ =>
 after (fun v130 u131 => dPut (fun x122 h123 =>
 jn (fun (h125 : Hs) =>
 k33 x40 x24 x122 h125) fun k124 =>
 cnd x122
 (after (fun x126 h127 =>
 kCall R 122 [a0, (Value.int .i64 (.ofNat 6)), (Value.int .i64 (.ofNat 1)), x24, x126] h127 (fun x128 h129 =>
 k124 h129)) (ret1 h123 (lk1 true h123 (Value.int .i64 (.ofNat 0)) false x24 x0)))
 (k124 h123)) v130 (dNext h87 u131 .blind) (andB (dFit h87 u131 .blind) (Nat.ble 0 u131.lo))) (pickB (.c x120) (.c (Value.bool false)) enE (Hs.mk .e h87.nx h87.nx) x75)))))))))))))) v132 (dNext h32 u133 .blind) (andB (dFit h32 u133 .blind) (Nat.ble 0 u133.lo))) (pickB (.c x73) (.c (Value.bool false)) enE (Hs.mk .e h32.nx h32.nx) x40))))))))))))) fun k31 =>
 cnd x30
 (k31 h29)
 (k15 x24 x30 x26 x27 x28 h29))) (Value.int .i64 (.ofNat 0)) dunno dunno dunno dunno h10))))) fun k6 =>
 lpT (T := Value → Value → Value → Hs → An) (fun _ _ _ _ => none) N (fun k134 =>
 fun (x136 x137 x138 : Value) (h139 : Hs) =>
 kI64 .lss x136 x5 (fun x140 =>
 jn (fun (h142 : Hs) =>
 jn (fun (x144 : Value) (h145 : Hs) =>
 kI64 .add x136 (Value.int .i64 (.ofNat 1)) (fun x146 =>
 k134 x146 x140 x144 h145)) fun k143 =>
 kIdxA 4 x4 x136 (fun x147 =>
 kLoads 4 x147 h142 (fun x148 =>
 after (fun x149 h150 =>
 after (fun x151 h152 =>
 kFieldA 2 x149 (fun x153 =>
 kFieldA 0 x153 (fun x154 =>
 kLoad x154 h152 (fun x155 =>
 after (fun x156 h157 =>
 kI64 .add x156 (Value.int .i64 (.ofNat 1)) (fun x158 =>
 after (fun x159 h160 =>
 k143 x149 h160) (mapup1 true h157 x155 x158 x0))) (ret1 h152 (lk1 true h152 (Value.int .i64 (.ofNat 0)) false x155 x0)))))) (store1 4 h150 (cellsL x148) (addrOf x149))) (oAlloc 230 [(Value.int .i64 (.ofNat 0)), (Value.int .i64 (.ofNat 0)), (Value.int .i64 (.ofNat 0)), (Value.string ⟨#[]⟩)] enE h142)))) fun k141 =>
 cnd x140
 (k141 h139)
 (k6 x136 x140 x138 h139))) (Value.int .i64 (.ofNat 0)) dunno dunno h1))))) (mkmap1 h0 (Value.int .i64 0))

theorem q66 (R : RnK) (N : Nat) (args : List Value) (h : Hs) : r66 R N args h = callT Tryz.prog N R 66 args h := by kernel_rfl

/-- (*lintel/check.looker).taken -/
noncomputable def r67 (R : RnK) (N : Nat) (args : List Value) (h : Hs) : An := unC args fun a0 sq0 => enK h fun h0 =>
 kNil a0 (fun x0 =>
 kFieldA 0 x0 (fun x1 =>
 kFieldA 0 x1 (fun x2 =>
 kLoads 4 x2 h0 (fun x3 =>
 kCall R 83 [x3] h0 (fun x4 h5 =>
 kExtr x4 0 (fun x6 =>
 kExtr x4 1 (fun x7 =>
 after (fun x8 h9 =>
 kNil a0 (fun x10 =>
 kFieldA 6 x10 (fun x11 =>
 kLoad x11 h9 (fun x12 =>
 kLenV x12 (fun x13 =>
 jn (fun (x15 x16 x17 x18 x19 x20 x21 x22 : Value) (h23 : Hs) =>
 kNil a0 (fun x24 =>
 kFieldA 0 x24 (fun x25 =>
 kLoads 5 x25 h23 (fun x26 =>
 kCall R 126 [x26] h23 (fun x27 h28 =>
 after (fun x29 h30 =>
 kStore1 x29 x27 h30 (fun x31 h32 =>
 kFieldA 0 x29 (fun x33 =>
 kLoad x33 h32 (fun x34 =>
 kLenV x34 (fun x35 =>
 kI64 .mul (Value.int .i64 (.ofNat 64)) x35 (fun x36 =>
 jn (fun (x38 x39 x40 x41 x42 x43 x44 x45 : Value) (h46 : Hs) =>
 clrK h (Value.tuple #[]) h46) fun k37 =>
 lpT (T := Value → Value → Value → Value → Value → Value → Value → Value → Hs → An) (fun _ _ _ _ _ _ _ _ _ => none) N (fun k47 =>
 fun (x49 x50 x51 x52 x53 x54 x55 x56 : Value) (h57 : Hs) =>
 kI64 .lss x49 x36 (fun x58 =>
 jn (fun (h60 : Hs) =>
 jn (fun (x62 x63 x64 x65 x66 x67 : Value) (h68 : Hs) =>
 kI64 .add x49 (Value.int .i64 (.ofNat 1)) (fun x69 =>
 k47 x69 x58 x62 x63 x64 x65 x66 x67 h68)) fun k61 =>
 kI64 .lss x49 x6 (fun x70 =>
 gdF x70 h60 (fun k71 => k71 x49 h60) (fun x72 h73 =>
 gdF x70 h73 (fun k74 => k74 x6 h73) (fun x75 h76 =>
 gdF x70 h76 (fun k77 => k77 x7 h76) (fun x78 h79 =>
 gdF x70 h79 (fun k80 => kI64 .add x75 x78 (fun x81 => k80 x81 h79)) (fun x82 h83 =>
 gdF x70 h83 (fun k84 => kI64 .geq x72 x82 (fun x85 => k84 x85 h83)) (fun x86 h87 =>
 after (fun x88 h89 =>
 gdF x88 h89 (fun k90 => k90 x8 h89) (fun x91 h92 =>
 gdF x88 h92 (fun k93 => k93 x49 h92) (fun x94 h95 =>
 gdF x88 h95 (fun k96 => after (k96) (ret1 h95 (lk1 true h95 (Value.bool false) false x94 x91))) (fun x97 h98 =>
 after (fun x99 h100 =>
 jn (fun (x102 x103 x104 x105 : Value) (h106 : Hs) =>
 k61 x49 x102 x103 x99 x104 x105 h106) fun k101 =>
 kNil a0 (fun x107 =>
 kFieldA 0 x107 (fun x108 =>
 kFieldA 0 x108 (fun x109 =>
 kFieldA 0 x109 (fun x110 =>
 kLoad x110 h100 (fun x111 =>
 kI64 .geq x49 x111 (fun x112 =>
 jn (fun (x114 x115 x116 : Value) (h117 : Hs) =>
 k101 x112 x114 x115 x116 h117) fun k113 =>
 cnd x112
 (kLoads 1 x29 h100 (fun x118 =>
 kCall R 127 [x118, x49] h100 (fun x119 h120 =>
 jn (fun (h122 : Hs) =>
 k113 x119 x55 x56 h122) fun k121 =>
 cnd x119
 (kCall R 122 [a0, (Value.int .i64 (.ofNat 7)), (Value.int .i64 (.ofNat 2)), x49, (Value.int .i64 (.ofNat 0))] h120 (fun x123 h124 =>
 k121 h124))
 (k121 h120))))
 (kLoads 1 x29 h100 (fun x125 =>
 kCall R 127 [x125, x49] h100 (fun x126 h127 =>
 obK (fun x128 =>
 gdT x128 h127 (fun k129 => k129 x99 h127) (fun x130 h131 =>
 after (fun x132 h133 =>
 jn (fun (x135 : Value) (h136 : Hs) =>
 k113 x53 x132 x135 h136) fun k134 =>
 cnd x132
 (kCall R 122 [a0, (Value.int .i64 (.ofNat 7)), (Value.int .i64 (.ofNat 1)), x49, (Value.int .i64 (.ofNat 1))] h133 (fun x137 h138 =>
 k134 x56 h138))
 (kLoads 1 x29 h133 (fun x139 =>
 kCall R 127 [x139, x49] h133 (fun x140 h141 =>
 obK (fun x142 =>
 jn (fun (h144 : Hs) =>
 k134 x142 h144) fun k143 =>
 cnd x142
 (kCall R 122 [a0, (Value.int .i64 (.ofNat 7)), (Value.int .i64 (.ofNat 1)), x49, (Value.int .i64 (.ofNat 0))] h141 (fun x145 h146 =>
 k143 h146))
 (k143 h141)) (e2 true qB x140 x99))))) (pickB (.c x130) (.c (Value.bool false)) enE h131 x128))) (e2 true qB x126 x99))))))))))) (pickB (.c (Value.bool true)) (.c x97) enE h98 x88))))) (pickB (.c (Value.bool true)) (.c x86) enE h87 x70)))))))) fun k59 =>
 cnd x58
 (k59 h57)
 (k37 x49 x58 x51 x52 x53 x54 x55 x56 h57))) (Value.int .i64 (.ofNat 0)) dunno dunno dunno dunno dunno dunno dunno h32)))))) (oAlloc 163 [(Value.slice none 0 0)] enE h28)))))) fun k14 =>
 lpT (T := Value → Value → Value → Value → Value → Value → Value → Value → Hs → An) (fun _ _ _ _ _ _ _ _ _ => none) N (fun k147 =>
 fun (x149 x150 x151 x152 x153 x154 x155 x156 : Value) (h157 : Hs) =>
 kI64 .lss x149 x13 (fun x158 =>
 jn (fun (h160 : Hs) =>
 jn (fun (x162 x163 x164 x165 x166 x167 : Value) (h168 : Hs) =>
 kI64 .add x149 (Value.int .i64 (.ofNat 1)) (fun x169 =>
 k147 x169 x158 x162 x163 x164 x165 x166 x167 h168)) fun k161 =>
 kCall R 124 [a0, x149] h160 (fun x170 h171 =>
 kLenV x170 (fun x172 =>
 jn (fun (x174 x175 x176 : Value) (h177 : Hs) =>
 k161 x149 x174 x172 x175 x170 x176 h177) fun k173 =>
 lpT (T := Value → Value → Value → Hs → An) (fun _ _ _ _ => none) N (fun k178 =>
 fun (x180 x181 x182 : Value) (h183 : Hs) =>
 kI64 .lss x180 x172 (fun x184 =>
 jn (fun (h186 : Hs) =>
 jn (fun (x188 : Value) (h189 : Hs) =>
 kI64 .add x180 (Value.int .i64 (.ofNat 1)) (fun x190 =>
 k178 x190 x184 x188 h189)) fun k187 =>
 kIdxA 1 x170 x180 (fun x191 =>
 kLoad x191 h186 (fun x192 =>
 after (fun x193 h194 =>
 k187 x192 h194) (mapup1 true h186 x192 (Value.bool true) x8)))) fun k185 =>
 cnd x184
 (k185 h183)
 (k173 x180 x184 x182 h183))) (Value.int .i64 (.ofNat 0)) x154 x156 h171))) fun k159 =>
 cnd x158
 (k159 h157)
 (k14 x149 x158 x151 x152 x153 x154 x155 x156 h157))) (Value.int .i64 (.ofNat 0)) dunno dunno dunno dunno dunno dunno dunno h9))))) (mkmap1 h5 (Value.int .i64 0)))))))))

theorem q67 (R : RnK) (N : Nat) (args : List Value) (h : Hs) : r67 R N args h = callT Tryz.prog N R 67 args h := by kernel_rfl

/-- lintel/geom.Good -/
noncomputable def r77 (R : RnK) (N : Nat) (args : List Value) (h : Hs) : An := unC args fun a0 sq0 => enK h fun h0 =>
 after (fun x0 h1 =>
 kFieldA 0 x0 (fun x2 =>
 kLoad x2 h1 (fun x3 =>
 kCall R 106 [x3, (Value.int .i64 (.ofNat 64)), (Value.int .i64 (.ofNat 1024))] h1 (fun x4 h5 =>
 kNot x4 (fun x6 =>
 gdF x6 h5 (fun k7 => kFieldA 1 x0 (fun x8 => k7 x8 h5)) (fun x9 h10 =>
 gdF x6 h10 (fun k11 => kLoad x9 h10 (fun x12 => k11 x12 h10)) (fun x13 h14 =>
 gdF x6 h14 (fun k15 => kCall R 106 [x13, (Value.int .i64 (.ofNat 4)), (Value.int .i64 (.ofNat 64))] h14 (k15)) (fun x16 h17 =>
 gdF x6 h17 (fun k18 => kNot x16 (fun x19 => k18 x19 h17)) (fun x20 h21 =>
 after (fun x22 h23 =>
 gdF x22 h23 (fun k24 => kFieldA 2 x0 (fun x25 => k24 x25 h23)) (fun x26 h27 =>
 gdF x22 h27 (fun k28 => kLoad x26 h27 (fun x29 => k28 x29 h27)) (fun x30 h31 =>
 gdF x22 h31 (fun k32 => kCall R 106 [x30, (Value.int .i64 (.ofNat 1)), (Value.int .i64 (.ofNat 8))] h31 (k32)) (fun x33 h34 =>
 gdF x22 h34 (fun k35 => kNot x33 (fun x36 => k35 x36 h34)) (fun x37 h38 =>
 after (fun x39 h40 =>
 gdF x39 h40 (fun k41 => kFieldA 3 x0 (fun x42 => k41 x42 h40)) (fun x43 h44 =>
 gdF x39 h44 (fun k45 => kLoad x43 h44 (fun x46 => k45 x46 h44)) (fun x47 h48 =>
 gdF x39 h48 (fun k49 => kCall R 106 [x47, (Value.int .i64 (.ofNat 16)), (Value.int .i64 (.ofNat 110))] h48 (k49)) (fun x50 h51 =>
 gdF x39 h51 (fun k52 => kNot x50 (fun x53 => k52 x53 h51)) (fun x54 h55 =>
 after (fun x56 h57 =>
 jn (fun (x59 : Value) (h60 : Hs) =>
 kLoads 4 x0 h60 (fun x61 =>
 kCall R 134 [x61] h60 (fun x62 h63 =>
 kExtr x62 0 (fun x64 =>
 kExtr x62 1 (fun x65 =>
 kI64 .geq x65 (Value.int .i64 (.ofNat 1)) (fun x66 =>
 clrK h x66 h63)))))) fun k58 =>
 cnd x56
 (clrK h (Value.bool false) h57)
 (k58 (Value.bool false) h57)) (pickB (.c (Value.bool true)) (.c x54) enE h55 x39)))))) (pickB (.c (Value.bool true)) (.c x37) enE h38 x22)))))) (pickB (.c (Value.bool true)) (.c x20) enE h21 x6)))))))))) (oBox 28 (.c a0) enE h0)

theorem q77 (R : RnK) (N : Nat) (args : List Value) (h : Hs) : r77 R N args h = callT Tryz.prog N R 77 args h := by kernel_rfl

/-- lintel/geom.Lost -/
noncomputable def r79 (R : RnK) (N : Nat) (args : List Value) (h : Hs) : An := unC args fun a0 sq0 => enK h fun h0 =>
 after (fun x0 h1 =>
 kLoads 4 x0 h1 (fun x2 =>
 kCall R 77 [x2] h1 (fun x3 h4 =>
 kNot x3 (fun x5 =>
 jn (fun (x7 x8 : Value) (h9 : Hs) =>
 kLoads 4 x0 (Hs.mk h9.hp h9.nx h9.nx) (fun x10 =>
 kFieldA 1 x0 (fun x11 =>
 kLoad x11 (Hs.mk h9.hp h9.nx h9.nx) (fun x12 =>
 kCall R 81 [x10, x12] (Hs.mk h9.hp h9.nx h9.nx) (fun v18 u19 => dPut (fun x13 h14 =>
 kI64 .add x13 (Value.int .i64 (.ofNat 1)) (fun x15 =>
 kFieldA 1 x0 (fun x16 =>
 kLoad x16 (dHidS .light [true, false, false, false, false, false] [none, none, some (h9.nx, h14.nx), none, none, none] h14) (fun x17 =>
 clrK h (Value.tuple #[x15, x17]) h14)))) v18 (dNext h9 u19 .light) (andB (dFit h9 u19 .light) (Nat.ble 0 u19.lo))))))) fun k6 =>
 cnd x5
 (clrK h (Value.tuple #[(Value.int .i64 (.ofNat 0)), (Value.int .i64 (.ofNat 0))]) h4)
 (k6 (Value.int .i64 (.ofNat 0)) (Value.int .i64 (.ofNat 0)) h4))))) (oBox 28 (.c a0) enE h0)

theorem q79 (R : RnK) (N : Nat) (args : List Value) (h : Hs) : r79 R N args h = callT Tryz.prog N R 79 args h := by kernel_rfl

/-- lintel/geom.Node -/
noncomputable def r81 (R : RnK) (N : Nat) (args : List Value) (h : Hs) : An := unC args fun a0 sq0 => unC sq0 fun a1 sq1 => enK h fun h0 =>
 after (fun x0 h1 =>
 kLoads 4 x0 h1 (fun x2 =>
 kCall R 77 [x2] h1 (fun x3 h4 =>
 kNot x3 (fun x5 =>
 gdF x5 h4 (fun k6 => k6 a1 h4) (fun x7 h8 =>
 gdF x5 h8 (fun k9 => kFieldA 1 x0 (fun x10 => k9 x10 h8)) (fun x11 h12 =>
 gdF x5 h12 (fun k13 => kLoad x11 h12 (fun x14 => k13 x14 h12)) (fun x15 h16 =>
 gdF x5 h16 (fun k17 => kCall R 106 [x7, (Value.int .i64 (.ofNat 1)), x15] h16 (k17)) (fun x18 h19 =>
 gdF x5 h19 (fun k20 => kNot x18 (fun x21 => k20 x21 h19)) (fun x22 h23 =>
 after (fun x24 h25 =>
 jn (fun (x27 : Value) (h28 : Hs) =>
 kLoads 4 x0 h28 (fun x29 =>
 kCall R 136 [x29] h28 (fun x30 h31 =>
 kExtr x30 0 (fun x32 =>
 kExtr x30 1 (fun x33 =>
 kI64 .add x32 x33 (fun x34 =>
 kI64 .add x34 a1 (fun x35 =>
 kI64 .sub x35 (Value.int .i64 (.ofNat 1)) (fun x36 =>
 clrK h x36 h31)))))))) fun k26 =>
 cnd x24
 (clrK h (Value.int .i64 (.ofNat 0)) h25)
 (k26 (Value.int .i64 (.ofNat 0)) h25)) (pickB (.c (Value.bool true)) (.c x22) enE h23 x5)))))))))) (oBox 28 (.c a0) enE h0)

theorem q81 (R : RnK) (N : Nat) (args : List Value) (h : Hs) : r81 R N args h = callT Tryz.prog N R 81 args h := by kernel_rfl

/-- lintel/bits.Set -/
noncomputable def r85 (R : RnK) (N : Nat) (args : List Value) (h : Hs) : An := unC args fun a0 sq0 => unC sq0 fun a1 sq1 => unC sq1 fun a2 sq2 => enK h fun h0 =>
 after (fun x0 h1 =>
 after (fun x2 h3 =>
 kFieldA 0 x0 (fun x4 =>
 kLoad x4 h3 (fun x5 =>
 kCall R 54 [x5] h3 (fun x6 h7 =>
 after (fun x8 h9 =>
 after (fun x10 h11 =>
 kStore1 x10 x8 h11 (fun x12 h13 =>
 kLenV a2 (fun x14 =>
 jn (fun (x16 x17 x18 x19 x20 : Value) (h21 : Hs) =>
 kLoads 1 x10 h21 (fun x22 =>
 kStore1 x2 x22 h21 (fun x23 h24 =>
 clearUp h (packR h24 (resV enE h24 [.cell (.c x2) 1 true]))))) fun k15 =>
 lpT (T := Value → Value → Value → Value → Value → Hs → An) (fun _ _ _ _ _ _ => none) N (fun k25 =>
 fun (x27 x28 x29 x30 x31 : Value) (h32 : Hs) =>
 kI64 .lss x27 x14 (fun x33 =>
 jn (fun (h35 : Hs) =>
 jn (fun (x37 x38 x39 : Value) (h40 : Hs) =>
 kI64 .add x27 (Value.int .i64 (.ofNat 1)) (fun x41 =>
 k25 x41 x33 x37 x38 x39 h40)) fun k36 =>
 kIdxA 1 a2 x27 (fun x42 =>
 kLoad x42 h35 (fun x43 =>
 kLoads 1 x0 h35 (fun x44 =>
 kCall R 138 [x44, x43] h35 (fun x45 h46 =>
 kNot x45 (fun x47 =>
 jn (fun (h49 : Hs) =>
 kFieldA 0 x10 (fun x50 =>
 kLoad x50 h49 (fun x51 =>
 kI64 .quo x43 (Value.int .i64 (.ofNat 64)) (fun x52 =>
 kIdxA 1 x51 x52 (fun x53 =>
 kLoad x53 h49 (fun x54 =>
 kI64 .rem x43 (Value.int .i64 (.ofNat 64)) (fun x55 =>
 kShl (Value.int .u64 (.ofNat 1)) x55 (fun x56 =>
 kU64 .andNot x54 x56 (fun x57 =>
 kIdxA 1 x51 x52 (fun x58 =>
 kStore1 x58 x57 h49 (fun v76 u77 => dPut (fun x59 h60 =>
 jn (fun (h62 : Hs) =>
 k36 x43 x47 a1 h62) fun k61 =>
 cnd a1
 (kFieldA 0 x10 (fun x63 =>
 kLoad x63 h60 (fun x64 =>
 kI64 .quo x43 (Value.int .i64 (.ofNat 64)) (fun x65 =>
 kIdxA 1 x64 x65 (fun x66 =>
 kLoad x66 h60 (fun x67 =>
 kI64 .rem x43 (Value.int .i64 (.ofNat 64)) (fun x68 =>
 kShl (Value.int .u64 (.ofNat 1)) x68 (fun x69 =>
 kU64 .or x67 x69 (fun x70 =>
 kIdxA 1 x64 x65 (fun x71 =>
 kStore1 x71 x70 h60 (fun v74 u75 => dPut (fun x72 h73 =>
 k61 h73) v74 (dNext h60 u75 .bar) (andB (dFit h60 u75 .bar) (Nat.ble 0 u75.lo)))))))))))))
 (k61 h60)) v76 (dNext h49 u77 .bar) (andB (dFit h49 u77 .bar) (Nat.ble 0 u77.lo))))))))))))) fun k48 =>
 cnd x47
 (k36 x43 x47 x31 h46)
 (k48 h46))))))) fun k34 =>
 cnd x33
 (k34 h32)
 (k15 x27 x33 x29 x30 x31 h32))) (Value.int .i64 (.ofNat 0)) dunno dunno dunno dunno h13))) (oAlloc 163 [(Value.slice none 0 0)] enE h9)) (oBuild [(Value.slice none 0 0)] [(0, 1, .c x6)] enE h7))))) (oAlloc 163 [(Value.slice none 0 0)] enE h1)) (oBox 163 (.c a0) enE h0)

theorem q85 (R : RnK) (N : Nat) (args : List Value) (h : Hs) : r85 R N args h = callT Tryz.prog N R 85 args h := by kernel_rfl

/-- (*lintel/line.Line).settle -/
noncomputable def r97 (R : RnK) (N : Nat) (args : List Value) (h : Hs) : An := unC args fun a0 sq0 => unC sq0 fun a1 sq1 => enK h fun h0 =>
 kNil a0 (fun x0 =>
 kFieldA 8 x0 (fun x1 =>
 kLoad x1 h0 (fun x2 =>
 after (fun x3 h4 =>
 kLenV x3 (fun x5 =>
 jn (fun (x7 x8 x9 : Value) (h10 : Hs) =>
 kNil a0 (fun x11 =>
 kFieldA 8 x11 (fun x12 =>
 kLoad x12 h10 (fun x13 =>
 after (fun x14 h15 =>
 after (fun x16 h17 =>
 kNil a0 (fun x18 =>
 kFieldA 8 x18 (fun x19 =>
 kStore1 x19 x16 h17 (fun x20 h21 =>
 kNil a0 (fun x22 =>
 kFieldA 9 x22 (fun x23 =>
 kStore1 x23 (Value.int .i64 (.ofNat 0)) h21 (fun x24 h25 =>
 clrK h (Value.tuple #[]) h25))))))) (app0 212 2 16 h15 (Value.slice none 0 0) x14)) (oSlice 2 (.c x13) (some (.c a1)) none none enE h10))))) fun k6 =>
 lpT (T := Value → Value → Value → Hs → An) (fun _ _ _ _ => none) N (fun k26 =>
 fun (x28 x29 x30 : Value) (h31 : Hs) =>
 kI64 .lss x28 x5 (fun x32 =>
 jn (fun (h34 : Hs) =>
 jn (fun (x36 : Value) (h37 : Hs) =>
 kI64 .add x28 (Value.int .i64 (.ofNat 1)) (fun x38 =>
 k26 x38 x32 x36 h37)) fun k35 =>
 kIdxA 2 x3 x28 (fun x39 =>
 kLoads 2 x39 h34 (fun x40 =>
 after (fun x41 h42 =>
 after (fun x43 h44 =>
 kFieldA 0 x41 (fun x45 =>
 kLoad x45 (Hs.mk h44.hp h44.nx h44.nx) (fun x46 =>
 kFieldA 1 x41 (fun x47 =>
 kLoad x47 (Hs.mk h44.hp h44.nx h44.nx) (fun x48 =>
 kNil a0 (fun x49 =>
 kFieldA 0 x49 (fun x50 =>
 obK (fun x51 =>
 kStore1 x51 x48 h44 (fun v54 u55 => dPut (fun x52 h53 =>
 k35 x41 h53) v54 (dNext h44 u55 .bar) (andB (dFit h44 u55 .bar) (Nat.ble 0 u55.lo)))) (idxArr1 1 8 (natOf x46) x50)))))))) (store1 2 h42 (cellsL x40) (addrOf x41))) (oAlloc 212 [(Value.int .i64 (.ofNat 0)), (Value.int .u64 (.ofNat 0))] enE h34)))) fun k33 =>
 cnd x32
 (k33 h31)
 (k6 x28 x32 x30 h31))) (Value.int .i64 (.ofNat 0)) dunno dunno h4)) (oSlice 2 (.c x2) none (some (.c a1)) none enE h0))))

theorem q97 (R : RnK) (N : Nat) (args : List Value) (h : Hs) : r97 R N args h = callT Tryz.prog N R 97 args h := by kernel_rfl

/-- (*lintel/pmem.Mem).has -/
noncomputable def r98 (R : RnK) (N : Nat) (args : List Value) (h : Hs) : An := unC args fun a0 sq0 => unC sq0 fun a1 sq1 => enK h fun h0 =>
 kI64 .geq a1 (Value.int .i64 (.ofNat 0)) (fun x0 =>
 gdT x0 h0 (fun k1 => k1 a1 h0) (fun x2 h3 =>
 gdT x0 h3 (fun k4 => k4 a0 h3) (fun x5 h6 =>
 gdT x0 h6 (fun k7 => kNil x5 (fun x8 => k7 x8 h6)) (fun x9 h10 =>
 gdT x0 h10 (fun k11 => kFieldA 0 x9 (fun x12 => k11 x12 h10)) (fun x13 h14 =>
 gdT x0 h14 (fun k15 => kLoad x13 h14 (fun x16 => k15 x16 h14)) (fun x17 h18 =>
 gdT x0 h18 (fun k19 => kLenV x17 (fun x20 => k19 x20 h18)) (fun x21 h22 =>
 gdT x0 h22 (fun k23 => kI64 .mul (Value.int .i64 (.ofNat 8)) x21 (fun x24 => k23 x24 h22)) (fun x25 h26 =>
 gdT x0 h26 (fun k27 => kI64 .lss x2 x25 (fun x28 => k27 x28 h26)) (fun x29 h30 =>
 after (fun x31 h32 =>
 clrK h x31 h32) (pickB (.c x29) (.c (Value.bool false)) enE h30 x0))))))))))

theorem q98 (R : RnK) (N : Nat) (args : List Value) (h : Hs) : r98 R N args h = callT Tryz.prog N R 98 args h := by kernel_rfl

/-- (*lintel/line.Line).Fence -/
noncomputable def r104 (R : RnK) (N : Nat) (args : List Value) (h : Hs) : An := unC args fun a0 sq0 => enK h fun h0 =>
 kNil a0 (fun x0 =>
 kFieldA 9 x0 (fun x1 =>
 kLoad x1 h0 (fun x2 =>
 kCall R 97 [a0, x2] h0 (fun x3 h4 =>
 clrK h (Value.tuple #[]) h4))))

theorem q104 (R : RnK) (N : Nat) (args : List Value) (h : Hs) : r104 R N args h = callT Tryz.prog N R 104 args h := by kernel_rfl

/-- lintel/head.Get -/
noncomputable def r105 (R : RnK) (N : Nat) (args : List Value) (h : Hs) : An := unC args fun a0 sq0 => enK h fun h0 =>
 after (fun x0 h1 =>
 kLenV a0 (fun x2 =>
 kI64 .neq x2 (Value.int .i64 (.ofNat 8)) (fun x3 =>
 jn (fun (x5 : Value) (h6 : Hs) =>
 after (fun x7 h8 =>
 kLenV x7 (fun x9 =>
 jn (fun (x11 x12 x13 x14 x15 : Value) (h16 : Hs) =>
 kIdxA 1 a0 (Value.int .i64 (.ofNat 1)) (fun x17 =>
 kLoad x17 (Hs.mk h16.hp h16.nx h16.nx) (fun x18 =>
 kTo64 x18 (fun x19 =>
 kIdxA 1 a0 (Value.int .i64 (.ofNat 2)) (fun x20 =>
 kLoad x20 (Hs.mk h16.hp h16.nx h16.nx) (fun x21 =>
 kTo64 x21 (fun x22 =>
 kIdxA 1 a0 (Value.int .i64 (.ofNat 3)) (fun x23 =>
 kLoad x23 (Hs.mk h16.hp h16.nx h16.nx) (fun x24 =>
 kTo64 x24 (fun x25 =>
 kIdxA 1 a0 (Value.int .i64 (.ofNat 4)) (fun x26 =>
 kLoad x26 (Hs.mk h16.hp h16.nx h16.nx) (fun x27 =>
 kTo64 x27 (fun x28 =>
 after (fun v70 u71 => dPut (fun x29 h30 =>
 after (fun v68 u69 => dPut (fun x31 h32 =>
 after (fun v66 u67 => dPut (fun x33 h34 =>
 kLoads 4 x31 (Hs.mk h34.hp h34.nx h34.nx) (fun x35 =>
 kIdxA 1 a0 (Value.int .i64 (.ofNat 6)) (fun x36 =>
 kLoad x36 (Hs.mk h34.hp h34.nx h34.nx) (fun x37 =>
 after (fun v64 u65 => dPut (fun x38 h39 =>
 after (fun v62 u63 => dPut (fun x40 h41 =>
 after (fun v60 u61 => dPut (fun x42 h43 =>
 kLoads 5 x40 h43 (fun x44 =>
 kCall R 80 [x44] h43 (fun x45 h46 =>
 kCall R 113 [x45, a0] h46 (fun x47 h48 =>
 kNot x47 (fun x49 =>
 jn (fun (x51 : Value) (h52 : Hs) =>
 kLoads 5 x40 h52 (fun x53 =>
 after (fun x54 h55 =>
 clearUp h (packR h55 (resV enE h55 [.cell (.c x0) 5 true, .t (.c (Value.bool true))]))) (store1 5 h52 (cellsL x53) (addrOf x0)))) fun k50 =>
 cnd x49
 (after (fun x56 h57 =>
 after (fun x58 h59 =>
 clearUp h (packR h59 (resV enE h59 [.cell (.c x0) 5 true, .t (.c (Value.bool false))]))) (store1 5 h57 (cellsL x56) (addrOf x0))) (oBuild [(Value.int .i64 (.ofNat 0)), (Value.int .i64 (.ofNat 0)), (Value.int .i64 (.ofNat 0)), (Value.int .i64 (.ofNat 0)), (Value.int .u64 (.ofNat 0))] [] enE h48))
 (k50 x15 h48)))))) v60 (dNext h41 u61 .bar) (andB (dFit h41 u61 .bar) (Nat.ble 0 u61.lo))) (store1 5 h41 (cellsL x38) (addrOf x40))) v62 (dNext h39 u63 .make) (andB (dFit h39 u63 .make) (Nat.ble 0 u63.lo))) (oAlloc 107 [(Value.int .i64 (.ofNat 0)), (Value.int .i64 (.ofNat 0)), (Value.int .i64 (.ofNat 0)), (Value.int .i64 (.ofNat 0)), (Value.int .u64 (.ofNat 0))] enE (Hs.mk .e h39.nx h39.nx))) v64 (dNext h34 u65 .blind) (andB (dFit h34 u65 .blind) (Nat.ble 0 u65.lo))) (oBuild [(Value.int .i64 (.ofNat 0)), (Value.int .i64 (.ofNat 0)), (Value.int .i64 (.ofNat 0)), (Value.int .i64 (.ofNat 0)), (Value.int .u64 (.ofNat 0))] [(0, 4, .c x35), (4, 1, .c x37)] enE (Hs.mk .e h34.nx h34.nx)))))) v66 (dNext h32 u67 .bar) (andB (dFit h32 u67 .bar) (Nat.ble 0 u67.lo))) (store1 4 h32 (cellsL x29) (addrOf x31))) v68 (dNext h30 u69 .make) (andB (dFit h30 u69 .make) (Nat.ble 0 u69.lo))) (oAlloc 28 [(Value.int .i64 (.ofNat 0)), (Value.int .i64 (.ofNat 0)), (Value.int .i64 (.ofNat 0)), (Value.int .i64 (.ofNat 0))] enE (Hs.mk .e h30.nx h30.nx))) v70 (dNext h16 u71 .blind) (andB (dFit h16 u71 .blind) (Nat.ble 0 u71.lo))) (oBuild [(Value.int .i64 (.ofNat 0)), (Value.int .i64 (.ofNat 0)), (Value.int .i64 (.ofNat 0)), (Value.int .i64 (.ofNat 0))] [(0, 1, .c x19), (1, 1, .c x22), (2, 1, .c x25), (3, 1, .c x28)] enE (Hs.mk .e h16.nx h16.nx))))))))))))))) fun k10 =>
 lpT (T := Value → Value → Value → Value → Value → Hs → An) (fun _ _ _ _ _ _ => none) N (fun k72 =>
 fun (x74 x75 x76 x77 x78 : Value) (h79 : Hs) =>
 kI64 .lss x74 x9 (fun x80 =>
 jn (fun (h82 : Hs) =>
 jn (fun (x84 x85 x86 : Value) (h87 : Hs) =>
 kI64 .add x74 (Value.int .i64 (.ofNat 1)) (fun x88 =>
 k72 x88 x80 x84 x85 x86 h87)) fun k83 =>
 kIdxA 1 x7 x74 (fun x89 =>
 kLoad x89 h82 (fun x90 =>
 kU64 .gtr x90 (Value.int .u64 (.ofNat 1024)) (fun x91 =>
 jn (fun (x93 : Value) (h94 : Hs) =>
 k83 x90 x91 x93 h94) fun k92 =>
 cnd x91
 (after (fun x95 h96 =>
 after (fun x97 h98 =>
 clearUp h (packR h98 (resV enE h98 [.cell (.c x0) 5 true, .t (.c (Value.bool false))]))) (store1 5 h96 (cellsL x95) (addrOf x0))) (oBuild [(Value.int .i64 (.ofNat 0)), (Value.int .i64 (.ofNat 0)), (Value.int .i64 (.ofNat 0)), (Value.int .i64 (.ofNat 0)), (Value.int .u64 (.ofNat 0))] [] enE h82))
 (k92 x78 h82))))) fun k81 =>
 cnd x80
 (k81 h79)
 (k10 x74 x80 x76 x77 x78 h79))) (Value.int .i64 (.ofNat 0)) dunno dunno dunno x5 h8)) (oSlice 1 (.c a0) (some (.c (Value.int .i64 (.ofNat 1)))) (some (.c (Value.int .i64 (.ofNat 6)))) none enE h6)) fun k4 =>
 cnd x3
 (after (fun x99 h100 =>
 after (fun x101 h102 =>
 clearUp h (packR h102 (resV enE h102 [.cell (.c x0) 5 true, .t (.c (Value.bool false))]))) (store1 5 h100 (cellsL x99) (addrOf x0))) (oBuild [(Value.int .i64 (.ofNat 0)), (Value.int .i64 (.ofNat 0)), (Value.int .i64 (.ofNat 0)), (Value.int .i64 (.ofNat 0)), (Value.int .u64 (.ofNat 0))] [] enE h1))
 (k4 (Value.bool false) h1)))) (oAlloc 107 [(Value.int .i64 (.ofNat 0)), (Value.int .i64 (.ofNat 0)), (Value.int .i64 (.ofNat 0)), (Value.int .i64 (.ofNat 0)), (Value.int .u64 (.ofNat 0))] enE h0)

theorem q105 (R : RnK) (N : Nat) (args : List Value) (h : Hs) : r105 R N args h = callT Tryz.prog N R 105 args h := by kernel_rfl

/-- lintel/geom.in -/
noncomputable def r106 (R : RnK) (N : Nat) (args : List Value) (h : Hs) : An := unC args fun a0 sq0 => unC sq0 fun a1 sq1 => unC sq1 fun a2 sq2 => enK h fun h0 =>
 kI64 .geq a0 a1 (fun x0 =>
 gdT x0 h0 (fun k1 => k1 a0 h0) (fun x2 h3 =>
 gdT x0 h3 (fun k4 => k4 a2 h3) (fun x5 h6 =>
 gdT x0 h6 (fun k7 => kI64 .leq x2 x5 (fun x8 => k7 x8 h6)) (fun x9 h10 =>
 after (fun x11 h12 =>
 clrK h x11 h12) (pickB (.c x9) (.c (Value.bool false)) enE h10 x0)))))

theorem q106 (R : RnK) (N : Nat) (args : List Value) (h : Hs) : r106 R N args h = callT Tryz.prog N R 106 args h := by kernel_rfl

/-- (*lintel/pmem.Mem).Load -/
noncomputable def r112 (R : RnK) (N : Nat) (args : List Value) (h : Hs) : An := unC args fun a0 sq0 => unC sq0 fun a1 sq1 => enK h fun h0 =>
 jn (fun (x1 x2 x3 x4 : Value) (h5 : Hs) =>
 kNil a0 (fun x6 =>
 kFieldA 0 x6 (fun x7 =>
 kLoad x7 h5 (fun x8 =>
 kI64 .quo a1 (Value.int .i64 (.ofNat 8)) (fun x9 =>
 kIdxA 1 x8 x9 (fun x10 =>
 kLoad x10 h5 (fun x11 =>
 kI64 .rem a1 (Value.int .i64 (.ofNat 8)) (fun x12 =>
 kCall R 55 [x11, x12] h5 (fun x13 h14 =>
 clrK h (Value.tuple #[x13, (Value.int .i64 (.ofNat 0))]) h14))))))))) fun k0 =>
 kNil a0 (fun x15 =>
 kFieldA 1 x15 (fun x16 =>
 kLoad x16 h0 (fun x17 =>
 jn (fun (x19 x20 x21 : Value) (h22 : Hs) =>
 k0 x17 x19 x20 x21 h22) fun k18 =>
 cnd x17
 (clrK h (Value.tuple #[(Value.int .u64 (.ofNat 0)), (Value.int .i64 (.ofNat 14))]) h0)
 (kCall R 98 [a0, a1] h0 (fun x23 h24 =>
 kNot x23 (fun x25 =>
 jn (fun (x27 x28 : Value) (h29 : Hs) =>
 k18 x25 x27 x28 h29) fun k26 =>
 cnd x25
 (clrK h (Value.tuple #[(Value.int .u64 (.ofNat 0)), (Value.int .i64 (.ofNat 1))]) h24)
 (k26 (Value.int .u64 (.ofNat 0)) (Value.int .i64 (.ofNat 0)) h24)))))))

theorem q112 (R : RnK) (N : Nat) (args : List Value) (h : Hs) : r112 R N args h = callT Tryz.prog N R 112 args h := by kernel_rfl

/-- slices.Equal[[]uint64,uint64] -/
noncomputable def r113 (R : RnK) (N : Nat) (args : List Value) (h : Hs) : An := unC args fun a0 sq0 => unC sq0 fun a1 sq1 => enK h fun h0 =>
 kLenV a0 (fun x0 =>
 kLenV a1 (fun x1 =>
 kI64 .neq x0 x1 (fun x2 =>
 jn (fun (x4 : Value) (h5 : Hs) =>
 kLenV a0 (fun x6 =>
 jn (fun (x8 x9 x10 x11 x12 : Value) (h13 : Hs) =>
 clrK h (Value.bool true) h13) fun k7 =>
 lpT (T := Value → Value → Value → Value → Value → Hs → An) (fun _ _ _ _ _ _ => none) N (fun k14 =>
 fun (x16 x17 x18 x19 x20 : Value) (h21 : Hs) =>
 kI64 .lss x16 x6 (fun x22 =>
 jn (fun (h24 : Hs) =>
 jn (fun (x26 x27 x28 : Value) (h29 : Hs) =>
 kI64 .add x16 (Value.int .i64 (.ofNat 1)) (fun x30 =>
 k14 x30 x22 x26 x27 x28 h29)) fun k25 =>
 kIdxA 1 a0 x16 (fun x31 =>
 kLoad x31 (Hs.mk h24.hp h24.nx h24.nx) (fun x32 =>
 kIdxA 1 a1 x16 (fun x33 =>
 kLoad x33 (Hs.mk h24.hp h24.nx h24.nx) (fun x34 =>
 kU64 .neq x32 x34 (fun x35 =>
 jn (fun (x37 : Value) (h38 : Hs) =>
 k25 x16 x35 x37 h38) fun k36 =>
 cnd x35
 (clrK h (Value.bool false) h24)
 (k36 x20 h24))))))) fun k23 =>
 cnd x22
 (k23 h21)
 (k7 x16 x22 x18 x19 x20 h21))) (Value.int .i64 (.ofNat 0)) dunno dunno dunno x4 h5)) fun k3 =>
 cnd x2
 (clrK h (Value.bool false) h0)
 (k3 (Value.bool false) h0))))

theorem q113 (R : RnK) (N : Nat) (args : List Value) (h : Hs) : r113 R N args h = callT Tryz.prog N R 113 args h := by kernel_rfl

/-- lintel/node.Get -/
noncomputable def r114 (R : RnK) (N : Nat) (args : List Value) (h : Hs) : An := unC args fun a0 sq0 => enK h fun h0 =>
 after (fun x0 h1 =>
 kLenV a0 (fun x2 =>
 kI64 .neq x2 (Value.int .i64 (.ofNat 8)) (fun x3 =>
 gdF x3 h1 (fun k4 => k4 a0 h1) (fun x5 h6 =>
 gdF x3 h6 (fun k7 => kIdxA 1 x5 (Value.int .i64 (.ofNat 0)) (fun x8 => k7 x8 h6)) (fun x9 h10 =>
 gdF x3 h10 (fun k11 => kLoad x9 h10 (fun x12 => k11 x12 h10)) (fun x13 h14 =>
 gdF x3 h14 (fun k15 => kShr x13 (Value.int .u64 (.ofNat 32)) (fun x16 => k15 x16 h14)) (fun x17 h18 =>
 gdF x3 h18 (fun k19 => kU64 .neq x17 (Value.int .u64 (.ofNat 0)) (fun x20 => k19 x20 h18)) (fun x21 h22 =>
 after (fun x23 h24 =>
 gdF x23 h24 (fun k25 => k25 a0 h24) (fun x26 h27 =>
 gdF x23 h27 (fun k28 => kIdxA 1 x26 (Value.int .i64 (.ofNat 1)) (fun x29 => k28 x29 h27)) (fun x30 h31 =>
 gdF x23 h31 (fun k32 => kLoad x30 h31 (fun x33 => k32 x33 h31)) (fun x34 h35 =>
 gdF x23 h35 (fun k36 => kU64 .gtr x34 (Value.int .u64 (.ofNat 1099511627776)) (fun x37 => k36 x37 h35)) (fun x38 h39 =>
 after (fun x40 h41 =>
 jn (fun (x43 : Value) (h44 : Hs) =>
 kIdxA 1 a0 (Value.int .i64 (.ofNat 0)) (fun x45 =>
 kLoad x45 (Hs.mk h44.hp h44.nx h44.nx) (fun x46 =>
 kU64 .and x46 (Value.int .u64 (.ofNat 255)) (fun x47 =>
 kTo64 x47 (fun x48 =>
 kIdxA 1 a0 (Value.int .i64 (.ofNat 0)) (fun x49 =>
 kLoad x49 (Hs.mk h44.hp h44.nx h44.nx) (fun x50 =>
 kShr x50 (Value.int .u64 (.ofNat 8)) (fun x51 =>
 kTo64 x51 (fun x52 =>
 kIdxA 1 a0 (Value.int .i64 (.ofNat 1)) (fun x53 =>
 kLoad x53 (Hs.mk h44.hp h44.nx h44.nx) (fun x54 =>
 kTo64 x54 (fun x55 =>
 after (fun v126 u127 => dPut (fun x56 h57 =>
 after (fun v124 u125 => dPut (fun x58 h59 =>
 after (fun v122 u123 => dPut (fun x60 h61 =>
 after (fun x62 h63 =>
 kLenV x62 (fun x64 =>
 jn (fun (x66 x67 x68 x69 : Value) (h70 : Hs) =>
 kLoads 4 x58 h70 (fun x71 =>
 kCall R 82 [x71] h70 (fun x72 h73 =>
 kCall R 113 [x72, a0] h73 (fun x74 h75 =>
 kNot x74 (fun x76 =>
 jn (fun (x78 : Value) (h79 : Hs) =>
 kLoads 4 x58 h79 (fun x80 =>
 after (fun x81 h82 =>
 clearUp h (packR h82 (resV enE h82 [.cell (.c x0) 4 true, .t (.c (Value.bool true))]))) (store1 4 h79 (cellsL x80) (addrOf x0)))) fun k77 =>
 cnd x76
 (after (fun x83 h84 =>
 after (fun x85 h86 =>
 clearUp h (packR h86 (resV enE h86 [.cell (.c x0) 4 true, .t (.c (Value.bool false))]))) (store1 4 h84 (cellsL x83) (addrOf x0))) (oBuild [(Value.int .i64 (.ofNat 0)), (Value.int .i64 (.ofNat 0)), (Value.int .i64 (.ofNat 0)), (Value.slice none 0 0)] [] enE h75))
 (k77 x43 h75)))))) fun k65 =>
 lpT (T := Value → Value → Value → Value → Hs → An) (fun _ _ _ _ _ => none) N (fun k87 =>
 fun (x89 x90 x91 x92 : Value) (h93 : Hs) =>
 kI64 .lss x89 x64 (fun x94 =>
 jn (fun (h96 : Hs) =>
 jn (fun (x98 x99 : Value) (h100 : Hs) =>
 kI64 .add x89 (Value.int .i64 (.ofNat 1)) (fun x101 =>
 k87 x101 x94 x98 x99 h100)) fun k97 =>
 kIdxA 1 x62 x89 (fun x102 =>
 kLoad x102 h96 (fun x103 =>
 kU64 .eql x103 (Value.int .u64 (.ofNat 0)) (fun x104 =>
 jn (fun (h106 : Hs) =>
 kFieldA 3 x58 (fun x107 =>
 kLoad x107 h106 (fun x108 =>
 kU64 .and x103 (Value.int .u64 (.ofNat 4294967295)) (fun x109 =>
 kTo64 x109 (fun x110 =>
 kShr x103 (Value.int .u64 (.ofNat 32)) (fun x111 =>
 kTo64 x111 (fun x112 =>
 after (fun x113 h114 =>
 after (fun x115 h116 =>
 after (fun x117 h118 =>
 kFieldA 3 x58 (fun x119 =>
 kStore1 x119 x117 h118 (fun x120 h121 =>
 k97 x103 x104 h121))) (app0 161 2 16 h116 x108 x115)) (oMkrow 161 2 1 [(Value.int .i64 (.ofNat 0)), (Value.int .i64 (.ofNat 0))] [(0, 2, .c x113)] enE h114)) (oBuild [(Value.int .i64 (.ofNat 0)), (Value.int .i64 (.ofNat 0))] [(0, 1, .c x110), (1, 1, .c x112)] enE h106)))))))) fun k105 =>
 cnd x104
 (k65 x89 x94 x103 x104 h96)
 (k105 h96))))) fun k95 =>
 cnd x94
 (k95 h93)
 (k65 x89 x94 x91 x92 h93))) (Value.int .i64 (.ofNat 0)) dunno dunno dunno h63)) (oSlice 1 (.c a0) (some (.c (Value.int .i64 (.ofNat 2)))) (some (.c (Value.int .i64 (.ofNat 6)))) none enE h61)) v122 (dNext h59 u123 .bar) (andB (dFit h59 u123 .bar) (Nat.ble 0 u123.lo))) (store1 4 h59 (cellsL x56) (addrOf x58))) v124 (dNext h57 u125 .make) (andB (dFit h57 u125 .make) (Nat.ble 0 u125.lo))) (oAlloc 130 [(Value.int .i64 (.ofNat 0)), (Value.int .i64 (.ofNat 0)), (Value.int .i64 (.ofNat 0)), (Value.slice none 0 0)] enE (Hs.mk .e h57.nx h57.nx))) v126 (dNext h44 u127 .blind) (andB (dFit h44 u127 .blind) (Nat.ble 0 u127.lo))) (oBuild [(Value.int .i64 (.ofNat 0)), (Value.int .i64 (.ofNat 0)), (Value.int .i64 (.ofNat 0)), (Value.slice none 0 0)] [(0, 1, .c x48), (1, 1, .c x52), (2, 1, .c x55)] enE (Hs.mk .e h44.nx h44.nx)))))))))))))) fun k42 =>
 cnd x40
 (after (fun x128 h129 =>
 after (fun x130 h131 =>
 clearUp h (packR h131 (resV enE h131 [.cell (.c x0) 4 true, .t (.c (Value.bool false))]))) (store1 4 h129 (cellsL x128) (addrOf x0))) (oBuild [(Value.int .i64 (.ofNat 0)), (Value.int .i64 (.ofNat 0)), (Value.int .i64 (.ofNat 0)), (Value.slice none 0 0)] [] enE h41))
 (k42 (Value.bool false) h41)) (pickB (.c (Value.bool true)) (.c x38) enE h39 x23)))))) (pickB (.c (Value.bool true)) (.c x21) enE h22 x3))))))))) (oAlloc 130 [(Value.int .i64 (.ofNat 0)), (Value.int .i64 (.ofNat 0)), (Value.int .i64 (.ofNat 0)), (Value.slice none 0 0)] enE h0)

theorem q114 (R : RnK) (N : Nat) (args : List Value) (h : Hs) : r114 R N args h = callT Tryz.prog N R 114 args h := by kernel_rfl

/-- (lintel/image.Image).Block -/
noncomputable def r115 (R : RnK) (N : Nat) (args : List Value) (h : Hs) : An := unC args fun a0 sq0 => unC sq0 fun a1 sq1 => enK h fun h0 =>
 after (fun x0 h1 =>
 kI64 .lss a1 (Value.int .i64 (.ofNat 0)) (fun x2 =>
 gdF x2 h1 (fun k3 => k3 a1 h1) (fun x4 h5 =>
 gdF x2 h5 (fun k6 => kFieldA 4 x0 (fun x7 => k6 x7 h5)) (fun x8 h9 =>
 gdF x2 h9 (fun k10 => kLoad x8 h9 (fun x11 => k10 x11 h9)) (fun x12 h13 =>
 gdF x2 h13 (fun k14 => kLenV x12 (fun x15 => k14 x15 h13)) (fun x16 h17 =>
 gdF x2 h17 (fun k18 => kI64 .quo x16 (Value.int .i64 (.ofNat 8)) (fun x19 => k18 x19 h17)) (fun x20 h21 =>
 gdF x2 h21 (fun k22 => kI64 .geq x4 x20 (fun x23 => k22 x23 h21)) (fun x24 h25 =>
 after (fun x26 h27 =>
 jn (fun (x29 : Value) (h30 : Hs) =>
 kFieldA 4 x0 (fun x31 =>
 kLoad x31 h30 (fun x32 =>
 kI64 .mul (Value.int .i64 (.ofNat 8)) a1 (fun x33 =>
 kI64 .add a1 (Value.int .i64 (.ofNat 1)) (fun x34 =>
 kI64 .mul (Value.int .i64 (.ofNat 8)) x34 (fun x35 =>
 after (fun x36 h37 =>
 kCall R 54 [x36] h37 (fun x38 h39 =>
 clrK h x38 h39)) (oSlice 1 (.c x32) (some (.c x33)) (some (.c x35)) none enE h30))))))) fun k28 =>
 cnd x26
 (clrK h (Value.slice none 0 0) h27)
 (k28 (Value.slice none 0 0) h27)) (pickB (.c (Value.bool true)) (.c x24) enE h25 x2))))))))) (oBox 67 (.c a0) enE h0)

theorem q115 (R : RnK) (N : Nat) (args : List Value) (h : Hs) : r115 R N args h = callT Tryz.prog N R 115 args h := by kernel_rfl

/-- lintel/node.Good -/
noncomputable def r116 (R : RnK) (N : Nat) (args : List Value) (h : Hs) : An := unC args fun a0 sq0 => unC sq0 fun a1 sq1 => enK h fun h0 =>
 after (fun x0 h1 =>
 after (fun x2 h3 =>
 kLoads 4 x0 h3 (fun x4 =>
 kCall R 77 [x4] h3 (fun x5 h6 =>
 kNot x5 (fun x7 =>
 jn (fun (x9 : Value) (h10 : Hs) =>
 kFieldA 0 x2 (fun x11 =>
 kLoad x11 h10 (fun x12 =>
 kI64 .eql x12 (Value.int .i64 (.ofNat 0)) (fun x13 =>
 jn (fun (x15 : Value) (h16 : Hs) =>
 kFieldA 0 x2 (fun x17 =>
 kLoad x17 h16 (fun x18 =>
 kCall R 163 [x18, (Value.int .i64 (.ofNat 1)), (Value.int .i64 (.ofNat 3))] h16 (fun x19 h20 =>
 kNot x19 (fun x21 =>
 gdF x21 h20 (fun k22 => kFieldA 1 x2 (fun x23 => k22 x23 h20)) (fun x24 h25 =>
 gdF x21 h25 (fun k26 => kLoad x24 h25 (fun x27 => k26 x27 h25)) (fun x28 h29 =>
 gdF x21 h29 (fun k30 => kCall R 163 [x28, (Value.int .i64 (.ofNat 1)), (Value.int .i64 (.ofNat 200))] h29 (k30)) (fun x31 h32 =>
 gdF x21 h32 (fun k33 => kNot x31 (fun x34 => k33 x34 h32)) (fun x35 h36 =>
 after (fun x37 h38 =>
 gdF x37 h38 (fun k39 => kLoads 4 x0 h38 (fun x40 => k39 x40 h38)) (fun x41 h42 =>
 gdF x37 h42 (fun k43 => kLoads 4 x2 h42 (fun x44 => k43 x44 h42)) (fun x45 h46 =>
 gdF x37 h46 (fun k47 => kCall R 164 [x41, x45] h46 (k47)) (fun x48 h49 =>
 gdF x37 h49 (fun k50 => kNot x48 (fun x51 => k50 x51 h49)) (fun x52 h53 =>
 after (fun x54 h55 =>
 jn (fun (x57 : Value) (h58 : Hs) =>
 kFieldA 3 x2 (fun x59 =>
 kLoad x59 h58 (fun x60 =>
 kLenV x60 (fun x61 =>
 kI64 .leq x61 (Value.int .i64 (.ofNat 4)) (fun x62 =>
 gdT x62 h58 (fun k63 => kLoads 4 x0 (Hs.mk h58.hp h58.nx h58.nx) (fun x64 => k63 x64 h58)) (fun x65 _ =>
 gdT x62 h58 (fun k67 => kLoads 4 x2 (Hs.mk h58.hp h58.nx h58.nx) (fun x68 => k67 x68 h58)) (fun x69 _ =>
 gdT x62 h58 (fun k71 => kCall R 165 [x65, x69] h58 (fun v72 u73 => dPut k71 v72 (dNext h58 u73 .bar) (andB (dFit h58 u73 .bar) (Nat.ble 0 u73.lo)))) (fun x74 h75 =>
 after (fun v104 u105 => dPut (fun x76 h77 =>
 gdT x76 h77 (fun k78 => kLoads 4 x2 (dHidS .light [true, true, true, true, true, true, true, true, true, true] [none, some (h75.nx, h77.nx), some (h58.nx, h75.nx), none, none, none, none, none, none, none] h77) (fun x79 => k78 x79 h77)) (fun x80 _ =>
 gdT x76 h77 (fun k82 => kCall R 166 [x80] (dHidS .light [true, true, true, true, true, true, true, true, true, true, true] [none, none, some (h75.nx, h77.nx), some (h58.nx, h75.nx), none, none, none, none, none, none, none] h77) (fun v83 u84 => dPut k82 v83 (dNext h77 u84 .light) (andB (dFit h77 u84 .light) (Nat.ble 0 u84.lo)))) (fun x85 h86 =>
 gdT x76 h86 (fun k87 => kLoads 4 x2 (dHidS .light [false, false, true, true, true, true, true, true, true, true, true, true] [some (h77.nx, h86.nx), none, none, some (h75.nx, h77.nx), some (h58.nx, h75.nx), none, none, none, none, none, none, none] h86) (fun x88 => k87 x88 h86)) (fun x89 _ =>
 gdT x76 h86 (fun k91 => kCall R 167 [x89] h86 (fun v92 u93 => dPut k91 v92 (dNext h86 u93 .bar) (andB (dFit h86 u93 .bar) (Nat.ble 0 u93.lo)))) (fun x94 h95 =>
 gdT x76 h95 (fun k96 => kI64 .eql x85 x94 (fun x97 => k96 x97 h95)) (fun x98 _ =>
 after (fun v102 u103 => dPut (fun x100 h101 =>
 clrK h x100 h101) v102 (dNext h95 u103 .blind) (andB (dFit h95 u103 .blind) (Nat.ble 0 u103.lo))) (pickB (.c x98) (.c (Value.bool false)) enE (Hs.mk .e h95.nx h95.nx) x76))))))) v104 (dNext h75 u105 .blind) (andB (dFit h75 u105 .blind) (Nat.ble 0 u105.lo))) (pickB (.c x74) (.c (Value.bool false)) enE (Hs.mk .e h75.nx h75.nx) x62))))))))) fun k56 =>
 cnd x54
 (clrK h (Value.bool false) h55)
 (k56 x15 h55)) (pickB (.c (Value.bool true)) (.c x52) enE h53 x37)))))) (pickB (.c (Value.bool true)) (.c x35) enE h36 x21)))))))))) fun k14 =>
 cnd x13
 (kLoads 4 x2 h10 (fun x106 =>
 kCall R 162 [x106] h10 (fun x107 h108 =>
 clrK h x107 h108)))
 (k14 x9 h10))))) fun k8 =>
 cnd x7
 (clrK h (Value.bool false) h6)
 (k8 (Value.bool false) h6))))) (oBox 130 (.c a1) enE h1)) (oBox 28 (.c a0) enE h0)

theorem q116 (R : RnK) (N : Nat) (args : List Value) (h : Hs) : r116 R N args h = callT Tryz.prog N R 116 args h := by kernel_rfl

/-- lintel/slot.Get -/
noncomputable def r118 (R : RnK) (N : Nat) (args : List Value) (h : Hs) : An := unC args fun a0 sq0 => enK h fun h0 =>
 after (fun x0 h1 =>
 kLenV a0 (fun x2 =>
 kI64 .neq x2 (Value.int .i64 (.ofNat 8)) (fun x3 =>
 gdF x3 h1 (fun k4 => k4 a0 h1) (fun x5 h6 =>
 gdF x3 h6 (fun k7 => kIdxA 1 x5 (Value.int .i64 (.ofNat 0)) (fun x8 => k7 x8 h6)) (fun x9 h10 =>
 gdF x3 h10 (fun k11 => kLoad x9 h10 (fun x12 => k11 x12 h10)) (fun x13 h14 =>
 gdF x3 h14 (fun k15 => kU64 .gtr x13 (Value.int .u64 (.ofNat 64)) (fun x16 => k15 x16 h14)) (fun x17 h18 =>
 after (fun x19 h20 =>
 gdF x19 h20 (fun k21 => k21 a0 h20) (fun x22 h23 =>
 gdF x19 h23 (fun k24 => kIdxA 1 x22 (Value.int .i64 (.ofNat 1)) (fun x25 => k24 x25 h23)) (fun x26 h27 =>
 gdF x19 h27 (fun k28 => kLoad x26 h27 (fun x29 => k28 x29 h27)) (fun x30 h31 =>
 gdF x19 h31 (fun k32 => kU64 .gtr x30 (Value.int .u64 (.ofNat 40)) (fun x33 => k32 x33 h31)) (fun x34 h35 =>
 after (fun x36 h37 =>
 jn (fun (x39 : Value) (h40 : Hs) =>
 after (fun x41 h42 =>
 kIdxA 1 a0 (Value.int .i64 (.ofNat 1)) (fun x43 =>
 kLoad x43 h42 (fun x44 =>
 kTo64 x44 (fun x45 =>
 jn (fun (x47 x48 x49 : Value) (h50 : Hs) =>
 lwC x41 h50 (fun h51 =>
 kIdxA 1 a0 (Value.int .i64 (.ofNat 0)) (fun x52 =>
 kLoad x52 (lowM (cutV x41) h51 h51) (fun x53 =>
 kTo64 x53 (fun x54 =>
 kCall R 170 [x41] h51 (fun v86 u87 => dPut (fun x55 h56 =>
 after (fun v84 u85 => dPut (fun x57 h58 =>
 after (fun v82 u83 => dPut (fun x59 h60 =>
 after (fun v80 u81 => dPut (fun x61 h62 =>
 lwCE x41 h50 h62 (fun h63 =>
 kLoads 2 x59 h63 (fun x64 =>
 kCall R 171 [x64] h63 (fun x65 h66 =>
 kCall R 113 [x65, a0] h66 (fun x67 h68 =>
 kNot x67 (fun x69 =>
 jn (fun (x71 : Value) (h72 : Hs) =>
 kLoads 2 x59 h72 (fun x73 =>
 after (fun x74 h75 =>
 clearUp h (packR h75 (resV enE h75 [.cell (.c x0) 2 true, .t (.c (Value.bool true))]))) (store1 2 h72 (cellsL x73) (addrOf x0)))) fun k70 =>
 cnd x69
 (after (fun x76 h77 =>
 after (fun x78 h79 =>
 clearUp h (packR h79 (resV enE h79 [.cell (.c x0) 2 true, .t (.c (Value.bool false))]))) (store1 2 h77 (cellsL x76) (addrOf x0))) (oBuild [(Value.int .i64 (.ofNat 0)), (Value.string ⟨#[]⟩)] [] enE h68))
 (k70 x39 h68))))))) v80 (dNext h60 u81 .bar) (andB (dFit h60 u81 .bar) (Nat.ble (cutV x41) u81.lo))) (store1 2 h60 (cellsL x57) (addrOf x59))) v82 (dNext h58 u83 .make) (andB (dFit h58 u83 .make) (Nat.ble (cutV x41) u83.lo))) (oAlloc 137 [(Value.int .i64 (.ofNat 0)), (Value.string ⟨#[]⟩)] enE (Hs.mk .e h58.nx h58.nx))) v84 (dNext h56 u85 .blind) (andB (dFit h56 u85 .blind) (Nat.ble (cutV x41) u85.lo))) (oBuild [(Value.int .i64 (.ofNat 0)), (Value.string ⟨#[]⟩)] [(0, 1, .c x54), (1, 1, .c x55)] enE (Hs.mk .e h56.nx h56.nx))) v86 (dNext h51 u87 .bar) (andB (dFit h51 u87 .bar) (Nat.ble (cutV x41) u87.lo)))))))) fun k46 =>
 lpT (T := Value → Value → Value → Hs → An) (fun _ _ _ _ => none) N (fun k88 =>
 fun (x90 x91 x92 : Value) (h93 : Hs) =>
 kI64 .lss x90 x45 (fun x94 =>
 jn (fun (h96 : Hs) =>
 jn (fun (x98 : Value) (h99 : Hs) =>
 kI64 .add x90 (Value.int .i64 (.ofNat 1)) (fun x100 =>
 k88 x100 x94 x98 h99)) fun k97 =>
 kI64 .quo x90 (Value.int .i64 (.ofNat 8)) (fun x101 =>
 kI64 .add (Value.int .i64 (.ofNat 2)) x101 (fun x102 =>
 kIdxA 1 a0 x102 (fun x103 =>
 kLoad x103 h96 (fun x104 =>
 kI64 .rem x90 (Value.int .i64 (.ofNat 8)) (fun x105 =>
 kI64 .mul (Value.int .i64 (.ofNat 8)) x105 (fun x106 =>
 kShr x104 x106 (fun x107 =>
 kTo8 x107 (fun x108 =>
 kCall R 169 [x41, x108] h96 (fun x109 h110 =>
 k97 x90 h110)))))))))) fun k95 =>
 cnd x94
 (k95 h93)
 (k46 x90 x94 x92 h93))) (Value.int .i64 (.ofNat 0)) dunno dunno h42)))) (oAlloc 265 [(Value.pointer none), (Value.slice none 0 0)] enE h40)) fun k38 =>
 cnd x36
 (after (fun x111 h112 =>
 after (fun x113 h114 =>
 clearUp h (packR h114 (resV enE h114 [.cell (.c x0) 2 true, .t (.c (Value.bool false))]))) (store1 2 h112 (cellsL x111) (addrOf x0))) (oBuild [(Value.int .i64 (.ofNat 0)), (Value.string ⟨#[]⟩)] [] enE h37))
 (k38 (Value.bool false) h37)) (pickB (.c (Value.bool true)) (.c x34) enE h35 x19)))))) (pickB (.c (Value.bool true)) (.c x17) enE h18 x3)))))))) (oAlloc 137 [(Value.int .i64 (.ofNat 0)), (Value.string ⟨#[]⟩)] enE h0)

theorem q118 (R : RnK) (N : Nat) (args : List Value) (h : Hs) : r118 R N args h = callT Tryz.prog N R 118 args h := by kernel_rfl

/-- (*lintel/check.looker).blocks -/
noncomputable def r124 (R : RnK) (N : Nat) (args : List Value) (h : Hs) : An := unC args fun a0 sq0 => unC sq0 fun a1 sq1 => enK h fun h0 =>
 kNil a0 (fun x0 =>
 kFieldA 6 x0 (fun x1 =>
 kLoad x1 h0 (fun x2 =>
 kIdxA 1 x2 a1 (fun x3 =>
 kLoad x3 h0 (fun x4 =>
 jn (fun (x6 x7 x8 x9 x10 x11 x12 x13 x14 x15 : Value) (h16 : Hs) =>
 clrK h x14 h16) fun k5 =>
 cnd x4
 (kNil a0 (fun x17 =>
 kFieldA 5 x17 (fun x18 =>
 kLoad x18 h0 (fun x19 =>
 kIdxA 4 x19 a1 (fun x20 =>
 kFieldA 3 x20 (fun x21 =>
 kLoad x21 h0 (fun x22 =>
 kLenV x22 (fun x23 =>
 jn (fun (x25 x26 x27 x28 x29 x30 x31 x32 : Value) (h33 : Hs) =>
 k5 x25 x23 x26 x22 x27 x28 x29 x30 x31 x32 h33) fun k24 =>
 lpT (T := Value → Value → Value → Value → Value → Value → Value → Value → Hs → An) (fun _ _ _ _ _ _ _ _ _ => none) N (fun k34 =>
 fun (x36 x37 x38 x39 x40 x41 x42 x43 : Value) (h44 : Hs) =>
 kI64 .lss x36 x23 (fun x45 =>
 jn (fun (h47 : Hs) =>
 jn (fun (x49 x50 x51 x52 x53 x54 : Value) (h55 : Hs) =>
 kI64 .add x36 (Value.int .i64 (.ofNat 1)) (fun x56 =>
 k34 x56 x45 x49 x50 x51 x52 x53 x54 h55)) fun k48 =>
 kIdxA 2 x22 x36 (fun x57 =>
 kLoads 2 x57 h47 (fun x58 =>
 after (fun x59 h60 =>
 after (fun x61 h62 =>
 kFieldA 1 x59 (fun x63 =>
 kLoad x63 h62 (fun x64 =>
 jn (fun (x66 x67 x68 x69 : Value) (h70 : Hs) =>
 k48 x59 x66 x64 x67 x68 x69 h70) fun k65 =>
 lpT (T := Value → Value → Value → Value → Hs → An) (fun _ _ _ _ _ => none) N (fun k71 =>
 fun (x73 x74 x75 x76 : Value) (h77 : Hs) =>
 kI64 .lss x73 x64 (fun x78 =>
 jn (fun (h80 : Hs) =>
 jn (fun (x82 x83 : Value) (h84 : Hs) =>
 kI64 .add x73 (Value.int .i64 (.ofNat 1)) (fun x85 =>
 k71 x85 x78 x82 x83 h84)) fun k81 =>
 kFieldA 0 x59 (fun x86 =>
 kLoad x86 h80 (fun x87 =>
 kI64 .add x87 x73 (fun x88 =>
 after (fun x89 h90 =>
 after (fun x91 h92 =>
 k81 x91 x73 h92) (app0 3 1 8 h90 x75 x89)) (oMkrow 3 1 1 [(Value.int .i64 (.ofNat 0))] [(0, 1, .c x88)] enE h80))))) fun k79 =>
 cnd x78
 (k79 h77)
 (k65 x73 x78 x75 x76 h77))) (Value.int .i64 (.ofNat 0)) x41 x42 x43 h62))) (store1 2 h60 (cellsL x58) (addrOf x59))) (oAlloc 161 [(Value.int .i64 (.ofNat 0)), (Value.int .i64 (.ofNat 0))] enE h47)))) fun k46 =>
 cnd x45
 (k46 h44)
 (k24 x36 x45 x38 x39 x40 x41 x42 x43 h44))) (Value.int .i64 (.ofNat 0)) dunno dunno dunno dunno dunno (Value.slice none 0 0) dunno h0))))))))
 (k5 dunno dunno dunno dunno dunno dunno dunno dunno (Value.slice none 0 0) dunno h0))))))

theorem q124 (R : RnK) (N : Nat) (args : List Value) (h : Hs) : r124 R N args h = callT Tryz.prog N R 124 args h := by kernel_rfl

/-- lintel/bits.Has -/
noncomputable def r127 (R : RnK) (N : Nat) (args : List Value) (h : Hs) : An := unC args fun a0 sq0 => unC sq0 fun a1 sq1 => enK h fun h0 =>
 after (fun x0 h1 =>
 kLoads 1 x0 h1 (fun x2 =>
 kCall R 138 [x2, a1] h1 (fun x3 h4 =>
 gdT x3 h4 (fun k5 => kFieldA 0 x0 (fun x6 => k5 x6 h4)) (fun x7 h8 =>
 gdT x3 h8 (fun k9 => kLoad x7 h8 (fun x10 => k9 x10 h8)) (fun x11 h12 =>
 gdT x3 h12 (fun k13 => k13 a1 h12) (fun x14 h15 =>
 gdT x3 h15 (fun k16 => kI64 .quo x14 (Value.int .i64 (.ofNat 64)) (fun x17 => k16 x17 h15)) (fun x18 h19 =>
 gdT x3 h19 (fun k20 => kIdxA 1 x11 x18 (fun x21 => k20 x21 h19)) (fun x22 h23 =>
 gdT x3 h23 (fun k24 => kLoad x22 h23 (fun x25 => k24 x25 h23)) (fun x26 h27 =>
 gdT x3 h27 (fun k28 => k28 a1 h27) (fun x29 h30 =>
 gdT x3 h30 (fun k31 => kI64 .rem x29 (Value.int .i64 (.ofNat 64)) (fun x32 => k31 x32 h30)) (fun x33 h34 =>
 gdT x3 h34 (fun k35 => kShr x26 x33 (fun x36 => k35 x36 h34)) (fun x37 h38 =>
 gdT x3 h38 (fun k39 => kU64 .and x37 (Value.int .u64 (.ofNat 1)) (fun x40 => k39 x40 h38)) (fun x41 h42 =>
 gdT x3 h42 (fun k43 => kU64 .eql x41 (Value.int .u64 (.ofNat 1)) (fun x44 => k43 x44 h42)) (fun x45 h46 =>
 after (fun x47 h48 =>
 clrK h x47 h48) (pickB (.c x45) (.c (Value.bool false)) enE h46 x3))))))))))))))) (oBox 163 (.c a0) enE h0)

theorem q127 (R : RnK) (N : Nat) (args : List Value) (h : Hs) : r127 R N args h = callT Tryz.prog N R 127 args h := by kernel_rfl

/-- (lintel/geom.Geom).data -/
noncomputable def r134 (R : RnK) (N : Nat) (args : List Value) (h : Hs) : An := unC args fun a0 sq0 => enK h fun h0 =>
 after (fun x0 h1 =>
 kLoads 4 x0 h1 (fun x2 =>
 kCall R 136 [x2] h1 (fun x3 h4 =>
 kExtr x3 0 (fun x5 =>
 kExtr x3 1 (fun x6 =>
 kI64 .add x5 x6 (fun x7 =>
 kFieldA 1 x0 (fun x8 =>
 kLoad x8 h4 (fun x9 =>
 kI64 .mul (Value.int .i64 (.ofNat 2)) x9 (fun x10 =>
 kI64 .add x7 x10 (fun x11 =>
 kFieldA 0 x0 (fun x12 =>
 kLoad x12 h4 (fun x13 =>
 kI64 .sub x13 (Value.int .i64 (.ofNat 1)) (fun x14 =>
 kI64 .sub x14 x11 (fun x15 =>
 clrK h (Value.tuple #[x11, x15]) h4)))))))))))))) (oBox 28 (.c a0) enE h0)

theorem q134 (R : RnK) (N : Nat) (args : List Value) (h : Hs) : r134 R N args h = callT Tryz.prog N R 134 args h := by kernel_rfl

/-- (lintel/geom.Geom).bits -/
noncomputable def r136 (R : RnK) (N : Nat) (args : List Value) (h : Hs) : An := unC args fun a0 sq0 => enK h fun h0 =>
 after (fun x0 h1 =>
 kFieldA 2 x0 (fun x2 =>
 kLoad x2 (Hs.mk h1.hp h1.nx h1.nx) (fun x3 =>
 kFieldA 3 x0 (fun x4 =>
 kLoad x4 (Hs.mk h1.hp h1.nx h1.nx) (fun x5 =>
 kI64 .mul x3 x5 (fun x6 =>
 kI64 .add (Value.int .i64 (.ofNat 1)) x6 (fun x7 =>
 kFieldA 0 x0 (fun x8 =>
 kLoad x8 (Hs.mk h1.hp h1.nx h1.nx) (fun x9 =>
 kI64 .add x9 (Value.int .i64 (.ofNat 512)) (fun x10 =>
 kI64 .sub x10 (Value.int .i64 (.ofNat 1)) (fun x11 =>
 kI64 .quo x11 (Value.int .i64 (.ofNat 512)) (fun x12 =>
 clrK h (Value.tuple #[x7, x12]) h1)))))))))))) (oBox 28 (.c a0) enE h0)

theorem q136 (R : RnK) (N : Nat) (args : List Value) (h : Hs) : r136 R N args h = callT Tryz.prog N R 136 args h := by kernel_rfl

/-- lintel/node.fits -/
noncomputable def r137 (R : RnK) (N : Nat) (args : List Value) (h : Hs) : An := unC args fun a0 sq0 => enK h fun h0 =>
 after (fun x0 h1 =>
 kFieldA 0 x0 (fun x2 =>
 kLoad x2 h1 (fun x3 =>
 kI64 .eql x3 (Value.int .i64 (.ofNat 0)) (fun x4 =>
 jn (fun (x6 : Value) (h7 : Hs) =>
 kFieldA 0 x0 (fun x8 =>
 kLoad x8 h7 (fun x9 =>
 kCall R 163 [x9, (Value.int .i64 (.ofNat 1)), (Value.int .i64 (.ofNat 3))] h7 (fun x10 h11 =>
 kNot x10 (fun x12 =>
 gdF x12 h11 (fun k13 => kFieldA 1 x0 (fun x14 => k13 x14 h11)) (fun x15 h16 =>
 gdF x12 h16 (fun k17 => kLoad x15 h16 (fun x18 => k17 x18 h16)) (fun x19 h20 =>
 gdF x12 h20 (fun k21 => kCall R 163 [x19, (Value.int .i64 (.ofNat 0)), (Value.int .i64 (.ofNat 16777215))] h20 (k21)) (fun x22 h23 =>
 gdF x12 h23 (fun k24 => kNot x22 (fun x25 => k24 x25 h23)) (fun x26 h27 =>
 after (fun x28 h29 =>
 gdF x28 h29 (fun k30 => kFieldA 2 x0 (fun x31 => k30 x31 h29)) (fun x32 h33 =>
 gdF x28 h33 (fun k34 => kLoad x32 h33 (fun x35 => k34 x35 h33)) (fun x36 h37 =>
 gdF x28 h37 (fun k38 => kCall R 163 [x36, (Value.int .i64 (.ofNat 0)), (Value.int .i64 (.ofNat 1099511627776))] h37 (k38)) (fun x39 h40 =>
 gdF x28 h40 (fun k41 => kNot x39 (fun x42 => k41 x42 h40)) (fun x43 h44 =>
 after (fun x45 h46 =>
 gdF x45 h46 (fun k47 => kFieldA 3 x0 (fun x48 => k47 x48 h46)) (fun x49 h50 =>
 gdF x45 h50 (fun k51 => kLoad x49 h50 (fun x52 => k51 x52 h50)) (fun x53 h54 =>
 gdF x45 h54 (fun k55 => kLenV x53 (fun x56 => k55 x56 h54)) (fun x57 h58 =>
 gdF x45 h58 (fun k59 => kI64 .gtr x57 (Value.int .i64 (.ofNat 4)) (fun x60 => k59 x60 h58)) (fun x61 h62 =>
 after (fun x63 h64 =>
 jn (fun (x66 : Value) (h67 : Hs) =>
 kFieldA 3 x0 (fun x68 =>
 kLoad x68 h67 (fun x69 =>
 kCall R 206 [x69, (Value.func (.func 207) #[] #[])] h67 (fun x70 h71 =>
 kNot x70 (fun x72 =>
 clrK h x72 h71))))) fun k65 =>
 cnd x63
 (clrK h (Value.bool false) h64)
 (k65 x6 h64)) (pickB (.c (Value.bool true)) (.c x61) enE h62 x45)))))) (pickB (.c (Value.bool true)) (.c x43) enE h44 x28)))))) (pickB (.c (Value.bool true)) (.c x26) enE h27 x12)))))))))) fun k5 =>
 cnd x4
 (kLoads 4 x0 h1 (fun x73 =>
 kCall R 162 [x73] h1 (fun x74 h75 =>
 clrK h x74 h75)))
 (k5 (Value.bool false) h1))))) (oBox 130 (.c a0) enE h0)

theorem q137 (R : RnK) (N : Nat) (args : List Value) (h : Hs) : r137 R N args h = callT Tryz.prog N R 137 args h := by kernel_rfl

/-- (lintel/bits.Bits).there -/
noncomputable def r138 (R : RnK) (N : Nat) (args : List Value) (h : Hs) : An := unC args fun a0 sq0 => unC sq0 fun a1 sq1 => enK h fun h0 =>
 after (fun x0 h1 =>
 kI64 .geq a1 (Value.int .i64 (.ofNat 0)) (fun x2 =>
 gdT x2 h1 (fun k3 => k3 a1 h1) (fun x4 h5 =>
 gdT x2 h5 (fun k6 => kI64 .quo x4 (Value.int .i64 (.ofNat 64)) (fun x7 => k6 x7 h5)) (fun x8 h9 =>
 gdT x2 h9 (fun k10 => kFieldA 0 x0 (fun x11 => k10 x11 h9)) (fun x12 h13 =>
 gdT x2 h13 (fun k14 => kLoad x12 h13 (fun x15 => k14 x15 h13)) (fun x16 h17 =>
 gdT x2 h17 (fun k18 => kLenV x16 (fun x19 => k18 x19 h17)) (fun x20 h21 =>
 gdT x2 h21 (fun k22 => kI64 .lss x8 x20 (fun x23 => k22 x23 h21)) (fun x24 h25 =>
 after (fun x26 h27 =>
 clrK h x26 h27) (pickB (.c x24) (.c (Value.bool false)) enE h25 x2))))))))) (oBox 163 (.c a0) enE h0)

theorem q138 (R : RnK) (N : Nat) (args : List Value) (h : Hs) : r138 R N args h = callT Tryz.prog N R 138 args h := by kernel_rfl

/-- (lintel/span.Span).Word -/
noncomputable def r147 (R : RnK) (N : Nat) (args : List Value) (h : Hs) : An := unC args fun a0 sq0 => unC sq0 fun a1 sq1 => enK h fun h0 =>
 after (fun x0 h1 =>
 kLoads 3 x0 h1 (fun x2 =>
 kCall R 217 [x2, a1] h1 (fun x3 h4 =>
 kExtr x3 0 (fun x5 =>
 kExtr x3 1 (fun x6 =>
 kNot x6 (fun x7 =>
 jn (fun (x9 x10 : Value) (h11 : Hs) =>
 kFieldA 0 x0 (fun x12 =>
 kLoad x12 h11 (fun x13 =>
 kCall R 112 [x13, x5] h11 (fun x14 h15 =>
 kExtr x14 0 (fun x16 =>
 kExtr x14 1 (fun x17 =>
 clrK h (Value.tuple #[x16, x17]) h15)))))) fun k8 =>
 cnd x7
 (clrK h (Value.tuple #[(Value.int .u64 (.ofNat 0)), (Value.int .i64 (.ofNat 1))]) h4)
 (k8 (Value.int .u64 (.ofNat 0)) (Value.int .i64 (.ofNat 0)) h4))))))) (oBox 113 (.c a0) enE h0)

theorem q147 (R : RnK) (N : Nat) (args : List Value) (h : Hs) : r147 R N args h = callT Tryz.prog N R 147 args h := by kernel_rfl

/-- lintel/node.free -/
noncomputable def r162 (R : RnK) (N : Nat) (args : List Value) (h : Hs) : An := unC args fun a0 sq0 => enK h fun h0 =>
 after (fun x0 h1 =>
 kFieldA 0 x0 (fun x2 =>
 kLoad x2 h1 (fun x3 =>
 kI64 .eql x3 (Value.int .i64 (.ofNat 0)) (fun x4 =>
 gdT x4 h1 (fun k5 => kFieldA 1 x0 (fun x6 => k5 x6 h1)) (fun x7 h8 =>
 gdT x4 h8 (fun k9 => kLoad x7 h8 (fun x10 => k9 x10 h8)) (fun x11 h12 =>
 gdT x4 h12 (fun k13 => kI64 .eql x11 (Value.int .i64 (.ofNat 0)) (fun x14 => k13 x14 h12)) (fun x15 h16 =>
 after (fun x17 h18 =>
 gdT x17 h18 (fun k19 => kFieldA 2 x0 (fun x20 => k19 x20 h18)) (fun x21 h22 =>
 gdT x17 h22 (fun k23 => kLoad x21 h22 (fun x24 => k23 x24 h22)) (fun x25 h26 =>
 gdT x17 h26 (fun k27 => kI64 .eql x25 (Value.int .i64 (.ofNat 0)) (fun x28 => k27 x28 h26)) (fun x29 h30 =>
 after (fun x31 h32 =>
 gdT x31 h32 (fun k33 => kFieldA 3 x0 (fun x34 => k33 x34 h32)) (fun x35 h36 =>
 gdT x31 h36 (fun k37 => kLoad x35 h36 (fun x38 => k37 x38 h36)) (fun x39 h40 =>
 gdT x31 h40 (fun k41 => kLenV x39 (fun x42 => k41 x42 h40)) (fun x43 h44 =>
 gdT x31 h44 (fun k45 => kI64 .eql x43 (Value.int .i64 (.ofNat 0)) (fun x46 => k45 x46 h44)) (fun x47 h48 =>
 after (fun x49 h50 =>
 clrK h x49 h50) (pickB (.c x47) (.c (Value.bool false)) enE h48 x31)))))) (pickB (.c x29) (.c (Value.bool false)) enE h30 x17))))) (pickB (.c x15) (.c (Value.bool false)) enE h16 x4)))))))) (oBox 130 (.c a0) enE h0)

theorem q162 (R : RnK) (N : Nat) (args : List Value) (h : Hs) : r162 R N args h = callT Tryz.prog N R 162 args h := by kernel_rfl

/-- lintel/node.in -/
noncomputable def r163 (R : RnK) (N : Nat) (args : List Value) (h : Hs) : An := unC args fun a0 sq0 => unC sq0 fun a1 sq1 => unC sq1 fun a2 sq2 => enK h fun h0 =>
 kI64 .geq a0 a1 (fun x0 =>
 gdT x0 h0 (fun k1 => k1 a0 h0) (fun x2 h3 =>
 gdT x0 h3 (fun k4 => k4 a2 h3) (fun x5 h6 =>
 gdT x0 h6 (fun k7 => kI64 .leq x2 x5 (fun x8 => k7 x8 h6)) (fun x9 h10 =>
 after (fun x11 h12 =>
 clrK h x11 h12) (pickB (.c x9) (.c (Value.bool false)) enE h10 x0)))))

theorem q163 (R : RnK) (N : Nat) (args : List Value) (h : Hs) : r163 R N args h = callT Tryz.prog N R 163 args h := by kernel_rfl

/-- lintel/node.placed -/
noncomputable def r165 (R : RnK) (N : Nat) (args : List Value) (h : Hs) : An := unC args fun a0 sq0 => unC sq0 fun a1 sq1 => enK h fun h0 =>
 after (fun x0 h1 =>
 after (fun x2 h3 =>
 kLoads 4 x0 h3 (fun x4 =>
 kCall R 79 [x4] h3 (fun x5 h6 =>
 kExtr x5 0 (fun x7 =>
 kExtr x5 1 (fun x8 =>
 kFieldA 0 x2 (fun x9 =>
 kLoad x9 h6 (fun x10 =>
 kI64 .eql x10 (Value.int .i64 (.ofNat 2)) (fun x11 =>
 gdT x11 h6 (fun k12 => kFieldA 3 x2 (fun x13 => k12 x13 h6)) (fun x14 h15 =>
 gdT x11 h15 (fun k16 => kLoad x14 h15 (fun x17 => k16 x17 h15)) (fun x18 h19 =>
 gdT x11 h19 (fun k20 => k20 x7 h19) (fun x21 h22 =>
 gdT x11 h22 (fun k23 => k23 x8 h22) (fun x24 h25 =>
 gdT x11 h25 (fun k26 => after (k26) (oBuild [(Value.int .i64 (.ofNat 0)), (Value.int .i64 (.ofNat 0))] [(0, 1, .c x21), (1, 1, .c x24)] enE h25)) (fun x27 h28 =>
 gdT x11 h28 (fun k29 => after (k29) (oMkrow 161 2 1 [(Value.int .i64 (.ofNat 0)), (Value.int .i64 (.ofNat 0))] [(0, 2, .c x27)] enE h28)) (fun x30 h31 =>
 gdT x11 h31 (fun k32 => kCall R 176 [x18, x30] h31 (k32)) (fun x33 h34 =>
 after (fun x35 h36 =>
 jn (fun (x38 : Value) (h39 : Hs) =>
 kLoads 4 x0 h39 (fun x40 =>
 kCall R 83 [x40] h39 (fun x41 h42 =>
 kExtr x41 0 (fun x43 =>
 kExtr x41 1 (fun x44 =>
 kFieldA 3 x2 (fun x45 =>
 kLoad x45 h42 (fun x46 =>
 kLenV x46 (fun x47 =>
 jn (fun (x49 x50 x51 x52 x53 x54 x55 x56 x57 x58 x59 x60 : Value) (h61 : Hs) =>
 clrK h (Value.bool true) h61) fun k48 =>
 lpT (T := Value → Value → Value → Value → Value → Value → Value → Value → Value → Value → Value → Value → Hs → An) (fun _ _ _ _ _ _ _ _ _ _ _ _ _ => none) N (fun k62 =>
 fun (x64 x65 x66 x67 x68 x69 x70 x71 x72 x73 x74 x75 : Value) (h76 : Hs) =>
 kI64 .lss x64 x47 (fun x77 =>
 jn (fun (h79 : Hs) =>
 jn (fun (x81 x82 x83 x84 x85 x86 x87 x88 x89 x90 : Value) (h91 : Hs) =>
 kI64 .add x64 (Value.int .i64 (.ofNat 1)) (fun x92 =>
 k62 x92 x77 x81 x82 x83 x84 x85 x86 x87 x88 x89 x90 h91)) fun k80 =>
 kIdxA 2 x46 x64 (fun x93 =>
 kLoads 2 x93 h79 (fun x94 =>
 after (fun x95 h96 =>
 after (fun x97 h98 =>
 kFieldA 1 x95 (fun x99 =>
 kLoad x99 h98 (fun x100 =>
 kI64 .lss x100 (Value.int .i64 (.ofNat 1)) (fun x101 =>
 gdF x101 h98 (fun k102 => kFieldA 0 x95 (fun x103 => k102 x103 h98)) (fun x104 h105 =>
 gdF x101 h105 (fun k106 => kLoad x104 h105 (fun x107 => k106 x107 h105)) (fun x108 h109 =>
 gdF x101 h109 (fun k110 => k110 x43 h109) (fun x111 h112 =>
 gdF x101 h112 (fun k113 => kI64 .lss x108 x111 (fun x114 => k113 x114 h112)) (fun x115 h116 =>
 after (fun x117 h118 =>
 gdF x117 h118 (fun k119 => kFieldA 0 x95 (fun x120 => k119 x120 h118)) (fun x121 h122 =>
 gdF x117 h122 (fun k123 => kLoad x121 h122 (fun x124 => k123 x124 h122)) (fun x125 h126 =>
 gdF x117 h126 (fun k127 => k127 x43 h126) (fun x128 h129 =>
 gdF x117 h129 (fun k130 => kI64 .sub x125 x128 (fun x131 => k130 x131 h129)) (fun x132 h133 =>
 gdF x117 h133 (fun k134 => k134 x44 h133) (fun x135 h136 =>
 gdF x117 h136 (fun k137 => kI64 .geq x132 x135 (fun x138 => k137 x138 h136)) (fun x139 h140 =>
 after (fun x141 h142 =>
 gdF x141 h142 (fun k143 => kFieldA 1 x95 (fun x144 => k143 x144 h142)) (fun x145 h146 =>
 gdF x141 h146 (fun k147 => kLoad x145 h146 (fun x148 => k147 x148 h146)) (fun x149 h150 =>
 gdF x141 h150 (fun k151 => k151 x44 h150) (fun x152 h153 =>
 gdF x141 h153 (fun k154 => kFieldA 0 x95 (fun x155 => k154 x155 h153)) (fun x156 h157 =>
 gdF x141 h157 (fun k158 => kLoad x156 h157 (fun x159 => k158 x159 h157)) (fun x160 h161 =>
 gdF x141 h161 (fun k162 => k162 x43 h161) (fun x163 h164 =>
 gdF x141 h164 (fun k165 => kI64 .sub x160 x163 (fun x166 => k165 x166 h164)) (fun x167 h168 =>
 gdF x141 h168 (fun k169 => kI64 .sub x152 x167 (fun x170 => k169 x170 h168)) (fun x171 h172 =>
 gdF x141 h172 (fun k173 => kI64 .gtr x149 x171 (fun x174 => k173 x174 h172)) (fun x175 h176 =>
 after (fun x177 h178 =>
 jn (fun (x180 : Value) (h181 : Hs) =>
 kFieldA 3 x2 (fun x182 =>
 kLoad x182 h181 (fun x183 =>
 after (fun x184 h185 =>
 kLenV x184 (fun x186 =>
 jn (fun (x188 x189 x190 x191 x192 : Value) (h193 : Hs) =>
 k80 x95 x177 x64 x188 x186 x189 x184 x190 x191 x192 h193) fun k187 =>
 lpT (T := Value → Value → Value → Value → Value → Hs → An) (fun _ _ _ _ _ _ => none) N (fun k194 =>
 fun (x196 x197 x198 x199 x200 : Value) (h201 : Hs) =>
 kI64 .lss x196 x186 (fun x202 =>
 jn (fun (h204 : Hs) =>
 jn (fun (x206 x207 x208 : Value) (h209 : Hs) =>
 kI64 .add x196 (Value.int .i64 (.ofNat 1)) (fun x210 =>
 k194 x210 x202 x206 x207 x208 h209)) fun k205 =>
 kIdxA 2 x184 x196 (fun x211 =>
 kLoads 2 x211 h204 (fun x212 =>
 after (fun x213 h214 =>
 after (fun x215 h216 =>
 kFieldA 0 x95 (fun x217 =>
 kLoad x217 h216 (fun x218 =>
 kFieldA 0 x213 (fun x219 =>
 kLoad x219 h216 (fun x220 =>
 kFieldA 1 x213 (fun x221 =>
 kLoad x221 h216 (fun x222 =>
 kI64 .add x220 x222 (fun x223 =>
 kI64 .lss x218 x223 (fun x224 =>
 gdT x224 h216 (fun k225 => kFieldA 0 x213 (fun x226 => k225 x226 h216)) (fun x227 h228 =>
 gdT x224 h228 (fun k229 => kLoad x227 h228 (fun x230 => k229 x230 h228)) (fun x231 h232 =>
 gdT x224 h232 (fun k233 => kFieldA 0 x95 (fun x234 => k233 x234 h232)) (fun x235 h236 =>
 gdT x224 h236 (fun k237 => kLoad x235 h236 (fun x238 => k237 x238 h236)) (fun x239 h240 =>
 gdT x224 h240 (fun k241 => kFieldA 1 x95 (fun x242 => k241 x242 h240)) (fun x243 h244 =>
 gdT x224 h244 (fun k245 => kLoad x243 h244 (fun x246 => k245 x246 h244)) (fun x247 h248 =>
 gdT x224 h248 (fun k249 => kI64 .add x239 x247 (fun x250 => k249 x250 h248)) (fun x251 h252 =>
 gdT x224 h252 (fun k253 => kI64 .lss x231 x251 (fun x254 => k253 x254 h252)) (fun x255 h256 =>
 after (fun x257 h258 =>
 jn (fun (x260 : Value) (h261 : Hs) =>
 k205 x213 x257 x260 h261) fun k259 =>
 cnd x257
 (clrK h (Value.bool false) h258)
 (k259 x200 h258)) (pickB (.c x255) (.c (Value.bool false)) enE h256 x224)))))))))))))))))) (store1 2 h214 (cellsL x212) (addrOf x213))) (oAlloc 161 [(Value.int .i64 (.ofNat 0)), (Value.int .i64 (.ofNat 0))] enE h204)))) fun k203 =>
 cnd x202
 (k203 h201)
 (k187 x196 x202 x198 x199 x200 h201))) (Value.int .i64 (.ofNat 0)) x71 x73 x74 x180 h185)) (oSlice 2 (.c x183) none (some (.c x64)) none enE h181)))) fun k179 =>
 cnd x177
 (clrK h (Value.bool false) h178)
 (k179 x75 h178)) (pickB (.c (Value.bool true)) (.c x175) enE h176 x141))))))))))) (pickB (.c (Value.bool true)) (.c x139) enE h140 x117)))))))) (pickB (.c (Value.bool true)) (.c x115) enE h116 x101))))))))) (store1 2 h96 (cellsL x94) (addrOf x95))) (oAlloc 161 [(Value.int .i64 (.ofNat 0)), (Value.int .i64 (.ofNat 0))] enE h79)))) fun k78 =>
 cnd x77
 (k78 h76)
 (k48 x64 x77 x66 x67 x68 x69 x70 x71 x72 x73 x74 x75 h76))) (Value.int .i64 (.ofNat 0)) dunno dunno dunno dunno dunno dunno dunno dunno dunno dunno x38 h42)))))))) fun k37 =>
 cnd x35
 (clrK h (Value.bool true) h36)
 (k37 (Value.bool false) h36)) (pickB (.c x33) (.c (Value.bool false)) enE h34 x11)))))))))))))))) (oBox 130 (.c a1) enE h1)) (oBox 28 (.c a0) enE h0)

theorem q165 (R : RnK) (N : Nat) (args : List Value) (h : Hs) : r165 R N args h = callT Tryz.prog N R 165 args h := by kernel_rfl

/-- lintel/runs.counts -/
noncomputable def r168 (R : RnK) (N : Nat) (args : List Value) (h : Hs) : An := unC args fun a0 sq0 => enK h fun h0 =>
 kLenV a0 (fun x0 =>
 jn (fun (x2 x3 x4 x5 x6 : Value) (h7 : Hs) =>
 clrK h x6 h7) fun k1 =>
 lpT (T := Value → Value → Value → Value → Value → Hs → An) (fun _ _ _ _ _ _ => none) N (fun k8 =>
 fun (x10 x11 x12 x13 x14 : Value) (h15 : Hs) =>
 kI64 .lss x10 x0 (fun x16 =>
 jn (fun (h18 : Hs) =>
 jn (fun (x20 x21 x22 : Value) (h23 : Hs) =>
 kI64 .add x10 (Value.int .i64 (.ofNat 1)) (fun x24 =>
 k8 x24 x16 x20 x21 x22 h23)) fun k19 =>
 kIdxA 2 a0 x10 (fun x25 =>
 kLoads 2 x25 h18 (fun x26 =>
 after (fun x27 h28 =>
 after (fun x29 h30 =>
 kFieldA 1 x27 (fun x31 =>
 kLoad x31 h30 (fun x32 =>
 kI64 .geq x32 (Value.int .i64 (.ofNat 1)) (fun x33 =>
 gdT x33 h30 (fun k34 => kFieldA 1 x27 (fun x35 => k34 x35 h30)) (fun x36 h37 =>
 gdT x33 h37 (fun k38 => kLoad x36 h37 (fun x39 => k38 x39 h37)) (fun x40 h41 =>
 gdT x33 h41 (fun k42 => kI64 .leq x40 (Value.int .i64 (.ofNat 1073741824)) (fun x43 => k42 x43 h41)) (fun x44 h45 =>
 after (fun x46 h47 =>
 gdT x46 h47 (fun k48 => kFieldA 0 x27 (fun x49 => k48 x49 h47)) (fun x50 h51 =>
 gdT x46 h51 (fun k52 => kLoad x50 h51 (fun x53 => k52 x53 h51)) (fun x54 h55 =>
 gdT x46 h55 (fun k56 => kI64 .geq x54 (Value.int .i64 (.ofNat 0)) (fun x57 => k56 x57 h55)) (fun x58 h59 =>
 after (fun x60 h61 =>
 gdT x60 h61 (fun k62 => kFieldA 0 x27 (fun x63 => k62 x63 h61)) (fun x64 h65 =>
 gdT x60 h65 (fun k66 => kLoad x64 h65 (fun x67 => k66 x67 h65)) (fun x68 h69 =>
 gdT x60 h69 (fun k70 => kI64 .leq x68 (Value.int .i64 (.ofNat 1073741824)) (fun x71 => k70 x71 h69)) (fun x72 h73 =>
 after (fun x74 h75 =>
 jn (fun (x77 : Value) (h78 : Hs) =>
 k19 x27 x74 x77 h78) fun k76 =>
 cnd x74
 (kLoads 2 x27 h75 (fun x79 =>
 after (fun x80 h81 =>
 after (fun x82 h83 =>
 k76 x82 h83) (app0 161 2 16 h81 x14 x80)) (oMkrow 161 2 1 [(Value.int .i64 (.ofNat 0)), (Value.int .i64 (.ofNat 0))] [(0, 2, .c x79)] enE h75)))
 (k76 x14 h75)) (pickB (.c x72) (.c (Value.bool false)) enE h73 x60))))) (pickB (.c x58) (.c (Value.bool false)) enE h59 x46))))) (pickB (.c x44) (.c (Value.bool false)) enE h45 x33)))))))) (store1 2 h28 (cellsL x26) (addrOf x27))) (oAlloc 161 [(Value.int .i64 (.ofNat 0)), (Value.int .i64 (.ofNat 0))] enE h18)))) fun k17 =>
 cnd x16
 (k17 h15)
 (k1 x10 x16 x12 x13 x14 h15))) (Value.int .i64 (.ofNat 0)) dunno dunno dunno (Value.slice none 0 0) h0)

theorem q168 (R : RnK) (N : Nat) (args : List Value) (h : Hs) : r168 R N args h = callT Tryz.prog N R 168 args h := by kernel_rfl

/-- lintel/slot.Put -/
noncomputable def r171 (R : RnK) (N : Nat) (args : List Value) (h : Hs) : An := unC args fun a0 sq0 => enK h fun h0 =>
 after (fun x0 h1 =>
 kLoads 2 x0 h1 (fun x2 =>
 kCall R 237 [x2] h1 (fun x3 h4 =>
 kNot x3 (fun x5 =>
 jn (fun (x7 : Value) (h8 : Hs) =>
 after (fun x9 h10 =>
 kFieldA 0 x0 (fun x11 =>
 kLoad x11 h10 (fun x12 =>
 kI64 .eql x12 (Value.int .i64 (.ofNat 0)) (fun x13 =>
 jn (fun (x15 : Value) (h16 : Hs) =>
 lwC x9 h16 (fun h17 =>
 kFieldA 0 x0 (fun x18 =>
 kLoad x18 h17 (fun x19 =>
 kToU x19 (fun x20 =>
 kFieldA 1 x0 (fun x21 =>
 kLoad x21 (lowM (cutV x9) h17 h17) (fun x22 =>
 kLenS x22 (fun x23 =>
 kToU x23 (fun x24 =>
 kIdxA 1 x9 (Value.int .i64 (.ofNat 0)) (fun x25 =>
 kStore1 x25 x20 h17 (fun v82 u83 => dPut (fun x26 h27 =>
 kIdxA 1 x9 (Value.int .i64 (.ofNat 1)) (fun x28 =>
 kStore1 x28 x24 h27 (fun v80 u81 => dPut (fun x29 h30 =>
 lwCE x9 h16 h30 (fun h31 =>
 kFieldA 1 x0 (fun x32 =>
 kLoad x32 h31 (fun x33 =>
 kLenS x33 (fun x34 =>
 jn (fun (x36 x37 x38 : Value) (h39 : Hs) =>
 after (fun x40 h41 =>
 kCall R 135 [x40] h41 (fun x42 h43 =>
 kIdxA 1 x9 (Value.int .i64 (.ofNat 7)) (fun x44 =>
 kStore1 x44 x42 h43 (fun x45 h46 =>
 clrK h x9 h46)))) (oSlice 1 (.c x9) none (some (.c (Value.int .i64 (.ofNat 7)))) none enE h39)) fun k35 =>
 lpT (T := Value → Value → Value → Hs → An) (fun _ _ _ _ => none) N (fun k47 =>
 fun (x49 x50 x51 : Value) (h52 : Hs) =>
 kI64 .lss x49 x34 (fun x53 =>
 jn (fun (h55 : Hs) =>
 jn (fun (x57 : Value) (h58 : Hs) =>
 kI64 .add x49 (Value.int .i64 (.ofNat 1)) (fun x59 =>
 k47 x59 x53 x57 h58)) fun k56 =>
 kI64 .quo x49 (Value.int .i64 (.ofNat 8)) (fun x60 =>
 kI64 .add (Value.int .i64 (.ofNat 2)) x60 (fun x61 =>
 kIdxA 1 x9 x61 (fun x62 =>
 kLoad x62 (Hs.mk h55.hp h55.nx h55.nx) (fun x63 =>
 kFieldA 1 x0 (fun x64 =>
 kLoad x64 (Hs.mk h55.hp h55.nx h55.nx) (fun x65 =>
 after (fun v78 u79 => dPut (fun x66 h67 =>
 kToU x66 (fun x68 =>
 kI64 .rem x49 (Value.int .i64 (.ofNat 8)) (fun x69 =>
 kI64 .mul (Value.int .i64 (.ofNat 8)) x69 (fun x70 =>
 kShl x68 x70 (fun x71 =>
 kU64 .or x63 x71 (fun x72 =>
 kIdxA 1 x9 x61 (fun x73 =>
 kStore1 x73 x72 h67 (fun v76 u77 => dPut (fun x74 h75 =>
 k56 x49 h75) v76 (dNext h67 u77 .bar) (andB (dFit h67 u77 .bar) (Nat.ble 0 u77.lo)))))))))) v78 (dNext h55 u79 .blind) (andB (dFit h55 u79 .blind) (Nat.ble 0 u79.lo))) (oIdxS (.c x65) (.c x49) enE (Hs.mk .e h55.nx h55.nx))))))))) fun k54 =>
 cnd x53
 (k54 h52)
 (k35 x49 x53 x51 h52))) (Value.int .i64 (.ofNat 0)) dunno dunno h31))))) v80 (dNext h27 u81 .bar) (andB (dFit h27 u81 .bar) (Nat.ble (cutV x9) u81.lo))))) v82 (dNext h17 u83 .bar) (andB (dFit h17 u83 .bar) (Nat.ble (cutV x9) u83.lo))))))))))))) fun k14 =>
 cnd x13
 (clrK h x9 h10)
 (k14 x7 h10))))) (mkslice1 31 1 8 [(Value.int .u64 (.ofNat 0))] h8 (natOf (Value.int .i64 (.ofNat 8))) (natOf (Value.int .i64 (.ofNat 8))))) fun k6 =>
 cnd x5
 (clrK h (Value.slice none 0 0) h4)
 (k6 (Value.slice none 0 0) h4))))) (oBox 137 (.c a0) enE h0)

theorem q171 (R : RnK) (N : Nat) (args : List Value) (h : Hs) : r171 R N args h = callT Tryz.prog N R 171 args h := by kernel_rfl

/-- slices.Equal[[]lintel/node.Run,lintel/node.Run] -/
noncomputable def r176 (R : RnK) (N : Nat) (args : List Value) (h : Hs) : An := unC args fun a0 sq0 => unC sq0 fun a1 sq1 => enK h fun h0 =>
 kLenV a0 (fun x0 =>
 kLenV a1 (fun x1 =>
 kI64 .neq x0 x1 (fun x2 =>
 jn (fun (x4 : Value) (h5 : Hs) =>
 kLenV a0 (fun x6 =>
 jn (fun (x8 x9 x10 x11 x12 : Value) (h13 : Hs) =>
 clrK h (Value.bool true) h13) fun k7 =>
 lpT (T := Value → Value → Value → Value → Value → Hs → An) (fun _ _ _ _ _ _ => none) N (fun k14 =>
 fun (x16 x17 x18 x19 x20 : Value) (h21 : Hs) =>
 kI64 .lss x16 x6 (fun x22 =>
 jn (fun (h24 : Hs) =>
 jn (fun (x26 x27 x28 : Value) (h29 : Hs) =>
 kI64 .add x16 (Value.int .i64 (.ofNat 1)) (fun x30 =>
 k14 x30 x22 x26 x27 x28 h29)) fun k25 =>
 kIdxA 2 a0 x16 (fun x31 =>
 kLoads 2 x31 (Hs.mk h24.hp h24.nx h24.nx) (fun x32 =>
 kIdxA 2 a1 x16 (fun x33 =>
 kLoads 2 x33 (Hs.mk h24.hp h24.nx h24.nx) (fun x34 =>
 obK (fun x35 =>
 jn (fun (x37 : Value) (h38 : Hs) =>
 k25 x16 x35 x37 h38) fun k36 =>
 cnd x35
 (clrK h (Value.bool false) h24)
 (k36 x20 h24)) (e2 true (qA [.i, .i]) x32 x34)))))) fun k23 =>
 cnd x22
 (k23 h21)
 (k7 x16 x22 x18 x19 x20 h21))) (Value.int .i64 (.ofNat 0)) dunno dunno dunno x4 h5)) fun k3 =>
 cnd x2
 (clrK h (Value.bool false) h0)
 (k3 (Value.bool false) h0))))

theorem q176 (R : RnK) (N : Nat) (args : List Value) (h : Hs) : r176 R N args h = callT Tryz.prog N R 176 args h := by kernel_rfl

/-- lintel/seal.On -/
noncomputable def r205 (R : RnK) (N : Nat) (args : List Value) (h : Hs) : An := unC args fun a0 sq0 => unC sq0 fun a1 sq1 => enK h fun h0 =>
 kLenV a1 (fun x0 =>
 jn (fun (x2 x3 x4 x5 : Value) (h6 : Hs) =>
 clrK h x4 h6) fun k1 =>
 lpT (T := Value → Value → Value → Value → Hs → An) (fun _ _ _ _ _ => none) N (fun k7 =>
 fun (x9 x10 x11 x12 : Value) (h13 : Hs) =>
 kI64 .lss x9 x0 (fun x14 =>
 jn (fun (h16 : Hs) =>
 jn (fun (x18 x19 : Value) (h20 : Hs) =>
 kI64 .add x9 (Value.int .i64 (.ofNat 1)) (fun x21 =>
 k7 x21 x14 x18 x19 h20)) fun k17 =>
 kIdxA 1 a1 x9 (fun x22 =>
 kLoad x22 h16 (fun x23 =>
 kCall R 253 [x11, (Value.int .i64 (.ofNat 9))] h16 (fun x24 h25 =>
 kU64 .xor x24 x23 (fun x26 =>
 k17 x26 x23 h25))))) fun k15 =>
 cnd x14
 (k15 h13)
 (k1 x9 x14 x11 x12 h13))) (Value.int .i64 (.ofNat 0)) dunno a0 dunno h0)

theorem q205 (R : RnK) (N : Nat) (args : List Value) (h : Hs) : r205 R N args h = callT Tryz.prog N R 205 args h := by kernel_rfl

/-- (lintel/span.Span).All -/
noncomputable def r208 (R : RnK) (N : Nat) (args : List Value) (h : Hs) : An := unC args fun a0 sq0 => enK h fun h0 =>
 after (fun x0 h1 =>
 jn (fun (x3 x4 x5 x6 x7 x8 x9 x10 : Value) (h11 : Hs) =>
 clrK h (Value.tuple #[x7, (Value.int .i64 (.ofNat 0))]) h11) fun k2 =>
 lpT (T := Value → Value → Value → Value → Value → Value → Value → Value → Hs → An) (fun _ _ _ _ _ _ _ _ _ => none) N (fun k12 =>
 fun (x14 x15 x16 x17 x18 x19 x20 x21 : Value) (h22 : Hs) =>
 kI64 .quo x14 (Value.int .i64 (.ofNat 8)) (fun x23 =>
 kFieldA 2 x0 (fun x24 =>
 kLoad x24 h22 (fun x25 =>
 kI64 .lss x23 x25 (fun x26 =>
 jn (fun (h28 : Hs) =>
 jn (fun (x30 x31 x32 x33 x34 x35 : Value) (h36 : Hs) =>
 kI64 .add x14 (Value.int .i64 (.ofNat 1)) (fun x37 =>
 k12 x37 x26 x30 x31 x32 x33 x34 x35 h36)) fun k29 =>
 kLoads 3 x0 h28 (fun x38 =>
 kCall R 147 [x38, x14] h28 (fun x39 h40 =>
 kExtr x39 0 (fun x41 =>
 kExtr x39 1 (fun x42 =>
 kI64 .neq x42 (Value.int .i64 (.ofNat 0)) (fun x43 =>
 jn (fun (x45 x46 : Value) (h47 : Hs) =>
 after (fun x48 h49 =>
 after (fun x50 h51 =>
 k29 x42 x43 x50 x41 x45 x46 h51) (app0 31 1 8 h49 x18 x48)) (oMkrow 31 1 1 [(Value.int .u64 (.ofNat 0))] [(0, 1, .c x41)] enE h47)) fun k44 =>
 cnd x43
 (clrK h (Value.tuple #[(Value.slice none 0 0), x42]) h40)
 (k44 x20 x21 h40))))))) fun k27 =>
 cnd x26
 (k27 h22)
 (k2 x14 x26 x16 x17 x18 x19 x20 x21 h22)))))) (Value.int .i64 (.ofNat 0)) dunno dunno dunno (Value.slice none 0 0) dunno (Value.slice none 0 0) (Value.int .i64 (.ofNat 0)) h1) (oBox 113 (.c a0) enE h0)

theorem q208 (R : RnK) (N : Nat) (args : List Value) (h : Hs) : r208 R N args h = callT Tryz.prog N R 208 args h := by kernel_rfl

/-- (lintel/span.Span).place -/
noncomputable def r217 (R : RnK) (N : Nat) (args : List Value) (h : Hs) : An := unC args fun a0 sq0 => unC sq0 fun a1 sq1 => enK h fun h0 =>
 after (fun x0 h1 =>
 kFieldA 0 x0 (fun x2 =>
 kLoad x2 h1 (fun x3 =>
 obK (fun x4 =>
 gdF x4 h1 (fun k5 => k5 a1 h1) (fun x6 h7 =>
 gdF x4 h7 (fun k8 => kI64 .lss x6 (Value.int .i64 (.ofNat 0)) (fun x9 => k8 x9 h7)) (fun x10 h11 =>
 after (fun x12 h13 =>
 gdF x12 h13 (fun k14 => k14 a1 h13) (fun x15 h16 =>
 gdF x12 h16 (fun k17 => kI64 .quo x15 (Value.int .i64 (.ofNat 8)) (fun x18 => k17 x18 h16)) (fun x19 h20 =>
 gdF x12 h20 (fun k21 => kFieldA 2 x0 (fun x22 => k21 x22 h20)) (fun x23 h24 =>
 gdF x12 h24 (fun k25 => kLoad x23 h24 (fun x26 => k25 x26 h24)) (fun x27 h28 =>
 gdF x12 h28 (fun k29 => kI64 .geq x19 x27 (fun x30 => k29 x30 h28)) (fun x31 h32 =>
 after (fun x33 h34 =>
 jn (fun (x36 x37 : Value) (h38 : Hs) =>
 kFieldA 1 x0 (fun x39 =>
 kLoad x39 h38 (fun x40 =>
 kI64 .mul x40 (Value.int .i64 (.ofNat 8)) (fun x41 =>
 kI64 .add x41 a1 (fun x42 =>
 clrK h (Value.tuple #[x42, (Value.bool true)]) h38))))) fun k35 =>
 cnd x33
 (clrK h (Value.tuple #[(Value.int .i64 (.ofNat 0)), (Value.bool false)]) h34)
 (k35 (Value.int .i64 (.ofNat 0)) (Value.bool false) h34)) (pickB (.c (Value.bool true)) (.c x31) enE h32 x12))))))) (pickB (.c (Value.bool true)) (.c x10) enE h11 x4)))) (e2 false qP x3 (Value.pointer none))))) (oBox 113 (.c a0) enE h0)

theorem q217 (R : RnK) (N : Nat) (args : List Value) (h : Hs) : r217 R N args h = callT Tryz.prog N R 217 args h := by kernel_rfl

/-- (*lintel/deed.maker).make -/
noncomputable def r224 (R : RnK) (N : Nat) (args : List Value) (h : Hs) : An := unC args fun a0 sq0 => unC sq0 fun a1 sq1 => enK h fun h0 =>
 jn (fun (x1 x2 x3 x4 x5 x6 x7 x8 x9 x10 : Value) (h11 : Hs) =>
 jn (fun (x13 x14 x15 x16 x17 x18 x19 x20 : Value) (h21 : Hs) =>
 jn (fun (x23 x24 x25 x26 : Value) (h27 : Hs) =>
 kCall R 272 [a0] h27 (fun x28 h29 =>
 clrK h (Value.int .i64 (.ofNat 0)) h29)) fun k22 =>
 lpT (T := Value → Value → Value → Value → Hs → An) (fun _ _ _ _ _ => none) N (fun k30 =>
 fun (x32 x33 x34 x35 : Value) (h36 : Hs) =>
 kI64 .leq x32 a1 (fun x37 =>
 jn (fun (h39 : Hs) =>
 jn (fun (x41 x42 : Value) (h43 : Hs) =>
 kI64 .add x32 (Value.int .i64 (.ofNat 1)) (fun x44 =>
 k30 x44 x37 x41 x42 h43)) fun k40 =>
 kNil a0 (fun x45 =>
 kFieldA 3 x45 (fun x46 =>
 kLoad x46 h39 (fun x47 =>
 after (fun x48 h49 =>
 kExtr x48 0 (fun x50 =>
 kExtr x48 1 (fun x51 =>
 after (fun x52 h53 =>
 after (fun x54 h55 =>
 kNot x51 (fun x56 =>
 gdT x56 h55 (fun k57 => k57 a0 h55) (fun x58 h59 =>
 gdT x56 h59 (fun k60 => kNil x58 (fun x61 => k60 x61 h59)) (fun x62 h63 =>
 gdT x56 h63 (fun k64 => kFieldA 2 x62 (fun x65 => k64 x65 h63)) (fun x66 h67 =>
 gdT x56 h67 (fun k68 => kLoad x66 h67 (fun x69 => k68 x69 h67)) (fun x70 h71 =>
 gdT x56 h71 (fun k72 => k72 x32 h71) (fun x73 h74 =>
 gdT x56 h74 (fun k75 => after (k75) (ret1 h74 (lk1 true h74 (Value.agg #[(Value.int .i64 (.ofNat 0)), (Value.int .i64 (.ofNat 0)), (Value.slice none 0 0), (Value.slice none 0 0)]) false x73 x70))) (fun x76 h77 =>
 gdT x56 h77 (fun k78 => kField 1 x76 (fun x79 => k78 x79 h77)) (fun x80 h81 =>
 gdT x56 h81 (fun k82 => kI64 .neq x80 (Value.int .i64 (.ofNat 0)) (fun x83 => k82 x83 h81)) (fun x84 h85 =>
 after (fun x86 h87 =>
 jn (fun (h89 : Hs) =>
 k40 x51 x86 h89) fun k88 =>
 cnd x86
 (kNil a0 (fun x90 =>
 kFieldA 0 x90 (fun x91 =>
 kLoad x91 h87 (fun x92 =>
 kCall R 271 [x92, x32] h87 (fun x93 h94 =>
 k88 h94)))))
 (k88 h87)) (pickB (.c x84) (.c (Value.bool false)) enE h85 x56))))))))))) (store1 4 h53 (cellsL x50) (addrOf x52))) (oAlloc 84 [(Value.int .i64 (.ofNat 0)), (Value.int .i64 (.ofNat 0)), (Value.slice none 0 0), (Value.slice none 0 0)] enE h49)))) (ret1 h39 (lk1 true h39 (Value.agg #[(Value.int .i64 (.ofNat 0)), (Value.int .i64 (.ofNat 0)), (Value.slice none 0 0), (Value.slice none 0 0)]) true x32 x47)))))) fun k38 =>
 cnd x37
 (k38 h36)
 (k22 x32 x37 x34 x35 h36))) (Value.int .i64 (.ofNat 1)) dunno dunno dunno h21) fun k12 =>
 lpT (T := Value → Value → Value → Value → Value → Value → Value → Value → Hs → An) (fun _ _ _ _ _ _ _ _ _ => none) N (fun k95 =>
 fun (x97 x98 x99 x100 x101 x102 x103 x104 : Value) (h105 : Hs) =>
 kI64 .leq x97 a1 (fun x106 =>
 jn (fun (h108 : Hs) =>
 jn (fun (x110 x111 x112 x113 x114 x115 : Value) (h116 : Hs) =>
 kI64 .add x97 (Value.int .i64 (.ofNat 1)) (fun x117 =>
 k95 x117 x106 x110 x111 x112 x113 x114 x115 h116)) fun k109 =>
 kNil a0 (fun x118 =>
 kFieldA 3 x118 (fun x119 =>
 kLoad x119 h108 (fun x120 =>
 after (fun x121 h122 =>
 kExtr x121 0 (fun x123 =>
 kExtr x121 1 (fun x124 =>
 after (fun x125 h126 =>
 after (fun x127 h128 =>
 gdT x124 h128 (fun k129 => kFieldA 1 x125 (fun x130 => k129 x130 h128)) (fun x131 h132 =>
 gdT x124 h132 (fun k133 => kLoad x131 h132 (fun x134 => k133 x134 h132)) (fun x135 h136 =>
 gdT x124 h136 (fun k137 => kI64 .eql x135 (Value.int .i64 (.ofNat 2)) (fun x138 => k137 x138 h136)) (fun x139 h140 =>
 after (fun x141 h142 =>
 jn (fun (x144 x145 x146 : Value) (h147 : Hs) =>
 k109 x124 x125 x141 x144 x145 x146 h147) fun k143 =>
 cnd x141
 (kNil a0 (fun x148 =>
 kFieldA 2 x148 (fun x149 =>
 kLoad x149 (Hs.mk h142.hp h142.nx h142.nx) (fun x150 =>
 after (fun v164 u165 => dPut (fun x151 h152 =>
 kField 3 x151 (fun x153 =>
 kFieldA 3 x125 (fun x154 =>
 kLoad x154 (dHidS .light [true, false, false, false, false, false, false, false, false, false] [none, none, some (h142.nx, h152.nx), none, none, none, none, none, none, none] h152) (fun x155 =>
 kCall R 270 [a0, x97, x153, x155] h152 (fun v162 u163 => dPut (fun x156 h157 =>
 kI64 .neq x156 (Value.int .i64 (.ofNat 0)) (fun x158 =>
 jn (fun (x160 : Value) (h161 : Hs) =>
 k143 x156 x158 x160 h161) fun k159 =>
 cnd x158
 (clrK h x156 h157)
 (k159 x104 h157))) v162 (dNext h152 u163 .bar) (andB (dFit h152 u163 .bar) (Nat.ble 0 u163.lo))))))) v164 (dNext h142 u165 .light) (andB (dFit h142 u165 .light) (Nat.ble 0 u165.lo))) (ret1 (Hs.mk h142.hp h142.nx h142.nx) (lk1 true (Hs.mk h142.hp h142.nx h142.nx) (Value.agg #[(Value.int .i64 (.ofNat 0)), (Value.int .i64 (.ofNat 0)), (Value.slice none 0 0), (Value.slice none 0 0)]) false x97 x150))))))
 (k143 x102 x103 x104 h142)) (pickB (.c x139) (.c (Value.bool false)) enE h140 x124))))) (store1 4 h126 (cellsL x123) (addrOf x125))) (oAlloc 84 [(Value.int .i64 (.ofNat 0)), (Value.int .i64 (.ofNat 0)), (Value.slice none 0 0), (Value.slice none 0 0)] enE h122)))) (ret1 h108 (lk1 true h108 (Value.agg #[(Value.int .i64 (.ofNat 0)), (Value.int .i64 (.ofNat 0)), (Value.slice none 0 0), (Value.slice none 0 0)]) true x97 x120)))))) fun k107 =>
 cnd x106
 (k107 h105)
 (k12 x97 x106 x99 x100 x101 x102 x103 x104 h105))) (Value.int .i64 (.ofNat 1)) dunno dunno dunno dunno dunno dunno x10 h11) fun k0 =>
 lpT (T := Value → Value → Value → Value → Value → Value → Value → Value → Value → Value → Hs → An) (fun _ _ _ _ _ _ _ _ _ _ _ => none) N (fun k166 =>
 fun (x168 x169 x170 x171 x172 x173 x174 x175 x176 x177 : Value) (h178 : Hs) =>
 kI64 .leq x168 a1 (fun x179 =>
 jn (fun (h181 : Hs) =>
 jn (fun (x183 x184 x185 x186 x187 x188 x189 x190 : Value) (h191 : Hs) =>
 kI64 .add x168 (Value.int .i64 (.ofNat 1)) (fun x192 =>
 k166 x192 x179 x183 x184 x185 x186 x187 x188 x189 x190 h191)) fun k182 =>
 kNil a0 (fun x193 =>
 kFieldA 2 x193 (fun x194 =>
 kLoad x194 h181 (fun x195 =>
 after (fun x196 h197 =>
 kExtr x196 0 (fun x198 =>
 kExtr x196 1 (fun x199 =>
 after (fun x200 h201 =>
 after (fun x202 h203 =>
 kNil a0 (fun x204 =>
 kFieldA 3 x204 (fun x205 =>
 kLoad x205 h203 (fun x206 =>
 after (fun x207 h208 =>
 kExtr x207 0 (fun x209 =>
 kExtr x207 1 (fun x210 =>
 after (fun x211 h212 =>
 after (fun x213 h214 =>
 gdT x210 h214 (fun k215 => kFieldA 2 x200 (fun x216 => k215 x216 h214)) (fun x217 h218 =>
 gdT x210 h218 (fun k219 => kLoad x217 h218 (fun x220 => k219 x220 h218)) (fun x221 h222 =>
 gdT x210 h222 (fun k223 => kFieldA 2 x211 (fun x224 => k223 x224 h222)) (fun x225 h226 =>
 gdT x210 h226 (fun k227 => kLoad x225 h226 (fun x228 => k227 x228 h226)) (fun x229 h230 =>
 gdT x210 h230 (fun k231 => kCall R 268 [x221, x229] h230 (k231)) (fun x232 h233 =>
 gdT x210 h233 (fun k234 => kNot x232 (fun x235 => k234 x235 h233)) (fun x236 h237 =>
 after (fun x238 h239 =>
 gdF x238 h239 (fun k240 => k240 x210 h239) (fun x241 h242 =>
 gdF x238 h242 (fun k243 => k243 x241 h242) (fun x244 h245 =>
 gdT x244 h245 (fun k246 => k246 x199 h245) (fun x247 h248 =>
 gdT x244 h248 (fun k249 => kNot x247 (fun x250 => k249 x250 h248)) (fun x251 h252 =>
 gdF x238 h252 (fun k253 => after (k253) (pickB (.c x251) (.c (Value.bool false)) enE h252 x244)) (fun x254 h255 =>
 after (fun x256 h257 =>
 jn (fun (x259 x260 x261 : Value) (h262 : Hs) =>
 k182 x210 x200 x211 x199 x256 x259 x260 x261 h262) fun k258 =>
 cnd x256
 (kLoads 4 x211 h257 (fun x263 =>
 kCall R 269 [a0, x263, x199] h257 (fun x264 h265 =>
 kI64 .neq x264 (Value.int .i64 (.ofNat 0)) (fun x266 =>
 jn (fun (x268 : Value) (h269 : Hs) =>
 k258 x264 x266 x268 h269) fun k267 =>
 cnd x266
 (clrK h x264 h265)
 (k267 x177 h265)))))
 (k258 x175 x176 x177 h257)) (pickB (.c (Value.bool true)) (.c x254) enE h255 x238))))))) (pickB (.c x236) (.c (Value.bool false)) enE h237 x210)))))))) (store1 4 h212 (cellsL x209) (addrOf x211))) (oAlloc 84 [(Value.int .i64 (.ofNat 0)), (Value.int .i64 (.ofNat 0)), (Value.slice none 0 0), (Value.slice none 0 0)] enE h208)))) (ret1 h203 (lk1 true h203 (Value.agg #[(Value.int .i64 (.ofNat 0)), (Value.int .i64 (.ofNat 0)), (Value.slice none 0 0), (Value.slice none 0 0)]) true x168 x206)))))) (store1 4 h201 (cellsL x198) (addrOf x200))) (oAlloc 84 [(Value.int .i64 (.ofNat 0)), (Value.int .i64 (.ofNat 0)), (Value.slice none 0 0), (Value.slice none 0 0)] enE h197)))) (ret1 h181 (lk1 true h181 (Value.agg #[(Value.int .i64 (.ofNat 0)), (Value.int .i64 (.ofNat 0)), (Value.slice none 0 0), (Value.slice none 0 0)]) true x168 x195)))))) fun k180 =>
 cnd x179
 (k180 h178)
 (k0 x168 x179 x170 x171 x172 x173 x174 x175 x176 x177 h178))) (Value.int .i64 (.ofNat 1)) dunno dunno dunno dunno dunno dunno dunno dunno (Value.int .i64 (.ofNat 0)) h0

theorem q224 (R : RnK) (N : Nat) (args : List Value) (h : Hs) : r224 R N args h = callT Tryz.prog N R 224 args h := by kernel_rfl

/-- (*lintel/edit.Edit).Writes -/
noncomputable def r225 (R : RnK) (N : Nat) (args : List Value) (h : Hs) : An := unC args fun a0 sq0 => enK h fun h0 =>
 kNil a0 (fun x0 =>
 kFieldA 5 x0 (fun x1 =>
 kLoads 5 x1 (Hs.mk h0.hp h0.nx h0.nx) (fun x2 =>
 kCall R 126 [x2] (Hs.mk h0.hp h0.nx h0.nx) (fun v121 u122 => dPut (fun x3 h4 =>
 kNil a0 (fun x5 =>
 kFieldA 0 x5 (fun x6 =>
 kLoads 5 x6 (dHidS .light [true, true, true, false, false, false, false, false] [none, none, none, some (h0.nx, h4.nx), none, none, none, none] h4) (fun x7 =>
 kCall R 126 [x7] h4 (fun v119 u120 => dPut (fun x8 h9 =>
 after (fun v117 u118 => dPut (fun x10 h11 =>
 after (fun v115 u116 => dPut (fun x12 h13 =>
 kStore1 x10 x3 h13 (fun v113 u114 => dPut (fun x14 h15 =>
 kStore1 x12 x8 h15 (fun v111 u112 => dPut (fun x16 h17 =>
 kNil a0 (fun x18 =>
 kFieldA 0 x18 (fun x19 =>
 kFieldA 4 x19 (fun x20 =>
 kLoad x20 h17 (fun x21 =>
 kLenV x21 (fun x22 =>
 jn (fun (x24 x25 x26 x27 x28 x29 x30 x31 x32 : Value) (h33 : Hs) =>
 clrK h (Value.tuple #[x29, x32]) h33) fun k23 =>
 lpT (T := Value → Value → Value → Value → Value → Value → Value → Value → Value → Hs → An) (fun _ _ _ _ _ _ _ _ _ _ => none) N (fun k34 =>
 fun (x36 x37 x38 x39 x40 x41 x42 x43 x44 : Value) (h45 : Hs) =>
 kI64 .lss x36 x22 (fun x46 =>
 jn (fun (h48 : Hs) =>
 jn (fun (x50 x51 x52 x53 x54 x55 x56 : Value) (h57 : Hs) =>
 kI64 .add x36 (Value.int .i64 (.ofNat 1)) (fun x58 =>
 k34 x58 x46 x50 x51 x52 x53 x54 x55 x56 h57)) fun k49 =>
 kIdxA 1 x21 x36 (fun x59 =>
 kLoad x59 h48 (fun x60 =>
 kI64 .quo x36 (Value.int .i64 (.ofNat 8)) (fun x61 =>
 jn (fun (x63 x64 x65 x66 : Value) (h67 : Hs) =>
 k49 x36 x61 x63 x64 x60 x65 x66 h67) fun k62 =>
 kLoads 1 x10 h48 (fun x68 =>
 kCall R 127 [x68, x61] h48 (fun x69 h70 =>
 kNot x69 (fun x71 =>
 gdT x71 h70 (fun k72 => kLoads 1 x12 h70 (fun x73 => k72 x73 h70)) (fun x74 h75 =>
 gdT x71 h75 (fun k76 => k76 x61 h75) (fun x77 h78 =>
 gdT x71 h78 (fun k79 => kCall R 127 [x74, x77] h78 (k79)) (fun x80 h81 =>
 after (fun x82 h83 =>
 jn (fun (x85 x86 x87 : Value) (h88 : Hs) =>
 k62 x82 x85 x86 x87 h88) fun k84 =>
 cnd x82
 (after (fun x89 h90 =>
 after (fun x91 h92 =>
 after (fun x93 h94 =>
 k84 x93 x43 x44 h94) (app0 205 2 16 h92 x41 x91)) (oMkrow 205 2 1 [(Value.int .i64 (.ofNat 0)), (Value.int .u64 (.ofNat 0))] [(0, 2, .c x89)] enE h90)) (oBuild [(Value.int .i64 (.ofNat 0)), (Value.int .u64 (.ofNat 0))] [(0, 1, .c x36), (1, 1, .c x60)] enE h83))
 (kNil a0 (fun x95 =>
 kFieldA 5 x95 (fun x96 =>
 kFieldA 4 x96 (fun x97 =>
 kLoad x97 h83 (fun x98 =>
 kIdxA 1 x98 x36 (fun x99 =>
 kLoad x99 h83 (fun x100 =>
 kU64 .neq x100 x60 (fun x101 =>
 jn (fun (x103 : Value) (h104 : Hs) =>
 k84 x41 x101 x103 h104) fun k102 =>
 cnd x101
 (after (fun x105 h106 =>
 after (fun x107 h108 =>
 after (fun x109 h110 =>
 k102 x109 h110) (app0 205 2 16 h108 x44 x107)) (oMkrow 205 2 1 [(Value.int .i64 (.ofNat 0)), (Value.int .u64 (.ofNat 0))] [(0, 2, .c x105)] enE h106)) (oBuild [(Value.int .i64 (.ofNat 0)), (Value.int .u64 (.ofNat 0))] [(0, 1, .c x36), (1, 1, .c x60)] enE h83))
 (k102 x44 h83)))))))))) (pickB (.c x80) (.c (Value.bool false)) enE h81 x71))))))))))) fun k47 =>
 cnd x46
 (k47 h45)
 (k23 x36 x46 x38 x39 x40 x41 x42 x43 x44 h45))) (Value.int .i64 (.ofNat 0)) dunno dunno dunno dunno (Value.slice none 0 0) dunno dunno (Value.slice none 0 0) h17)))))) v111 (dNext h15 u112 .bar) (andB (dFit h15 u112 .bar) (Nat.ble 0 u112.lo)))) v113 (dNext h13 u114 .bar) (andB (dFit h13 u114 .bar) (Nat.ble 0 u114.lo)))) v115 (dNext h11 u116 .make) (andB (dFit h11 u116 .make) (Nat.ble 0 u116.lo))) (oAlloc 163 [(Value.slice none 0 0)] enE (Hs.mk .e h11.nx h11.nx))) v117 (dNext h9 u118 .make) (andB (dFit h9 u118 .make) (Nat.ble 0 u118.lo))) (oAlloc 163 [(Value.slice none 0 0)] enE (Hs.mk .e h9.nx h9.nx))) v119 (dNext h4 u120 .bar) (andB (dFit h4 u120 .bar) (Nat.ble 0 u120.lo))))))) v121 (dNext h0 u122 .light) (andB (dFit h0 u122 .light) (Nat.ble 0 u122.lo))))))

theorem q225 (R : RnK) (N : Nat) (args : List Value) (h : Hs) : r225 R N args h = callT Tryz.prog N R 225 args h := by kernel_rfl

/-- math/bits.RotateLeft64 -/
noncomputable def r253 (R : RnK) (N : Nat) (args : List Value) (h : Hs) : An := unC args fun a0 sq0 => unC sq0 fun a1 sq1 => enK h fun h0 =>
 kToU a1 (fun x0 =>
 kU64 .and x0 (Value.int .u64 (.ofNat 63)) (fun x1 =>
 kShl a0 x1 (fun x2 =>
 kU64 .sub (Value.int .u64 (.ofNat 64)) x1 (fun x3 =>
 kShr a0 x3 (fun x4 =>
 kU64 .or x2 x4 (fun x5 =>
 clrK h x5 h0))))))

theorem q253 (R : RnK) (N : Nat) (args : List Value) (h : Hs) : r253 R N args h = callT Tryz.prog N R 253 args h := by kernel_rfl

noncomputable def entries : List (Nat × FnK) := [(23, r23), (27, r27), (28, r28), (35, r35), (36, r36), (43, r43), (45, r45), (54, r54), (55, r55), (56, r56), (58, r58), (62, r62), (64, r64), (66, r66), (67, r67), (77, r77), (79, r79), (81, r81), (85, r85), (97, r97), (98, r98), (104, r104), (105, r105), (106, r106), (112, r112), (113, r113), (114, r114), (115, r115), (116, r116), (118, r118), (124, r124), (127, r127), (134, r134), (136, r136), (137, r137), (138, r138), (147, r147), (162, r162), (163, r163), (165, r165), (168, r168), (171, r171), (176, r176), (205, r205), (208, r208), (217, r217), (224, r224), (225, r225), (253, r253)]
theorem entries_ok : AllOk Tryz.prog entries := ⟨q23, q27, q28, q35, q36, q43, q45, q54, q55, q56, q58, q62, q64, q66, q67, q77, q79, q81, q85, q97, q98, q104, q105, q106, q112, q113, q114, q115, q116, q118, q124, q127, q134, q136, q137, q138, q147, q162, q163, q165, q168, q171, q176, q205, q208, q217, q224, q225, q253, trivial⟩
end Go.Proofs.YtkopenelppndpaaGreatDoor.wardKnown
