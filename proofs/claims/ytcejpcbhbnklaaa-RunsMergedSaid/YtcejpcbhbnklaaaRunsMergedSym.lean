/- What the functions of 'RunsMerged' compute where their arguments are not known: by induction over their loops. -/
import Derived.Test.YtcejpcbhbnklaaaGevAr
import Derived.Test.YtcejpcbhbnklaaaRunsMergedTab
namespace Go.Proofs.Ytcejpcbhbnklaaa.runsMerged
open Go Go.Gev
set_option linter.unusedVariables false

noncomputable def g13_0 (a0 : Value) (k1 : Value → Value → Value → Value → Value → Hs → An) (x0 : Value) : (Value → Value → Value → Value → Value → Hs → An) → Value → Value → Value → Value → Value → Hs → An :=
 (fun k8 =>
 fun (x10 x11 x12 x13 x14 : Value) (h15 : Hs) =>
 kI64 .lss x10 x0 (fun x16 =>
 jn (fun (h18 : Hs) =>
 jn (fun (x20 x21 x22 : Value) (h23 : Hs) =>
 kI64 .add x10 (Value.int .i64 (.ofNat 1)) (fun x24 =>
 k8 x24 x16 x20 x21 x22 h23)) fun k19 =>
 kIdxA 2 a0 x10 (fun x25 =>
 kLoads 2 x25 h18 (fun x26 =>
 after (fun x27 h28 =>
 after (fun x29 h30 =>
 kFieldA 1 x27 (fun x31 =>
 kLoad x31 h30 (fun x32 =>
 kI64 .geq x32 (Value.int .i64 (.ofNat 1)) (fun x33 =>
 gdT x33 h30 (fun k34 => kFieldA 1 x27 (fun x35 => k34 x35 h30)) (fun x36 h37 =>
 gdT x33 h37 (fun k38 => kLoad x36 h37 (fun x39 => k38 x39 h37)) (fun x40 h41 =>
 gdT x33 h41 (fun k42 => kI64 .leq x40 (Value.int .i64 (.ofNat 1073741824)) (fun x43 => k42 x43 h41)) (fun x44 h45 =>
 after (fun x46 h47 =>
 gdT x46 h47 (fun k48 => kFieldA 0 x27 (fun x49 => k48 x49 h47)) (fun x50 h51 =>
 gdT x46 h51 (fun k52 => kLoad x50 h51 (fun x53 => k52 x53 h51)) (fun x54 h55 =>
 gdT x46 h55 (fun k56 => kI64 .geq x54 (Value.int .i64 (.ofNat 0)) (fun x57 => k56 x57 h55)) (fun x58 h59 =>
 after (fun x60 h61 =>
 gdT x60 h61 (fun k62 => kFieldA 0 x27 (fun x63 => k62 x63 h61)) (fun x64 h65 =>
 gdT x60 h65 (fun k66 => kLoad x64 h65 (fun x67 => k66 x67 h65)) (fun x68 h69 =>
 gdT x60 h69 (fun k70 => kI64 .leq x68 (Value.int .i64 (.ofNat 1073741824)) (fun x71 => k70 x71 h69)) (fun x72 h73 =>
 after (fun x74 h75 =>
 jn (fun (x77 : Value) (h78 : Hs) =>
 k19 x27 x74 x77 h78) fun k76 =>
 cnd x74
 (kLoads 2 x27 h75 (fun x79 =>
 after (fun x80 h81 =>
 after (fun x82 h83 =>
 k76 x82 h83) (app0 25 2 16 h81 x14 x80)) (oMkrow 25 2 1 [(Value.int .i64 (.ofNat 0)), (Value.int .i64 (.ofNat 0))] [(0, 2, .c x79)] enE h75)))
 (k76 x14 h75)) (pickB (.c x72) (.c (Value.bool false)) enE h73 x60))))) (pickB (.c x58) (.c (Value.bool false)) enE h59 x46))))) (pickB (.c x44) (.c (Value.bool false)) enE h45 x33)))))))) (store1 2 h28 (cellsL x26) (addrOf x27))) (oAlloc 25 [(Value.int .i64 (.ofNat 0)), (Value.int .i64 (.ofNat 0))] enE h18)))) fun k17 =>
 cnd x16
 (k17 h15)
 (k1 x10 x16 x12 x13 x14 h15)))

noncomputable def s13 (R : RnK) (N : Nat) (args : List Value) (h : Hs) : An := unC args fun a0 sq0 => enK h fun h0 =>
 kLenV a0 (fun x0 =>
 jn (fun (x2 x3 x4 x5 x6 : Value) (h7 : Hs) =>
 clrK h x6 h7) fun k1 =>
 lpT (T := Value → Value → Value → Value → Value → Hs → An) (fun _ _ _ _ _ _ => none) N (g13_0 a0 k1 x0) (Value.int .i64 (.ofNat 0)) dunno dunno dunno (Value.slice none 0 0) h0)

theorem s13_eq (R : RnK) (N : Nat) (args : List Value) (h : Hs) : r13 R N args h = s13 R N args h := rfl

noncomputable def g7_0 (k3 : Value → Value → Value → Value → Hs → An) (x0 : Value) (x2 : Value) : (Value → Value → Value → Value → Hs → An) → Value → Value → Value → Value → Hs → An :=
 (fun k9 =>
 fun (x11 x12 x13 x14 : Value) (h15 : Hs) =>
 kI64 .lss x11 x2 (fun x16 =>
 jn (fun (h18 : Hs) =>
 jn (fun (x20 x21 : Value) (h22 : Hs) =>
 kI64 .add x11 (Value.int .i64 (.ofNat 1)) (fun x23 =>
 k9 x23 x16 x20 x21 h22)) fun k19 =>
 kIdxA 2 x0 x11 (fun x24 =>
 kLoads 2 x24 h18 (fun x25 =>
 after (fun x26 h27 =>
 after (fun x28 h29 =>
 kFieldA 1 x26 (fun x30 =>
 kLoad x30 h29 (fun x31 =>
 kI64 .add x13 x31 (fun x32 =>
 k19 x32 x26 h29)))) (store1 2 h27 (cellsL x25) (addrOf x26))) (oAlloc 25 [(Value.int .i64 (.ofNat 0)), (Value.int .i64 (.ofNat 0))] enE h18)))) fun k17 =>
 cnd x16
 (k17 h15)
 (k3 x11 x16 x13 x14 h15)))

noncomputable def s7 (R : RnK) (N : Nat) (args : List Value) (h : Hs) : An := unC args fun a0 sq0 => enK h fun h0 =>
 kCall R 13 [a0] h0 (fun x0 h1 =>
 kLenV x0 (fun x2 =>
 jn (fun (x4 x5 x6 x7 : Value) (h8 : Hs) =>
 clrK h x6 h8) fun k3 =>
 lpT (T := Value → Value → Value → Value → Hs → An) (fun _ _ _ _ _ => none) N (g7_0 k3 x0 x2) (Value.int .i64 (.ofNat 0)) dunno (Value.int .i64 (.ofNat 0)) dunno h1))

theorem s7_eq (R : RnK) (N : Nat) (args : List Value) (h : Hs) : r7 R N args h = s7 R N args h := rfl

noncomputable def g8_0 (k3 : Value → Value → Value → Value → Value → Value → Hs → An) (x0 : Value) (x2 : Value) : (Value → Value → Value → Value → Value → Value → Hs → An) → Value → Value → Value → Value → Value → Value → Hs → An :=
 (fun k11 =>
 fun (x13 x14 x15 x16 x17 x18 : Value) (h19 : Hs) =>
 kI64 .lss x13 x2 (fun x20 =>
 jn (fun (h22 : Hs) =>
 jn (fun (x24 x25 x26 x27 : Value) (h28 : Hs) =>
 kI64 .add x13 (Value.int .i64 (.ofNat 1)) (fun x29 =>
 k11 x29 x20 x24 x25 x26 x27 h28)) fun k23 =>
 kIdxA 2 x0 x13 (fun x30 =>
 kLoads 2 x30 h22 (fun x31 =>
 after (fun x32 h33 =>
 after (fun x34 h35 =>
 kLenV x15 (fun x36 =>
 kI64 .sub x36 (Value.int .i64 (.ofNat 1)) (fun x37 =>
 kI64 .geq x37 (Value.int .i64 (.ofNat 0)) (fun x38 =>
 gdT x38 h35 (fun k39 => k39 x15 h35) (fun x40 _ =>
 gdT x38 h35 (fun k42 => k42 x37 h35) (fun x43 _ =>
 gdT x38 h35 (fun k45 => kIdxA 2 x40 x43 (fun x46 => k45 x46 h35)) (fun x47 _ =>
 gdT x38 h35 (fun k49 => kFieldA 0 x47 (fun x50 => k49 x50 h35)) (fun x51 _ =>
 gdT x38 h35 (fun k53 => kLoad x51 (Hs.mk h35.hp h35.nx h35.nx) (fun x54 => k53 x54 h35)) (fun x55 _ =>
 gdT x38 h35 (fun k57 => k57 x15 h35) (fun x58 _ =>
 gdT x38 h35 (fun k60 => k60 x37 h35) (fun x61 _ =>
 gdT x38 h35 (fun k63 => kIdxA 2 x58 x61 (fun x64 => k63 x64 h35)) (fun x65 _ =>
 gdT x38 h35 (fun k67 => kFieldA 1 x65 (fun x68 => k67 x68 h35)) (fun x69 _ =>
 gdT x38 h35 (fun k71 => kLoad x69 (Hs.mk h35.hp h35.nx h35.nx) (fun x72 => k71 x72 h35)) (fun x73 _ =>
 gdT x38 h35 (fun k75 => kI64 .add x55 x73 (fun x76 => k75 x76 h35)) (fun x77 _ =>
 gdT x38 h35 (fun k79 => kFieldA 0 x32 (fun x80 => k79 x80 h35)) (fun x81 _ =>
 gdT x38 h35 (fun k83 => kLoad x81 (Hs.mk h35.hp h35.nx h35.nx) (fun x84 => k83 x84 h35)) (fun x85 _ =>
 gdT x38 h35 (fun k87 => kI64 .eql x77 x85 (fun x88 => k87 x88 h35)) (fun x89 _ =>
 after (fun v113 u114 => dPut (fun x91 h92 =>
 jn (fun (x94 : Value) (h95 : Hs) =>
 k23 x94 x37 x32 x91 h95) fun k93 =>
 cnd x91
 (kIdxA 2 x15 x37 (fun x96 =>
 kFieldA 1 x96 (fun x97 =>
 kLoad x97 (Hs.mk h92.hp h92.nx h92.nx) (fun x98 =>
 kFieldA 1 x32 (fun x99 =>
 kLoad x99 (Hs.mk h92.hp h92.nx h92.nx) (fun x100 =>
 kI64 .add x98 x100 (fun x101 =>
 kIdxA 2 x15 x37 (fun x102 =>
 kFieldA 1 x102 (fun x103 =>
 kStore1 x103 x101 h92 (fun v106 u107 => dPut (fun x104 h105 =>
 k93 x15 h105) v106 (dNext h92 u107 .bar) (andB (dFit h92 u107 .bar) (Nat.ble 0 u107.lo))))))))))))
 (kLoads 2 x32 h92 (fun x108 =>
 after (fun x109 h110 =>
 after (fun x111 h112 =>
 k93 x111 h112) (app0 25 2 16 h110 x15 x109)) (oMkrow 25 2 1 [(Value.int .i64 (.ofNat 0)), (Value.int .i64 (.ofNat 0))] [(0, 2, .c x108)] enE h92)))) v113 (dNext h35 u114 .blind) (andB (dFit h35 u114 .blind) (Nat.ble 0 u114.lo))) (pickB (.c x89) (.c (Value.bool false)) enE (Hs.mk .e h35.nx h35.nx) x38))))))))))))))))))) (store1 2 h33 (cellsL x31) (addrOf x32))) (oAlloc 25 [(Value.int .i64 (.ofNat 0)), (Value.int .i64 (.ofNat 0))] enE h22)))) fun k21 =>
 cnd x20
 (k21 h19)
 (k3 x13 x20 x15 x16 x17 x18 h19)))

noncomputable def s8 (R : RnK) (N : Nat) (args : List Value) (h : Hs) : An := unC args fun a0 sq0 => enK h fun h0 =>
 kCall R 13 [a0] h0 (fun x0 h1 =>
 kLenV x0 (fun x2 =>
 jn (fun (x4 x5 x6 x7 x8 x9 : Value) (h10 : Hs) =>
 clrK h x6 h10) fun k3 =>
 lpT (T := Value → Value → Value → Value → Value → Value → Hs → An) (fun _ _ _ _ _ _ _ => none) N (g8_0 k3 x0 x2) (Value.int .i64 (.ofNat 0)) dunno (Value.slice none 0 0) dunno dunno dunno h1))

theorem s8_eq (R : RnK) (N : Nat) (args : List Value) (h : Hs) : r8 R N args h = s8 R N args h := rfl

noncomputable def g9_0 (h : Hs) (k4 : Value → Value → Value → Value → Hs → An) (x0 : Value) : (Value → Value → Value → Value → Hs → An) → Value → Value → Value → Value → Hs → An :=
 (fun k10 =>
 fun (x12 x13 x14 x15 : Value) (h16 : Hs) =>
 kLenV x0 (fun x17 =>
 kI64 .lss x12 x17 (fun x18 =>
 jn (fun (h20 : Hs) =>
 jn (fun (x22 x23 : Value) (h24 : Hs) =>
 kI64 .add x12 (Value.int .i64 (.ofNat 1)) (fun x25 =>
 k10 x25 x18 x22 x23 h24)) fun k21 =>
 kI64 .sub x12 (Value.int .i64 (.ofNat 1)) (fun x26 =>
 kIdxA 2 x0 x26 (fun x27 =>
 kFieldA 0 x27 (fun x28 =>
 kLoad x28 (Hs.mk h20.hp h20.nx h20.nx) (fun x29 =>
 kI64 .sub x12 (Value.int .i64 (.ofNat 1)) (fun x30 =>
 kIdxA 2 x0 x30 (fun x31 =>
 kFieldA 1 x31 (fun x32 =>
 kLoad x32 (Hs.mk h20.hp h20.nx h20.nx) (fun x33 =>
 kI64 .add x29 x33 (fun x34 =>
 kIdxA 2 x0 x12 (fun x35 =>
 kFieldA 0 x35 (fun x36 =>
 kLoad x36 (Hs.mk h20.hp h20.nx h20.nx) (fun x37 =>
 kI64 .gtr x34 x37 (fun x38 =>
 jn (fun (x40 : Value) (h41 : Hs) =>
 k21 x38 x40 h41) fun k39 =>
 cnd x38
 (clrK h (Value.bool false) h20)
 (k39 x15 h20))))))))))))))) fun k19 =>
 cnd x18
 (k19 h16)
 (k4 x12 x18 x14 x15 h16))))

noncomputable def s9 (R : RnK) (N : Nat) (args : List Value) (h : Hs) : An := unC args fun a0 sq0 => enK h fun h0 =>
 kCall R 13 [a0] h0 (fun x0 h1 =>
 kCall R 14 [x0, (Value.func (.func 15) #[] #[])] h1 (fun x2 h3 =>
 jn (fun (x5 x6 x7 x8 : Value) (h9 : Hs) =>
 clrK h (Value.bool true) h9) fun k4 =>
 lpT (T := Value → Value → Value → Value → Hs → An) (fun _ _ _ _ _ => none) N (g9_0 h k4 x0) (Value.int .i64 (.ofNat 1)) dunno dunno (Value.bool false) h3))

theorem s9_eq (R : RnK) (N : Nat) (args : List Value) (h : Hs) : r9 R N args h = s9 R N args h := rfl

noncomputable def g10_0 (a0 : Value) (a1 : Value) (h : Hs) (k6 : Value → Value → Value → Value → Hs → An) : (Value → Value → Value → Value → Hs → An) → Value → Value → Value → Value → Hs → An :=
 (fun k12 =>
 fun (x14 x15 x16 x17 : Value) (h18 : Hs) =>
 kLenV a0 (fun x19 =>
 kI64 .lss x14 x19 (fun x20 =>
 jn (fun (h22 : Hs) =>
 jn (fun (x24 x25 : Value) (h26 : Hs) =>
 kI64 .add x14 (Value.int .i64 (.ofNat 1)) (fun x27 =>
 k12 x27 x20 x24 x25 h26)) fun k23 =>
 kIdxA 2 a0 x14 (fun x28 =>
 kLoads 2 x28 (Hs.mk h22.hp h22.nx h22.nx) (fun x29 =>
 kIdxA 2 a1 x14 (fun x30 =>
 kLoads 2 x30 (Hs.mk h22.hp h22.nx h22.nx) (fun x31 =>
 obK (fun x32 =>
 jn (fun (x34 : Value) (h35 : Hs) =>
 k23 x32 x34 h35) fun k33 =>
 cnd x32
 (clrK h (Value.bool false) h22)
 (k33 x17 h22)) (e2 true (qA [.i, .i]) x29 x31)))))) fun k21 =>
 cnd x20
 (k21 h18)
 (k6 x14 x20 x16 x17 h18))))

noncomputable def s10 (R : RnK) (N : Nat) (args : List Value) (h : Hs) : An := unC args fun a0 sq0 => unC sq0 fun a1 sq1 => enK h fun h0 =>
 kLenV a0 (fun x0 =>
 kLenV a1 (fun x1 =>
 kI64 .neq x0 x1 (fun x2 =>
 jn (fun (x4 : Value) (h5 : Hs) =>
 jn (fun (x7 x8 x9 x10 : Value) (h11 : Hs) =>
 clrK h (Value.bool true) h11) fun k6 =>
 lpT (T := Value → Value → Value → Value → Hs → An) (fun _ _ _ _ _ => none) N (g10_0 a0 a1 h k6) (Value.int .i64 (.ofNat 0)) dunno dunno x4 h5) fun k3 =>
 cnd x2
 (clrK h (Value.bool false) h0)
 (k3 (Value.bool false) h0))))

theorem s10_eq (R : RnK) (N : Nat) (args : List Value) (h : Hs) : r10 R N args h = s10 R N args h := rfl

noncomputable def g11_0 (a0 : Value) (k0 : Value → Value → Value → Hs → An) : (Value → Value → Value → Hs → An) → Value → Value → Value → Hs → An :=
 (fun k5 =>
 fun (x7 x8 x9 : Value) (h10 : Hs) =>
 kLenV a0 (fun x11 =>
 kI64 .lss x7 x11 (fun x12 =>
 jn (fun (h14 : Hs) =>
 jn (fun (x16 : Value) (h17 : Hs) =>
 kI64 .add x7 (Value.int .i64 (.ofNat 1)) (fun x18 =>
 k5 x18 x12 x16 h17)) fun k15 =>
 kIdxA 2 a0 x7 (fun x19 =>
 kFieldA 0 x19 (fun x20 =>
 kLoad x20 (Hs.mk h14.hp h14.nx h14.nx) (fun x21 =>
 kIdxA 2 a0 x7 (fun x22 =>
 kFieldA 1 x22 (fun x23 =>
 kLoad x23 (Hs.mk h14.hp h14.nx h14.nx) (fun x24 =>
 after (fun v35 u36 => dPut (fun x25 h26 =>
 after (fun v33 u34 => dPut (fun x27 h28 =>
 after (fun v31 u32 => dPut (fun x29 h30 =>
 k15 x29 h30) v31 (dNext h28 u32 .bar) (andB (dFit h28 u32 .bar) (Nat.ble 0 u32.lo))) (app0 37 2 16 h28 x9 x27)) v33 (dNext h26 u34 .bar) (andB (dFit h26 u34 .bar) (Nat.ble 0 u34.lo))) (oMkrow 37 2 1 [(Value.int .i64 (.ofNat 0)), (Value.int .i64 (.ofNat 0))] [(0, 2, .c x25)] enE h26)) v35 (dNext h14 u36 .blind) (andB (dFit h14 u36 .blind) (Nat.ble 0 u36.lo))) (oBuild [(Value.int .i64 (.ofNat 0)), (Value.int .i64 (.ofNat 0))] [(0, 1, .c x21), (1, 1, .c x24)] enE (Hs.mk .e h14.nx h14.nx))))))))) fun k13 =>
 cnd x12
 (k13 h10)
 (k0 x7 x12 x9 h10))))

noncomputable def s11 (R : RnK) (N : Nat) (args : List Value) (h : Hs) : An := unC args fun a0 sq0 => enK h fun h0 =>
 jn (fun (x1 x2 x3 : Value) (h4 : Hs) =>
 clrK h x3 h4) fun k0 =>
 lpT (T := Value → Value → Value → Hs → An) (fun _ _ _ _ => none) N (g11_0 a0 k0) (Value.int .i64 (.ofNat 0)) dunno (Value.slice none 0 0) h0

theorem s11_eq (R : RnK) (N : Nat) (args : List Value) (h : Hs) : r11 R N args h = s11 R N args h := rfl

noncomputable def s14 (R : RnK) (N : Nat) (args : List Value) (h : Hs) : An := unC args fun a0 sq0 => unC sq0 fun a1 sq1 => enK h fun h0 =>
 kLenV a0 (fun x0 =>
 kToU x0 (fun x1 =>
 kCall R 18 [x1] h0 (fun x2 h3 =>
 kCall R 17 [a0, (Value.int .i64 (.ofNat 0)), x0, x2, a1] h3 (fun x4 h5 =>
 clrK h (Value.tuple #[]) h5))))

theorem s14_eq (R : RnK) (N : Nat) (args : List Value) (h : Hs) : r14 R N args h = s14 R N args h := rfl

noncomputable def s15 (R : RnK) (N : Nat) (args : List Value) (h : Hs) : An := unC args fun a0 sq0 => unC sq0 fun a1 sq1 => enK h fun h0 =>
 after (fun x0 h1 =>
 after (fun x2 h3 =>
 kFieldA 0 x0 (fun x4 =>
 kLoad x4 h3 (fun x5 =>
 kFieldA 0 x2 (fun x6 =>
 kLoad x6 h3 (fun x7 =>
 kI64 .sub x5 x7 (fun x8 =>
 clrK h x8 h3)))))) (oBox 25 (.c a1) enE h1)) (oBox 25 (.c a0) enE h0)

theorem s15_eq (R : RnK) (N : Nat) (args : List Value) (h : Hs) : r15 R N args h = s15 R N args h := rfl

noncomputable def g17_0 (R : RnK) (a0 : Value) (a4 : Value) (h : Hs) : (Value → Value → Value → Value → Value → Value → Value → Value → Value → Value → Value → Value → Value → Value → Value → Value → Value → Value → Value → Value → Value → Value → Hs → An) → Value → Value → Value → Value → Value → Value → Value → Value → Value → Value → Value → Value → Value → Value → Value → Value → Value → Value → Value → Value → Value → Value → Hs → An :=
 (fun k24 =>
 fun (x26 x27 x28 x29 x30 x31 x32 x33 x34 x35 x36 x37 x38 x39 x40 x41 x42 x43 x44 x45 x46 x47 : Value) (h48 : Hs) =>
 jn (fun (x50 x51 x52 x53 x54 x55 x56 x57 x58 x59 x60 x61 x62 x63 x64 x65 x66 x67 x68 x69 x70 x71 : Value) (h72 : Hs) =>
 k24 x50 x51 x52 x53 x54 x55 x56 x57 x58 x59 x60 x61 x62 x63 x64 x65 x66 x67 x68 x69 x70 x71 h72) fun k49 =>
 kI64 .sub x26 x27 (fun x73 =>
 kI64 .leq x73 (Value.int .i64 (.ofNat 12)) (fun x74 =>
 jn (fun (h76 : Hs) =>
 kI64 .eql x30 (Value.int .i64 (.ofNat 0)) (fun x77 =>
 jn (fun (h79 : Hs) =>
 kNot x32 (fun x80 =>
 jn (fun (x82 : Value) (h83 : Hs) =>
 kCall R 23 [a0, x27, x26, a4] h83 (fun x84 h85 =>
 kExtr x84 0 (fun x86 =>
 kExtr x84 1 (fun x87 =>
 kI64 .eql x87 (Value.int .i64 (.ofNat 2)) (fun x88 =>
 jn (fun (x90 x91 : Value) (h92 : Hs) =>
 gdT x32 h92 (fun k93 => k93 x37 h92) (fun x94 h95 =>
 after (fun x96 h97 =>
 gdT x96 h97 (fun k98 => k98 x90 h97) (fun x99 h100 =>
 gdT x96 h100 (fun k101 => kI64 .eql x99 (Value.int .i64 (.ofNat 1)) (fun x102 => k101 x102 h100)) (fun x103 h104 =>
 after (fun x105 h106 =>
 jn (fun (x108 : Value) (h109 : Hs) =>
 kI64 .gtr x27 (Value.int .i64 (.ofNat 0)) (fun x110 =>
 gdT x110 h109 (fun k111 => k111 a4 h109) (fun x112 _ =>
 gdT x110 h109 (fun k114 => k114 a0 h109) (fun x115 _ =>
 gdT x110 h109 (fun k117 => k117 x27 h109) (fun x118 _ =>
 gdT x110 h109 (fun k120 => kI64 .sub x118 (Value.int .i64 (.ofNat 1)) (fun x121 => k120 x121 h109)) (fun x122 _ =>
 gdT x110 h109 (fun k124 => kIdxA 2 x115 x122 (fun x125 => k124 x125 h109)) (fun x126 _ =>
 gdT x110 h109 (fun k128 => kLoads 2 x126 (Hs.mk h109.hp h109.nx h109.nx) (fun x129 => k128 x129 h109)) (fun x130 _ =>
 gdT x110 h109 (fun k132 => k132 a0 h109) (fun x133 _ =>
 gdT x110 h109 (fun k135 => k135 x91 h109) (fun x136 _ =>
 gdT x110 h109 (fun k138 => kIdxA 2 x133 x136 (fun x139 => k138 x139 h109)) (fun x140 _ =>
 gdT x110 h109 (fun k142 => kLoads 2 x140 (Hs.mk h109.hp h109.nx h109.nx) (fun x143 => k142 x143 h109)) (fun x144 _ =>
 gdT x110 h109 (fun k146 => isVal (fun v147 u148 => dPut k146 v147 (dNext h109 u148 .bar) (andB (dFit h109 u148 .bar) (Nat.ble 0 u148.lo))) (callV (toRn R) [x130, x144] h109 x112)) (fun x149 h150 =>
 gdT x110 h150 (fun k151 => kI64 .lss x149 (Value.int .i64 (.ofNat 0)) (fun x152 => k151 x152 h150)) (fun x153 _ =>
 gdT x110 h150 (fun k155 => kNot x153 (fun x156 => k155 x156 h150)) (fun x157 _ =>
 after (fun v188 u189 => dPut (fun x159 h160 =>
 jn (fun (x162 x163 : Value) (h164 : Hs) =>
 kCall R 27 [a0, x162, x26, x91, a4] h164 (fun x165 h166 =>
 kExtr x165 0 (fun x167 =>
 kExtr x165 1 (fun x168 =>
 kI64 .sub x167 x162 (fun x169 =>
 kI64 .sub x26 x167 (fun x170 =>
 kI64 .quo x73 (Value.int .i64 (.ofNat 8)) (fun x171 =>
 kI64 .lss x169 x170 (fun x172 =>
 jn (fun (x174 x175 x176 : Value) (h177 : Hs) =>
 k49 x174 x175 x73 x74 x82 x77 x176 x80 x90 x88 x91 x168 x105 x108 x159 x163 x168 x167 x169 x170 x172 x171 h177) fun k173 =>
 cnd x172
 (kI64 .geq x169 x171 (fun x178 =>
 kCall R 17 [a0, x162, x167, x82, a4] h166 (fun x179 h180 =>
 kI64 .add x167 (Value.int .i64 (.ofNat 1)) (fun x181 =>
 k173 x26 x181 x178 h180))))
 (kI64 .geq x170 x171 (fun x182 =>
 kI64 .add x167 (Value.int .i64 (.ofNat 1)) (fun x183 =>
 kCall R 17 [a0, x183, x26, x82, a4] h166 (fun x184 h185 =>
 k173 x167 x162 x182 h185)))))))))))) fun k161 =>
 cnd x159
 (kCall R 26 [a0, x27, x26, x91, a4] h160 (fun x186 h187 =>
 k49 x26 x186 x73 x74 x82 x77 x32 x80 x90 x88 x91 x37 x105 x108 x159 x186 x42 x43 x44 x45 x46 x47 h187))
 (k161 x27 x41 h160)) v188 (dNext h150 u189 .blind) (andB (dFit h150 u189 .blind) (Nat.ble 0 u189.lo))) (pickB (.c x157) (.c (Value.bool false)) enE (Hs.mk .e h150.nx h150.nx) x110)))))))))))))))) fun k107 =>
 cnd x105
 (kCall R 25 [a0, x27, x26, a4] h106 (fun x190 h191 =>
 jn (fun (h193 : Hs) =>
 k107 x190 h193) fun k192 =>
 cnd x190
 (clrK h (Value.tuple #[]) h191)
 (k192 h191)))
 (k107 x39 h106)) (pickB (.c x103) (.c (Value.bool false)) enE h104 x96)))) (pickB (.c x94) (.c (Value.bool false)) enE h95 x32))) fun k89 =>
 cnd x88
 (kCall R 24 [a0, x27, x26, a4] h85 (fun x194 h195 =>
 kI64 .sub x26 (Value.int .i64 (.ofNat 1)) (fun x196 =>
 kI64 .sub x86 x27 (fun x197 =>
 kI64 .sub x196 x197 (fun x198 =>
 k89 (Value.int .i64 (.ofNat 1)) x198 h195)))))
 (k89 x87 x86 h85)))))) fun k81 =>
 cnd x80
 (kCall R 22 [a0, x27, x26, a4] h79 (fun x199 h200 =>
 kI64 .sub x30 (Value.int .i64 (.ofNat 1)) (fun x201 =>
 k81 x201 h200)))
 (k81 x30 h79))) fun k78 =>
 cnd x77
 (kCall R 21 [a0, x27, x26, a4] h76 (fun x202 h203 =>
 clrK h (Value.tuple #[]) h203))
 (k78 h76))) fun k75 =>
 cnd x74
 (kCall R 20 [a0, x27, x26, a4] h48 (fun x204 h205 =>
 clrK h (Value.tuple #[]) h205))
 (k75 h48))))

noncomputable def s17 (R : RnK) (N : Nat) (args : List Value) (h : Hs) : An := unC args fun a0 sq0 => unC sq0 fun a1 sq1 => unC sq1 fun a2 sq2 => unC sq2 fun a3 sq3 => unC sq3 fun a4 sq4 => enK h fun h0 =>
 jn (fun (x1 x2 x3 x4 x5 x6 x7 x8 x9 x10 x11 x12 x13 x14 x15 x16 x17 x18 x19 x20 x21 x22 : Value) (h23 : Hs) =>
 clrK h (Value.tuple #[]) h23) fun k0 =>
 lpT (T := Value → Value → Value → Value → Value → Value → Value → Value → Value → Value → Value → Value → Value → Value → Value → Value → Value → Value → Value → Value → Value → Value → Hs → An) (fun _ _ _ _ _ _ _ _ _ _ _ _ _ _ _ _ _ _ _ _ _ _ _ => none) N (g17_0 R a0 a4 h) a2 a1 dunno dunno a3 dunno (Value.bool true) dunno dunno dunno dunno (Value.bool true) dunno dunno dunno dunno dunno dunno dunno dunno dunno dunno h0

theorem s17_eq (R : RnK) (N : Nat) (args : List Value) (h : Hs) : r17 R N args h = s17 R N args h := rfl

noncomputable def s18 (R : RnK) (N : Nat) (args : List Value) (h : Hs) : An := unC args fun a0 sq0 => enK h fun h0 =>
 jn (fun (x1 : Value) (h2 : Hs) =>
 kCall R 29 [a0] h2 (fun x3 h4 =>
 clrK h x3 h4)) fun k0 =>
 cnd (Value.bool false)
 (obK (fun x5 =>
 kCall R 28 [x5] h0 (fun x6 h7 =>
 clrK h x6 h7)) (convI1 .u32 a0))
 (k0 (Value.int .i64 (.ofNat 0)) h0)

theorem s18_eq (R : RnK) (N : Nat) (args : List Value) (h : Hs) : r18 R N args h = s18 R N args h := rfl

noncomputable def g20_1 (R : RnK) (a0 : Value) (a1 : Value) (a3 : Value) (k22 : Value → Value → Hs → An) : (Value → Value → Hs → An) → Value → Value → Hs → An :=
 (fun k26 =>
 fun (x28 x29 : Value) (h30 : Hs) =>
 kI64 .gtr x28 a1 (fun x31 =>
 gdT x31 h30 (fun k32 => k32 a3 h30) (fun x33 _ =>
 gdT x31 h30 (fun k35 => k35 a0 h30) (fun x36 _ =>
 gdT x31 h30 (fun k38 => k38 x28 h30) (fun x39 _ =>
 gdT x31 h30 (fun k41 => kIdxA 2 x36 x39 (fun x42 => k41 x42 h30)) (fun x43 _ =>
 gdT x31 h30 (fun k45 => kLoads 2 x43 (Hs.mk h30.hp h30.nx h30.nx) (fun x46 => k45 x46 h30)) (fun x47 _ =>
 gdT x31 h30 (fun k49 => k49 a0 h30) (fun x50 _ =>
 gdT x31 h30 (fun k52 => k52 x28 h30) (fun x53 _ =>
 gdT x31 h30 (fun k55 => kI64 .sub x53 (Value.int .i64 (.ofNat 1)) (fun x56 => k55 x56 h30)) (fun x57 _ =>
 gdT x31 h30 (fun k59 => kIdxA 2 x50 x57 (fun x60 => k59 x60 h30)) (fun x61 _ =>
 gdT x31 h30 (fun k63 => kLoads 2 x61 (Hs.mk h30.hp h30.nx h30.nx) (fun x64 => k63 x64 h30)) (fun x65 _ =>
 gdT x31 h30 (fun k67 => isVal (fun v68 u69 => dPut k67 v68 (dNext h30 u69 .bar) (andB (dFit h30 u69 .bar) (Nat.ble 0 u69.lo))) (callV (toRn R) [x47, x65] h30 x33)) (fun x70 h71 =>
 gdT x31 h71 (fun k72 => kI64 .lss x70 (Value.int .i64 (.ofNat 0)) (fun x73 => k72 x73 h71)) (fun x74 _ =>
 after (fun v99 u100 => dPut (fun x76 h77 =>
 jn (fun (h79 : Hs) =>
 jn (fun (h81 : Hs) =>
 kI64 .sub x28 (Value.int .i64 (.ofNat 1)) (fun x82 =>
 k26 x82 x76 h81)) fun k80 =>
 kI64 .sub x28 (Value.int .i64 (.ofNat 1)) (fun x83 =>
 kI64 .sub x28 (Value.int .i64 (.ofNat 1)) (fun x84 =>
 kIdxA 2 a0 x84 (fun x85 =>
 kLoads 2 x85 (Hs.mk h79.hp h79.nx h79.nx) (fun x86 =>
 kIdxA 2 a0 x28 (fun x87 =>
 kLoads 2 x87 (Hs.mk h79.hp h79.nx h79.nx) (fun x88 =>
 kIdxA 2 a0 x28 (fun x89 =>
 after (fun v97 u98 => dPut (fun x90 h91 =>
 kIdxA 2 a0 x83 (fun x92 =>
 after (fun v95 u96 => dPut (fun x93 h94 =>
 k80 h94) v95 (dNext h91 u96 .bar) (andB (dFit h91 u96 .bar) (Nat.ble 0 u96.lo))) (store1 2 h91 (cellsL x88) (addrOf x92)))) v97 (dNext h79 u98 .bar) (andB (dFit h79 u98 .bar) (Nat.ble 0 u98.lo))) (store1 2 h79 (cellsL x86) (addrOf x89)))))))))) fun k78 =>
 cnd x76
 (k78 h77)
 (k22 x28 x76 h77)) v99 (dNext h71 u100 .blind) (andB (dFit h71 u100 .blind) (Nat.ble 0 u100.lo))) (pickB (.c x74) (.c (Value.bool false)) enE (Hs.mk .e h71.nx h71.nx) x31)))))))))))))))

noncomputable def g20_0 (R : RnK) (N : Nat) (a0 : Value) (a1 : Value) (a2 : Value) (a3 : Value) (k1 : Value → Value → Value → Value → Hs → An) : (Value → Value → Value → Value → Hs → An) → Value → Value → Value → Value → Hs → An :=
 (fun k7 =>
 fun (x9 x10 x11 x12 : Value) (h13 : Hs) =>
 kI64 .lss x9 a2 (fun x14 =>
 jn (fun (h16 : Hs) =>
 jn (fun (x18 x19 : Value) (h20 : Hs) =>
 kI64 .add x9 (Value.int .i64 (.ofNat 1)) (fun x21 =>
 k7 x21 x14 x18 x19 h20)) fun k17 =>
 jn (fun (x23 x24 : Value) (h25 : Hs) =>
 k17 x23 x24 h25) fun k22 =>
 lpT (T := Value → Value → Hs → An) (fun _ _ _ => none) N (g20_1 R a0 a1 a3 k22) x9 x12 h16) fun k15 =>
 cnd x14
 (k15 h13)
 (k1 x9 x14 x11 x12 h13)))

noncomputable def s20 (R : RnK) (N : Nat) (args : List Value) (h : Hs) : An := unC args fun a0 sq0 => unC sq0 fun a1 sq1 => unC sq1 fun a2 sq2 => unC sq2 fun a3 sq3 => enK h fun h0 =>
 kI64 .add a1 (Value.int .i64 (.ofNat 1)) (fun x0 =>
 jn (fun (x2 x3 x4 x5 : Value) (h6 : Hs) =>
 clrK h (Value.tuple #[]) h6) fun k1 =>
 lpT (T := Value → Value → Value → Value → Hs → An) (fun _ _ _ _ _ => none) N (g20_0 R N a0 a1 a2 a3 k1) x0 dunno dunno dunno h0)

theorem s20_eq (R : RnK) (N : Nat) (args : List Value) (h : Hs) : r20 R N args h = s20 R N args h := rfl

noncomputable def s23 (R : RnK) (N : Nat) (args : List Value) (h : Hs) : An := unC args fun a0 sq0 => unC sq0 fun a1 sq1 => unC sq1 fun a2 sq2 => unC sq2 fun a3 sq3 => enK h fun h0 =>
 kI64 .sub a2 a1 (fun x0 =>
 after (fun x1 h2 =>
 kI64 .quo x0 (Value.int .i64 (.ofNat 4)) (fun x3 =>
 kI64 .mul x3 (Value.int .i64 (.ofNat 1)) (fun x4 =>
 kI64 .add a1 x4 (fun x5 =>
 kI64 .quo x0 (Value.int .i64 (.ofNat 4)) (fun x6 =>
 kI64 .mul x6 (Value.int .i64 (.ofNat 2)) (fun x7 =>
 kI64 .add a1 x7 (fun x8 =>
 kI64 .quo x0 (Value.int .i64 (.ofNat 4)) (fun x9 =>
 kI64 .mul x9 (Value.int .i64 (.ofNat 3)) (fun x10 =>
 kI64 .add a1 x10 (fun x11 =>
 kI64 .geq x0 (Value.int .i64 (.ofNat 8)) (fun x12 =>
 jn (fun (x14 x15 x16 x17 : Value) (h18 : Hs) =>
 kLoad x1 h18 (fun x19 =>
 jn (fun (x21 x22 x23 x24 : Value) (h25 : Hs) =>
 clrK h (Value.tuple #[x23, x24]) h25) fun k20 =>
 kI64 .eql x19 (Value.int .i64 (.ofNat 0)) (fun x26 =>
 jn (fun (x28 x29 x30 : Value) (h31 : Hs) =>
 k20 x26 x28 x29 x30 h31) fun k27 =>
 cnd x26
 (clrK h (Value.tuple #[x16, (Value.int .i64 (.ofNat 1))]) h18)
 (kI64 .eql x19 (Value.int .i64 (.ofNat 12)) (fun x32 =>
 jn (fun (x34 x35 : Value) (h36 : Hs) =>
 k27 x32 x34 x35 h36) fun k33 =>
 cnd x32
 (clrK h (Value.tuple #[x16, (Value.int .i64 (.ofNat 2))]) h18)
 (clrK h (Value.tuple #[x16, (Value.int .i64 (.ofNat 0))]) h18)))))) fun k13 =>
 cnd x12
 (kI64 .geq x0 (Value.int .i64 (.ofNat 50)) (fun x37 =>
 jn (fun (x39 x40 x41 : Value) (h42 : Hs) =>
 kCall R 34 [a0, x39, x40, x41, x1, a3] h42 (fun x43 h44 =>
 k13 x37 x39 x43 x41 h44)) fun k38 =>
 cnd x37
 (kCall R 33 [a0, x5, x1, a3] h2 (fun x45 h46 =>
 kCall R 33 [a0, x8, x1, a3] h46 (fun x47 h48 =>
 kCall R 33 [a0, x11, x1, a3] h48 (fun x49 h50 =>
 k38 x45 x47 x49 h50))))
 (k38 x5 x8 x11 h2)))
 (k13 dunno x5 x8 x11 h2)))))))))))) (oAlloc 3 [(Value.int .i64 (.ofNat 0))] enE h0))

theorem s23_eq (R : RnK) (N : Nat) (args : List Value) (h : Hs) : r23 R N args h = s23 R N args h := rfl

noncomputable def g25_3 (R : RnK) (a0 : Value) (a2 : Value) (a3 : Value) (k55 : Value → Value → Hs → An) : (Value → Value → Hs → An) → Value → Value → Hs → An :=
 (fun k194 =>
 fun (x196 x197 : Value) (h198 : Hs) =>
 kI64 .lss x196 a2 (fun x199 =>
 gdT x199 h198 (fun k200 => k200 a3 h198) (fun x201 _ =>
 gdT x199 h198 (fun k203 => k203 a0 h198) (fun x204 _ =>
 gdT x199 h198 (fun k206 => k206 x196 h198) (fun x207 _ =>
 gdT x199 h198 (fun k209 => kIdxA 2 x204 x207 (fun x210 => k209 x210 h198)) (fun x211 _ =>
 gdT x199 h198 (fun k213 => kLoads 2 x211 (Hs.mk h198.hp h198.nx h198.nx) (fun x214 => k213 x214 h198)) (fun x215 _ =>
 gdT x199 h198 (fun k217 => k217 a0 h198) (fun x218 _ =>
 gdT x199 h198 (fun k220 => k220 x196 h198) (fun x221 _ =>
 gdT x199 h198 (fun k223 => kI64 .sub x221 (Value.int .i64 (.ofNat 1)) (fun x224 => k223 x224 h198)) (fun x225 _ =>
 gdT x199 h198 (fun k227 => kIdxA 2 x218 x225 (fun x228 => k227 x228 h198)) (fun x229 _ =>
 gdT x199 h198 (fun k231 => kLoads 2 x229 (Hs.mk h198.hp h198.nx h198.nx) (fun x232 => k231 x232 h198)) (fun x233 _ =>
 gdT x199 h198 (fun k235 => isVal (fun v236 u237 => dPut k235 v236 (dNext h198 u237 .bar) (andB (dFit h198 u237 .bar) (Nat.ble 0 u237.lo))) (callV (toRn R) [x215, x233] h198 x201)) (fun x238 h239 =>
 gdT x199 h239 (fun k240 => kI64 .lss x238 (Value.int .i64 (.ofNat 0)) (fun x241 => k240 x241 h239)) (fun x242 _ =>
 gdT x199 h239 (fun k244 => kNot x242 (fun x245 => k244 x245 h239)) (fun x246 _ =>
 after (fun v256 u257 => dPut (fun x248 h249 =>
 jn (fun (h251 : Hs) =>
 jn (fun (x253 : Value) (h254 : Hs) =>
 k194 x253 x248 h254) fun k252 =>
 kI64 .add x196 (Value.int .i64 (.ofNat 1)) (fun x255 =>
 k252 x255 h251)) fun k250 =>
 cnd x248
 (k250 h249)
 (k55 x196 x248 h249)) v256 (dNext h239 u257 .blind) (andB (dFit h239 u257 .blind) (Nat.ble 0 u257.lo))) (pickB (.c x246) (.c (Value.bool false)) enE (Hs.mk .e h239.nx h239.nx) x199))))))))))))))))

noncomputable def g25_2 (R : RnK) (a0 : Value) (a3 : Value) (k143 : Value → Value → Value → Hs → An) : (Value → Value → Value → Hs → An) → Value → Value → Value → Hs → An :=
 (fun k148 =>
 fun (x150 x151 x152 : Value) (h153 : Hs) =>
 kI64 .geq x150 (Value.int .i64 (.ofNat 1)) (fun x154 =>
 jn (fun (h156 : Hs) =>
 jn (fun (x158 : Value) (h159 : Hs) =>
 kI64 .sub x150 (Value.int .i64 (.ofNat 1)) (fun x160 =>
 k148 x160 x154 x158 h159)) fun k157 =>
 kIdxA 2 a0 x150 (fun x161 =>
 kLoads 2 x161 (Hs.mk h156.hp h156.nx h156.nx) (fun x162 =>
 kI64 .sub x150 (Value.int .i64 (.ofNat 1)) (fun x163 =>
 kIdxA 2 a0 x163 (fun x164 =>
 kLoads 2 x164 (Hs.mk h156.hp h156.nx h156.nx) (fun x165 =>
 isVal (fun v188 u189 => dPut (fun x166 h167 =>
 kI64 .lss x166 (Value.int .i64 (.ofNat 0)) (fun x168 =>
 kNot x168 (fun x169 =>
 jn (fun (h171 : Hs) =>
 kI64 .sub x150 (Value.int .i64 (.ofNat 1)) (fun x172 =>
 kI64 .sub x150 (Value.int .i64 (.ofNat 1)) (fun x173 =>
 kIdxA 2 a0 x173 (fun x174 =>
 kLoads 2 x174 (Hs.mk h171.hp h171.nx h171.nx) (fun x175 =>
 kIdxA 2 a0 x150 (fun x176 =>
 kLoads 2 x176 (Hs.mk h171.hp h171.nx h171.nx) (fun x177 =>
 kIdxA 2 a0 x150 (fun x178 =>
 after (fun v186 u187 => dPut (fun x179 h180 =>
 kIdxA 2 a0 x172 (fun x181 =>
 after (fun v184 u185 => dPut (fun x182 h183 =>
 k157 x169 h183) v184 (dNext h180 u185 .bar) (andB (dFit h180 u185 .bar) (Nat.ble 0 u185.lo))) (store1 2 h180 (cellsL x177) (addrOf x181)))) v186 (dNext h171 u187 .bar) (andB (dFit h171 u187 .bar) (Nat.ble 0 u187.lo))) (store1 2 h171 (cellsL x175) (addrOf x178)))))))))) fun k170 =>
 cnd x169
 (k143 x150 x154 x169 h167)
 (k170 h167)))) v188 (dNext h156 u189 .bar) (andB (dFit h156 u189 .bar) (Nat.ble 0 u189.lo))) (callV (toRn R) [x162, x165] h156 a3))))))) fun k155 =>
 cnd x154
 (k155 h153)
 (k143 x150 x154 x152 h153)))

noncomputable def g25_1 (R : RnK) (a0 : Value) (a2 : Value) (a3 : Value) (k95 : Value → Value → Value → Hs → An) : (Value → Value → Value → Hs → An) → Value → Value → Value → Hs → An :=
 (fun k100 =>
 fun (x102 x103 x104 : Value) (h105 : Hs) =>
 kI64 .lss x102 a2 (fun x106 =>
 jn (fun (h108 : Hs) =>
 jn (fun (x110 : Value) (h111 : Hs) =>
 kI64 .add x102 (Value.int .i64 (.ofNat 1)) (fun x112 =>
 k100 x112 x106 x110 h111)) fun k109 =>
 kIdxA 2 a0 x102 (fun x113 =>
 kLoads 2 x113 (Hs.mk h108.hp h108.nx h108.nx) (fun x114 =>
 kI64 .sub x102 (Value.int .i64 (.ofNat 1)) (fun x115 =>
 kIdxA 2 a0 x115 (fun x116 =>
 kLoads 2 x116 (Hs.mk h108.hp h108.nx h108.nx) (fun x117 =>
 isVal (fun v140 u141 => dPut (fun x118 h119 =>
 kI64 .lss x118 (Value.int .i64 (.ofNat 0)) (fun x120 =>
 kNot x120 (fun x121 =>
 jn (fun (h123 : Hs) =>
 kI64 .sub x102 (Value.int .i64 (.ofNat 1)) (fun x124 =>
 kI64 .sub x102 (Value.int .i64 (.ofNat 1)) (fun x125 =>
 kIdxA 2 a0 x125 (fun x126 =>
 kLoads 2 x126 (Hs.mk h123.hp h123.nx h123.nx) (fun x127 =>
 kIdxA 2 a0 x102 (fun x128 =>
 kLoads 2 x128 (Hs.mk h123.hp h123.nx h123.nx) (fun x129 =>
 kIdxA 2 a0 x102 (fun x130 =>
 after (fun v138 u139 => dPut (fun x131 h132 =>
 kIdxA 2 a0 x124 (fun x133 =>
 after (fun v136 u137 => dPut (fun x134 h135 =>
 k109 x121 h135) v136 (dNext h132 u137 .bar) (andB (dFit h132 u137 .bar) (Nat.ble 0 u137.lo))) (store1 2 h132 (cellsL x129) (addrOf x133)))) v138 (dNext h123 u139 .bar) (andB (dFit h123 u139 .bar) (Nat.ble 0 u139.lo))) (store1 2 h123 (cellsL x127) (addrOf x130)))))))))) fun k122 =>
 cnd x121
 (k95 x102 x106 x121 h119)
 (k122 h119)))) v140 (dNext h108 u141 .bar) (andB (dFit h108 u141 .bar) (Nat.ble 0 u141.lo))) (callV (toRn R) [x114, x117] h108 a3))))))) fun k107 =>
 cnd x106
 (k107 h105)
 (k95 x102 x106 x104 h105)))

noncomputable def g25_0 (R : RnK) (N : Nat) (a0 : Value) (a1 : Value) (a2 : Value) (a3 : Value) (h : Hs) (k1 : Value → Value → Value → Value → Value → Value → Value → Value → Value → Value → Value → Value → Value → Value → Value → Hs → An) : (Value → Value → Value → Value → Value → Value → Value → Value → Value → Value → Value → Value → Value → Value → Value → Hs → An) → Value → Value → Value → Value → Value → Value → Value → Value → Value → Value → Value → Value → Value → Value → Value → Hs → An :=
 (fun k18 =>
 fun (x20 x21 x22 x23 x24 x25 x26 x27 x28 x29 x30 x31 x32 x33 x34 : Value) (h35 : Hs) =>
 kI64 .lss x20 (Value.int .i64 (.ofNat 5)) (fun x36 =>
 jn (fun (h38 : Hs) =>
 jn (fun (x40 x41 x42 x43 x44 x45 x46 x47 x48 x49 x50 x51 x52 : Value) (h53 : Hs) =>
 kI64 .add x20 (Value.int .i64 (.ofNat 1)) (fun x54 =>
 k18 x54 x36 x40 x41 x42 x43 x44 x45 x46 x47 x48 x49 x50 x51 x52 h53)) fun k39 =>
 jn (fun (x56 x57 : Value) (h58 : Hs) =>
 kI64 .eql x56 a2 (fun x59 =>
 jn (fun (x61 : Value) (h62 : Hs) =>
 kI64 .sub a2 a1 (fun x63 =>
 kI64 .lss x63 (Value.int .i64 (.ofNat 50)) (fun x64 =>
 jn (fun (x66 : Value) (h67 : Hs) =>
 kI64 .sub x56 (Value.int .i64 (.ofNat 1)) (fun x68 =>
 kI64 .sub x56 (Value.int .i64 (.ofNat 1)) (fun x69 =>
 kIdxA 2 a0 x69 (fun x70 =>
 kLoads 2 x70 (Hs.mk h67.hp h67.nx h67.nx) (fun x71 =>
 kIdxA 2 a0 x56 (fun x72 =>
 kLoads 2 x72 (Hs.mk h67.hp h67.nx h67.nx) (fun x73 =>
 kIdxA 2 a0 x56 (fun x74 =>
 after (fun v192 u193 => dPut (fun x75 h76 =>
 kIdxA 2 a0 x68 (fun x77 =>
 after (fun v190 u191 => dPut (fun x78 h79 =>
 kI64 .sub x56 a1 (fun x80 =>
 kI64 .geq x80 (Value.int .i64 (.ofNat 2)) (fun x81 =>
 jn (fun (x83 x84 x85 : Value) (h86 : Hs) =>
 kI64 .sub a2 x56 (fun x87 =>
 kI64 .geq x87 (Value.int .i64 (.ofNat 2)) (fun x88 =>
 jn (fun (x90 x91 x92 : Value) (h93 : Hs) =>
 k39 x56 x57 x59 x64 x81 x83 x84 x85 x88 x90 x91 x92 x66 h93) fun k89 =>
 cnd x88
 (kI64 .add x56 (Value.int .i64 (.ofNat 1)) (fun x94 =>
 jn (fun (x96 x97 x98 : Value) (h99 : Hs) =>
 k89 x96 x97 x98 h99) fun k95 =>
 lpT (T := Value → Value → Value → Hs → An) (fun _ _ _ _ => none) N (g25_1 R a0 a2 a3 k95) x94 x32 x33 h86))
 (k89 x31 x32 x33 h86)))) fun k82 =>
 cnd x81
 (kI64 .sub x56 (Value.int .i64 (.ofNat 1)) (fun x142 =>
 jn (fun (x144 x145 x146 : Value) (h147 : Hs) =>
 k82 x144 x145 x146 h147) fun k143 =>
 lpT (T := Value → Value → Value → Hs → An) (fun _ _ _ _ => none) N (g25_2 R a0 a3 k143) x142 x28 x29 h79))
 (k82 x27 x28 x29 h79)))) v190 (dNext h76 u191 .bar) (andB (dFit h76 u191 .bar) (Nat.ble 0 u191.lo))) (store1 2 h76 (cellsL x73) (addrOf x77)))) v192 (dNext h67 u193 .bar) (andB (dFit h67 u193 .bar) (Nat.ble 0 u193.lo))) (store1 2 h67 (cellsL x71) (addrOf x74)))))))))) fun k65 =>
 cnd x64
 (clrK h (Value.bool false) h62)
 (k65 x61 h62)))) fun k60 =>
 cnd x59
 (clrK h (Value.bool true) h58)
 (k60 x34 h58))) fun k55 =>
 lpT (T := Value → Value → Hs → An) (fun _ _ _ => none) N (g25_3 R a0 a2 a3 k55) x22 x23 h38) fun k37 =>
 cnd x36
 (k37 h35)
 (k1 x20 x36 x22 x23 x24 x25 x26 x27 x28 x29 x30 x31 x32 x33 x34 h35)))

noncomputable def s25 (R : RnK) (N : Nat) (args : List Value) (h : Hs) : An := unC args fun a0 sq0 => unC sq0 fun a1 sq1 => unC sq1 fun a2 sq2 => unC sq2 fun a3 sq3 => enK h fun h0 =>
 kI64 .add a1 (Value.int .i64 (.ofNat 1)) (fun x0 =>
 jn (fun (x2 x3 x4 x5 x6 x7 x8 x9 x10 x11 x12 x13 x14 x15 x16 : Value) (h17 : Hs) =>
 clrK h (Value.bool false) h17) fun k1 =>
 lpT (T := Value → Value → Value → Value → Value → Value → Value → Value → Value → Value → Value → Value → Value → Value → Value → Hs → An) (fun _ _ _ _ _ _ _ _ _ _ _ _ _ _ _ _ => none) N (g25_0 R N a0 a1 a2 a3 h k1) (Value.int .i64 (.ofNat 0)) dunno x0 dunno dunno dunno dunno dunno dunno dunno dunno dunno dunno dunno (Value.bool false) h0)

theorem s25_eq (R : RnK) (N : Nat) (args : List Value) (h : Hs) : r25 R N args h = s25 R N args h := rfl

noncomputable def s34 (R : RnK) (N : Nat) (args : List Value) (h : Hs) : An := unC args fun a0 sq0 => unC sq0 fun a1 sq1 => unC sq1 fun a2 sq2 => unC sq2 fun a3 sq3 => unC sq3 fun a4 sq4 => unC sq4 fun a5 sq5 => enK h fun h0 =>
 kCall R 35 [a0, a1, a2, a4, a5] h0 (fun x0 h1 =>
 kExtr x0 0 (fun x2 =>
 kExtr x0 1 (fun x3 =>
 kCall R 35 [a0, x3, a3, a4, a5] h1 (fun x4 h5 =>
 kExtr x4 0 (fun x6 =>
 kExtr x4 1 (fun x7 =>
 kCall R 35 [a0, x2, x6, a4, a5] h5 (fun x8 h9 =>
 kExtr x8 0 (fun x10 =>
 kExtr x8 1 (fun x11 =>
 clrK h x11 h9)))))))))

theorem s34_eq (R : RnK) (N : Nat) (args : List Value) (h : Hs) : r34 R N args h = s34 R N args h := rfl

noncomputable def s35 (R : RnK) (N : Nat) (args : List Value) (h : Hs) : An := unC args fun a0 sq0 => unC sq0 fun a1 sq1 => unC sq1 fun a2 sq2 => unC sq2 fun a3 sq3 => unC sq3 fun a4 sq4 => enK h fun h0 =>
 kIdxA 2 a0 a2 (fun x0 =>
 kLoads 2 x0 (Hs.mk h0.hp h0.nx h0.nx) (fun x1 =>
 kIdxA 2 a0 a1 (fun x2 =>
 kLoads 2 x2 (Hs.mk h0.hp h0.nx h0.nx) (fun x3 =>
 isVal (fun v17 u18 => dPut (fun x4 h5 =>
 kI64 .lss x4 (Value.int .i64 (.ofNat 0)) (fun x6 =>
 jn (fun (x8 x9 : Value) (h10 : Hs) =>
 clrK h (Value.tuple #[a1, a2]) h10) fun k7 =>
 cnd x6
 (kNil a3 (fun x11 =>
 kLoad x11 h5 (fun x12 =>
 kI64 .add x12 (Value.int .i64 (.ofNat 1)) (fun x13 =>
 kNil a3 (fun x14 =>
 kStore1 x14 x13 h5 (fun x15 h16 =>
 clrK h (Value.tuple #[a2, a1]) h16))))))
 (k7 (Value.int .i64 (.ofNat 0)) (Value.int .i64 (.ofNat 0)) h5))) v17 (dNext h0 u18 .bar) (andB (dFit h0 u18 .bar) (Nat.ble 0 u18.lo))) (callV (toRn R) [x1, x3] h0 a4)))))

theorem s35_eq (R : RnK) (N : Nat) (args : List Value) (h : Hs) : r35 R N args h = s35 R N args h := rfl

noncomputable def g4_0 (a0 : Value) (h : Hs) (k42 : Value → Value → Value → Value → Value → Value → Hs → An) : (Value → Value → Value → Value → Value → Value → Hs → An) → Value → Value → Value → Value → Value → Value → Hs → An :=
 (fun k137 =>
 fun (x139 x140 x141 x142 x143 x144 : Value) (h145 : Hs) =>
 kLenV a0 (fun x146 =>
 kI64 .lss x139 x146 (fun x147 =>
 jn (fun (h149 : Hs) =>
 jn (fun (x151 x152 x153 x154 : Value) (h155 : Hs) =>
 kI64 .add x139 (Value.int .i64 (.ofNat 1)) (fun x156 =>
 k137 x156 x147 x151 x152 x153 x154 h155)) fun k150 =>
 kIdxA 1 a0 x139 (fun x157 =>
 kLoad x157 h149 (fun x158 =>
 kI64 .lss x158 (Value.int .i64 (.ofNat 1)) (fun x159 =>
 gdF x159 h149 (fun k160 => k160 a0 h149) (fun x161 h162 =>
 gdF x159 h162 (fun k163 => k163 x139 h162) (fun x164 h165 =>
 gdF x159 h165 (fun k166 => kIdxA 1 x161 x164 (fun x167 => k166 x167 h165)) (fun x168 h169 =>
 gdF x159 h169 (fun k170 => kLoad x168 h169 (fun x171 => k170 x171 h169)) (fun x172 h173 =>
 gdF x159 h173 (fun k174 => kI64 .gtr x172 (Value.int .i64 (.ofNat 1000)) (fun x175 => k174 x175 h173)) (fun x176 h177 =>
 after (fun x178 h179 =>
 jn (fun (x181 : Value) (h182 : Hs) =>
 kIdxA 1 a0 x139 (fun x183 =>
 kLoad x183 h182 (fun x184 =>
 after (fun x185 h186 =>
 after (fun x187 h188 =>
 after (fun x189 h190 =>
 kIdxA 1 a0 x139 (fun x191 =>
 kLoad x191 h190 (fun x192 =>
 kI64 .add x143 x192 (fun x193 =>
 k150 x178 x189 x193 x181 h190)))) (app0 25 2 16 h188 x142 x187)) (oMkrow 25 2 1 [(Value.int .i64 (.ofNat 0)), (Value.int .i64 (.ofNat 0))] [(0, 2, .c x185)] enE h186)) (oBuild [(Value.int .i64 (.ofNat 0)), (Value.int .i64 (.ofNat 0))] [(0, 1, .c x143), (1, 1, .c x184)] enE h182)))) fun k180 =>
 cnd x178
 (clrK h (Value.bool true) h179)
 (k180 x144 h179)) (pickB (.c (Value.bool true)) (.c x176) enE h177 x159)))))))))) fun k148 =>
 cnd x147
 (k148 h145)
 (k42 x139 x147 x141 x142 x143 x144 h145))))

noncomputable def s4 (R : RnK) (N : Nat) (args : List Value) (h : Hs) : An := unC args fun a0 sq0 => unC sq0 fun a1 sq1 => enK h fun h0 =>
 kCall R 5 [] h0 (fun x0 h1 =>
 kNot x0 (fun x2 =>
 jn (fun (x4 : Value) (h5 : Hs) =>
 kLenV a0 (fun x6 =>
 kI64 .lss x6 (Value.int .i64 (.ofNat 1)) (fun x7 =>
 gdF x7 h5 (fun k8 => k8 a0 h5) (fun x9 h10 =>
 gdF x7 h10 (fun k11 => kLenV x9 (fun x12 => k11 x12 h10)) (fun x13 h14 =>
 gdF x7 h14 (fun k15 => kI64 .gtr x13 (Value.int .i64 (.ofNat 20)) (fun x16 => k15 x16 h14)) (fun x17 h18 =>
 after (fun x19 h20 =>
 gdF x19 h20 (fun k21 => k21 a1 h20) (fun x22 h23 =>
 gdF x19 h23 (fun k24 => kI64 .lss x22 (Value.int .i64 (.ofNat 0)) (fun x25 => k24 x25 h23)) (fun x26 h27 =>
 after (fun x28 h29 =>
 gdF x28 h29 (fun k30 => k30 a1 h29) (fun x31 h32 =>
 gdF x28 h32 (fun k33 => kI64 .gtr x31 (Value.int .i64 (.ofNat 1000)) (fun x34 => k33 x34 h32)) (fun x35 h36 =>
 after (fun x37 h38 =>
 jn (fun (x40 : Value) (h41 : Hs) =>
 jn (fun (x43 x44 x45 x46 x47 x48 : Value) (h49 : Hs) =>
 kCall R 8 [x46] h49 (fun x50 h51 =>
 kLenV x50 (fun x52 =>
 kI64 .eql x52 (Value.int .i64 (.ofNat 1)) (fun x53 =>
 gdT x53 h51 (fun k54 => k54 x50 h51) (fun x55 h56 =>
 gdT x53 h56 (fun k57 => kIdxA 2 x55 (Value.int .i64 (.ofNat 0)) (fun x58 => k57 x58 h56)) (fun x59 h60 =>
 gdT x53 h60 (fun k61 => kLoads 2 x59 h60 (fun x62 => k61 x62 h60)) (fun x63 h64 =>
 gdT x53 h64 (fun k65 => k65 a1 h64) (fun x66 h67 =>
 gdT x53 h67 (fun k68 => k68 x47 h67) (fun x69 h70 =>
 gdT x53 h70 (fun k71 => k71 a1 h70) (fun x72 h73 =>
 gdT x53 h73 (fun k74 => kI64 .sub x69 x72 (fun x75 => k74 x75 h73)) (fun x76 h77 =>
 gdT x53 h77 (fun k78 => after (k78) (oBuild [(Value.int .i64 (.ofNat 0)), (Value.int .i64 (.ofNat 0))] [(0, 1, .c x66), (1, 1, .c x76)] enE h77)) (fun x79 h80 =>
 gdT x53 h80 (fun k81 => obK (fun x82 => k81 x82 h80) (e2 false (qA [.i, .i]) x63 x79)) (fun x83 h84 =>
 after (fun x85 h86 =>
 gdT x85 h86 (fun k87 => k87 x46 h86) (fun x88 h89 =>
 gdT x85 h89 (fun k90 => kCall R 9 [x88] h89 (k90)) (fun x91 h92 =>
 after (fun x93 h94 =>
 gdT x93 h94 (fun k95 => k95 x50 h94) (fun x96 h97 =>
 gdT x93 h97 (fun k98 => kCall R 8 [x96] h97 (k98)) (fun x99 h100 =>
 gdT x93 h100 (fun k101 => kCall R 11 [x99] h100 (k101)) (fun x102 h103 =>
 gdT x93 h103 (fun k104 => k104 x50 h103) (fun x105 h106 =>
 gdT x93 h106 (fun k107 => kCall R 11 [x105] h106 (k107)) (fun x108 h109 =>
 gdT x93 h109 (fun k110 => kCall R 10 [x102, x108] h109 (k110)) (fun x111 h112 =>
 after (fun x113 h114 =>
 gdT x113 h114 (fun k115 => k115 x46 h114) (fun x116 h117 =>
 gdT x113 h117 (fun k118 => kCall R 7 [x116] h117 (k118)) (fun x119 h120 =>
 gdT x113 h120 (fun k121 => k121 x47 h120) (fun x122 h123 =>
 gdT x113 h123 (fun k124 => k124 a1 h123) (fun x125 h126 =>
 gdT x113 h126 (fun k127 => kI64 .sub x122 x125 (fun x128 => k127 x128 h126)) (fun x129 h130 =>
 gdT x113 h130 (fun k131 => kI64 .eql x119 x129 (fun x132 => k131 x132 h130)) (fun x133 h134 =>
 after (fun x135 h136 =>
 clrK h x135 h136) (pickB (.c x133) (.c (Value.bool false)) enE h134 x113)))))))) (pickB (.c x111) (.c (Value.bool false)) enE h112 x93)))))))) (pickB (.c x91) (.c (Value.bool false)) enE h92 x85)))) (pickB (.c x83) (.c (Value.bool false)) enE h84 x53)))))))))))))) fun k42 =>
 lpT (T := Value → Value → Value → Value → Value → Value → Hs → An) (fun _ _ _ _ _ _ _ => none) N (g4_0 a0 h k42) (Value.int .i64 (.ofNat 0)) dunno dunno (Value.slice none 0 0) a1 x40 h41) fun k39 =>
 cnd x37
 (clrK h (Value.bool true) h38)
 (k39 x4 h38)) (pickB (.c (Value.bool true)) (.c x35) enE h36 x28)))) (pickB (.c (Value.bool true)) (.c x26) enE h27 x19)))) (pickB (.c (Value.bool true)) (.c x17) enE h18 x7))))))) fun k3 =>
 cnd x2
 (clrK h (Value.bool false) h1)
 (k3 (Value.bool false) h1)))

theorem s4_eq (R : RnK) (N : Nat) (args : List Value) (h : Hs) : r4 R N args h = s4 R N args h := rfl


/-- a run that counts -/
def good (x : Int × Int) : Bool := decide (1 ≤ x.2) && decide (x.2 ≤ 1073741824) && decide (0 ≤ x.1) && decide (x.1 ≤ 1073741824)

theorem counts_loop (v : Value) (L : List (Int × Int)) (h0 : Hs) (s : Sl h0 v L) (hL : L.length ≤ 1000) (k1 : Value → Value → Value → Value → Value → Hs → An) : ∀ (m N i : Nat) (x11 x12 x13 out : Value) (h : Hs), i + m = L.length → m < N →
    Ext h0 h → h0.nx ≤ h.lo → Own h0.nx 25 h out ((L.take i).filter good) →
    ∃ y1 y2 y3 y4 out' h', lpT (T := Value → Value → Value → Value → Value → Hs → An) (fun _ _ _ _ _ _ => none) N (g13_0 v k1 (.int .i64 (.ofNat L.length))) (.int .i64 (.ofNat i)) x11 x12 x13 out h = k1 y1 y2 y3 y4 out' h' ∧
      Ext h0 h' ∧ h0.nx ≤ h'.lo ∧ Own h0.nx 25 h' out' (L.filter good) := by
  intro m
  induction m with
  | zero =>
    intro N i x11 x12 x13 out h hi hN e hl o
    obtain ⟨N, rfl⟩ : ∃ N', N = N' + 1 := ⟨N - 1, by omega⟩
    rw [lpT_succ]
    unfold g13_0
    rw [kI64_lssN, decide_eq_false (by omega)]
    simp only [jn_eq, cnd_false]
    rw [show L.take i = L from List.take_of_length_le (by omega)] at o
    exact ⟨_, _, _, _, _, _, rfl, e, hl, o⟩
  | succ m ih =>
    intro N i x11 x12 x13 out h hi hN e hl o
    obtain ⟨N, rfl⟩ : ∃ N', N = N' + 1 := ⟨N - 1, by omega⟩
    have hlt : i < L.length := by omega
    obtain ⟨f, l, hfl⟩ : ∃ f l, L[i]? = some (f, l) := ⟨L[i].1, L[i].2, by rw [List.getElem?_eq_getElem hlt]⟩
    have htake : L.take (i + 1) = L.take i ++ [(f, l)] := by rw [List.take_add_one, hfl]; rfl
    rw [lpT_succ]
    generalize hself : lpT (T := Value → Value → Value → Value → Value → Hs → An) (fun _ _ _ _ _ _ => none) N (g13_0 v k1 (.int .i64 (.ofNat L.length))) = self
    unfold g13_0
    rw [kI64_lssN, decide_eq_true hlt]
    simp only [jn_eq, cnd_true]
    rw [s.pair e hfl, var2_ok]
    obtain ⟨e2, l2, n2⟩ := var2_ext e hl 25 f l
    have o2 : Own h0.nx 25 (var2 h 25 f l) out ((L.take i).filter good) := o.other (by omega) fun id hid => by rw [var2_get, if_neg (by omega)]
    have done : ∀ x, good (f, l) = false → ∃ y1 y2 y3 y4 out' h', self (.int .i64 (.ofNat (i + 1))) (.bool true) (.pointer (some ⟨h.nx, 0, none⟩)) x out (var2 h 25 f l) = k1 y1 y2 y3 y4 out' h' ∧
        Ext h0 h' ∧ h0.nx ≤ h'.lo ∧ Own h0.nx 25 h' out' (L.filter good) := fun x hg => by
      rw [← hself]
      refine ih N (i + 1) _ _ _ _ _ (by omega) (by omega) e2 l2 ?_
      rw [htake, List.filter_append, List.filter_cons, hg]
      simpa using o2
    by_cases c1 : (1 : Int) ≤ l
    case neg =>
      have d1 : decide (Int.ofNat 1 ≤ l) = false := decide_eq_false c1
      simp only [kFieldA_ok, Nat.zero_add, Nat.add_zero, var2_l0, var2_l1, kI64_geq, kI64_leq, gdT_true, gdT_false, after_some, pick_true, pick_false, d1, cnd_false, kI64_inc (show i < 9223372036854775807 by omega)]
      exact done _ (by simp [good, c1])
    by_cases c2 : l ≤ 1073741824
    case neg =>
      have d1 : decide (Int.ofNat 1 ≤ l) = true := decide_eq_true c1
      have d2 : decide (l ≤ Int.ofNat 1073741824) = false := decide_eq_false c2
      simp only [kFieldA_ok, Nat.zero_add, Nat.add_zero, var2_l0, var2_l1, kI64_geq, kI64_leq, gdT_true, gdT_false, after_some, pick_true, pick_false, d1, d2, cnd_false, kI64_inc (show i < 9223372036854775807 by omega)]
      exact done _ (by simp [good, c2])
    by_cases c3 : (0 : Int) ≤ f
    case neg =>
      have d1 : decide (Int.ofNat 1 ≤ l) = true := decide_eq_true c1
      have d2 : decide (l ≤ Int.ofNat 1073741824) = true := decide_eq_true c2
      have d3 : decide (Int.ofNat 0 ≤ f) = false := decide_eq_false c3
      simp only [kFieldA_ok, Nat.zero_add, Nat.add_zero, var2_l0, var2_l1, kI64_geq, kI64_leq, gdT_true, gdT_false, after_some, pick_true, pick_false, d1, d2, d3, cnd_false, kI64_inc (show i < 9223372036854775807 by omega)]
      exact done _ (by simp [good, c3])
    have d1 : decide (Int.ofNat 1 ≤ l) = true := decide_eq_true c1
    have d2 : decide (l ≤ Int.ofNat 1073741824) = true := decide_eq_true c2
    have d3 : decide (Int.ofNat 0 ≤ f) = true := decide_eq_true c3
    by_cases c4 : f ≤ 1073741824
    case neg =>
      have d4 : decide (f ≤ Int.ofNat 1073741824) = false := decide_eq_false c4
      simp only [kFieldA_ok, Nat.zero_add, Nat.add_zero, var2_l0, var2_l1, kI64_geq, kI64_leq, gdT_true, gdT_false, after_some, pick_true, pick_false, d1, d2, d3, d4, cnd_false, kI64_inc (show i < 9223372036854775807 by omega)]
      exact done _ (by simp [good, c4])
    have d4 : decide (f ≤ Int.ofNat 1073741824) = true := decide_eq_true c4
    simp only [kFieldA_ok, Nat.zero_add, Nat.add_zero, var2_l0, var2_l1, kI64_geq, kI64_leq, gdT_true, gdT_false, after_some, pick_true, pick_false, d1, d2, d3, d4, cnd_true, var2_pair, kI64_inc (show i < 9223372036854775807 by omega)]
    have hlen : ((L.take i).filter good).length ≤ 1000 := Nat.le_trans (List.length_filter_le _ _) (by rw [List.length_take]; omega)
    obtain ⟨v', h', q1, q2, q3, q4, q5⟩ := o2.push hlen (by have := e2.1; omega) l2 f l (fun x82 h83 => self (.int .i64 (.ofNat (i + 1))) (.bool true) (.pointer (some ⟨h.nx, 0, none⟩)) (.bool true) x82 h83)
    rw [q1, ← hself]
    refine ih N (i + 1) _ _ _ _ _ (by omega) (by omega) ⟨Nat.le_trans e2.1 q3, fun id hid => (q5 id hid).trans (e2.2 id hid)⟩ q4 ?_
    rw [htake, List.filter_append, List.filter_cons, show good (f, l) = true by simp [good, c1, c2, c3, c4]]
    exact q2

/-- COUNTS: those that count, in a row of its own -/
theorem counts_ok {R : RnK} {N : Nat} {v : Value} {vs : List Value} {L : List (Int × Int)} {h : Hs} (s : Sl h v L) (hL : L.length ≤ 1000) (hN : L.length < N) :
    ∃ v' h', r13 R N (v :: vs) h = some (.val v' h') ∧ Sl h' v' (L.filter good) ∧ Ext h h' ∧ h'.lo = h.lo := by
  rw [s13_eq]
  unfold s13
  rw [unC_cons, enK_eq, s.len]
  simp only [jn_eq]
  obtain ⟨y1, y2, y3, y4, out', h', q1, q2, q3, q4⟩ := counts_loop v L ⟨h.hp, h.nx, h.nx⟩ (s.lo _) hL (fun _ _ _ _ x6 h7 => clrK h x6 h7) L.length N 0 dunno dunno dunno (.slice none 0 0) ⟨h.hp, h.nx, h.nx⟩ (by omega) hN (Ext.refl _) (Nat.le_refl _) (.inl ⟨rfl, rfl⟩)
  rw [q1]
  obtain ⟨v2, h2, p1, p2, _, p3, p4⟩ := Own.back (h0 := h) rfl q4 q3
  exact ⟨v2, h2, p1, p2, p3, p4⟩

/-! ### Total -/
def sm : List (Int × Int) → Int
  | [] => 0
  | x :: xs => x.2 + sm xs
theorem total_loop (v : Value) (L : List (Int × Int)) (hg : ∀ x ∈ L, good x = true) (hb : Hs) (h0 : Hs) (s : Sl h0 v L) (hL : L.length ≤ 1000) (hl0 : hb.nx ≤ h0.nx) (k3 : Value → Value → Value → Value → Hs → An)
    (hk : ∀ y1 y2 n y4 h', hb.nx ≤ h'.lo → k3 y1 y2 (.int .i64 n) y4 h' = some (.val (.int .i64 n) ⟨hb.hp, hb.nx, hb.lo⟩)) : ∀ (m N i : Nat) (n : Int) (y1 y2 : Value) (h : Hs), i + m = L.length → m < N → 0 ≤ n → n ≤ i * 1073741824 →
    Ext h0 h → hb.nx ≤ h.lo →
    lpT (T := Value → Value → Value → Value → Hs → An) (fun _ _ _ _ _ => none) N (g7_0 k3 v (.int .i64 (.ofNat L.length))) (.int .i64 (.ofNat i)) y1 (.int .i64 n) y2 h = some (.val (.int .i64 (n + sm (L.drop i))) ⟨hb.hp, hb.nx, hb.lo⟩) := by
  intro m
  induction m with
  | zero =>
    intro N i n y1 y2 h hi hN hn hn2 e hl
    obtain ⟨N, rfl⟩ : ∃ N', N = N' + 1 := ⟨N - 1, by omega⟩
    rw [lpT_succ]
    unfold g7_0
    rw [kI64_lssN, decide_eq_false (by omega)]
    simp only [jn_eq, cnd_false]
    rw [hk _ _ _ _ _ hl, List.drop_of_length_le (by omega), sm, Int.add_zero]
  | succ m ih =>
    intro N i n y1 y2 h hi hN hn hn2 e hl
    obtain ⟨N, rfl⟩ : ∃ N', N = N' + 1 := ⟨N - 1, by omega⟩
    have hlt : i < L.length := by omega
    obtain ⟨f, l, hfl⟩ : ∃ f l, L[i]? = some (f, l) := ⟨L[i].1, L[i].2, by rw [List.getElem?_eq_getElem hlt]⟩
    have hdrop : L.drop i = (f, l) :: L.drop (i + 1) := by
      rw [List.drop_eq_getElem_cons hlt]
      rw [List.getElem?_eq_getElem hlt] at hfl
      injection hfl with hfl
      rw [hfl]
    have hgd := hg (f, l) (List.mem_of_getElem? hfl)
    simp only [good, Bool.and_eq_true, decide_eq_true_eq] at hgd
    obtain ⟨⟨⟨c1, c2⟩, c3⟩, c4⟩ := hgd
    rw [lpT_succ]
    generalize hself : lpT (T := Value → Value → Value → Value → Hs → An) (fun _ _ _ _ _ => none) N (g7_0 k3 v (.int .i64 (.ofNat L.length))) = self
    unfold g7_0
    rw [kI64_lssN, decide_eq_true hlt]
    simp only [jn_eq, cnd_true]
    rw [s.pair e hfl, var2_ok]
    have hb2 : hb.nx ≤ (var2 h 25 f l).lo := by
      show _ ≤ minN h.lo h.nx
      rw [minN_eq]; have := e.1; omega
    have e2 : Ext h0 (var2 h 25 f l) := e.trans ⟨Nat.le_succ _, fun id hid => by rw [var2_get, if_neg (by omega)]⟩
    simp only [kFieldA_ok, Nat.zero_add, var2_l1]
    rw [kI64_add (show In64 (n + l) by constructor <;> omega), kI64_inc (by omega), ← hself]
    rw [ih N (i + 1) (n + l) _ _ _ (by omega) (by omega) (by omega) (by push_cast; omega) e2 hb2, hdrop, sm, Int.add_assoc]
/-- TOTAL -/
theorem total_ok {R : RnK} {N : Nat} {v : Value} {L : List (Int × Int)} {h : Hs} (hR : ∃ R', ∀ args h, R 13 args h = r13 R' N args h) (s : Sl h v L) (hL : L.length ≤ 1000) (hN : 1000 < N) :
    r7 R N [v] h = some (.val (.int .i64 (sm (L.filter good))) ⟨h.hp, h.nx, h.lo⟩) := by
  obtain ⟨R', hR⟩ := hR
  rw [s7_eq]
  unfold s7
  rw [unC_cons, enK_eq]
  obtain ⟨v', h', q1, q2, q3, q4⟩ := counts_ok (R := R') (N := N) (vs := []) (s.lo h.nx) hL (by omega)
  rw [kCall_ok ((hR _ _).trans q1), q2.len]
  simp only [jn_eq]
  have hlen : (L.filter good).length ≤ 1000 := Nat.le_trans (List.length_filter_le _ _) hL
  have := total_loop v' (L.filter good) (fun x hx => (List.mem_filter.1 hx).2) h h' q2 hlen q3.1 (fun _ _ x6 _ h8 => clrK h x6 h8)
    (fun _ _ n _ h' hl => clrK_int hl) (L.filter good).length N 0 0 dunno dunno h' (by omega) (by omega) (by omega) (by omega) (Ext.refl _) (by rw [q4]; exact Nat.le_refl _)
  rw [List.drop_zero, Int.zero_add] at this
  exact this

theorem sm_append (A B : List (Int × Int)) : sm (A ++ B) = sm A + sm B := by
  induction A with
  | nil => rw [List.nil_append, sm, Int.zero_add]
  | cons x A ih => rw [List.cons_append, sm, sm, ih, Int.add_assoc]
theorem good_of {f l : Int} (h1 : 1 ≤ l) (h2 : l ≤ 50) (h3 : 0 ≤ f) (h4 : f ≤ 1000) : good (f, l) = true := by
  simp only [good, Bool.and_eq_true, decide_eq_true_eq]; omega


/-! ### the order of runs -/
theorem cmp_ok {R : RnK} {N : Nat} {f1 l1 f2 l2 : Int} {h : Hs} (hd : In64 (f1 - f2)) : r15 R N [.agg #[.int .i64 f1, .int .i64 l1], .agg #[.int .i64 f2, .int .i64 l2]] h = some (.val (.int .i64 (f1 - f2)) h) := by
  rw [s15_eq]
  unfold s15
  rw [unC_cons, unC_cons, enK_eq]
  have e0 : ∀ (a b : Int) (h : Hs), oBox 25 (.c (.agg #[.int .i64 a, .int .i64 b])) enE h = some (.pointer (some ⟨h.nx, 0, none⟩), Gev.newRow h 25 0 [.int .i64 a, .int .i64 b]) := fun _ _ _ => rfl
  rw [e0, after_some, e0, after_some]
  simp only [newRow_nx]
  have g1 : (Gev.newRow (Gev.newRow ⟨h.hp, h.nx, h.nx⟩ 25 0 [Value.int .i64 f1, .int .i64 l1]) 25 0 [Value.int .i64 f2, .int .i64 l2]).hp.get h.nx = some (.row (ofList [Value.int .i64 f1, .int .i64 l1]) 2 25 0 true true) := by
    rw [newRow_get, newRow_nx, if_neg (show ¬ (h.nx + 1 = h.nx) by omega), newRow_get, if_pos rfl]; rfl
  have g2 : (Gev.newRow (Gev.newRow ⟨h.hp, h.nx, h.nx⟩ 25 0 [Value.int .i64 f1, .int .i64 l1]) 25 0 [Value.int .i64 f2, .int .i64 l2]).hp.get (h.nx + 1) = some (.row (ofList [Value.int .i64 f2, .int .i64 l2]) 2 25 0 true true) := by
    rw [newRow_get, newRow_nx, if_pos (show h.nx + 1 = h.nx + 1 from rfl)]; rfl
  rw [kFieldA_ok, kLoad_ok g1 (show (ofList [Value.int .i64 f1, .int .i64 l1]).get (0 + 0) = some (.int .i64 f1) from rfl), kFieldA_ok]
  rw [kLoad_ok g2 (show (ofList [Value.int .i64 f2, .int .i64 l2]).get (0 + 0) = some (.int .i64 f2) from rfl), kI64_sub hd]
  exact clrK_int (Nat.le_refl _)
def Cmp (R : RnK) : Prop := ∀ (f1 l1 f2 l2 : Int) (h : Hs), In64 (f1 - f2) → R 15 [.agg #[.int .i64 f1, .int .i64 l1], .agg #[.int .i64 f2, .int .i64 l2]] h = some (.val (.int .i64 (f1 - f2)) h)
abbrev cls : Value := .func (.func 15) #[] #[]

/-- rising, and small -/
def Inc (L : List (Int × Int)) : Prop := ∀ (i j : Nat) (fi li fj lj : Int), i < j → L[i]? = some (fi, li) → L[j]? = some (fj, lj) → fi < fj ∧ fj - fi ≤ 1000000000
theorem neg_lt {a : Int} (h : 0 < a) (K : Value → An) : kI64 .lss (.int .i64 a) (.int .i64 (.ofNat 0)) K = K (.bool false) := by
  rw [kI64_lss, decide_eq_false (by simp only [Int.ofNat_eq_natCast]; omega)]

theorem order2_ok {R : RnK} {N : Nat} {v sw : Value} {L : List (Int × Int)} {h : Hs} (hc : Cmp R) (s : Sl h v L) (hi : Inc L) {i j : Nat} (hij : i < j) (hj : j < L.length) :
    r35 R N [v, .int .i64 (.ofNat i), .int .i64 (.ofNat j), sw, cls] h = some (.val (.tuple #[.int .i64 (.ofNat i), .int .i64 (.ofNat j)]) h) := by
  have ei : L[i]? = some (L[i].1, L[i].2) := by rw [List.getElem?_eq_getElem (by omega)]
  have ej : L[j]? = some (L[j].1, L[j].2) := by rw [List.getElem?_eq_getElem hj]
  obtain ⟨q1, q2⟩ := hi i j _ _ _ _ hij ei ej
  rw [s35_eq]
  unfold s35
  rw [unC_cons, unC_cons, unC_cons, unC_cons, unC_cons, enK_eq, (s.lo h.nx).pair (Ext.refl _) ej, (s.lo h.nx).pair (Ext.refl _) ei]
  rw [callD (hc _ _ _ _ _ (by constructor <;> omega)), neg_lt (by omega)]
  simp only [jn_eq, cnd_false]
  exact clrK_tuple (vs := [.int .i64 (.ofNat i), .int .i64 (.ofNat j)]) rfl (Nat.le_refl _)
theorem median_ok {R : RnK} {N : Nat} {v sw : Value} {L : List (Int × Int)} {h : Hs} (hR : ∃ R' N', Cmp R' ∧ ∀ args h, R 35 args h = r35 R' N' args h) (s : Sl h v L) (hi : Inc L) {i j k : Nat} (hij : i < j) (hjk : j < k) (hk : k < L.length) :
    r34 R N [v, .int .i64 (.ofNat i), .int .i64 (.ofNat j), .int .i64 (.ofNat k), sw, cls] h = some (.val (.int .i64 (.ofNat j)) h) := by
  obtain ⟨R', N', hc, hR⟩ := hR
  have o : ∀ {a b : Nat}, a < b → b < L.length → R 35 [v, .int .i64 (.ofNat a), .int .i64 (.ofNat b), sw, cls] ⟨h.hp, h.nx, h.nx⟩ = some (.val (.tuple #[.int .i64 (.ofNat a), .int .i64 (.ofNat b)]) ⟨h.hp, h.nx, h.nx⟩) := fun h1 h2 => (hR _ _).trans (order2_ok hc (s.lo h.nx) hi h1 h2)
  rw [s34_eq]
  unfold s34
  rw [unC_cons, unC_cons, unC_cons, unC_cons, unC_cons, unC_cons, enK_eq, kCall_ok (o hij (by omega)), kExtr_0, kExtr_1, kCall_ok (o hjk hk), kExtr_0, kExtr_1, kCall_ok (o hij (by omega)), kExtr_0, kExtr_1]
  exact clrK_int (Nat.le_refl _)
/-- a new block behind what is there -/
theorem Ext.new (h : Hs) (e u : Nat) (cs : List Value) : Ext h (Gev.newRow h e u cs) := ⟨Nat.le_succ _, fun id hid => by rw [newRow_get, if_neg (by omega)]⟩
theorem pivot_ok {R : RnK} {N : Nat} {v : Value} {L : List (Int × Int)} {h : Hs} (hR : ∃ R' N', (∃ R'' N'', Cmp R'' ∧ ∀ args h, R' 35 args h = r35 R'' N'' args h) ∧ ∀ args h, R 34 args h = r34 R' N' args h) (s : Sl h v L) (hi : Inc L) (h1 : 12 < L.length) (h2 : L.length ≤ 20) :
    r23 R N [v, .int .i64 (.ofNat 0), .int .i64 (.ofNat L.length), cls] h = some (.val (.tuple #[.int .i64 (.ofNat (L.length / 4 * 2)), .int .i64 (.ofNat 1)]) h) := by
  obtain ⟨R', N', hm, hR⟩ := hR
  have e0 : oAlloc 3 [.int .i64 (.ofNat 0)] enE ⟨h.hp, h.nx, h.nx⟩ = some (.pointer (some ⟨h.nx, 0, none⟩), Gev.newRow ⟨h.hp, h.nx, h.nx⟩ 3 0 [.int .i64 (.ofNat 0)]) := rfl
  have m : ∀ {i j k : Nat}, i < j → j < k → k < L.length → R 34 [v, .int .i64 (.ofNat i), .int .i64 (.ofNat j), .int .i64 (.ofNat k), .pointer (some ⟨h.nx, 0, none⟩), cls] (Gev.newRow ⟨h.hp, h.nx, h.nx⟩ 3 0 [.int .i64 (.ofNat 0)]) =
      some (.val (.int .i64 (.ofNat j)) (Gev.newRow ⟨h.hp, h.nx, h.nx⟩ 3 0 [.int .i64 (.ofNat 0)])) := fun a b c => (hR _ _).trans (median_ok hm ((s.lo h.nx).mono (Ext.new _ _ _ _)) hi a b c)
  rw [s23_eq]
  unfold s23
  rw [unC_cons, unC_cons, unC_cons, unC_cons, enK_eq, kI64_subN (Nat.zero_le _) (by omega), e0, after_some]
  simp only [Nat.sub_zero]
  rw [kI64_quoN (by decide) (by omega), kI64_mulN (by omega), kI64_addN (by omega), kI64_quoN (by decide) (by omega), kI64_mulN (by omega), kI64_addN (by omega), kI64_quoN (by decide) (by omega), kI64_mulN (by omega), kI64_addN (by omega),
    kI64_geqN, decide_eq_true (by omega)]
  simp only [jn_eq, cnd_true]
  rw [kI64_geqN, decide_eq_false (by omega)]
  simp only [cnd_false, Nat.zero_add, Nat.mul_one]
  rw [kCall_ok (m (by omega) (by omega) (by omega))]
  have g : (Gev.newRow ⟨h.hp, h.nx, h.nx⟩ 3 0 [Value.int .i64 (.ofNat 0)]).hp.get h.nx = some (.row (ofList [Value.int .i64 (.ofNat 0)]) 1 3 0 true true) := by
    rw [newRow_get, if_pos rfl]; rfl
  rw [kLoad_ok g (show (ofList [Value.int .i64 (.ofNat 0)]).get 0 = some (.int .i64 (.ofNat 0)) from rfl), kI64_eqlN, decide_eq_true rfl]
  simp only [cnd_true]
  exact clrK_tuple (vs := [.int .i64 (.ofNat (L.length / 4 * 2)), .int .i64 (.ofNat 1)]) rfl (Nat.le_refl _)

theorem part_loop {R : RnK} {v : Value} {L : List (Int × Int)} {hm : Hs} (hc : Cmp R) (s : Sl hm v L) (hi : Inc L) (hL : L.length ≤ 1000) (k55 : Value → Value → Hs → An) : ∀ (m N i : Nat) (y : Value), 1 ≤ i → i + m = L.length → m < N →
    lpT (T := Value → Value → Hs → An) (fun _ _ _ => none) N (g25_3 R v (.int .i64 (.ofNat L.length)) cls k55) (.int .i64 (.ofNat i)) y hm = k55 (.int .i64 (.ofNat L.length)) (.bool false) hm := by
  intro m
  induction m with
  | zero =>
    intro N i y h1 him hN
    obtain ⟨N, rfl⟩ : ∃ N', N = N' + 1 := ⟨N - 1, by omega⟩
    have : i = L.length := by omega
    rw [lpT_succ]
    unfold g25_3
    rw [kI64_lssN, decide_eq_false (by omega)]
    simp only [gdT_false, pickD_false, cnd_false, jn_eq]
    rw [this]
  | succ m ih =>
    intro N i y h1 him hN
    obtain ⟨N, rfl⟩ : ∃ N', N = N' + 1 := ⟨N - 1, by omega⟩
    have ei : L[i - 1]? = some (L[i - 1].1, L[i - 1].2) := by rw [List.getElem?_eq_getElem (by omega)]
    have ej : L[i]? = some (L[i].1, L[i].2) := by rw [List.getElem?_eq_getElem (by omega)]
    obtain ⟨q1, q2⟩ := hi (i - 1) i _ _ _ _ (by omega) ei ej
    rw [lpT_succ]
    generalize hself : lpT (T := Value → Value → Hs → An) (fun _ _ _ => none) N (g25_3 R v (.int .i64 (.ofNat L.length)) cls k55) = self
    unfold g25_3
    rw [kI64_lssN, decide_eq_true (by omega)]
    simp only [gdT_true]
    rw [(s.lo hm.nx).pair (Ext.refl _) ej, kI64_subN h1 (by omega), (s.lo hm.nx).pair (Ext.refl _) ei]
    rw [callD (hc _ _ _ _ _ (by constructor <;> omega)), neg_lt (by omega), kNot_eq]
    simp only [Bool.not_false, pickD_true, jn_eq, cnd_true]
    rw [kI64_inc (by omega), ← hself]
    exact ih N (i + 1) _ (by omega) (by omega) (by omega)
theorem part_ok {R : RnK} {N : Nat} {v : Value} {L : List (Int × Int)} {h : Hs} (hc : Cmp R) (s : Sl h v L) (hi : Inc L) (h1 : 1 ≤ L.length) (hL : L.length ≤ 1000) (hN : 1000 < N) :
    r25 R N [v, .int .i64 (.ofNat 0), .int .i64 (.ofNat L.length), cls] h = some (.val (.bool true) h) := by
  rw [s25_eq]
  unfold s25
  rw [unC_cons, unC_cons, unC_cons, unC_cons, enK_eq, kI64_inc (by omega)]
  simp only [jn_eq]
  obtain ⟨N', rfl⟩ : ∃ N', N = N' + 1 := ⟨N - 1, by omega⟩
  rw [lpT_succ]
  generalize lpT _ N' _ = self
  unfold g25_0
  rw [kI64_lssN, decide_eq_true (by decide)]
  simp only [jn_eq, cnd_true]
  rw [part_loop hc (s.lo h.nx) hi hL _ (L.length - 1) (N' + 1) 1 _ (Nat.le_refl _) (by omega) (by omega), kI64_eqlN, decide_eq_true rfl]
  simp only [cnd_true]
  exact clrK_bool (Nat.le_refl _)

theorem ins_loop {R : RnK} {N0 : Nat} {v : Value} {L : List (Int × Int)} {hm : Hs} (hc : Cmp R) (s : Sl hm v L) (hi : Inc L) (hL : L.length ≤ 1000) (hN0 : 0 < N0) (k1 : Value → Value → Value → Value → Hs → An) : ∀ (m N i : Nat) (y1 y2 y3 : Value), 1 ≤ i → i + m = L.length → m < N →
    ∃ z1 z2 z3, lpT (T := Value → Value → Value → Value → Hs → An) (fun _ _ _ _ _ => none) N (g20_0 R N0 v (.int .i64 (.ofNat 0)) (.int .i64 (.ofNat L.length)) cls k1) (.int .i64 (.ofNat i)) y1 y2 y3 hm = k1 (.int .i64 (.ofNat L.length)) z1 z2 z3 hm := by
  intro m
  induction m with
  | zero =>
    intro N i y1 y2 y3 h1 him hN
    obtain ⟨N, rfl⟩ : ∃ N', N = N' + 1 := ⟨N - 1, by omega⟩
    have : i = L.length := by omega
    rw [lpT_succ]
    generalize lpT _ N _ = self
    unfold g20_0
    rw [kI64_lssN, decide_eq_false (by omega)]
    simp only [jn_eq, cnd_false]
    rw [this]
    exact ⟨_, _, _, rfl⟩
  | succ m ih =>
    intro N i y1 y2 y3 h1 him hN
    obtain ⟨N, rfl⟩ : ∃ N', N = N' + 1 := ⟨N - 1, by omega⟩
    have ei : L[i - 1]? = some (L[i - 1].1, L[i - 1].2) := by rw [List.getElem?_eq_getElem (by omega)]
    have ej : L[i]? = some (L[i].1, L[i].2) := by rw [List.getElem?_eq_getElem (by omega)]
    obtain ⟨q1, q2⟩ := hi (i - 1) i _ _ _ _ (by omega) ei ej
    rw [lpT_succ]
    generalize hself : lpT _ N (g20_0 R N0 v (.int .i64 (.ofNat 0)) (.int .i64 (.ofNat L.length)) cls k1) = self
    unfold g20_0
    rw [kI64_lssN, decide_eq_true (by omega)]
    simp only [jn_eq, cnd_true]
    obtain ⟨N0', rfl⟩ : ∃ N', N0 = N' + 1 := ⟨N0 - 1, by omega⟩
    rw [lpT_succ]
    generalize lpT _ N0' _ = self2
    unfold g20_1
    rw [kI64_gtrN, decide_eq_true (by omega)]
    simp only [gdT_true]
    rw [(s.lo hm.nx).pair (Ext.refl _) ej, kI64_subN h1 (by omega), (s.lo hm.nx).pair (Ext.refl _) ei]
    rw [callD (hc _ _ _ _ _ (by constructor <;> omega)), neg_lt (by omega)]
    simp only [pickD_true, jn_eq, cnd_false]
    rw [kI64_inc (by omega), ← hself]
    exact ih N (i + 1) _ _ _ (by omega) (by omega) (by omega)
theorem ins_ok {R : RnK} {N : Nat} {v : Value} {L : List (Int × Int)} {h : Hs} (hc : Cmp R) (s : Sl h v L) (hi : Inc L) (h1 : 1 ≤ L.length) (hL : L.length ≤ 1000) (hN : 1000 < N) :
    r20 R N [v, .int .i64 (.ofNat 0), .int .i64 (.ofNat L.length), cls] h = some (.val (.tuple #[]) h) := by
  rw [s20_eq]
  unfold s20
  rw [unC_cons, unC_cons, unC_cons, unC_cons, enK_eq, kI64_inc (by omega)]
  simp only [jn_eq]
  obtain ⟨z1, z2, z3, q⟩ := ins_loop (N0 := N) hc (s.lo h.nx) hi hL (by omega) (fun x2 x3 x4 x5 h6 => clrK h (.tuple #[]) h6) (L.length - 1) N 1 dunno dunno dunno (Nat.le_refl _) (by omega) (by omega)
  rw [q]
  exact clrK_tuple (vs := []) rfl (Nat.le_refl _)

/-- how many bits -/
theorem len_ok {R : RnK} {N : Nat} {h : Hs} {n : Nat} (h1 : 1 ≤ n) (hn : n ≤ 20) : ∃ m, r29 R N [.int .u64 (.ofNat n)] h = some (.val (.int .i64 (.ofNat (m + 1))) h) ∧ m < 10 := by
  have hq : ∀ m, r29 R N [.int .u64 (.ofNat n)] h = clrK h (.int .i64 (.ofNat (m + 1))) ⟨h.hp, h.nx, h.nx⟩ → m < 10 → ∃ m, r29 R N [.int .u64 (.ofNat n)] h = some (.val (.int .i64 (.ofNat (m + 1))) h) ∧ m < 10 := fun m e hm => ⟨m, e.trans (clrK_int (Nat.le_refl _)), hm⟩
  have : n = 1 ∨ n = 2 ∨ n = 3 ∨ n = 4 ∨ n = 5 ∨ n = 6 ∨ n = 7 ∨ n = 8 ∨ n = 9 ∨ n = 10 ∨ n = 11 ∨ n = 12 ∨ n = 13 ∨ n = 14 ∨ n = 15 ∨ n = 16 ∨ n = 17 ∨ n = 18 ∨ n = 19 ∨ n = 20 := by omega
  rcases this with rfl | rfl | rfl | rfl | rfl | rfl | rfl | rfl | rfl | rfl | rfl | rfl | rfl | rfl | rfl | rfl | rfl | rfl | rfl | rfl
  · exact hq 0 (by kernel_rfl) (by decide)
  · exact hq 1 (by kernel_rfl) (by decide)
  · exact hq 1 (by kernel_rfl) (by decide)
  · exact hq 2 (by kernel_rfl) (by decide)
  · exact hq 2 (by kernel_rfl) (by decide)
  · exact hq 2 (by kernel_rfl) (by decide)
  · exact hq 2 (by kernel_rfl) (by decide)
  · exact hq 3 (by kernel_rfl) (by decide)
  · exact hq 3 (by kernel_rfl) (by decide)
  · exact hq 3 (by kernel_rfl) (by decide)
  · exact hq 3 (by kernel_rfl) (by decide)
  · exact hq 3 (by kernel_rfl) (by decide)
  · exact hq 3 (by kernel_rfl) (by decide)
  · exact hq 3 (by kernel_rfl) (by decide)
  · exact hq 3 (by kernel_rfl) (by decide)
  · exact hq 4 (by kernel_rfl) (by decide)
  · exact hq 4 (by kernel_rfl) (by decide)
  · exact hq 4 (by kernel_rfl) (by decide)
  · exact hq 4 (by kernel_rfl) (by decide)
  · exact hq 4 (by kernel_rfl) (by decide)
theorem len18_ok {R : RnK} {N : Nat} {h : Hs} {n : Nat} (hR : ∃ R' N', ∀ args h, R 29 args h = r29 R' N' args h) (h1 : 1 ≤ n) (hn : n ≤ 20) : ∃ m, r18 R N [.int .u64 (.ofNat n)] h = some (.val (.int .i64 (.ofNat (m + 1))) h) ∧ m < 10 := by
  obtain ⟨R', N', hR⟩ := hR
  obtain ⟨m, q, hm⟩ := len_ok (R := R') (N := N') (h := ⟨h.hp, h.nx, h.nx⟩) h1 hn
  refine ⟨m, ?_, hm⟩
  rw [s18_eq]
  unfold s18
  rw [unC_cons, enK_eq]
  simp only [jn_eq, cnd_false]
  rw [kCall_ok ((hR _ _).trans q)]
  exact clrK_int (Nat.le_refl _)

/-- what sorting leans on -/
structure SortE (R : RnK) : Prop where
  ins : ∃ R' N', Cmp R' ∧ 1000 < N' ∧ ∀ args h, R 20 args h = r20 R' N' args h
  piv : ∃ R0 N0, (∃ R' N', (∃ R'' N'', Cmp R'' ∧ ∀ args h, R' 35 args h = r35 R'' N'' args h) ∧ ∀ args h, R0 34 args h = r34 R' N' args h) ∧ ∀ args h, R 23 args h = r23 R0 N0 args h
  part : ∃ R' N', Cmp R' ∧ 1000 < N' ∧ ∀ args h, R 25 args h = r25 R' N' args h
theorem pdq_ok {R : RnK} {N : Nat} {v : Value} {L : List (Int × Int)} {h : Hs} {m : Nat} (E : SortE R) (s : Sl h v L) (hi : Inc L) (h1 : 1 ≤ L.length) (hL : L.length ≤ 20) (hm : m < 10) (hN : 1000 < N) :
    r17 R N [v, .int .i64 (.ofNat 0), .int .i64 (.ofNat L.length), .int .i64 (.ofNat (m + 1)), cls] h = some (.val (.tuple #[]) h) := by
  rw [s17_eq]
  unfold s17
  rw [unC_cons, unC_cons, unC_cons, unC_cons, unC_cons, enK_eq]
  simp only [jn_eq]
  obtain ⟨N', rfl⟩ : ∃ N', N = N' + 1 := ⟨N - 1, by omega⟩
  rw [lpT_succ]
  generalize lpT _ N' _ = self
  unfold g17_0
  simp only [jn_eq]
  rw [kI64_subN (Nat.zero_le _) (by omega), kI64_leqN]
  simp only [Nat.sub_zero]
  by_cases c : L.length ≤ 12
  · obtain ⟨R', N', hc, hN', hR⟩ := E.ins
    rw [decide_eq_true c]
    simp only [cnd_true]
    rw [kCall_ok ((hR _ _).trans (ins_ok hc (s.lo h.nx) hi h1 (by omega) hN'))]
    exact clrK_tuple (vs := []) rfl (Nat.le_refl _)
  · obtain ⟨R0, N0, hq, hR⟩ := E.piv
    obtain ⟨R', N', hc, hN', hR2⟩ := E.part
    rw [decide_eq_false c]
    simp only [cnd_false]
    rw [kI64_eqlN, decide_eq_false (by omega)]
    simp only [cnd_false, kNot_eq, Bool.not_true]
    rw [kCall_ok ((hR _ _).trans (pivot_ok hq (s.lo h.nx) hi (by omega) hL))]
    simp only [kExtr_0, kExtr_1]
    rw [kI64_eqlN, decide_eq_false (by decide)]
    simp only [cnd_false, gdT_true, pick_true, after_some]
    rw [kI64_eqlN, decide_eq_true rfl]
    simp only [pick_true, after_some, cnd_true]
    rw [kCall_ok ((hR2 _ _).trans (part_ok hc (s.lo h.nx) hi h1 (by omega) hN'))]
    simp only [cnd_true]
    exact clrK_tuple (vs := []) rfl (Nat.le_refl _)
theorem kToU_ok {n : Nat} (hn : n ≤ 18446744073709551615) (K : Value → An) : kToU (.int .i64 (.ofNat n)) K = K (.int .u64 (.ofNat n)) := by
  show ifB (Nat.ble n 18446744073709551615) (K (.int .u64 (.ofNat n))) _ = _
  have : Nat.ble n 18446744073709551615 = true := Nat.ble_eq_true_of_le hn
  rw [this]; rfl
/-- SORTFUNC: what is rising stays as it is -/
theorem sort_ok {R : RnK} {N : Nat} {v : Value} {L : List (Int × Int)} {h : Hs} (h17 : ∃ R' N', SortE R' ∧ 1000 < N' ∧ ∀ args h, R 17 args h = r17 R' N' args h) (h18 : ∃ R0 N0, (∃ R' N', ∀ args h, R0 29 args h = r29 R' N' args h) ∧ ∀ args h, R 18 args h = r18 R0 N0 args h)
    (s : Sl h v L) (hi : Inc L) (h1 : 1 ≤ L.length) (hL : L.length ≤ 20) :
    r14 R N [v, cls] h = some (.val (.tuple #[]) h) := by
  obtain ⟨R', N', E, hN, h17⟩ := h17
  obtain ⟨R0, N0, hq, h18⟩ := h18
  obtain ⟨m, q, hm⟩ := len18_ok (R := R0) (N := N0) (h := ⟨h.hp, h.nx, h.nx⟩) hq h1 hL
  rw [s14_eq]
  unfold s14
  rw [unC_cons, unC_cons, enK_eq, s.len, kToU_ok (by omega), kCall_ok ((h18 _ _).trans q), kCall_ok ((h17 _ _).trans (pdq_ok E (s.lo h.nx) hi h1 hL hm hN))]
  exact clrK_tuple (vs := []) rfl (Nat.le_refl _)

/-! ### runs one behind the other -/
def sI : List Int → Int
  | [] => 0
  | l :: ls => l + sI ls
def chn : Int → List Int → List (Int × Int)
  | _, [] => []
  | a, l :: ls => (a, l) :: chn (a + l) ls
theorem chn_len : ∀ (ls : List Int) (a : Int), (chn a ls).length = ls.length := by
  intro ls
  induction ls with
  | nil => intro a; rfl
  | cons l ls ih => intro a; rw [chn, List.length_cons, List.length_cons, ih]
theorem chn_get : ∀ (ls : List Int) (a : Int) (i : Nat), (chn a ls)[i]? = (ls[i]?).map fun l => (a + sI (ls.take i), l) := by
  intro ls
  induction ls with
  | nil => intro a i; simp [chn]
  | cons l ls ih =>
    intro a i
    cases i with
    | zero => simp [chn, sI]
    | succ i =>
      rw [chn, List.getElem?_cons_succ, List.getElem?_cons_succ, ih, List.take_succ_cons, sI, Int.add_assoc]
theorem sI_snoc : ∀ (ls : List Int) (l : Int), sI (ls ++ [l]) = sI ls + l := by
  intro ls l
  induction ls with
  | nil => simp [sI]
  | cons x ls ih => rw [List.cons_append, sI, sI, ih, Int.add_assoc]
theorem take_succ' {ls : List Int} {i : Nat} {l : Int} (h : ls[i]? = some l) : ls.take (i + 1) = ls.take i ++ [l] := by rw [List.take_add_one, h]; rfl
theorem sI_take {ls : List Int} {i : Nat} {l : Int} (h : ls[i]? = some l) : sI (ls.take (i + 1)) = sI (ls.take i) + l := by rw [take_succ' h, sI_snoc]
def Lens (ls : List Int) : Prop := ls.length ≤ 20 ∧ ∀ l ∈ ls, 1 ≤ l ∧ l ≤ 20000
theorem sI_bound {ls : List Int} (h : Lens ls) : ∀ i, i ≤ ls.length → 0 ≤ sI (ls.take i) ∧ sI (ls.take i) ≤ i * 20000 := by
  intro i
  induction i with
  | zero => intro _; rw [List.take_zero]; exact ⟨Int.le_refl _, by simp [sI]⟩
  | succ i ih =>
    intro hi
    obtain ⟨q1, q2⟩ := ih (by omega)
    have hl : ls[i]? = some ls[i] := List.getElem?_eq_getElem (by omega)
    obtain ⟨p1, p2⟩ := h.2 _ (List.mem_of_getElem? hl)
    rw [sI_take hl]
    constructor
    · omega
    · push_cast; omega
theorem sI_mono {ls : List Int} (h : Lens ls) {i j : Nat} (hij : i ≤ j) (hj : j ≤ ls.length) : sI (ls.take i) ≤ sI (ls.take j) := by
  induction j with
  | zero => have : i = 0 := by omega
            subst this; exact Int.le_refl _
  | succ j ih =>
    by_cases e : i = j + 1
    · subst e; exact Int.le_refl _
    · have hl : ls[j]? = some ls[j] := List.getElem?_eq_getElem (by omega)
      have := (h.2 _ (List.mem_of_getElem? hl)).1
      have := ih (by omega) (by omega)
      rw [sI_take hl]; omega
theorem chn_at {a : Int} {ls : List Int} {i : Nat} {f l : Int} (h : (chn a ls)[i]? = some (f, l)) : ls[i]? = some l ∧ f = a + sI (ls.take i) := by
  rw [chn_get] at h
  cases hl : ls[i]? with
  | none => rw [hl] at h; cases h
  | some y =>
    rw [hl] at h
    simp only [Option.map_some, Option.some.injEq, Prod.mk.injEq] at h
    exact ⟨by rw [h.2], h.1.symm⟩
theorem chn_inc {a : Int} {ls : List Int} (h : Lens ls) : Inc (chn a ls) := fun i j fi li fj lj hij hi hj => by
  obtain ⟨p1, p2⟩ := chn_at hi
  obtain ⟨q1, q2⟩ := chn_at hj
  have hlt := (List.getElem?_eq_some_iff.1 q1).1
  have m := sI_mono h (i := i + 1) (j := j) (by omega) (by omega)
  rw [sI_take p1] at m
  have b1 := (h.2 _ (List.mem_of_getElem? p1)).1
  have b2 := sI_bound h j (by omega)
  have b3 := sI_bound h i (by omega)
  have := h.1
  constructor <;> omega
theorem chn_good {a : Int} {ls : List Int} (h : Lens ls) (ha : 0 ≤ a) (ha2 : a ≤ 1000) : ∀ x ∈ chn a ls, good x = true := fun x hx => by
  obtain ⟨i, hi⟩ := List.getElem?_of_mem hx
  obtain ⟨f, l⟩ := x
  obtain ⟨p1, p2⟩ := chn_at hi
  have hlt := (List.getElem?_eq_some_iff.1 p1).1
  have b1 := h.2 _ (List.mem_of_getElem? p1)
  have b2 := sI_bound h i (by omega)
  have := h.1
  simp only [good, Bool.and_eq_true, decide_eq_true_eq]
  omega
theorem chn_filter {a : Int} {ls : List Int} (h : Lens ls) (ha : 0 ≤ a) (ha2 : a ≤ 1000) : (chn a ls).filter good = chn a ls := List.filter_eq_self.2 (chn_good h ha ha2)
theorem sm_chn : ∀ (ls : List Int) (a : Int), sm (chn a ls) = sI ls := by
  intro ls
  induction ls with
  | nil => intro a; rfl
  | cons l ls ih => intro a; rw [chn, sm, sI, ih]

/-! ### Apart -/
theorem apart_loop {v : Value} {a : Int} {ls : List Int} {hb hm : Hs} (s : Sl hm v (chn a ls)) (hl : Lens ls) (ha : 0 ≤ a) (ha2 : a ≤ 1000) (k4 : Value → Value → Value → Value → Hs → An) : ∀ (m N i : Nat) (y1 y2 y3 : Value), 1 ≤ i → i + m = ls.length → m < N →
    ∃ z1 z2 z3 z4, lpT (T := Value → Value → Value → Value → Hs → An) (fun _ _ _ _ _ => none) N (g9_0 hb k4 v) (.int .i64 (.ofNat i)) y1 y2 y3 hm = k4 z1 z2 z3 z4 hm := by
  intro m
  induction m with
  | zero =>
    intro N i y1 y2 y3 h1 him hN
    obtain ⟨N, rfl⟩ : ∃ N', N = N' + 1 := ⟨N - 1, by omega⟩
    rw [lpT_succ]
    generalize lpT _ N _ = self
    unfold g9_0
    rw [s.len, kI64_lssN, decide_eq_false (by rw [chn_len]; omega)]
    simp only [jn_eq, cnd_false]
    exact ⟨_, _, _, _, rfl⟩
  | succ m ih =>
    intro N i y1 y2 y3 h1 him hN
    obtain ⟨N, rfl⟩ : ∃ N', N = N' + 1 := ⟨N - 1, by omega⟩
    have hlen := hl.1
    have li : ls[i - 1]? = some ls[i - 1] := List.getElem?_eq_getElem (by omega)
    have lj : ls[i]? = some ls[i] := List.getElem?_eq_getElem (by omega)
    have ei : (chn a ls)[i - 1]? = some (a + sI (ls.take (i - 1)), ls[i - 1]) := by rw [chn_get, li]; rfl
    have ej : (chn a ls)[i]? = some (a + sI (ls.take i), ls[i]) := by rw [chn_get, lj]; rfl
    have hs : sI (ls.take i) = sI (ls.take (i - 1)) + ls[i - 1] := by
      have := sI_take li
      rw [show i - 1 + 1 = i by omega] at this
      exact this
    have b1 := sI_bound hl i (by omega)
    rw [lpT_succ]
    generalize hself : lpT _ N (g9_0 hb k4 v) = self
    unfold g9_0
    rw [s.len, kI64_lssN, decide_eq_true (by rw [chn_len]; omega)]
    simp only [jn_eq, cnd_true, kLoad_lo]
    rw [kI64_subN h1 (by omega), s.fst (Ext.refl _) ei, kI64_subN h1 (by omega), s.snd (Ext.refl _) ei, kI64_add (by rw [Int.add_assoc, ← hs]; constructor <;> omega), s.fst (Ext.refl _) ej, kI64_gtr, decide_eq_false (by omega)]
    simp only [cnd_false]
    rw [kI64_inc (by omega), ← hself]
    exact ih N (i + 1) _ _ _ (by omega) (by omega) (by omega)
theorem apart_ok {R : RnK} {N : Nat} {v : Value} {a : Int} {ls : List Int} {h : Hs} (h13 : ∃ R' N', 1000 < N' ∧ ∀ args h, R 13 args h = r13 R' N' args h)
    (h14 : ∀ (v : Value) (L : List (Int × Int)) (h : Hs), Sl h v L → Inc L → 1 ≤ L.length → L.length ≤ 20 → R 14 [v, cls] h = some (.val (.tuple #[]) h))
    (s : Sl h v (chn a ls)) (hl : Lens ls) (h1 : 1 ≤ ls.length) (ha : 0 ≤ a) (ha2 : a ≤ 1000) (hN : 1000 < N) : r9 R N [v] h = some (.val (.bool true) h) := by
  obtain ⟨R', N', hN', h13⟩ := h13
  rw [s9_eq]
  unfold s9
  rw [unC_cons, enK_eq]
  have hlen := hl.1
  obtain ⟨v', h', q1, q2, q3, q4⟩ := counts_ok (R := R') (N := N') (vs := []) (s.lo h.nx) (by rw [chn_len]; omega) (by rw [chn_len]; omega)
  rw [chn_filter hl ha ha2] at q2
  rw [kCall_ok ((h13 _ _).trans q1), kCall_ok (h14 v' _ h' q2 (chn_inc hl) (by rw [chn_len]; exact h1) (by rw [chn_len]; exact hlen))]
  simp only [jn_eq]
  obtain ⟨z1, z2, z3, z4, q⟩ := apart_loop (hb := h) q2 hl ha ha2 (fun x5 x6 x7 x8 h9 => clrK h (.bool true) h9) (ls.length - 1) N 1 dunno dunno (.bool false) (Nat.le_refl _) (by omega) (by omega)
  rw [q]
  exact clrK_bool (by rw [q4]; exact Nat.le_refl _)

/-! ### Merge -/
theorem Own.len1 {n0 : Nat} {t : TypeId} {h : Hs} {v : Value} {x : Int × Int} (o : Own n0 t h v [x]) (K : Value → An) : kLenV v K = K (.int .i64 (.ofNat 1)) := o.sl.len K
theorem merge_loop {v : Value} {a : Int} {ls : List Int} {l0 : Nat} {h0 : Hs} (s : Sl h0 v (chn a ls)) (hl : Lens ls) (ha : 0 ≤ a) (ha2 : a ≤ 1000) (hl0 : l0 ≤ h0.nx) (k3 : Value → Value → Value → Value → Value → Value → Hs → An) : ∀ (m N i : Nat) (y1 y3 y4 y5 out : Value) (h : Hs), i + m = ls.length → m < N →
    Ext h0 h → l0 ≤ h.lo → (i = 0 ∧ out = .slice none 0 0 ∨ 0 < i ∧ Own h0.nx 25 h out [(a, sI (ls.take i))]) →
    ∃ z1 z2 out' z4 z5 z6 h', lpT (T := Value → Value → Value → Value → Value → Value → Hs → An) (fun _ _ _ _ _ _ _ => none) N (g8_0 k3 v (.int .i64 (.ofNat (chn a ls).length))) (.int .i64 (.ofNat i)) y1 out y3 y4 y5 h = k3 z1 z2 out' z4 z5 z6 h' ∧
      Ext h0 h' ∧ l0 ≤ h'.lo ∧ (ls.length = 0 ∨ Own h0.nx 25 h' out' [(a, sI ls)]) := by
  intro m
  induction m with
  | zero =>
    intro N i y1 y3 y4 y5 out h him hN e hlo ho
    obtain ⟨N, rfl⟩ : ∃ N', N = N' + 1 := ⟨N - 1, by omega⟩
    rw [lpT_succ]
    generalize lpT _ N _ = self
    unfold g8_0
    rw [kI64_lssN, decide_eq_false (by rw [chn_len]; omega)]
    simp only [jn_eq, cnd_false]
    refine ⟨_, _, _, _, _, _, _, rfl, e, hlo, ?_⟩
    rcases ho with ⟨rfl, _⟩ | ⟨_, ho⟩
    · exact .inl (by omega)
    · rw [List.take_of_length_le (by omega)] at ho; exact .inr ho
  | succ m ih =>
    intro N i y1 y3 y4 y5 out h him hN e hlo ho
    obtain ⟨N, rfl⟩ : ∃ N', N = N' + 1 := ⟨N - 1, by omega⟩
    have hlen := hl.1
    have lj : ls[i]? = some ls[i] := List.getElem?_eq_getElem (by omega)
    obtain ⟨l, hlq⟩ : ∃ l, ls[i]? = some l := ⟨_, lj⟩
    have ej : (chn a ls)[i]? = some (a + sI (ls.take i), l) := by rw [chn_get, hlq]; rfl
    have bl := hl.2 _ (List.mem_of_getElem? hlq)
    have b1 := sI_bound hl i (by omega)
    rw [lpT_succ]
    generalize hself : lpT _ N (g8_0 k3 v (.int .i64 (.ofNat (chn a ls).length))) = self
    unfold g8_0
    rw [kI64_lssN, decide_eq_true (by rw [chn_len]; omega)]
    simp only [jn_eq, cnd_true]
    rw [s.pair e ej, var2_ok]
    simp only [kLoad_lo]
    obtain ⟨e2, l2, n2⟩ := var2_ext2 e hl0 hlo 25 (a + sI (ls.take i)) l
    rcases ho with ⟨hi0, rfl⟩ | ⟨hi0, ho⟩
    · subst hi0
      rw [kLenV_ok, kI64_sub (by constructor <;> decide), kI64_geq, decide_eq_false (by decide)]
      simp only [gdT_false, pickD_false, cnd_false, var2_pair]
      obtain ⟨v', h', q1, q2, q3, q4, q5⟩ := Own.push2 (n0 := h0.nx) (l0 := l0) (t := 25) (h := var2 h 25 (a + sI (ls.take 0)) l) (v := .slice none 0 0) (L := []) (.inl ⟨rfl, rfl⟩) (by simp) (by have := e2.1; omega) hl0 l2 (a + sI (ls.take 0)) l
        (fun x111 h112 => kI64 .add (.int .i64 (.ofNat 0)) (.int .i64 (.ofNat 1)) (fun x29 => self x29 (.bool true) x111 (.int .i64 (Int.ofNat 0 - Int.ofNat 1)) (.pointer (some ⟨h.nx, 0, none⟩)) (.bool false) h112))
      rw [q1, kI64_inc (by omega), ← hself]
      have e3 : Ext h0 h' := ⟨Nat.le_trans e2.1 q3, fun id hid => (q5 id hid).trans (e2.2 id hid)⟩
      refine ih N (0 + 1) _ _ _ _ _ _ (by omega) (by omega) e3 q4 (.inr ⟨by omega, ?_⟩)
      rw [sI_take hlq]
      simpa [sI] using q2
    · have ho2 : Own h0.nx 25 (var2 h 25 (a + sI (ls.take i)) l) out [(a, sI (ls.take i))] := ho.other (by omega) fun id hid => by rw [var2_get, if_neg (by omega)]
      have hso := ho2.sl
      rw [Own.len1 ho, kI64_subN (by omega) (by omega), kI64_geqN, decide_eq_true (by omega)]
      simp only [gdT_true, Nat.sub_self]
      rw [hso.fst (Ext.refl _) (show [(a, sI (ls.take i))][0]? = some (a, sI (ls.take i)) from rfl), hso.snd (Ext.refl _) (show [(a, sI (ls.take i))][0]? = some (a, sI (ls.take i)) from rfl), kI64_add (by constructor <;> omega)]
      simp only [kFieldA_ok, Nat.zero_add, var2_l0, var2_l1]
      rw [kI64_eql, beq_self_eq_true]
      simp only [pickD_true, cnd_true]
      rw [hso.snd (Ext.refl _) (show [(a, sI (ls.take i))][0]? = some (a, sI (ls.take i)) from rfl), var2_l1, kI64_add (by constructor <;> omega)]
      obtain ⟨h', q1, q2, q3, q4, q5⟩ := ho2.setLen hl0 l2 (sI (ls.take i) + l) (fun _ h105 => kI64 .add (.int .i64 (.ofNat i)) (.int .i64 (.ofNat 1)) (fun x29 => self x29 (.bool true) out (.int .i64 (.ofNat 0)) (.pointer (some ⟨h.nx, 0, none⟩)) (.bool true) h105))
      rw [q1, kI64_inc (by omega), ← hself]
      have e3 : Ext h0 h' := ⟨by rw [q3]; exact e2.1, fun id hid => (q5 id hid).trans (e2.2 id hid)⟩
      refine ih N (i + 1) _ _ _ _ _ _ (by omega) (by omega) e3 q4 (.inr ⟨by omega, ?_⟩)
      rw [sI_take hlq]
      exact q2

theorem merge_ok {R : RnK} {N : Nat} {v : Value} {a : Int} {ls : List Int} {h : Hs} (h13 : ∃ R' N', 1000 < N' ∧ ∀ args h, R 13 args h = r13 R' N' args h)
    (s : Sl h v (chn a ls)) (hl : Lens ls) (h1 : 1 ≤ ls.length) (ha : 0 ≤ a) (ha2 : a ≤ 1000) (hN : 1000 < N) : ∃ v' h', r8 R N [v] h = some (.val v' h') ∧ Sl h' v' [(a, sI ls)] ∧ Ext h h' ∧ h'.lo = h.lo := by
  obtain ⟨R', N', hN', h13⟩ := h13
  rw [s8_eq]
  unfold s8
  rw [unC_cons, enK_eq]
  have hlen := hl.1
  obtain ⟨v', h', q1, q2, q3, q4⟩ := counts_ok (R := R') (N := N') (vs := []) (s.lo h.nx) (by rw [chn_len]; omega) (by rw [chn_len]; omega)
  rw [chn_filter hl ha ha2] at q2
  rw [kCall_ok ((h13 _ _).trans q1), q2.len]
  simp only [jn_eq]
  obtain ⟨z1, z2, out', z4, z5, z6, h2, p1, p2, p3, p4⟩ := merge_loop (l0 := h.nx) q2 hl ha ha2 q3.1 (fun x4 x5 x6 x7 x8 x9 h10 => clrK h x6 h10) ls.length N 0 dunno dunno dunno dunno (.slice none 0 0) h' (by omega) (by omega) (Ext.refl _) (by rw [q4]; exact Nat.le_refl _) (.inl ⟨rfl, rfl⟩)
  rw [p1]
  rcases p4 with p4 | p4
  · omega
  · obtain ⟨v2, h3, r1, r2, _, r3, r4⟩ := Own.back (h0 := h) rfl (p4.weak q3.1) p3
    exact ⟨v2, h3, r1, r2, r3, r4⟩

/-! ### own, alike: of one run -/
theorem own_ok {R : RnK} {N : Nat} {v : Value} {f l : Int} {h : Hs} (s : Sl h v [(f, l)]) (hN : 1000 < N) : ∃ v' h', r11 R N [v] h = some (.val v' h') ∧ Sl h' v' [(f, l)] ∧ Ext h h' ∧ h'.lo = h.lo := by
  obtain ⟨N, rfl⟩ : ∃ N', N = N' + 1 + 1 := ⟨N - 2, by omega⟩
  rw [s11_eq]
  unfold s11
  rw [unC_cons, enK_eq]
  simp only [jn_eq]
  rw [lpT_succ, lpT_succ]
  generalize lpT _ N _ = self
  unfold g11_0
  rw [s.len, kI64_lssN, decide_eq_true (show 0 < [(f, l)].length from Nat.zero_lt_one)]
  simp only [jn_eq, cnd_true, kLoad_lo]
  rw [s.fst (Ext.refl _) (show [(f, l)][0]? = some (f, l) from rfl), s.snd (Ext.refl _) (show [(f, l)][0]? = some (f, l) from rfl)]
  rw [buildD, pushD_nil, kI64_inc (by decide), s.len, kI64_lssN, decide_eq_false (show ¬ 0 + 1 < [(f, l)].length from Nat.lt_irrefl 1)]
  simp only [cnd_false]
  obtain ⟨v2, h3, r1, r2, _, r3, r4⟩ := Own.back (h0 := h) rfl (own_new ⟨h.hp, h.nx, h.nx⟩ h.nx (Nat.le_refl _) 37 f l) (Nat.le_refl _)
  exact ⟨v2, h3, r1, r2, r3, r4⟩
theorem alike_ok {R : RnK} {N : Nat} {v1 v2 : Value} {f l : Int} {h : Hs} (s1 : Sl h v1 [(f, l)]) (s2 : Sl h v2 [(f, l)]) (hN : 1000 < N) : r10 R N [v1, v2] h = some (.val (.bool true) h) := by
  obtain ⟨N, rfl⟩ : ∃ N', N = N' + 1 + 1 := ⟨N - 2, by omega⟩
  rw [s10_eq]
  unfold s10
  rw [unC_cons, unC_cons, enK_eq, s1.len, s2.len, kI64_neq, show ((Int.ofNat [(f, l)].length) != (Int.ofNat [(f, l)].length)) = false by simp]
  simp only [jn_eq, cnd_false]
  rw [lpT_succ, lpT_succ]
  generalize lpT _ N _ = self
  unfold g10_0
  rw [s1.len, kI64_lssN, decide_eq_true (show 0 < [(f, l)].length from Nat.zero_lt_one)]
  simp only [jn_eq, cnd_true, kLoads_lo]
  rw [s1.pair (Ext.refl _) (show [(f, l)][0]? = some (f, l) from rfl), s2.pair (Ext.refl _) (show [(f, l)][0]? = some (f, l) from rfl)]
  have e : e2 true (qA [.i, .i]) (.agg #[.int .i64 f, .int .i64 l]) (.agg #[.int .i64 f, .int .i64 l]) = some (.bool false) := by
    unfold e2; rw [qA_self]; rfl
  rw [e]
  show cnd (.bool false) _ _ = _
  rw [cnd_false, kI64_inc (by decide), s1.len, kI64_lssN, decide_eq_false (show ¬ 0 + 1 < [(f, l)].length from Nat.lt_irrefl 1)]
  simp only [cnd_false]
  exact clrK_bool (Nat.le_refl _)

theorem chn_snoc : ∀ (ls : List Int) (a l : Int), chn a (ls ++ [l]) = chn a ls ++ [(a + sI ls, l)] := by
  intro ls
  induction ls with
  | nil => intro a l; simp [chn, sI]
  | cons x ls ih => intro a l; rw [List.cons_append, chn, chn, ih, List.cons_append, sI, Int.add_assoc]
def Small (ls : List Int) : Prop := ∀ l ∈ ls, 1 ≤ l ∧ l ≤ 1000
theorem small_sum : ∀ ls : List Int, Small ls → 0 ≤ sI ls ∧ sI ls ≤ ls.length * 1000 ∧ (ls.length : Int) ≤ sI ls := by
  intro ls
  induction ls with
  | nil => intro _; exact ⟨Int.le_refl _, by simp [sI], by simp [sI]⟩
  | cons l ls ih =>
    intro h
    obtain ⟨q1, q2, q3⟩ := ih fun z hz => h z (List.mem_cons_of_mem _ hz)
    obtain ⟨h1, h2⟩ := h l List.mem_cons_self
    rw [sI, List.length_cons]
    refine ⟨by omega, ?_, ?_⟩ <;> push_cast <;> omega

theorem build_loop {hr h0 : Hs} (h00 : hr.nx = h0.nx) {v : Value} {a : Int} {ls : List Int} (s : SlI h0 v ls) (hlen : ls.length ≤ 20) (ha : 0 ≤ a) (ha2 : a ≤ 1000) (k42 : Value → Value → Value → Value → Value → Value → Hs → An) : ∀ (m N i : Nat) (y1 y2 y6 out : Value) (h : Hs), i + m = ls.length → m < N →
    Ext h0 h → h0.nx ≤ h.lo → Own h0.nx 25 h out (chn a (ls.take i)) → Small (ls.take i) →
    (lpT (T := Value → Value → Value → Value → Value → Value → Hs → An) (fun _ _ _ _ _ _ _ => none) N (g4_0 v hr k42) (.int .i64 (.ofNat i)) y1 y2 out (.int .i64 (a + sI (ls.take i))) y6 h = some (.val (.bool true) ⟨hr.hp, hr.nx, hr.lo⟩)) ∨
    ∃ z1 z2 z3 out' z6 h', lpT (T := Value → Value → Value → Value → Value → Value → Hs → An) (fun _ _ _ _ _ _ _ => none) N (g4_0 v hr k42) (.int .i64 (.ofNat i)) y1 y2 out (.int .i64 (a + sI (ls.take i))) y6 h = k42 z1 z2 z3 out' (.int .i64 (a + sI ls)) z6 h' ∧
      Ext h0 h' ∧ h0.nx ≤ h'.lo ∧ Own h0.nx 25 h' out' (chn a ls) ∧ Small ls := by
  intro m
  induction m with
  | zero =>
    intro N i y1 y2 y6 out h him hN e hlo ho hs
    obtain ⟨N, rfl⟩ : ∃ N', N = N' + 1 := ⟨N - 1, by omega⟩
    rw [lpT_succ]
    generalize lpT _ N _ = self
    unfold g4_0
    rw [s.len, kI64_lssN, decide_eq_false (by omega)]
    simp only [jn_eq, cnd_false]
    rw [List.take_of_length_le (by omega)] at ho hs ⊢
    exact .inr ⟨_, _, _, _, _, _, rfl, e, hlo, ho, hs⟩
  | succ m ih =>
    intro N i y1 y2 y6 out h him hN e hlo ho hs
    obtain ⟨N, rfl⟩ : ∃ N', N = N' + 1 := ⟨N - 1, by omega⟩
    obtain ⟨l, hlq⟩ : ∃ l, ls[i]? = some l := ⟨_, List.getElem?_eq_getElem (by omega)⟩
    obtain ⟨b1, b2, _⟩ := small_sum _ hs
    have b3 : (ls.take i).length ≤ 20 := by rw [List.length_take]; omega
    rw [lpT_succ]
    generalize hself : lpT _ N (g4_0 v hr k42) = self
    unfold g4_0
    rw [s.len, kI64_lssN, decide_eq_true (by omega)]
    simp only [jn_eq, cnd_true]
    rw [s.at e hlq, kI64_lss]
    by_cases c1 : l < 1
    · rw [show decide (l < Int.ofNat 1) = true from decide_eq_true c1]
      simp only [gdF_true, pick_true, after_some, cnd_true]
      exact .inl (clrK_bool (by omega))
    rw [show decide (l < Int.ofNat 1) = false from decide_eq_false c1]
    simp only [gdF_false]
    rw [s.at e hlq, kI64_gtr]
    by_cases c2 : 1000 < l
    · rw [show decide (Int.ofNat 1000 < l) = true from decide_eq_true c2]
      simp only [pick_false, after_some, cnd_true]
      exact .inl (clrK_bool (by omega))
    rw [show decide (Int.ofNat 1000 < l) = false from decide_eq_false c2]
    simp only [pick_false, after_some, cnd_false]
    rw [s.at e hlq]
    have eb : oBuild [Value.int .i64 (.ofNat 0), Value.int .i64 (.ofNat 0)] [(0, 1, .c (.int .i64 (a + sI (ls.take i)))), (1, 1, .c (.int .i64 l))] enE h = some (.agg #[.int .i64 (a + sI (ls.take i)), .int .i64 l], h) := rfl
    rw [eb, after_some]
    obtain ⟨v', h', q1, q2, q3, q4, q5⟩ := ho.push (by rw [chn_len]; omega) e.1 hlo (a + sI (ls.take i)) l (fun x189 h190 => kIdxA 1 v (.int .i64 (.ofNat i)) (fun x191 => kLoad x191 h190 (fun x192 => kI64 .add (.int .i64 (a + sI (ls.take i))) x192 (fun x193 =>
      kI64 .add (.int .i64 (.ofNat i)) (.int .i64 (.ofNat 1)) (fun x156 => self x156 (.bool true) (.bool false) x189 x193 y6 h190)))))
    have e3 : Ext h0 h' := ⟨Nat.le_trans e.1 q3, fun id hid => (q5 id hid).trans (e.2 id hid)⟩
    rw [q1, s.at e3 hlq, kI64_add (by constructor <;> omega), kI64_inc (by omega), ← hself, Int.add_assoc, ← sI_take hlq]
    refine ih N (i + 1) _ _ _ _ _ (by omega) (by omega) e3 q4 ?_ ?_
    · rw [take_succ' hlq, chn_snoc]; exact q2
    · intro x hx
      rw [take_succ' hlq] at hx
      rcases List.mem_append.1 hx with hx | hx
      · exact hs x hx
      · rw [List.mem_singleton.1 hx]; omega

/-- what the law leans on -/
structure Env (R : RnK) : Prop where
  merge : ∀ (v : Value) (a : Int) (ls : List Int) (h : Hs), Sl h v (chn a ls) → Lens ls → 1 ≤ ls.length → 0 ≤ a → a ≤ 1000 → ∃ v' h', R 8 [v] h = some (.val v' h') ∧ Sl h' v' [(a, sI ls)] ∧ Ext h h' ∧ h'.lo = h.lo
  apart : ∀ (v : Value) (a : Int) (ls : List Int) (h : Hs), Sl h v (chn a ls) → Lens ls → 1 ≤ ls.length → 0 ≤ a → a ≤ 1000 → R 9 [v] h = some (.val (.bool true) h)
  own : ∀ (v : Value) (f l : Int) (h : Hs), Sl h v [(f, l)] → ∃ v' h', R 11 [v] h = some (.val v' h') ∧ Sl h' v' [(f, l)] ∧ Ext h h' ∧ h'.lo = h.lo
  alike : ∀ (v1 v2 : Value) (f l : Int) (h : Hs), Sl h v1 [(f, l)] → Sl h v2 [(f, l)] → R 10 [v1, v2] h = some (.val (.bool true) h)
  total : ∀ (v : Value) (L : List (Int × Int)) (h : Hs), Sl h v L → L.length ≤ 1000 → R 7 [v] h = some (.val (.int .i64 (sm (L.filter good))) h)

theorem merged_ok {R : RnK} {N : Nat} {v : Value} {ls : List Int} {a : Int} {h : Hs} (E : Env R) (hN : 1000 < N) (s : SlI h v ls)
    (hawake : R 5 [] ⟨h.hp, h.nx, h.nx⟩ = some (.val (.bool true) ⟨h.hp, h.nx, h.nx⟩)) :
    r4 R N [v, .int .i64 a] h = some (.val (.bool true) ⟨h.hp, h.nx, h.lo⟩) := by
  rw [s4_eq]
  unfold s4
  rw [unC_cons, unC_cons, enK_eq, kCall_ok hawake, kNot_eq]
  simp only [jn_eq, Bool.not_true, cnd_false]
  rw [(s.lo h.nx).len, kI64_lssN]
  have fine : clrK h (.bool true) ⟨h.hp, h.nx, h.nx⟩ = some (.val (.bool true) ⟨h.hp, h.nx, h.lo⟩) := clrK_bool (Nat.le_refl _)
  by_cases c1 : ls.length < 1
  · rw [decide_eq_true c1]
    simp only [gdF_true, pick_true, after_some, cnd_true]
    exact fine
  rw [decide_eq_false c1]
  simp only [gdF_false]
  rw [(s.lo h.nx).len, kI64_gtrN]
  by_cases c2 : 20 < ls.length
  · rw [decide_eq_true c2]
    simp only [gdF_true, pick_false, pick_true, after_some, cnd_true]
    exact fine
  rw [decide_eq_false c2]
  simp only [gdF_false, pick_false, after_some]
  rw [kI64_lss]
  by_cases c3 : a < 0
  · rw [show decide (a < Int.ofNat 0) = true from decide_eq_true c3]
    simp only [gdF_true, pick_false, pick_true, after_some, cnd_true]
    exact fine
  rw [show decide (a < Int.ofNat 0) = false from decide_eq_false c3]
  simp only [gdF_false, pick_false, after_some]
  rw [kI64_gtr]
  by_cases c4 : 1000 < a
  · rw [show decide (Int.ofNat 1000 < a) = true from decide_eq_true c4]
    simp only [pick_false, after_some, cnd_true]
    exact fine
  rw [show decide (Int.ofNat 1000 < a) = false from decide_eq_false c4]
  simp only [pick_false, after_some, cnd_false]
  generalize hk : (fun (x43 x44 x45 x46 x47 x48 : Value) (h49 : Hs) => kCall R 8 [x46] h49 _) = k42
  rcases build_loop (a := a) (hr := h) (h0 := ⟨h.hp, h.nx, h.nx⟩) rfl (s.lo h.nx) (by omega) (by omega) (by omega) k42 ls.length N 0 dunno dunno (.bool false) (.slice none 0 0) ⟨h.hp, h.nx, h.nx⟩ (by omega) (by omega) (Ext.refl _) (Nat.le_refl _) (by rw [List.take_zero]; exact .inl ⟨rfl, rfl⟩) (fun x hx => by rw [List.take_zero] at hx; cases hx) with q | ⟨z1, z2, z3, out', z6, h', q, e1, l1, o1, hs⟩
  · rw [List.take_zero, sI, Int.add_zero] at q
    exact q
  · rw [List.take_zero, sI, Int.add_zero] at q
    rw [q, ← hk]
    dsimp only
    obtain ⟨b1, b2, b3⟩ := small_sum _ hs
    have hL : Lens ls := ⟨by omega, fun l hl => by have := hs l hl; omega⟩
    have hlen1 : 1 ≤ ls.length := by omega
    have so := o1.sl
    obtain ⟨v1, h1, m1, m2, m3, m4⟩ := E.merge out' a ls h' so hL hlen1 (by omega) (by omega)
    have hS : Lens [sI ls] := ⟨show 1 ≤ 20 by decide, fun l hl => by rw [List.mem_singleton.1 hl]; omega⟩
    have hc : chn a [sI ls] = [(a, sI ls)] := rfl
    obtain ⟨v2, h2, n1, n2, n3, n4⟩ := E.merge v1 a [sI ls] h1 (by rw [hc]; exact m2) hS (Nat.le_refl _) (by omega) (by omega)
    have hsS : sI [sI ls] = sI ls := by simp [sI]
    rw [hsS] at n2
    obtain ⟨v3, h3, p1, p2, p3, p4⟩ := E.own v2 a (sI ls) h2 n2
    obtain ⟨v4, h4, r1, r2, r3, r4⟩ := E.own v1 a (sI ls) h3 (m2.mono (n3.trans p3))
    have hal := E.alike v3 v4 a (sI ls) h4 (p2.mono r3) r2
    have so1 := so.mono m3
    have hap := E.apart out' a ls h1 so1 hL hlen1 (by omega) (by omega)
    have hto := E.total out' (chn a ls) h4 (so1.mono (n3.trans (p3.trans r3))) (by rw [chn_len]; omega)
    rw [chn_filter hL (by omega) (by omega), sm_chn] at hto
    have hq : e2 false (qA [.i, .i]) (.agg #[.int .i64 a, .int .i64 (sI ls)]) (.agg #[.int .i64 a, .int .i64 (sI ls)]) = some (.bool true) := by
      unfold e2; rw [qA_self]; rfl
    have eb : oBuild [Value.int .i64 (.ofNat 0), Value.int .i64 (.ofNat 0)] [(0, 1, .c (.int .i64 a)), (1, 1, .c (.int .i64 (sI ls)))] enE h1 = some (.agg #[.int .i64 a, .int .i64 (sI ls)], h1) := rfl
    have hsub : ∀ K : Value → An, kI64 .sub (.int .i64 (a + sI ls)) (.int .i64 a) K = K (.int .i64 (sI ls)) := fun K => by
      rw [kI64_sub (by constructor <;> omega)]; congr 2; omega
    rw [kCall_ok m1, m2.len, kI64_eql, show (Int.ofNat [(a, sI ls)].length == Int.ofNat 1) = true from rfl]
    simp only [gdT_true]
    rw [m2.pair (Ext.refl _) (show [(a, sI ls)][0]? = some (a, sI ls) from rfl), hsub, eb]
    simp only [after_some]
    rw [hq, obK_is]
    simp only [pick_true, after_some, gdT_true]
    rw [kCall_ok hap]
    simp only [pick_true, after_some, gdT_true]
    rw [kCall_ok n1, kCall_ok p1, kCall_ok r1, kCall_ok hal]
    simp only [pick_true, after_some, gdT_true]
    rw [kCall_ok hto, hsub, kI64_eql, beq_self_eq_true]
    refine clrK_bool ?_
    rw [r4, p4, n4, m4]
    exact l1
end Go.Proofs.Ytcejpcbhbnklaaa.runsMerged
