/- What the functions of 'RunsAll' compute where their arguments are not known: by induction over their loops. -/
import Derived.Test.YtcejpcbhbnklaaaGevAr
import Derived.Test.YtcejpcbhbnklaaaRunsAllTab
namespace Go.Proofs.Ytcejpcbhbnklaaa.runsAll
open Go Go.Gev
set_option linter.unusedVariables false

noncomputable def g13_0 (a0 : Value) (k1 : Value → Value → Value → Value → Value → Hs → An) (x0 : Value) : (Value → Value → Value → Value → Value → Hs → An) → Value → Value → Value → Value → Value → Hs → An :=
 (fun k8 =>
 fun (x10 x11 x12 x13 x14 : Value) (h15 : Hs) =>
 kI64 .lss x10 x0 (fun x16 =>
 jn (fun (h18 : Hs) =>
 jn (fun (x20 x21 x22 : Value) (h23 : Hs) =>
 kI64 .add x10 (Value.int .i64 (.ofNat 1)) (fun x24 =>
 k8 x24 x16 x20 x21 x22 h23)) fun k19 =>
 kIdxA 2 a0 x10 (fun x25 =>
 kLoads 2 x25 h18 (fun x26 =>
 after (fun x27 h28 =>
 after (fun x29 h30 =>
 kFieldA 1 x27 (fun x31 =>
 kLoad x31 h30 (fun x32 =>
 kI64 .geq x32 (Value.int .i64 (.ofNat 1)) (fun x33 =>
 gdT x33 h30 (fun k34 => kFieldA 1 x27 (fun x35 => k34 x35 h30)) (fun x36 h37 =>
 gdT x33 h37 (fun k38 => kLoad x36 h37 (fun x39 => k38 x39 h37)) (fun x40 h41 =>
 gdT x33 h41 (fun k42 => kI64 .leq x40 (Value.int .i64 (.ofNat 1073741824)) (fun x43 => k42 x43 h41)) (fun x44 h45 =>
 after (fun x46 h47 =>
 gdT x46 h47 (fun k48 => kFieldA 0 x27 (fun x49 => k48 x49 h47)) (fun x50 h51 =>
 gdT x46 h51 (fun k52 => kLoad x50 h51 (fun x53 => k52 x53 h51)) (fun x54 h55 =>
 gdT x46 h55 (fun k56 => kI64 .geq x54 (Value.int .i64 (.ofNat 0)) (fun x57 => k56 x57 h55)) (fun x58 h59 =>
 after (fun x60 h61 =>
 gdT x60 h61 (fun k62 => kFieldA 0 x27 (fun x63 => k62 x63 h61)) (fun x64 h65 =>
 gdT x60 h65 (fun k66 => kLoad x64 h65 (fun x67 => k66 x67 h65)) (fun x68 h69 =>
 gdT x60 h69 (fun k70 => kI64 .leq x68 (Value.int .i64 (.ofNat 1073741824)) (fun x71 => k70 x71 h69)) (fun x72 h73 =>
 after (fun x74 h75 =>
 jn (fun (x77 : Value) (h78 : Hs) =>
 k19 x27 x74 x77 h78) fun k76 =>
 cnd x74
 (kLoads 2 x27 h75 (fun x79 =>
 after (fun x80 h81 =>
 after (fun x82 h83 =>
 k76 x82 h83) (app0 25 2 16 h81 x14 x80)) (oMkrow 25 2 1 [(Value.int .i64 (.ofNat 0)), (Value.int .i64 (.ofNat 0))] [(0, 2, .c x79)] enE h75)))
 (k76 x14 h75)) (pickB (.c x72) (.c (Value.bool false)) enE h73 x60))))) (pickB (.c x58) (.c (Value.bool false)) enE h59 x46))))) (pickB (.c x44) (.c (Value.bool false)) enE h45 x33)))))))) (store1 2 h28 (cellsL x26) (addrOf x27))) (oAlloc 25 [(Value.int .i64 (.ofNat 0)), (Value.int .i64 (.ofNat 0))] enE h18)))) fun k17 =>
 cnd x16
 (k17 h15)
 (k1 x10 x16 x12 x13 x14 h15)))

noncomputable def s13 (R : RnK) (N : Nat) (args : List Value) (h : Hs) : An := unC args fun a0 sq0 => enK h fun h0 =>
 kLenV a0 (fun x0 =>
 jn (fun (x2 x3 x4 x5 x6 : Value) (h7 : Hs) =>
 clrK h x6 h7) fun k1 =>
 lpT (T := Value → Value → Value → Value → Value → Hs → An) (fun _ _ _ _ _ _ => none) N (g13_0 a0 k1 x0) (Value.int .i64 (.ofNat 0)) dunno dunno dunno (Value.slice none 0 0) h0)

theorem s13_eq (R : RnK) (N : Nat) (args : List Value) (h : Hs) : r13 R N args h = s13 R N args h := rfl

noncomputable def g6_0 (h : Hs) (k8 : Value → Value → Value → Value → Value → Value → Value → Hs → An) (x5 : Value) (x7 : Value) : (Value → Value → Value → Value → Value → Value → Value → Hs → An) → Value → Value → Value → Value → Value → Value → Value → Hs → An :=
 (fun k17 =>
 fun (x19 x20 x21 x22 x23 x24 x25 : Value) (h26 : Hs) =>
 kI64 .lss x20 x7 (fun x27 =>
 jn (fun (h29 : Hs) =>
 jn (fun (x31 x32 x33 x34 x35 : Value) (h36 : Hs) =>
 kI64 .add x20 (Value.int .i64 (.ofNat 1)) (fun x37 =>
 k17 x31 x37 x27 x32 x33 x34 x35 h36)) fun k30 =>
 kIdxA 2 x5 x20 (fun x38 =>
 kLoads 2 x38 h29 (fun x39 =>
 after (fun x40 h41 =>
 after (fun x42 h43 =>
 kFieldA 1 x40 (fun x44 =>
 kLoad x44 h43 (fun x45 =>
 kI64 .lss x19 x45 (fun x46 =>
 jn (fun (x48 x49 : Value) (h50 : Hs) =>
 kFieldA 1 x40 (fun x51 =>
 kLoad x51 h50 (fun x52 =>
 kI64 .sub x19 x52 (fun x53 =>
 k30 x53 x40 x46 x48 x49 h50)))) fun k47 =>
 cnd x46
 (kFieldA 0 x40 (fun x54 =>
 kLoad x54 h43 (fun x55 =>
 kI64 .add x55 x19 (fun x56 =>
 clrK h (Value.tuple #[x56, (Value.bool true)]) h43))))
 (k47 x24 x25 h43))))) (store1 2 h41 (cellsL x39) (addrOf x40))) (oAlloc 25 [(Value.int .i64 (.ofNat 0)), (Value.int .i64 (.ofNat 0))] enE h29)))) fun k28 =>
 cnd x27
 (k28 h26)
 (k8 x19 x20 x27 x22 x23 x24 x25 h26)))

noncomputable def s6 (R : RnK) (N : Nat) (args : List Value) (h : Hs) : An := unC args fun a0 sq0 => unC sq0 fun a1 sq1 => enK h fun h0 =>
 kI64 .lss a1 (Value.int .i64 (.ofNat 0)) (fun x0 =>
 jn (fun (x2 x3 : Value) (h4 : Hs) =>
 kCall R 13 [a0] h4 (fun x5 h6 =>
 kLenV x5 (fun x7 =>
 jn (fun (x9 x10 x11 x12 x13 x14 x15 : Value) (h16 : Hs) =>
 clrK h (Value.tuple #[(Value.int .i64 (.ofNat 0)), (Value.bool false)]) h16) fun k8 =>
 lpT (T := Value → Value → Value → Value → Value → Value → Value → Hs → An) (fun _ _ _ _ _ _ _ _ => none) N (g6_0 h k8 x5 x7) a1 (Value.int .i64 (.ofNat 0)) dunno dunno dunno x2 x3 h6))) fun k1 =>
 cnd x0
 (clrK h (Value.tuple #[(Value.int .i64 (.ofNat 0)), (Value.bool false)]) h0)
 (k1 (Value.int .i64 (.ofNat 0)) (Value.bool false) h0))

theorem s6_eq (R : RnK) (N : Nat) (args : List Value) (h : Hs) : r6 R N args h = s6 R N args h := rfl

noncomputable def g7_0 (k3 : Value → Value → Value → Value → Hs → An) (x0 : Value) (x2 : Value) : (Value → Value → Value → Value → Hs → An) → Value → Value → Value → Value → Hs → An :=
 (fun k9 =>
 fun (x11 x12 x13 x14 : Value) (h15 : Hs) =>
 kI64 .lss x11 x2 (fun x16 =>
 jn (fun (h18 : Hs) =>
 jn (fun (x20 x21 : Value) (h22 : Hs) =>
 kI64 .add x11 (Value.int .i64 (.ofNat 1)) (fun x23 =>
 k9 x23 x16 x20 x21 h22)) fun k19 =>
 kIdxA 2 x0 x11 (fun x24 =>
 kLoads 2 x24 h18 (fun x25 =>
 after (fun x26 h27 =>
 after (fun x28 h29 =>
 kFieldA 1 x26 (fun x30 =>
 kLoad x30 h29 (fun x31 =>
 kI64 .add x13 x31 (fun x32 =>
 k19 x32 x26 h29)))) (store1 2 h27 (cellsL x25) (addrOf x26))) (oAlloc 25 [(Value.int .i64 (.ofNat 0)), (Value.int .i64 (.ofNat 0))] enE h18)))) fun k17 =>
 cnd x16
 (k17 h15)
 (k3 x11 x16 x13 x14 h15)))

noncomputable def s7 (R : RnK) (N : Nat) (args : List Value) (h : Hs) : An := unC args fun a0 sq0 => enK h fun h0 =>
 kCall R 13 [a0] h0 (fun x0 h1 =>
 kLenV x0 (fun x2 =>
 jn (fun (x4 x5 x6 x7 : Value) (h8 : Hs) =>
 clrK h x6 h8) fun k3 =>
 lpT (T := Value → Value → Value → Value → Hs → An) (fun _ _ _ _ _ => none) N (g7_0 k3 x0 x2) (Value.int .i64 (.ofNat 0)) dunno (Value.int .i64 (.ofNat 0)) dunno h1))

theorem s7_eq (R : RnK) (N : Nat) (args : List Value) (h : Hs) : r7 R N args h = s7 R N args h := rfl

noncomputable def g3_1 (R : RnK) (a0 : Value) (h : Hs) (k150 : Value → Value → Value → Value → Value → Value → Value → Hs → An) (x45 : Value) : (Value → Value → Value → Value → Value → Value → Value → Hs → An) → Value → Value → Value → Value → Value → Value → Value → Hs → An :=
 (fun k159 =>
 fun (x161 x162 x163 x164 x165 x166 x167 : Value) (h168 : Hs) =>
 kIdxA 2 a0 x45 (fun x169 =>
 kFieldA 1 x169 (fun x170 =>
 kLoad x170 h168 (fun x171 =>
 kI64 .lss x161 x171 (fun x172 =>
 jn (fun (h174 : Hs) =>
 jn (fun (x176 x177 x178 x179 x180 : Value) (h181 : Hs) =>
 kI64 .add x161 (Value.int .i64 (.ofNat 1)) (fun x182 =>
 k159 x182 x172 x176 x177 x178 x179 x180 h181)) fun k175 =>
 kCall R 6 [a0, x163] h174 (fun x183 h184 =>
 kExtr x183 0 (fun x185 =>
 kExtr x183 1 (fun x186 =>
 kNot x186 (fun x187 =>
 gdF x187 h184 (fun k188 => k188 x185 h184) (fun x189 h190 =>
 gdF x187 h190 (fun k191 => k191 a0 h190) (fun x192 h193 =>
 gdF x187 h193 (fun k194 => k194 x45 h193) (fun x195 h196 =>
 gdF x187 h196 (fun k197 => kIdxA 2 x192 x195 (fun x198 => k197 x198 h196)) (fun x199 h200 =>
 gdF x187 h200 (fun k201 => kFieldA 0 x199 (fun x202 => k201 x202 h200)) (fun x203 h204 =>
 gdF x187 h204 (fun k205 => kLoad x203 h204 (fun x206 => k205 x206 h204)) (fun x207 h208 =>
 gdF x187 h208 (fun k209 => k209 x161 h208) (fun x210 h211 =>
 gdF x187 h211 (fun k212 => kI64 .add x207 x210 (fun x213 => k212 x213 h211)) (fun x214 h215 =>
 gdF x187 h215 (fun k216 => kI64 .neq x189 x214 (fun x217 => k216 x217 h215)) (fun x218 h219 =>
 after (fun x220 h221 =>
 jn (fun (x223 : Value) (h224 : Hs) =>
 kI64 .add x163 (Value.int .i64 (.ofNat 1)) (fun x225 =>
 k175 x225 x186 x185 x220 x223 h224)) fun k222 =>
 cnd x220
 (clrK h (Value.bool false) h221)
 (k222 x167 h221)) (pickB (.c (Value.bool true)) (.c x218) enE h219 x187))))))))))))))) fun k173 =>
 cnd x172
 (k173 h168)
 (k150 x161 x172 x163 x164 x165 x166 x167 h168))))))

noncomputable def g3_0 (R : RnK) (N : Nat) (a0 : Value) (h : Hs) (k11 : Value → Value → Value → Value → Value → Value → Value → Value → Value → Value → Hs → An) : (Value → Value → Value → Value → Value → Value → Value → Value → Value → Value → Hs → An) → Value → Value → Value → Value → Value → Value → Value → Value → Value → Value → Hs → An :=
 (fun k43 =>
 fun (x45 x46 x47 x48 x49 x50 x51 x52 x53 x54 : Value) (h55 : Hs) =>
 kLenV a0 (fun x56 =>
 kI64 .lss x45 x56 (fun x57 =>
 jn (fun (h59 : Hs) =>
 jn (fun (x61 x62 x63 x64 x65 x66 x67 x68 : Value) (h69 : Hs) =>
 kI64 .add x45 (Value.int .i64 (.ofNat 1)) (fun x70 =>
 k43 x70 x57 x61 x62 x63 x64 x65 x66 x67 x68 h69)) fun k60 =>
 kIdxA 2 a0 x45 (fun x71 =>
 kFieldA 1 x71 (fun x72 =>
 kLoad x72 h59 (fun x73 =>
 kI64 .lss x73 (Value.int .i64 (.ofNat 1)) (fun x74 =>
 gdF x74 h59 (fun k75 => k75 a0 h59) (fun x76 h77 =>
 gdF x74 h77 (fun k78 => k78 x45 h77) (fun x79 h80 =>
 gdF x74 h80 (fun k81 => kIdxA 2 x76 x79 (fun x82 => k81 x82 h80)) (fun x83 h84 =>
 gdF x74 h84 (fun k85 => kFieldA 1 x83 (fun x86 => k85 x86 h84)) (fun x87 h88 =>
 gdF x74 h88 (fun k89 => kLoad x87 h88 (fun x90 => k89 x90 h88)) (fun x91 h92 =>
 gdF x74 h92 (fun k93 => kI64 .gtr x91 (Value.int .i64 (.ofNat 50)) (fun x94 => k93 x94 h92)) (fun x95 h96 =>
 after (fun x97 h98 =>
 gdF x97 h98 (fun k99 => k99 a0 h98) (fun x100 h101 =>
 gdF x97 h101 (fun k102 => k102 x45 h101) (fun x103 h104 =>
 gdF x97 h104 (fun k105 => kIdxA 2 x100 x103 (fun x106 => k105 x106 h104)) (fun x107 h108 =>
 gdF x97 h108 (fun k109 => kFieldA 0 x107 (fun x110 => k109 x110 h108)) (fun x111 h112 =>
 gdF x97 h112 (fun k113 => kLoad x111 h112 (fun x114 => k113 x114 h112)) (fun x115 h116 =>
 gdF x97 h116 (fun k117 => kI64 .lss x115 (Value.int .i64 (.ofNat 0)) (fun x118 => k117 x118 h116)) (fun x119 h120 =>
 after (fun x121 h122 =>
 gdF x121 h122 (fun k123 => k123 a0 h122) (fun x124 h125 =>
 gdF x121 h125 (fun k126 => k126 x45 h125) (fun x127 h128 =>
 gdF x121 h128 (fun k129 => kIdxA 2 x124 x127 (fun x130 => k129 x130 h128)) (fun x131 h132 =>
 gdF x121 h132 (fun k133 => kFieldA 0 x131 (fun x134 => k133 x134 h132)) (fun x135 h136 =>
 gdF x121 h136 (fun k137 => kLoad x135 h136 (fun x138 => k137 x138 h136)) (fun x139 h140 =>
 gdF x121 h140 (fun k141 => kI64 .gtr x139 (Value.int .i64 (.ofNat 1000)) (fun x142 => k141 x142 h140)) (fun x143 h144 =>
 after (fun x145 h146 =>
 jn (fun (x148 : Value) (h149 : Hs) =>
 jn (fun (x151 x152 x153 x154 x155 x156 x157 : Value) (h158 : Hs) =>
 k60 x145 x151 x152 x153 x154 x155 x156 x157 h158) fun k150 =>
 lpT (T := Value → Value → Value → Value → Value → Value → Value → Hs → An) (fun _ _ _ _ _ _ _ _ => none) N (g3_1 R a0 h k150 x45) (Value.int .i64 (.ofNat 0)) x49 x50 x51 x52 x53 x148 h149) fun k147 =>
 cnd x145
 (clrK h (Value.bool true) h146)
 (k147 x54 h146)) (pickB (.c (Value.bool true)) (.c x143) enE h144 x121)))))))) (pickB (.c (Value.bool true)) (.c x119) enE h120 x97)))))))) (pickB (.c (Value.bool true)) (.c x95) enE h96 x74)))))))))))) fun k58 =>
 cnd x57
 (k58 h55)
 (k11 x45 x57 x47 x48 x49 x50 x51 x52 x53 x54 h55))))

noncomputable def s3 (R : RnK) (N : Nat) (args : List Value) (h : Hs) : An := unC args fun a0 sq0 => enK h fun h0 =>
 kCall R 5 [] h0 (fun x0 h1 =>
 kNot x0 (fun x2 =>
 jn (fun (x4 : Value) (h5 : Hs) =>
 kLenV a0 (fun x6 =>
 kI64 .gtr x6 (Value.int .i64 (.ofNat 8)) (fun x7 =>
 jn (fun (x9 : Value) (h10 : Hs) =>
 jn (fun (x12 x13 x14 x15 x16 x17 x18 x19 x20 x21 : Value) (h22 : Hs) =>
 kCall R 6 [a0, x17] h22 (fun x23 h24 =>
 kExtr x23 0 (fun x25 =>
 kExtr x23 1 (fun x26 =>
 kNot x26 (fun x27 =>
 gdT x27 h24 (fun k28 => k28 a0 h24) (fun x29 h30 =>
 gdT x27 h30 (fun k31 => kCall R 7 [x29] h30 (k31)) (fun x32 h33 =>
 gdT x27 h33 (fun k34 => k34 x17 h33) (fun x35 h36 =>
 gdT x27 h36 (fun k37 => kI64 .eql x32 x35 (fun x38 => k37 x38 h36)) (fun x39 h40 =>
 after (fun x41 h42 =>
 clrK h x41 h42) (pickB (.c x39) (.c (Value.bool false)) enE h40 x27)))))))))) fun k11 =>
 lpT (T := Value → Value → Value → Value → Value → Value → Value → Value → Value → Value → Hs → An) (fun _ _ _ _ _ _ _ _ _ _ _ => none) N (g3_0 R N a0 h k11) (Value.int .i64 (.ofNat 0)) dunno dunno dunno dunno (Value.int .i64 (.ofNat 0)) dunno dunno dunno x9 h10) fun k8 =>
 cnd x7
 (clrK h (Value.bool true) h5)
 (k8 x4 h5)))) fun k3 =>
 cnd x2
 (clrK h (Value.bool false) h1)
 (k3 (Value.bool false) h1)))

theorem s3_eq (R : RnK) (N : Nat) (args : List Value) (h : Hs) : r3 R N args h = s3 R N args h := rfl


/-- a run that counts -/
def good (x : Int × Int) : Bool := decide (1 ≤ x.2) && decide (x.2 ≤ 1073741824) && decide (0 ≤ x.1) && decide (x.1 ≤ 1073741824)

theorem counts_loop (v : Value) (L : List (Int × Int)) (h0 : Hs) (s : Sl h0 v L) (hL : L.length ≤ 1000) (k1 : Value → Value → Value → Value → Value → Hs → An) : ∀ (m N i : Nat) (x11 x12 x13 out : Value) (h : Hs), i + m = L.length → m < N →
    Ext h0 h → h0.nx ≤ h.lo → Own h0.nx 25 h out ((L.take i).filter good) →
    ∃ y1 y2 y3 y4 out' h', lpT (T := Value → Value → Value → Value → Value → Hs → An) (fun _ _ _ _ _ _ => none) N (g13_0 v k1 (.int .i64 (.ofNat L.length))) (.int .i64 (.ofNat i)) x11 x12 x13 out h = k1 y1 y2 y3 y4 out' h' ∧
      Ext h0 h' ∧ h0.nx ≤ h'.lo ∧ Own h0.nx 25 h' out' (L.filter good) := by
  intro m
  induction m with
  | zero =>
    intro N i x11 x12 x13 out h hi hN e hl o
    obtain ⟨N, rfl⟩ : ∃ N', N = N' + 1 := ⟨N - 1, by omega⟩
    rw [lpT_succ]
    unfold g13_0
    rw [kI64_lssN, decide_eq_false (by omega)]
    simp only [jn_eq, cnd_false]
    rw [show L.take i = L from List.take_of_length_le (by omega)] at o
    exact ⟨_, _, _, _, _, _, rfl, e, hl, o⟩
  | succ m ih =>
    intro N i x11 x12 x13 out h hi hN e hl o
    obtain ⟨N, rfl⟩ : ∃ N', N = N' + 1 := ⟨N - 1, by omega⟩
    have hlt : i < L.length := by omega
    obtain ⟨f, l, hfl⟩ : ∃ f l, L[i]? = some (f, l) := ⟨L[i].1, L[i].2, by rw [List.getElem?_eq_getElem hlt]⟩
    have htake : L.take (i + 1) = L.take i ++ [(f, l)] := by rw [List.take_add_one, hfl]; rfl
    rw [lpT_succ]
    generalize hself : lpT (T := Value → Value → Value → Value → Value → Hs → An) (fun _ _ _ _ _ _ => none) N (g13_0 v k1 (.int .i64 (.ofNat L.length))) = self
    unfold g13_0
    rw [kI64_lssN, decide_eq_true hlt]
    simp only [jn_eq, cnd_true]
    rw [s.pair e hfl, var2_ok]
    obtain ⟨e2, l2, n2⟩ := var2_ext e hl 25 f l
    have o2 : Own h0.nx 25 (var2 h 25 f l) out ((L.take i).filter good) := o.other (by omega) fun id hid => by rw [var2_get, if_neg (by omega)]
    have done : ∀ x, good (f, l) = false → ∃ y1 y2 y3 y4 out' h', self (.int .i64 (.ofNat (i + 1))) (.bool true) (.pointer (some ⟨h.nx, 0, none⟩)) x out (var2 h 25 f l) = k1 y1 y2 y3 y4 out' h' ∧
        Ext h0 h' ∧ h0.nx ≤ h'.lo ∧ Own h0.nx 25 h' out' (L.filter good) := fun x hg => by
      rw [← hself]
      refine ih N (i + 1) _ _ _ _ _ (by omega) (by omega) e2 l2 ?_
      rw [htake, List.filter_append, List.filter_cons, hg]
      simpa using o2
    by_cases c1 : (1 : Int) ≤ l
    case neg =>
      have d1 : decide (Int.ofNat 1 ≤ l) = false := decide_eq_false c1
      simp only [kFieldA_ok, Nat.zero_add, Nat.add_zero, var2_l0, var2_l1, kI64_geq, kI64_leq, gdT_true, gdT_false, after_some, pick_true, pick_false, d1, cnd_false, kI64_inc (show i < 9223372036854775807 by omega)]
      exact done _ (by simp [good, c1])
    by_cases c2 : l ≤ 1073741824
    case neg =>
      have d1 : decide (Int.ofNat 1 ≤ l) = true := decide_eq_true c1
      have d2 : decide (l ≤ Int.ofNat 1073741824) = false := decide_eq_false c2
      simp only [kFieldA_ok, Nat.zero_add, Nat.add_zero, var2_l0, var2_l1, kI64_geq, kI64_leq, gdT_true, gdT_false, after_some, pick_true, pick_false, d1, d2, cnd_false, kI64_inc (show i < 9223372036854775807 by omega)]
      exact done _ (by simp [good, c2])
    by_cases c3 : (0 : Int) ≤ f
    case neg =>
      have d1 : decide (Int.ofNat 1 ≤ l) = true := decide_eq_true c1
      have d2 : decide (l ≤ Int.ofNat 1073741824) = true := decide_eq_true c2
      have d3 : decide (Int.ofNat 0 ≤ f) = false := decide_eq_false c3
      simp only [kFieldA_ok, Nat.zero_add, Nat.add_zero, var2_l0, var2_l1, kI64_geq, kI64_leq, gdT_true, gdT_false, after_some, pick_true, pick_false, d1, d2, d3, cnd_false, kI64_inc (show i < 9223372036854775807 by omega)]
      exact done _ (by simp [good, c3])
    have d1 : decide (Int.ofNat 1 ≤ l) = true := decide_eq_true c1
    have d2 : decide (l ≤ Int.ofNat 1073741824) = true := decide_eq_true c2
    have d3 : decide (Int.ofNat 0 ≤ f) = true := decide_eq_true c3
    by_cases c4 : f ≤ 1073741824
    case neg =>
      have d4 : decide (f ≤ Int.ofNat 1073741824) = false := decide_eq_false c4
      simp only [kFieldA_ok, Nat.zero_add, Nat.add_zero, var2_l0, var2_l1, kI64_geq, kI64_leq, gdT_true, gdT_false, after_some, pick_true, pick_false, d1, d2, d3, d4, cnd_false, kI64_inc (show i < 9223372036854775807 by omega)]
      exact done _ (by simp [good, c4])
    have d4 : decide (f ≤ Int.ofNat 1073741824) = true := decide_eq_true c4
    simp only [kFieldA_ok, Nat.zero_add, Nat.add_zero, var2_l0, var2_l1, kI64_geq, kI64_leq, gdT_true, gdT_false, after_some, pick_true, pick_false, d1, d2, d3, d4, cnd_true, var2_pair, kI64_inc (show i < 9223372036854775807 by omega)]
    have hlen : ((L.take i).filter good).length ≤ 1000 := Nat.le_trans (List.length_filter_le _ _) (by rw [List.length_take]; omega)
    obtain ⟨v', h', q1, q2, q3, q4, q5⟩ := o2.push hlen (by have := e2.1; omega) l2 f l (fun x82 h83 => self (.int .i64 (.ofNat (i + 1))) (.bool true) (.pointer (some ⟨h.nx, 0, none⟩)) (.bool true) x82 h83)
    rw [q1, ← hself]
    refine ih N (i + 1) _ _ _ _ _ (by omega) (by omega) ⟨Nat.le_trans e2.1 q3, fun id hid => (q5 id hid).trans (e2.2 id hid)⟩ q4 ?_
    rw [htake, List.filter_append, List.filter_cons, show good (f, l) = true by simp [good, c1, c2, c3, c4]]
    exact q2

/-- COUNTS: those that count, in a row of its own -/
theorem counts_ok {R : RnK} {N : Nat} {v : Value} {vs : List Value} {L : List (Int × Int)} {h : Hs} (s : Sl h v L) (hL : L.length ≤ 1000) (hN : L.length < N) :
    ∃ v' h', r13 R N (v :: vs) h = some (.val v' h') ∧ Sl h' v' (L.filter good) ∧ Ext h h' ∧ h'.lo = h.lo := by
  rw [s13_eq]
  unfold s13
  rw [unC_cons, enK_eq, s.len]
  simp only [jn_eq]
  obtain ⟨y1, y2, y3, y4, out', h', q1, q2, q3, q4⟩ := counts_loop v L ⟨h.hp, h.nx, h.nx⟩ (s.lo _) hL (fun _ _ _ _ x6 h7 => clrK h x6 h7) L.length N 0 dunno dunno dunno (.slice none 0 0) ⟨h.hp, h.nx, h.nx⟩ (by omega) hN (Ext.refl _) (Nat.le_refl _) (.inl ⟨rfl, rfl⟩)
  rw [q1]
  obtain ⟨v2, h2, p1, p2, _, p3, p4⟩ := Own.back (h0 := h) rfl q4 q3
  exact ⟨v2, h2, p1, p2, p3, p4⟩

/-! ### At -/
/-- the block at a place -/
def atOf : List (Int × Int) → Int → Option Int
  | [], _ => none
  | x :: xs, i => if i < x.2 then some (x.1 + i) else atOf xs (i - x.2)
def atV : Option Int → Value
  | some b => .tuple #[.int .i64 b, .bool true]
  | none => .tuple #[.int .i64 (.ofNat 0), .bool false]
theorem at_loop (v : Value) (L : List (Int × Int)) (hg : ∀ x ∈ L, good x = true) (hb : Hs) (h0 : Hs) (s : Sl h0 v L) (hL : L.length ≤ 1000) (hl0 : hb.nx ≤ h0.nx) (k8 : Value → Value → Value → Value → Value → Value → Value → Hs → An)
    (hk : ∀ y1 y2 y3 y4 y5 y6 y7 h', hb.nx ≤ h'.lo → k8 y1 y2 y3 y4 y5 y6 y7 h' = some (.val (.tuple #[.int .i64 (.ofNat 0), .bool false]) ⟨hb.hp, hb.nx, hb.lo⟩)) : ∀ (m N i : Nat) (j : Int) (y1 y2 y3 y4 y5 : Value) (h : Hs), i + m = L.length → m < N → 0 ≤ j → j ≤ 1000000 →
    Ext h0 h → hb.nx ≤ h.lo →
    lpT (T := Value → Value → Value → Value → Value → Value → Value → Hs → An) (fun _ _ _ _ _ _ _ _ => none) N (g6_0 hb k8 v (.int .i64 (.ofNat L.length))) (.int .i64 j) (.int .i64 (.ofNat i)) y1 y2 y3 y4 y5 h = some (.val (atV (atOf (L.drop i) j)) ⟨hb.hp, hb.nx, hb.lo⟩) := by
  intro m
  induction m with
  | zero =>
    intro N i j y1 y2 y3 y4 y5 h hi hN hj hj2 e hl
    obtain ⟨N, rfl⟩ : ∃ N', N = N' + 1 := ⟨N - 1, by omega⟩
    rw [lpT_succ]
    unfold g6_0
    rw [kI64_lssN, decide_eq_false (by omega)]
    simp only [jn_eq, cnd_false]
    rw [hk _ _ _ _ _ _ _ _ hl, List.drop_of_length_le (by omega)]
    rfl
  | succ m ih =>
    intro N i j y1 y2 y3 y4 y5 h hi hN hj hj2 e hl
    obtain ⟨N, rfl⟩ : ∃ N', N = N' + 1 := ⟨N - 1, by omega⟩
    have hlt : i < L.length := by omega
    obtain ⟨f, l, hfl⟩ : ∃ f l, L[i]? = some (f, l) := ⟨L[i].1, L[i].2, by rw [List.getElem?_eq_getElem hlt]⟩
    have hdrop : L.drop i = (f, l) :: L.drop (i + 1) := by
      rw [List.drop_eq_getElem_cons hlt]
      rw [List.getElem?_eq_getElem hlt] at hfl
      injection hfl with hfl
      rw [hfl]
    have hgd := hg (f, l) (List.mem_of_getElem? hfl)
    simp only [good, Bool.and_eq_true, decide_eq_true_eq] at hgd
    obtain ⟨⟨⟨c1, c2⟩, c3⟩, c4⟩ := hgd
    rw [lpT_succ]
    generalize hself : lpT (T := Value → Value → Value → Value → Value → Value → Value → Hs → An) (fun _ _ _ _ _ _ _ _ => none) N (g6_0 hb k8 v (.int .i64 (.ofNat L.length))) = self
    unfold g6_0
    rw [kI64_lssN, decide_eq_true hlt]
    simp only [jn_eq, cnd_true]
    rw [s.pair e hfl, var2_ok]
    have hb2 : hb.nx ≤ (var2 h 25 f l).lo := by
      show _ ≤ minN h.lo h.nx
      rw [minN_eq]; have := e.1; omega
    have e2 : Ext h0 (var2 h 25 f l) := e.trans ⟨Nat.le_succ _, fun id hid => by rw [var2_get, if_neg (by omega)]⟩
    by_cases c : j < l
    · have d1 : decide (j < l) = true := decide_eq_true c
      simp only [kFieldA_ok, Nat.zero_add, Nat.add_zero, var2_l0, var2_l1, kI64_lss, d1, cnd_true]
      rw [kI64_add (show In64 (f + j) by constructor <;> omega)]
      rw [hdrop]
      show clrK hb (.tuple [Value.int .i64 (f + j), .bool true].toArray) _ = _
      rw [clrK_tuple rfl hb2, atOf, if_pos c]
      rfl
    · have d1 : decide (j < l) = false := decide_eq_false c
      simp only [kFieldA_ok, Nat.zero_add, Nat.add_zero, var2_l1, kI64_lss, d1, cnd_false]
      rw [kI64_sub (show In64 (j - l) by constructor <;> omega), kI64_inc (by omega), ← hself]
      rw [ih N (i + 1) (j - l) _ _ _ _ _ _ (by omega) (by omega) (by omega) (by omega) e2 hb2, hdrop]
      simp only [atOf, if_neg c]
/-- AT -/
theorem at_ok {R : RnK} {N : Nat} {v : Value} {L : List (Int × Int)} {h : Hs} {j : Int} (hR : ∃ R', ∀ args h, R 13 args h = r13 R' N args h) (s : Sl h v L) (hL : L.length ≤ 1000) (hN : 1000 < N) (hj : 0 ≤ j) (hj2 : j ≤ 1000000) :
    r6 R N [v, .int .i64 j] h = some (.val (atV (atOf (L.filter good) j)) ⟨h.hp, h.nx, h.lo⟩) := by
  obtain ⟨R', hR⟩ := hR
  rw [s6_eq]
  unfold s6
  rw [unC_cons, unC_cons, enK_eq, kI64_lss, decide_eq_false (show ¬ j < Int.ofNat 0 by simp only [Int.ofNat_eq_natCast]; omega)]
  simp only [jn_eq, cnd_false]
  obtain ⟨v', h', q1, q2, q3, q4⟩ := counts_ok (R := R') (N := N) (vs := []) (s.lo h.nx) hL (by omega)
  rw [kCall_ok ((hR _ _).trans q1), q2.len]
  have hlen : (L.filter good).length ≤ 1000 := Nat.le_trans (List.length_filter_le _ _) hL
  have := at_loop v' (L.filter good) (fun x hx => (List.mem_filter.1 hx).2) h h' q2 hlen q3.1 (fun _ _ _ _ _ _ _ h16 => clrK h (.tuple #[.int .i64 (.ofNat 0), .bool false]) h16)
    (fun _ _ _ _ _ _ _ h' hl => clrK_tuple (vs := [.int .i64 (.ofNat 0), .bool false]) rfl hl) (L.filter good).length N 0 j dunno dunno dunno (.int .i64 (.ofNat 0)) (.bool false) h' (by omega) (by omega) hj hj2 (Ext.refl _) (by rw [q4]; exact Nat.le_refl _)
  rw [List.drop_zero] at this
  exact this

/-! ### Total -/
def sm : List (Int × Int) → Int
  | [] => 0
  | x :: xs => x.2 + sm xs
theorem total_loop (v : Value) (L : List (Int × Int)) (hg : ∀ x ∈ L, good x = true) (hb : Hs) (h0 : Hs) (s : Sl h0 v L) (hL : L.length ≤ 1000) (hl0 : hb.nx ≤ h0.nx) (k3 : Value → Value → Value → Value → Hs → An)
    (hk : ∀ y1 y2 n y4 h', hb.nx ≤ h'.lo → k3 y1 y2 (.int .i64 n) y4 h' = some (.val (.int .i64 n) ⟨hb.hp, hb.nx, hb.lo⟩)) : ∀ (m N i : Nat) (n : Int) (y1 y2 : Value) (h : Hs), i + m = L.length → m < N → 0 ≤ n → n ≤ i * 1073741824 →
    Ext h0 h → hb.nx ≤ h.lo →
    lpT (T := Value → Value → Value → Value → Hs → An) (fun _ _ _ _ _ => none) N (g7_0 k3 v (.int .i64 (.ofNat L.length))) (.int .i64 (.ofNat i)) y1 (.int .i64 n) y2 h = some (.val (.int .i64 (n + sm (L.drop i))) ⟨hb.hp, hb.nx, hb.lo⟩) := by
  intro m
  induction m with
  | zero =>
    intro N i n y1 y2 h hi hN hn hn2 e hl
    obtain ⟨N, rfl⟩ : ∃ N', N = N' + 1 := ⟨N - 1, by omega⟩
    rw [lpT_succ]
    unfold g7_0
    rw [kI64_lssN, decide_eq_false (by omega)]
    simp only [jn_eq, cnd_false]
    rw [hk _ _ _ _ _ hl, List.drop_of_length_le (by omega), sm, Int.add_zero]
  | succ m ih =>
    intro N i n y1 y2 h hi hN hn hn2 e hl
    obtain ⟨N, rfl⟩ : ∃ N', N = N' + 1 := ⟨N - 1, by omega⟩
    have hlt : i < L.length := by omega
    obtain ⟨f, l, hfl⟩ : ∃ f l, L[i]? = some (f, l) := ⟨L[i].1, L[i].2, by rw [List.getElem?_eq_getElem hlt]⟩
    have hdrop : L.drop i = (f, l) :: L.drop (i + 1) := by
      rw [List.drop_eq_getElem_cons hlt]
      rw [List.getElem?_eq_getElem hlt] at hfl
      injection hfl with hfl
      rw [hfl]
    have hgd := hg (f, l) (List.mem_of_getElem? hfl)
    simp only [good, Bool.and_eq_true, decide_eq_true_eq] at hgd
    obtain ⟨⟨⟨c1, c2⟩, c3⟩, c4⟩ := hgd
    rw [lpT_succ]
    generalize hself : lpT (T := Value → Value → Value → Value → Hs → An) (fun _ _ _ _ _ => none) N (g7_0 k3 v (.int .i64 (.ofNat L.length))) = self
    unfold g7_0
    rw [kI64_lssN, decide_eq_true hlt]
    simp only [jn_eq, cnd_true]
    rw [s.pair e hfl, var2_ok]
    have hb2 : hb.nx ≤ (var2 h 25 f l).lo := by
      show _ ≤ minN h.lo h.nx
      rw [minN_eq]; have := e.1; omega
    have e2 : Ext h0 (var2 h 25 f l) := e.trans ⟨Nat.le_succ _, fun id hid => by rw [var2_get, if_neg (by omega)]⟩
    simp only [kFieldA_ok, Nat.zero_add, var2_l1]
    rw [kI64_add (show In64 (n + l) by constructor <;> omega), kI64_inc (by omega), ← hself]
    rw [ih N (i + 1) (n + l) _ _ _ (by omega) (by omega) (by omega) (by push_cast; omega) e2 hb2, hdrop, sm, Int.add_assoc]
/-- TOTAL -/
theorem total_ok {R : RnK} {N : Nat} {v : Value} {L : List (Int × Int)} {h : Hs} (hR : ∃ R', ∀ args h, R 13 args h = r13 R' N args h) (s : Sl h v L) (hL : L.length ≤ 1000) (hN : 1000 < N) :
    r7 R N [v] h = some (.val (.int .i64 (sm (L.filter good))) ⟨h.hp, h.nx, h.lo⟩) := by
  obtain ⟨R', hR⟩ := hR
  rw [s7_eq]
  unfold s7
  rw [unC_cons, enK_eq]
  obtain ⟨v', h', q1, q2, q3, q4⟩ := counts_ok (R := R') (N := N) (vs := []) (s.lo h.nx) hL (by omega)
  rw [kCall_ok ((hR _ _).trans q1), q2.len]
  simp only [jn_eq]
  have hlen : (L.filter good).length ≤ 1000 := Nat.le_trans (List.length_filter_le _ _) hL
  have := total_loop v' (L.filter good) (fun x hx => (List.mem_filter.1 hx).2) h h' q2 hlen q3.1 (fun _ _ x6 _ h8 => clrK h x6 h8)
    (fun _ _ n _ h' hl => clrK_int hl) (L.filter good).length N 0 0 dunno dunno h' (by omega) (by omega) (by omega) (by omega) (Ext.refl _) (by rw [q4]; exact Nat.le_refl _)
  rw [List.drop_zero, Int.zero_add] at this
  exact this

/-! ### the plain law -/
theorem atOf_append : ∀ (A B : List (Int × Int)) (j : Int), (∀ x ∈ A, 1 ≤ x.2) → 0 ≤ j → atOf (A ++ B) (sm A + j) = atOf B j := by
  intro A
  induction A with
  | nil => intro B j _ _; rw [List.nil_append, sm, Int.zero_add]
  | cons x A ih =>
    intro B j hA hj
    have hA' : ∀ y ∈ A, 1 ≤ y.2 := fun y hy => hA y (List.mem_cons_of_mem _ hy)
    have h0 : ∀ A : List (Int × Int), (∀ x ∈ A, 1 ≤ x.2) → 0 ≤ sm A := by
      intro A
      induction A with
      | nil => intro _; exact Int.le_refl _
      | cons y A ih2 => intro h; have := h y List.mem_cons_self; have := ih2 fun z hz => h z (List.mem_cons_of_mem _ hz); rw [sm]; omega
    have := h0 A hA'
    rw [List.cons_append, sm, atOf, if_neg (by omega), show x.2 + sm A + j - x.2 = sm A + j by omega]
    exact ih B j hA' hj
theorem sm_append (A B : List (Int × Int)) : sm (A ++ B) = sm A + sm B := by
  induction A with
  | nil => rw [List.nil_append, sm, Int.zero_add]
  | cons x A ih => rw [List.cons_append, sm, sm, ih, Int.add_assoc]
theorem good_of {f l : Int} (h1 : 1 ≤ l) (h2 : l ≤ 50) (h3 : 0 ≤ f) (h4 : f ≤ 1000) : good (f, l) = true := by
  simp only [good, Bool.and_eq_true, decide_eq_true_eq]; omega

/-! ### RunsAll -/
theorem inner (R : RnK) (a0 : Value) (h hm : Hs) (L : List (Int × Int)) (s : Sl hm a0 L) (i : Nat) (f : Int) (ln : Nat) (S : Int) (hfl : L[i]? = some (f, (ln : Int))) (hS : 0 ≤ S) (hS2 : S ≤ 1000) (hln : ln ≤ 50) (hf : 0 ≤ f ∧ f ≤ 1000)
    (hat : ∀ k : Nat, k < ln → R 6 [a0, .int .i64 (S + k)] hm = some (.val (atV (some (f + k))) hm)) (k150 : Value → Value → Value → Value → Value → Value → Value → Hs → An) : ∀ (m N k : Nat) (x2 x4 x5 x6 x7 : Value), k + m = ln → m < N →
    ∃ y1 y2 y4 y5 y6 y7, lpT (T := Value → Value → Value → Value → Value → Value → Value → Hs → An) (fun _ _ _ _ _ _ _ _ => none) N (g3_1 R a0 h k150 (.int .i64 (.ofNat i))) (.int .i64 (.ofNat k)) x2 (.int .i64 (S + k)) x4 x5 x6 x7 hm = k150 y1 y2 (.int .i64 (S + ln)) y4 y5 y6 y7 hm := by
  intro m
  induction m with
  | zero =>
    intro N k x2 x4 x5 x6 x7 hk hN
    obtain ⟨N, rfl⟩ : ∃ N', N = N' + 1 := ⟨N - 1, by omega⟩
    have : k = ln := by omega
    subst this
    rw [lpT_succ]
    unfold g3_1
    rw [s.snd (Ext.refl _) hfl, kI64_lss, decide_eq_false (by simp only [Int.ofNat_eq_natCast]; omega)]
    simp only [jn_eq, cnd_false]
    exact ⟨_, _, _, _, _, _, rfl⟩
  | succ m ih =>
    intro N k x2 x4 x5 x6 x7 hk hN
    obtain ⟨N, rfl⟩ : ∃ N', N = N' + 1 := ⟨N - 1, by omega⟩
    rw [lpT_succ]
    generalize hself : lpT (T := Value → Value → Value → Value → Value → Value → Value → Hs → An) (fun _ _ _ _ _ _ _ _ => none) N (g3_1 R a0 h k150 (.int .i64 (.ofNat i))) = self
    unfold g3_1
    rw [s.snd (Ext.refl _) hfl, kI64_lss, decide_eq_true (by simp only [Int.ofNat_eq_natCast]; omega)]
    simp only [jn_eq, cnd_true]
    rw [kCall_ok (hat k (by omega))]
    simp only [atV, kExtr_0, kExtr_1, kNot_eq, Bool.not_true, gdF_false]
    rw [s.fst (Ext.refl _) hfl, kI64_add (show In64 (f + Int.ofNat k) by simp only [Int.ofNat_eq_natCast]; constructor <;> omega), kI64_neq,
      show ((f + (k : Int)) != (f + Int.ofNat k)) = false by simp]
    simp only [pick_false, after_some, cnd_false]
    rw [kI64_add (show In64 (S + k + Int.ofNat 1) by simp only [Int.ofNat_eq_natCast]; constructor <;> omega), kI64_inc (by omega), show S + (k : Int) + Int.ofNat 1 = S + ((k + 1 : Nat) : Int) by simp only [Int.ofNat_eq_natCast]; push_cast; omega, ← hself]
    exact ih N (k + 1) _ _ _ _ _ (by omega) (by omega)

def fine (x : Int × Int) : Prop := 1 ≤ x.2 ∧ x.2 ≤ 50 ∧ 0 ≤ x.1 ∧ x.1 ≤ 1000
theorem fine_good {x : Int × Int} (h : fine x) : good x = true := by obtain ⟨h1, h2, h3, h4⟩ := h; exact good_of h1 h2 h3 h4
theorem sm_le : ∀ A : List (Int × Int), (∀ x ∈ A, fine x) → 0 ≤ sm A ∧ sm A ≤ A.length * 50 := by
  intro A
  induction A with
  | nil => intro _; exact ⟨Int.le_refl _, by simp [sm]⟩
  | cons y A ih =>
    intro h
    obtain ⟨q1, q2⟩ := ih fun z hz => h z (List.mem_cons_of_mem _ hz)
    obtain ⟨h1, h2, _, _⟩ := h y List.mem_cons_self
    rw [sm, List.length_cons]
    constructor
    · omega
    · push_cast; omega

theorem outer (R : RnK) (N0 : Nat) (a0 : Value) (h hm : Hs) (hlo : h.nx ≤ hm.lo) (L : List (Int × Int)) (s : Sl hm a0 L) (hL : L.length ≤ 8) (hN0 : 60 < N0)
    (hat : ∀ j : Int, 0 ≤ j → j ≤ 1000000 → R 6 [a0, .int .i64 j] hm = some (.val (atV (atOf (L.filter good) j)) hm))
    (k11 : Value → Value → Value → Value → Value → Value → Value → Value → Value → Value → Hs → An)
    (hk : (∀ x ∈ L, fine x) → ∀ y1 y2 y3 y4 y5 y7 y8 y9 y10, k11 y1 y2 y3 y4 y5 (.int .i64 (sm L)) y7 y8 y9 y10 hm = some (.val (.bool true) ⟨h.hp, h.nx, h.lo⟩)) : ∀ (m N i : Nat) (y2 y3 y4 y5 y7 y8 y9 y10 : Value), i + m = L.length → m < N →
    (∀ x ∈ L.take i, fine x) →
    lpT (T := Value → Value → Value → Value → Value → Value → Value → Value → Value → Value → Hs → An) (fun _ _ _ _ _ _ _ _ _ _ _ => none) N (g3_0 R N0 a0 h k11) (.int .i64 (.ofNat i)) y2 y3 y4 y5 (.int .i64 (sm (L.take i))) y7 y8 y9 y10 hm = some (.val (.bool true) ⟨h.hp, h.nx, h.lo⟩) := by
  intro m
  induction m with
  | zero =>
    intro N i y2 y3 y4 y5 y7 y8 y9 y10 hi hN hp
    obtain ⟨N, rfl⟩ : ∃ N', N = N' + 1 := ⟨N - 1, by omega⟩
    rw [lpT_succ]
    unfold g3_0
    rw [s.len, kI64_lssN, decide_eq_false (by omega)]
    simp only [jn_eq, cnd_false]
    rw [List.take_of_length_le (by omega)] at hp ⊢
    exact hk hp _ _ _ _ _ _ _ _ _
  | succ m ih =>
    intro N i y2 y3 y4 y5 y7 y8 y9 y10 hi hN hp
    obtain ⟨N, rfl⟩ : ∃ N', N = N' + 1 := ⟨N - 1, by omega⟩
    have hlt : i < L.length := by omega
    obtain ⟨f, l, hfl⟩ : ∃ f l, L[i]? = some (f, l) := ⟨L[i].1, L[i].2, by rw [List.getElem?_eq_getElem hlt]⟩
    have htake : L.take (i + 1) = L.take i ++ [(f, l)] := by rw [List.take_add_one, hfl]; rfl
    have hsplit : L = L.take i ++ (f, l) :: L.drop (i + 1) := by
      rw [List.getElem?_eq_getElem hlt] at hfl
      injection hfl with hfl
      rw [← hfl, ← List.drop_eq_getElem_cons hlt, List.take_append_drop]
    rw [lpT_succ]
    generalize hself : lpT (T := Value → Value → Value → Value → Value → Value → Value → Value → Value → Value → Hs → An) (fun _ _ _ _ _ _ _ _ _ _ _ => none) N (g3_0 R N0 a0 h k11) = self
    unfold g3_0
    rw [s.len, kI64_lssN, decide_eq_true hlt]
    simp only [jn_eq, cnd_true]
    rw [s.snd (Ext.refl _) hfl, kI64_lss]
    by_cases c1 : l < 1
    · rw [show decide (l < Int.ofNat 1) = true from decide_eq_true c1]
      simp only [gdF_true, pick_true, after_some, cnd_true]
      exact clrK_bool hlo
    rw [show decide (l < Int.ofNat 1) = false from decide_eq_false c1]
    simp only [gdF_false]
    rw [s.snd (Ext.refl _) hfl, kI64_gtr]
    by_cases c2 : 50 < l
    · rw [show decide (Int.ofNat 50 < l) = true from decide_eq_true c2]
      simp only [gdF_true, pick_true, pick_false, after_some, cnd_true]
      exact clrK_bool hlo
    rw [show decide (Int.ofNat 50 < l) = false from decide_eq_false c2]
    simp only [gdF_false, pick_false, after_some]
    rw [s.fst (Ext.refl _) hfl, kI64_lss]
    by_cases c3 : f < 0
    · rw [show decide (f < Int.ofNat 0) = true from decide_eq_true c3]
      simp only [gdF_true, pick_true, pick_false, after_some, cnd_true]
      exact clrK_bool hlo
    rw [show decide (f < Int.ofNat 0) = false from decide_eq_false c3]
    simp only [gdF_false, pick_false, after_some]
    rw [s.fst (Ext.refl _) hfl, kI64_gtr]
    by_cases c4 : 1000 < f
    · rw [show decide (Int.ofNat 1000 < f) = true from decide_eq_true c4]
      simp only [pick_false, after_some, cnd_true]
      exact clrK_bool hlo
    rw [show decide (Int.ofNat 1000 < f) = false from decide_eq_false c4]
    simp only [pick_false, after_some, cnd_false]
    obtain ⟨ln, rfl⟩ : ∃ ln : Nat, l = (ln : Int) := ⟨l.toNat, by omega⟩
    have hfine : fine (f, (ln : Int)) := ⟨by show (1 : Int) ≤ ln; omega, by show (ln : Int) ≤ 50; omega, by show 0 ≤ f; omega, by show f ≤ 1000; omega⟩
    obtain ⟨b1, b2⟩ := sm_le _ hp
    have b3 : (L.take i).length ≤ 8 := by rw [List.length_take]; omega
    obtain ⟨z1, z2, z4, z5, z6, z7, q⟩ := inner R a0 h hm L s i f ln (sm (L.take i)) hfl b1 (by omega) (by omega) (by omega) (fun k hk => by
      rw [hat _ (by omega) (by omega)]
      have : atOf (L.filter good) (sm (L.take i) + k) = some (f + k) := by
        conv => lhs; rw [hsplit, List.take_append_of_le_length (by rw [List.length_take]; omega), List.take_of_length_le (l := L.take i) (by rw [List.length_take]; omega)]
        rw [List.filter_append, List.filter_eq_self.2 fun x hx => fine_good (hp x hx), List.filter_cons, if_pos (fine_good hfine), atOf_append _ _ _ (fun x hx => (hp x hx).1) (by omega), atOf, if_pos (by show (k : Int) < ln; omega)]
      rw [this]) (fun x151 x152 x153 x154 x155 x156 x157 h158 => kI64 .add (.int .i64 (.ofNat i)) (.int .i64 (.ofNat 1)) (fun x70 => self x70 (.bool true) (.bool false) x151 x152 x153 x154 x155 x156 x157 h158)) ln N0 0 y5 y7 y8 y9 y10 (by omega) (by omega)
    simp only [Int.natCast_zero, Int.add_zero] at q
    rw [show (Value.int .i64 (.ofNat 0)) = .int .i64 (.ofNat 0) from rfl] at q
    rw [q, kI64_inc (by omega), ← hself]
    have : sm (L.take i) + (ln : Int) = sm (L.take (i + 1)) := by rw [htake, sm_append]; simp [sm]
    rw [this]
    refine ih N (i + 1) _ _ _ _ _ _ _ _ (by omega) (by omega) fun x hx => ?_
    rw [htake] at hx
    rcases List.mem_append.1 hx with hx | hx
    · exact hp x hx
    · rw [List.mem_singleton.1 hx]; exact hfine

/-- RUNSALL -/
theorem all_ok {R : RnK} {N : Nat} {v : Value} {L : List (Int × Int)} {h : Hs} (hN : 1000 < N) (s : Sl h v L)
    (hawake : R 5 [] ⟨h.hp, h.nx, h.nx⟩ = some (.val (.bool true) ⟨h.hp, h.nx, h.nx⟩))
    (hat : L.length ≤ 8 → ∀ j : Int, 0 ≤ j → j ≤ 1000000 → R 6 [v, .int .i64 j] ⟨h.hp, h.nx, h.nx⟩ = some (.val (atV (atOf (L.filter good) j)) ⟨h.hp, h.nx, h.nx⟩))
    (htot : L.length ≤ 8 → R 7 [v] ⟨h.hp, h.nx, h.nx⟩ = some (.val (.int .i64 (sm (L.filter good))) ⟨h.hp, h.nx, h.nx⟩)) :
    r3 R N [v] h = some (.val (.bool true) ⟨h.hp, h.nx, h.lo⟩) := by
  rw [s3_eq]
  unfold s3
  rw [unC_cons, enK_eq, kCall_ok hawake, kNot_eq]
  simp only [jn_eq, Bool.not_true, cnd_false]
  rw [(s.lo h.nx).len, kI64_gtr]
  by_cases c : 8 < L.length
  · rw [show decide (Int.ofNat 8 < Int.ofNat L.length) = true from decide_eq_true (by simp only [Int.ofNat_eq_natCast]; omega)]
    simp only [cnd_true]
    exact clrK_bool (Nat.le_refl _)
  rw [show decide (Int.ofNat 8 < Int.ofNat L.length) = false from decide_eq_false (by simp only [Int.ofNat_eq_natCast]; omega)]
  simp only [cnd_false]
  have hL : L.length ≤ 8 := by omega
  have := outer R N v h ⟨h.hp, h.nx, h.nx⟩ (Nat.le_refl _) L (s.lo _) hL (by omega) (hat hL)
    (fun x12 x13 x14 x15 x16 x17 x18 x19 x20 x21 h22 => kCall R 6 [v, x17] h22 (fun x23 h24 =>
      kExtr x23 0 (fun x25 =>
      kExtr x23 1 (fun x26 =>
      kNot x26 (fun x27 =>
      gdT x27 h24 (fun k28 => k28 v h24) (fun x29 h30 =>
      gdT x27 h30 (fun k31 => kCall R 7 [x29] h30 (k31)) (fun x32 h33 =>
      gdT x27 h33 (fun k34 => k34 x17 h33) (fun x35 h36 =>
      gdT x27 h36 (fun k37 => kI64 .eql x32 x35 (fun x38 => k37 x38 h36)) (fun x39 h40 =>
      after (fun x41 h42 =>
      clrK h x41 h42) (pickB (.c x39) (.c (Value.bool false)) enE h40 x27))))))))))
    (fun hf y1 y2 y3 y4 y5 y7 y8 y9 y10 => by
      obtain ⟨b1, b2⟩ := sm_le _ hf
      have hfil : L.filter good = L := List.filter_eq_self.2 fun x hx => fine_good (hf x hx)
      have hnone : atOf L (sm L) = none := by
        have := atOf_append L [] 0 (fun x hx => (hf x hx).1) (Int.le_refl _)
        rw [List.append_nil, Int.add_zero] at this
        exact this
      rw [kCall_ok (hat hL _ b1 (by omega)), hfil, hnone]
      simp only [atV, kExtr_0, kExtr_1, kNot_eq, Bool.not_false, gdT_true]
      rw [kCall_ok (htot hL), hfil, kI64_eql, beq_self_eq_true]
      simp only [pick_true, after_some]
      exact clrK_bool (Nat.le_refl _)) L.length N 0 dunno dunno dunno dunno dunno dunno dunno (.bool false) (by omega) (by omega) (fun x hx => by rw [List.take_zero] at hx; cases hx)
  rw [List.take_zero] at this
  exact this
end Go.Proofs.Ytcejpcbhbnklaaa.runsAll
