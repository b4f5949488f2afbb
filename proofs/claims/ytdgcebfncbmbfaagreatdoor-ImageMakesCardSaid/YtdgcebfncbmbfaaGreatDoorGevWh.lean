/- A summary: '(*lintel/tree.Tree).whole', a walk over a map in whatever order. -/
import Derived.Test.YtdgcebfncbmbfaaGreatDoorGevSo
import Derived.Test.YtdgcebfncbmbfaaGreatDoorGevSy2
namespace Go.Gev
open Go.RowKit
noncomputable section
set_option linter.unusedVariables false
def wG1 (a0 : Value) (h : Hs) (k127 : Value → Value → Value → Value → Value → Hs → An) : (Value → Value → Value → Value → Value → Hs → An) → Value → Value → Value → Value → Value → Hs → An :=
 (fun k134 =>
 fun (x136 x137 x138 x139 x140 : Value) (h141 : Hs) =>
 kI64 .neq x136 (Value.int .i64 (.ofNat 1)) (fun x142 =>
 jn (fun (h144 : Hs) =>
 jn (fun (x146 x147 x148 : Value) (h149 : Hs) =>
 kI64 .add x138 (Value.int .i64 (.ofNat 1)) (fun x150 =>
 k134 x146 x142 x150 x147 x148 h149)) fun k145 =>
 kNil a0 (fun x151 =>
 A_a 1 x151 (fun x152 =>
 A_d x152 h144 (fun x153 =>
 after (fun x154 h155 =>
 kNil x154 (fun x156 =>
 A_a 3 x156 (fun x157 =>
 A_d x157 h155 (fun x158 =>
 kNil a0 (fun x159 =>
 A_a 1 x159 (fun x160 =>
 A_d x160 h155 (fun x161 =>
 after (fun x162 h163 =>
 kI64 .gtr x138 x162 (fun x164 =>
 jn (fun (x166 : Value) (h167 : Hs) =>
 k145 x158 x164 x166 h167) fun k165 =>
 cnd x164
 (clrK h (Value.bool false) h163)
 (k165 x140 h163))) (ret1 h155 (maplen1 h155 x161))))))))) (ret1 h144 (lk1 true h144 (Value.pointer none) false x136 x153)))))) fun k143 =>
 cnd x142
 (k143 h141)
 (k127 x136 x142 x138 x139 x140 h141)))
def W_4 (N : Nat) (a0 : Value) (h : Hs) (k5 : Value → Value → Value → Value → Value → Value → Value → Value → Value → Hs → An) (x3 : Value) (k16 : Value → Value → Value → Value → Value → Value → Value → Value → Value → Hs → An) (x19 x20 x21 x22 x23 x24 x25 x26 : Value) (x28 : Value) (h29 : Hs) : An :=
 A_7 x28 0 (fun x30 =>
 jn (fun (h32 : Hs) =>
 jn (fun (x34 x35 x36 x37 x38 x39 x40 x41 : Value) (h42 : Hs) =>
 k16 x30 x34 x35 x36 x37 x38 x39 x40 x41 h42) fun k33 =>
 after (fun x43 h44 =>
 A_7 x43 0 (fun x45 =>
 A_7 x43 1 (fun x46 =>
 kNil x46 (fun x47 =>
 A_a 0 x47 (fun x48 =>
 A_d x48 h44 (fun x49 =>
 kI64 .neq x49 (Value.int .i64 (.ofNat 2)) (fun x50 =>
 gdT x50 h44 (fun k51 => k51 x46 h44) (fun x52 h53 =>
 gdT x50 h53 (fun k54 => kNil x52 (fun x55 => k54 x55 h53)) (fun x56 h57 =>
 gdT x50 h57 (fun k58 => A_a 4 x56 (fun x59 => k58 x59 h57)) (fun x60 h61 =>
 gdT x50 h61 (fun k62 => A_d x60 h61 (fun x63 => k62 x63 h61)) (fun x64 h65 =>
 gdT x50 h65 (fun k66 => kI64 .eql x64 (Value.int .i64 (.ofNat 0)) (fun x67 => k66 x67 h65)) (fun x68 h69 =>
 after (fun x70 h71 =>
 gdF x70 h71 (fun k72 => k72 x46 h71) (fun x73 h74 =>
 gdF x70 h74 (fun k75 => kNil x73 (fun x76 => k75 x76 h74)) (fun x77 h78 =>
 gdF x70 h78 (fun k79 => A_a 0 x77 (fun x80 => k79 x80 h78)) (fun x81 h82 =>
 gdF x70 h82 (fun k83 => A_d x81 h82 (fun x84 => k83 x84 h82)) (fun x85 h86 =>
 gdF x70 h86 (fun k87 => kI64 .eql x85 (Value.int .i64 (.ofNat 2)) (fun x88 => k87 x88 h86)) (fun x89 h90 =>
 gdF x70 h90 (fun k91 => k91 x89 h90) (fun x92 h93 =>
 gdT x92 h93 (fun k94 => k94 x46 h93) (fun x95 h96 =>
 gdT x92 h96 (fun k97 => kNil x95 (fun x98 => k97 x98 h96)) (fun x99 h100 =>
 gdT x92 h100 (fun k101 => A_a 3 x99 (fun x102 => k101 x102 h100)) (fun x103 h104 =>
 gdT x92 h104 (fun k105 => A_d x103 h104 (fun x106 => k105 x106 h104)) (fun x107 h108 =>
 gdT x92 h108 (fun k109 => kI64 .eql x107 (Value.int .i64 (.ofNat 0)) (fun x110 => k109 x110 h108)) (fun x111 h112 =>
 gdF x70 h112 (fun k113 => after (k113) (A_y (.c x111) (.c (Value.bool false)) enE h112 x92)) (fun x114 h115 =>
 after (fun x116 h117 =>
 jn (fun (x119 : Value) (h120 : Hs) =>
 kNil x46 (fun x121 =>
 A_a 0 x121 (fun x122 =>
 A_d x122 h120 (fun x123 =>
 kI64 .neq x123 (Value.int .i64 (.ofNat 2)) (fun x124 =>
 jn (fun (h126 : Hs) =>
 jn (fun (x128 x129 x130 x131 x132 : Value) (h133 : Hs) =>
 k33 x46 x116 x124 x128 x129 x130 x131 x132 h133) fun k127 =>
 lpT (T := Value → Value → Value → Value → Value → Hs → An) (fun _ _ _ _ _ _ => none) N (wG1 a0 h k127) x45 x23 (Value.int .i64 (.ofNat 0)) x25 x119 h126) fun k125 =>
 cnd x124
 (k33 x46 x116 x124 x45 x23 x24 x25 x119 h120)
 (k125 h120)))))) fun k118 =>
 cnd x116
 (clrK h (Value.bool false) h117)
 (k118 x26 h117)) (A_y (.c (Value.bool true)) (.c x114) enE h115 x70)))))))))))))) (A_y (.c x68) (.c (Value.bool false)) enE h69 x50))))))))))))) (ret1 h32 (entry1 h32 x3))) fun k31 =>
 cnd x30
 (k31 h29)
 (k5 x30 x19 x20 x21 x22 x23 x24 x25 x26 h29))
def wG0 (N : Nat) (a0 : Value) (h : Hs) (k5 : Value → Value → Value → Value → Value → Value → Value → Value → Value → Hs → An) (x3 : Value) : (Value → Value → Value → Value → Value → Value → Value → Value → Value → Hs → An) → Value → Value → Value → Value → Value → Value → Value → Value → Value → Hs → An :=
 (fun k16 =>
 fun (x18 x19 x20 x21 x22 x23 x24 x25 x26 : Value) (h27 : Hs) =>
 U_o x3 h27 (fun x28 h29 =>
 A_7 x28 0 (fun x30 =>
 jn (fun (h32 : Hs) =>
 jn (fun (x34 x35 x36 x37 x38 x39 x40 x41 : Value) (h42 : Hs) =>
 k16 x30 x34 x35 x36 x37 x38 x39 x40 x41 h42) fun k33 =>
 after (fun x43 h44 =>
 A_7 x43 0 (fun x45 =>
 A_7 x43 1 (fun x46 =>
 kNil x46 (fun x47 =>
 A_a 0 x47 (fun x48 =>
 A_d x48 h44 (fun x49 =>
 kI64 .neq x49 (Value.int .i64 (.ofNat 2)) (fun x50 =>
 gdT x50 h44 (fun k51 => k51 x46 h44) (fun x52 h53 =>
 gdT x50 h53 (fun k54 => kNil x52 (fun x55 => k54 x55 h53)) (fun x56 h57 =>
 gdT x50 h57 (fun k58 => A_a 4 x56 (fun x59 => k58 x59 h57)) (fun x60 h61 =>
 gdT x50 h61 (fun k62 => A_d x60 h61 (fun x63 => k62 x63 h61)) (fun x64 h65 =>
 gdT x50 h65 (fun k66 => kI64 .eql x64 (Value.int .i64 (.ofNat 0)) (fun x67 => k66 x67 h65)) (fun x68 h69 =>
 after (fun x70 h71 =>
 gdF x70 h71 (fun k72 => k72 x46 h71) (fun x73 h74 =>
 gdF x70 h74 (fun k75 => kNil x73 (fun x76 => k75 x76 h74)) (fun x77 h78 =>
 gdF x70 h78 (fun k79 => A_a 0 x77 (fun x80 => k79 x80 h78)) (fun x81 h82 =>
 gdF x70 h82 (fun k83 => A_d x81 h82 (fun x84 => k83 x84 h82)) (fun x85 h86 =>
 gdF x70 h86 (fun k87 => kI64 .eql x85 (Value.int .i64 (.ofNat 2)) (fun x88 => k87 x88 h86)) (fun x89 h90 =>
 gdF x70 h90 (fun k91 => k91 x89 h90) (fun x92 h93 =>
 gdT x92 h93 (fun k94 => k94 x46 h93) (fun x95 h96 =>
 gdT x92 h96 (fun k97 => kNil x95 (fun x98 => k97 x98 h96)) (fun x99 h100 =>
 gdT x92 h100 (fun k101 => A_a 3 x99 (fun x102 => k101 x102 h100)) (fun x103 h104 =>
 gdT x92 h104 (fun k105 => A_d x103 h104 (fun x106 => k105 x106 h104)) (fun x107 h108 =>
 gdT x92 h108 (fun k109 => kI64 .eql x107 (Value.int .i64 (.ofNat 0)) (fun x110 => k109 x110 h108)) (fun x111 h112 =>
 gdF x70 h112 (fun k113 => after (k113) (A_y (.c x111) (.c (Value.bool false)) enE h112 x92)) (fun x114 h115 =>
 after (fun x116 h117 =>
 jn (fun (x119 : Value) (h120 : Hs) =>
 kNil x46 (fun x121 =>
 A_a 0 x121 (fun x122 =>
 A_d x122 h120 (fun x123 =>
 kI64 .neq x123 (Value.int .i64 (.ofNat 2)) (fun x124 =>
 jn (fun (h126 : Hs) =>
 jn (fun (x128 x129 x130 x131 x132 : Value) (h133 : Hs) =>
 k33 x46 x116 x124 x128 x129 x130 x131 x132 h133) fun k127 =>
 lpT (T := Value → Value → Value → Value → Value → Hs → An) (fun _ _ _ _ _ _ => none) N (wG1 a0 h k127) x45 x23 (Value.int .i64 (.ofNat 0)) x25 x119 h126) fun k125 =>
 cnd x124
 (k33 x46 x116 x124 x45 x23 x24 x25 x119 h120)
 (k125 h120)))))) fun k118 =>
 cnd x116
 (clrK h (Value.bool false) h117)
 (k118 x26 h117)) (A_y (.c (Value.bool true)) (.c x114) enE h115 x70)))))))))))))) (A_y (.c x68) (.c (Value.bool false)) enE h69 x50))))))))))))) (ret1 h32 (entry1 h32 x3))) fun k31 =>
 cnd x30
 (k31 h29)
 (k5 x30 x19 x20 x21 x22 x23 x24 x25 x26 h29))))
def R_r (R : RnK) (N : Nat) (args : List Value) (h : Hs) : An := unC args fun a0 sq0 => enK h fun h0 =>
 kNil a0 (fun x0 =>
 A_a 1 x0 (fun x1 =>
 A_d x1 h0 (fun x2 =>
 after (fun x3 h4 =>
 jn (fun (x6 x7 x8 x9 x10 x11 x12 x13 x14 : Value) (h15 : Hs) =>
 clrK h (Value.bool true) h15) fun k5 =>
 lpT (T := Value → Value → Value → Value → Value → Value → Value → Value → Value → Hs → An) (fun _ _ _ _ _ _ _ _ _ _ => none) N (wG0 N a0 h k5 x3) dunno dunno dunno dunno dunno dunno dunno dunno (Value.bool false) h4) (range1 h0 x2))))
def rdI (h : Hs) (p : Nat × Nat) (k : Nat) : Option Int := match blkCell (Nat.add p.2 k) (h.hp.get p.1) with
 | some (.int kd n) => match kd with
  | .i64 => some n
  | _ => none
 | _ => none
def upOf (h : Hs) : Option (Option (Nat × Value)) → Option Int
 | some (some q) => match addrOf q.2 with
  | some p => rdI h p 3
  | none => none
 | _ => none
def climb (h : Hs) (es : List MapEntry) : Nat → Nat → Int → Option Bool
 | 0, _, _ => none
 | fuel + 1, hops, n => match eqI n (.ofNat 1) with
  | true => some true
  | false => match upOf h (findM (.int .i64 n) es 0) with
   | none => none
   | some u => match Nat.blt es.length hops with
    | true => some false
    | false => climb h es fuel (Nat.succ hops) u
def entD (h : Hs) (es : List MapEntry) (n : Int) : Option Int → Option Bool
 | none => none
 | some up => match eqI up (.ofNat 0) with
  | true => some false
  | false => climb h es 3000 0 n
def entF : Option Int → Option Bool
 | none => none
 | some links => some (notB (eqI links (.ofNat 0)))
def entK (h : Hs) (es : List MapEntry) (n : Int) (p : Nat × Nat) : Option Int → Option Bool
 | none => none
 | some kind => match eqI kind (.ofNat 2) with
  | true => entD h es n (rdI h p 3)
  | false => entF (rdI h p 4)
def entV (h : Hs) (es : List MapEntry) (e : MapEntry) : Option Bool := match keyI e.key with
 | none => none
 | some n => match addrOf e.val with
  | none => none
  | some p => entK h es n p (rdI h p 0)
def allV (h : Hs) (es : List MapEntry) : List MapEntry → Option Bool
 | [] => some true
 | e :: rest => match entV h es e with
  | none => none
  | some b => match allV h es rest with
   | none => none
   | some c => some (andB b c)
def f_z (h : Hs) : Option Blk → An
 | some (.mp es cl) => match andB (andB (I_d cl es) (P_c Nat.beq (I_9 es))) (Nat.ble es.length 1000) with
  | true => match h.hp.get h.nx with
   | none => match allV h es es with
    | some b => some (.val (.bool b) h)
    | none => none
   | some _ => none
  | false => none
 | _ => none
def f_i (h : Hs) : Option Value → An
 | some (.map m) => match m with
  | some k => f_z h (h.hp.get k)
  | none => none
 | _ => none
def R_2 (args : List Value) (h : Hs) : An := match args with
 | [a] => match addrOf a with
  | some p => f_i h (blkCell (Nat.add p.2 1) (h.hp.get p.1))
  | none => none
 | _ => none
end
theorem G_o {v : Value} {p : Nat × Nat} (h : addrOf v = some p) : v = .pointer (some ⟨p.1, p.2, none⟩) := by
 cases v <;> try cases h
 rename_i a
 cases a with
 | none => cases h
 | some a => obtain ⟨b, o, s⟩ := a; cases s with
  | none => injection h with h; subst h; rfl
  | some k => cases h
theorem F_9 {h : Hs} {b o : Nat} {v : Value} (hv : blkCell o (h.hp.get b) = some v) (K : Value → An) : A_d (.pointer (some ⟨b, o, none⟩)) h K = K v := by
 cases hb : h.hp.get b with
 | none => rw [hb] at hv; cases hv
 | some blk =>
  rw [hb] at hv
  cases blk with
  | row c n e u rw_ fl => exact E_4 hb hv K
  | mp => cases hv
  | it => cases hv
  | lp => cases hv
theorem c_z {h : Hs} {p : Nat × Nat} {k : Nat} {n : Int} (hr : rdI h p k = some n) : blkCell (p.2 + k) (h.hp.get p.1) = some (.int .i64 n) := by
 unfold rdI at hr
 have e : Nat.add p.2 k = p.2 + k := rfl
 rw [e] at hr
 cases hc : blkCell (p.2 + k) (h.hp.get p.1) with
 | none => rw [hc] at hr; cases hr
 | some v =>
  rw [hc] at hr
  cases v <;> try cases hr
  rename_i kd m
  cases kd <;> first | (injection hr with hr; rw [hr]) | cases hr
theorem E_e (a : Addr) (K : Value → An) : kNil (.pointer (some a)) K = K (.pointer (some a)) := rfl
theorem kFld {h h' : Hs} (hA : ∀ id b, h.hp.get id = some b → h'.hp.get id = some b) {p : Nat × Nat} {k : Nat} {n : Int} (hr : rdI h p k = some n) (K : Value → An) :
 A_a k (.pointer (some ⟨p.1, p.2, none⟩)) (fun x => A_d x h' K) = K (.int .i64 n) := by
 rw [B_r]
 refine F_9 ?_ K
 have := c_z hr
 cases hb : h.hp.get p.1 with
 | none => rw [hb] at this; cases this
 | some b => rw [hb] at this; rw [hA _ _ hb]; exact this
theorem U_u {h h' H0 : Hs} (hA : ∀ id b, h.hp.get id = some b → h'.hp.get id = some b) {a : Nat × Nat} {k cl : Nat} {es : List MapEntry} (ha : blkCell (a.2 + 1) (h.hp.get a.1) = some (.map (some k))) (hk : h.hp.get k = some (.mp es cl)) (hes : es.length ≤ 1000)
 (hlo : H0.nx ≤ h'.lo) (k127 : Value → Value → Value → Value → Value → Hs → An) : ∀ (fuel N hops : Nat) (n : Int) (x1 x3 x4 : Value) (r : Bool), climb h es fuel hops n = some r → fuel ≤ N → hops ≤ 2000 →
 (r = false ∧ lpT (T := Value → Value → Value → Value → Value → Hs → An) (fun _ _ _ _ _ _ => none) N (wG1 (.pointer (some ⟨a.1, a.2, none⟩)) H0 k127) (.int .i64 n) x1 (.int .i64 (.ofNat hops)) x3 x4 h' = some (.val (.bool false) ⟨H0.hp, H0.nx, H0.lo⟩)) ∨
 (r = true ∧ ∃ y0 y1 y2 y3 y4, lpT (T := Value → Value → Value → Value → Value → Hs → An) (fun _ _ _ _ _ _ => none) N (wG1 (.pointer (some ⟨a.1, a.2, none⟩)) H0 k127) (.int .i64 n) x1 (.int .i64 (.ofNat hops)) x3 x4 h' = k127 y0 y1 y2 y3 y4 h') := by
 have ha' : blkCell (a.2 + 1) (h'.hp.get a.1) = some (.map (some k)) := by
  cases hb : h.hp.get a.1 with
  | none => rw [hb] at ha; cases ha
  | some b => rw [hb] at ha; rw [hA _ _ hb]; exact ha
 have hk' := hA _ _ hk
 intro fuel
 induction fuel with
 | zero => intro N hops n x1 x3 x4 r hc; cases hc
 | succ fuel ih =>
  intro N hops n x1 x3 x4 r hc hN hh
  obtain ⟨N, rfl⟩ : ∃ N', N = N' + 1 := ⟨N - 1, by omega⟩
  rw [M_w]
  generalize hself : lpT (T := Value → Value → Value → Value → Value → Hs → An) _ N (wG1 (.pointer (some ⟨a.1, a.2, none⟩)) H0 k127) = self
  unfold wG1
  rw [H_i]
  simp only [climb] at hc
  cases h1 : eqI n (.ofNat 1) with
  | true =>
   rw [h1] at hc
   injection hc with hc
   subst hc
   rw [eqI_eq] at h1
   have : (n != .ofNat 1) = false := by simpa using h1
   rw [this]
   simp only [c_t, H_c]
   exact .inr ⟨by trivial, _, _, _, _, _, rfl⟩
  | false =>
   rw [h1] at hc
   rw [eqI_eq] at h1
   have : (n != .ofNat 1) = true := by simpa using h1
   rw [this]
   simp only at hc
   simp only [c_t, H_e, E_e]
   rw [B_r, F_9 ha']
   cases hf : findM (.int .i64 n) es 0 with
   | none => rw [hf] at hc; cases hc
   | some q =>
    cases q with
    | none => rw [hf] at hc; cases hc
    | some q =>
     rw [hf] at hc
     simp only [upOf] at hc
     cases hp : addrOf q.2 with
     | none => rw [hp] at hc; cases hc
     | some p =>
      rw [hp] at hc
      simp only at hc
      cases hu : rdI h p 3 with
      | none => rw [hu] at hc; cases hc
      | some u =>
       rw [hu] at hc
       simp only at hc
       have hq := G_o hp
       have hlk : ret1 h' (lk1 true h' (.pointer none) false (.int .i64 n) (.map (some k))) = some (q.2, h') := by
        show ret1 h' (lk2 (.pointer none) false (.int .i64 n) (h'.hp.get k)) = _
        rw [hk']
        show ret1 h' (lkO (.pointer none) false (findM (.int .i64 n) es 0)) = _
        rw [hf]; rfl
       rw [hlk, B_8, hq, E_e, kFld hA hu]
       rw [B_r, F_9 ha']
       have hml : ret1 h' (maplen1 h' (.map (some k))) = some (.int .i64 (.ofNat es.length), h') := by
        show ret1 h' (maplen2 (h'.hp.get k)) = _
        rw [hk']; rfl
       rw [hml, B_8, R_d]
       cases hb : Nat.blt es.length hops with
       | true =>
        rw [hb] at hc
        injection hc with hc
        subst hc
        rw [blt_eq] at hb
        have hb : es.length < hops := by simpa using hb
        rw [decide_eq_true (by simp only [Int.ofNat_eq_natCast]; omega)]
        simp only [H_e]
        exact .inl ⟨by trivial, F_l hlo⟩
       | false =>
        rw [hb] at hc
        rw [blt_eq] at hb
        have hb : ¬ es.length < hops := by simpa using hb
        rw [decide_eq_false (by simp only [Int.ofNat_eq_natCast]; omega)]
        simp only [H_c]
        rw [b_4 (by omega), ← hself]
        exact ih N (hops + 1) u _ _ _ r hc (by omega) (by omega)
theorem f_o (N : Nat) (a0 : Value) (h : Hs) (k5 : Value → Value → Value → Value → Value → Value → Value → Value → Value → Hs → An) (x3 : Value) (k16 : Value → Value → Value → Value → Value → Value → Value → Value → Value → Hs → An) (x18 x19 x20 x21 x22 x23 x24 x25 x26 : Value) (h27 : Hs) :
 wG0 N a0 h k5 x3 k16 x18 x19 x20 x21 x22 x23 x24 x25 x26 h27 = U_o x3 h27 (W_4 N a0 h k5 x3 k16 x19 x20 x21 x22 x23 x24 x25 x26) := rfl
theorem e_s (a b c : Value) (K : Value → An) : A_7 (.tuple #[a, b, c]) 0 K = K a := rfl
set_option maxHeartbeats 1000000 in
theorem c_w {h h' H0 : Hs} (hA : ∀ id b, h.hp.get id = some b → h'.hp.get id = some b) {a : Nat × Nat} {k cl : Nat} {es : List MapEntry} (ha : blkCell (a.2 + 1) (h.hp.get a.1) = some (.map (some k))) (hk : h.hp.get k = some (.mp es cl)) (hes : es.length ≤ 1000)
 (hlo : H0.nx ≤ h'.lo) {N : Nat} (hN : 3000 ≤ N) (k5 : Value → Value → Value → Value → Value → Value → Value → Value → Value → Hs → An) (x3 : Value) (k16 : Value → Value → Value → Value → Value → Value → Value → Value → Value → Hs → An) (x19 x20 x21 x22 x23 x24 x25 x26 : Value) {e : MapEntry} (kk vv : Value)
 (hent : entry1 h' x3 = some (.tuple #[e.key, e.val])) {r : Bool} (hv : entV h es e = some r) :
 (r = false ∧ W_4 N (.pointer (some ⟨a.1, a.2, none⟩)) H0 k5 x3 k16 x19 x20 x21 x22 x23 x24 x25 x26 (.tuple #[.bool true, kk, vv]) h' = some (.val (.bool false) ⟨H0.hp, H0.nx, H0.lo⟩)) ∨
 (r = true ∧ ∃ y0 y1 y2 y3 y4 y5 y6 y7 y8, W_4 N (.pointer (some ⟨a.1, a.2, none⟩)) H0 k5 x3 k16 x19 x20 x21 x22 x23 x24 x25 x26 (.tuple #[.bool true, kk, vv]) h' = k16 y0 y1 y2 y3 y4 y5 y6 y7 y8 h') := by
 unfold entV at hv
 cases hkey : keyI e.key with
 | none => rw [hkey] at hv; cases hv
 | some n =>
  rw [hkey] at hv
  simp only at hv
  have hke := (M_y hkey).1
  cases hp : addrOf e.val with
  | none => rw [hp] at hv; cases hv
  | some p =>
   rw [hp] at hv
   simp only at hv
   have hval := G_o hp
   cases hkd : rdI h p 0 with
   | none => rw [hkd] at hv; cases hv
   | some kind =>
    rw [hkd] at hv
    simp only [entK] at hv
    have hret : ret1 h' (entry1 h' x3) = some (.tuple #[.int .i64 n, .pointer (some ⟨p.1, p.2, none⟩)], h') := by rw [hent, hke, hval]; rfl
    unfold W_4
    rw [e_s]
    simp only [c_t, H_e]
    rw [hret, B_8, h_b, i_x, E_e, kFld hA hkd, H_i]
    cases h2 : eqI kind (.ofNat 2) with
    | true =>
     rw [h2] at hv
     simp only at hv
     rw [eqI_eq] at h2
     have hn : (kind != .ofNat 2) = false := by simpa using h2
     have hkq : (kind == .ofNat 2) = true := h2
     cases hu : rdI h p 3 with
     | none => rw [hu] at hv; cases hv
     | some up =>
      rw [hu] at hv
      simp only [entD] at hv
      rw [hn]
      simp only [O_r, K_3, B_8, O_e, E_e]
      rw [B_r]
      have hkc : A_d (.pointer (some ⟨p.1, p.2 + 0, none⟩)) h' = fun K => K (.int .i64 kind) := by
       funext K
       have := kFld hA hkd K
       rwa [B_r] at this
      have huc : A_d (.pointer (some ⟨p.1, p.2 + 3, none⟩)) h' = fun K => K (.int .i64 up) := by
       funext K
       have := kFld hA hu K
       rwa [B_r] at this
      simp only [hkc]
      rw [G_9, hkq]
      simp only [S_h, E_e, B_r, hkc, huc, G_9, I_3, B_8]
      cases h3 : eqI up (.ofNat 0) with
      | true =>
       rw [h3] at hv
       injection hv with hv
       subst hv
       rw [eqI_eq] at h3
       have h3 : (up == .ofNat 0) = true := h3
       rw [h3]
       exact .inl ⟨rfl, F_l hlo⟩
      | false =>
       rw [h3] at hv
       rw [eqI_eq] at h3
       have h3 : (up == .ofNat 0) = false := h3
       rw [h3]
       simp only [H_c, H_i, hn]
       rcases U_u hA ha hk hes hlo (fun x128 x129 x130 x131 x132 h133 => k16 (.bool true) (.pointer (some ⟨p.1, p.2, none⟩)) (.bool false) (.bool false) x128 x129 x130 x131 x132 h133) 3000 N 0 n x23 x25 x26 r hv hN (by omega) with ⟨q1, q2⟩ | ⟨q1, y0, y1, y2, y3, y4, q2⟩
       ·exact .inl ⟨q1, q2⟩
       ·exact .inr ⟨q1, _, _, _, _, y0, y1, y2, y3, y4, q2⟩
    | false =>
     rw [h2] at hv
     simp only at hv
     rw [eqI_eq] at h2
     have hn : (kind != .ofNat 2) = true := by simpa using h2
     have hkq : (kind == .ofNat 2) = false := h2
     cases hu : rdI h p 4 with
     | none => rw [hu] at hv; cases hv
     | some links =>
     rw [hu] at hv
     simp only [entF, Option.some.injEq] at hv
     rw [hn]
     have hkc : A_d (.pointer (some ⟨p.1, p.2 + 0, none⟩)) h' = fun K => K (.int .i64 kind) := by
      funext K
      have := kFld hA hkd K
      rwa [B_r] at this
     have huc : A_d (.pointer (some ⟨p.1, p.2 + 4, none⟩)) h' = fun K => K (.int .i64 links) := by
      funext K
      have := kFld hA hu K
      rwa [B_r] at this
     simp only [S_h, E_e, B_r, huc, G_9, I_3, B_8]
     cases h3 : eqI links (.ofNat 0) with
     | true =>
      rw [h3] at hv
      rw [eqI_eq] at h3
      have h3 : (links == .ofNat 0) = true := h3
      rw [h3]
      simp only [d_o, I_3, B_8, H_e]
      refine .inl ⟨hv.symm, ?_⟩
      exact F_l hlo
     | false =>
      rw [h3] at hv
      rw [eqI_eq] at h3
      have h3 : (links == .ofNat 0) = false := h3
      rw [h3]
      simp only [O_e, E_e, B_r, hkc, G_9, hkq, O_r, K_3, B_8, H_c, H_i, hn, H_e]
      exact .inr ⟨hv.symm, _, _, _, _, _, _, _, _, _, rfl⟩
theorem h_0 {l : List An} {o : Out} (hne : l ≠ []) (h : ∀ x ∈ l, x = some o) : allA l = some o := by
 cases l with
 | nil => exact absurd rfl hne
 | cons a l => cases l with
  | nil => exact h a List.mem_cons_self
  | cons b l =>
   have ha := h a List.mem_cons_self
   have h2 : allA (a :: b :: l) = a := by
    unfold allA
    exact if_pos fun x hx => by rw [h x (List.mem_cons_of_mem _ hx), ha]
   rw [h2]; exact ha
theorem F_r {seen : List Nat} {e : MapEntry} : ∀ {es : List MapEntry}, e ∈ C_u seen es ↔ e ∈ es ∧ e.born ∉ seen := by
 intro es
 induction es with
 | nil => simp [C_u]
 | cons x xs ih =>
  simp only [C_u]
  cases hc : seen.contains x.born with
  | true =>
   have hc : x.born ∈ seen := by simpa using hc
   rw [ih, List.mem_cons]
   constructor
   ·rintro ⟨h1, h2⟩; exact ⟨.inr h1, h2⟩
   ·rintro ⟨rfl | h1, h2⟩
    ·exact absurd hc h2
    ·exact ⟨h1, h2⟩
  | false =>
   have hc : x.born ∉ seen := by simpa using hc
   rw [List.mem_cons, ih, List.mem_cons]
   constructor
   ·rintro (rfl | ⟨h1, h2⟩)
    ·exact ⟨.inl rfl, hc⟩
    ·exact ⟨.inr h1, h2⟩
   ·rintro ⟨rfl | h1, h2⟩
    ·exact .inl rfl
    ·exact .inr ⟨h1, h2⟩
theorem T_j {seen : List Nat} {e : MapEntry} : ∀ {es : List MapEntry}, e ∈ C_u seen es → (C_u (seen ++ [e.born]) es).length < (C_u seen es).length := by
 have le : ∀ (es : List MapEntry), (C_u (seen ++ [e.born]) es).length ≤ (C_u seen es).length := by
  intro es
  induction es with
  | nil => exact Nat.le_refl _
  | cons x xs ih =>
   simp only [C_u]
   cases hc : seen.contains x.born with
   | true =>
    have : (seen ++ [e.born]).contains x.born = true := by simp at hc ⊢; exact .inl hc
    rw [this]; exact ih
   | false =>
    cases (seen ++ [e.born]).contains x.born with
    | true => exact Nat.le_succ_of_le ih
    | false => exact Nat.succ_le_succ ih
 intro es
 induction es with
 | nil => intro h; cases h
 | cons x xs ih =>
  simp only [C_u]
  cases hc : seen.contains x.born with
  | true =>
   have : (seen ++ [e.born]).contains x.born = true := by simp at hc ⊢; exact .inl hc
   rw [this]; exact ih
  | false =>
   intro h
   cases hd : (seen ++ [e.born]).contains x.born with
   | true => exact Nat.lt_succ_of_le (le xs)
   | false =>
    rcases List.mem_cons.1 h with rfl | h
    ·simp at hd
    ·exact Nat.succ_lt_succ (ih h)
theorem J_9 {es : List MapEntry} (hn : (es.map (·.born)).Nodup) {e : MapEntry} (he : e ∈ es) : Q_w e.born es = some e := by
 induction es with
 | nil => cases he
 | cons x xs ih =>
  simp only [List.map_cons, List.nodup_cons] at hn
  simp only [Q_w]
  cases hb : Nat.beq x.born e.born with
  | true =>
   rcases List.mem_cons.1 he with rfl | he
   ·rfl
   ·have h3 : e.born ∈ xs.map (·.born) := List.mem_map_of_mem he
    rw [← Nat.eq_of_beq_eq_true hb] at h3
    exact absurd h3 hn.1
  | false =>
   rcases List.mem_cons.1 he with rfl | he
   ·rw [show Nat.beq e.born e.born = true from Nat.beq_refl _] at hb; cases hb
   ·exact ih hn.2 he
theorem X_f (l : List Nat) (x : Nat) : S_9 (l ++ [x]) = some x := by
 induction l with
 | nil => rfl
 | cons a l ih =>
  cases l with
  | nil => rfl
  | cons b l => exact ih
theorem S_l {h : Hs} {b k cl : Nat} {seen : List Nat} {es : List MapEntry} (hb : h.hp.get b = some (.it (some k) cl seen cl)) (hk : h.hp.get k = some (.mp es cl)) (hl : I_d cl es = true) (K : KV) :
 U_o (.pointer (some ⟨b, 0, none⟩)) h K = d_6 h b k cl seen cl K (C_u seen es) := by
 show getB h b _ = _
 unfold getB
 rw [B_o, hb]
 show getB h k _ = _
 unfold getB
 rw [B_o, hk]
 show T_t h b k cl seen cl K es cl = _
 unfold T_t
 have : andB (I_d cl es) (Nat.ble cl cl) = true := by rw [hl, Nat.ble_eq_true_of_le (Nat.le_refl cl)]; rfl
 rw [this]
theorem f_v {v : Value} {n : Int} (h : keyI v = some n) : keyC v = true := by rw [(M_y h).1]; rfl
theorem b_1 {h : Hs} {es : List MapEntry} : ∀ {l : List MapEntry} {b : Bool}, allV h es l = some b → (∀ e ∈ l, ∃ r, entV h es e = some r) ∧ b = l.all fun e => (entV h es e).getD false := by
 intro l
 induction l with
 | nil => intro b hb; injection hb with hb; subst hb; exact ⟨(fun e he => by cases he), rfl⟩
 | cons x xs ih =>
  intro b hb
  simp only [allV] at hb
  cases hx : entV h es x with
  | none => rw [hx] at hb; cases hb
  | some r =>
   rw [hx] at hb
   simp only at hb
   cases hr : allV h es xs with
   | none => rw [hr] at hb; cases hb
   | some c =>
    rw [hr] at hb
    injection hb with hb
    obtain ⟨h1, h2⟩ := ih hr
    refine ⟨fun e he => ?_, ?_⟩
    ·rcases List.mem_cons.1 he with rfl | he
     ·exact ⟨r, hx⟩
     ·exact h1 e he
    ·rw [← hb, List.all_cons, hx, ← h2]
     cases r <;> cases c <;> rfl
theorem N_7 (h : Hs) (b k since : Nat) (seen : List Nat) (cl : Nat) (K : KV) : d_6 h b k since seen cl K [] = K (.tuple #[.bool false]) h := rfl
theorem N_9 (N : Nat) (a0 : Value) (h : Hs) (k5 : Value → Value → Value → Value → Value → Value → Value → Value → Value → Hs → An) (x3 : Value) (k16 : Value → Value → Value → Value → Value → Value → Value → Value → Value → Hs → An) (x19 x20 x21 x22 x23 x24 x25 x26 : Value) (h29 : Hs) :
 W_4 N a0 h k5 x3 k16 x19 x20 x21 x22 x23 x24 x25 x26 (.tuple #[.bool false]) h29 = k5 (.bool false) x19 x20 x21 x22 x23 x24 x25 x26 h29 := rfl
set_option maxHeartbeats 1000000 in
theorem U_1 {h H0 : Hs} {a : Nat × Nat} {k cl b : Nat} {es : List MapEntry} (ha : blkCell (a.2 + 1) (h.hp.get a.1) = some (.map (some k))) (hk : h.hp.get k = some (.mp es cl)) (hes : es.length ≤ 1000) (hl : I_d cl es = true) (hnd : (es.map (·.born)).Nodup)
 (hall : ∀ e ∈ es, ∃ r, entV h es e = some r) (hb0 : h.hp.get b = none) (hbn : H0.nx ≤ b) {N0 : Nat} (hN0 : 3000 ≤ N0) : ∀ (m : Nat) (seen : List Nat) (h1 : Hs) (N : Nat) (x0 x1 x2 x3 x4 x5 x6 x7 x8 : Value), (C_u seen es).length ≤ m → m < N →
 h1.hp.get b = some (.it (some k) cl seen cl) → (∀ id blk, h.hp.get id = some blk → h1.hp.get id = some blk) → H0.nx ≤ h1.lo →
 lpT (T := Value → Value → Value → Value → Value → Value → Value → Value → Value → Hs → An) (fun _ _ _ _ _ _ _ _ _ _ => none) N
  (wG0 N0 (.pointer (some ⟨a.1, a.2, none⟩)) H0 (fun _ _ _ _ _ _ _ _ _ h15 => clrK H0 (Value.bool true) h15) (.pointer (some ⟨b, 0, none⟩))) x0 x1 x2 x3 x4 x5 x6 x7 x8 h1 =
 some (.val (.bool ((C_u seen es).all fun e => (entV h es e).getD false)) ⟨H0.hp, H0.nx, H0.lo⟩) := by
 intro m
 induction m with
 | zero =>
  intro seen h1 N x0 x1 x2 x3 x4 x5 x6 x7 x8 hm hN hit hA hlo
  obtain ⟨N, rfl⟩ : ∃ N', N = N' + 1 := ⟨N - 1, by omega⟩
  have hle : C_u seen es = [] := List.eq_nil_of_length_eq_zero (by omega)
  rw [M_w, f_o, S_l hit (hA _ _ hk) hl, hle]
  rw [N_7, N_9]
  exact F_l hlo
 | succ m ih =>
  intro seen h1 N x0 x1 x2 x3 x4 x5 x6 x7 x8 hm hN hit hA hlo
  obtain ⟨N, rfl⟩ : ∃ N', N = N' + 1 := ⟨N - 1, by omega⟩
  rw [M_w, f_o, S_l hit (hA _ _ hk) hl]
  cases hle : C_u seen es with
  | nil =>
   rw [N_7, N_9]
   exact F_l hlo
  | cons e0 es0 =>
   rw [← hle]
   have hnx : ∀ K, d_6 h1 b k cl seen cl K (C_u seen es) = allA ((C_u seen es).map (a_c h1 b k cl seen cl K)) := fun K => by rw [hle]; rfl
   rw [hnx]
   refine h_0 (by rw [hle]; exact List.cons_ne_nil _ _) fun x hx => ?_
   obtain ⟨e, he, rfl⟩ := List.mem_map.1 hx
   obtain ⟨hees, hens⟩ := F_r.1 he
   obtain ⟨r, hr⟩ := hall e hees
   obtain ⟨n, hn⟩ : ∃ n, keyI e.key = some n := by
    unfold entV at hr
    cases hq : keyI e.key with
    | none => rw [hq] at hr; cases hr
    | some n => exact ⟨n, rfl⟩
   unfold a_c
   rw [f_v hn]
   simp only
   rw [D_a]
   obtain ⟨h2, hh2⟩ : ∃ h2 : Hs, h2 = ⟨h1.hp.set b (some (.it (some k) cl (seen ++ [e.born]) cl)), h1.nx, minN h1.lo b⟩ := ⟨_, rfl⟩
   rw [← hh2]
   have hit2 : h2.hp.get b = some (.it (some k) cl (seen ++ [e.born]) cl) := by rw [hh2]; show Tr.get (Tr.set _ _ _) _ = _; rw [Tr.get_set, if_pos rfl]
   have hA2 : ∀ id blk, h.hp.get id = some blk → h2.hp.get id = some blk := fun id blk hid => by
    rw [hh2]
    show Tr.get (Tr.set _ _ _) _ = _
    rw [Tr.get_set, if_neg (fun q => by subst q; rw [hb0] at hid; cases hid)]
    exact hA id blk hid
   have hlo2 : H0.nx ≤ h2.lo := by rw [hh2]; show _ ≤ minN h1.lo b; rw [D_g]; omega
   have hent : entry1 h2 (.pointer (some ⟨b, 0, none⟩)) = some (.tuple #[e.key, e.val]) := by
    show entry2 h2 (h2.hp.get b) = _
    rw [hit2]
    show entry3 (seen ++ [e.born]) cl (h2.hp.get k) = _
    rw [hA2 _ _ hk]
    simp only [entry3, show Nat.beq cl cl = true from Nat.beq_refl _, (K_c hl).1, X_f, J_9 hnd hees, entry4, f_v hn]
   rcases c_w hA2 ha hk hes hlo2 hN0 (fun _ _ _ _ _ _ _ _ _ h15 => clrK H0 (Value.bool true) h15) (.pointer (some ⟨b, 0, none⟩)) (lpT (T := Value → Value → Value → Value → Value → Value → Value → Value → Value → Hs → An) (fun _ _ _ _ _ _ _ _ _ _ => none) N
   (wG0 N0 (.pointer (some ⟨a.1, a.2, none⟩)) H0 (fun _ _ _ _ _ _ _ _ _ h15 => clrK H0 (Value.bool true) h15) (.pointer (some ⟨b, 0, none⟩)))) x1 x2 x3 x4 x5 x6 x7 x8 e.key e.val hent hr with ⟨rfl, q⟩ | ⟨rfl, y0, y1, y2, y3, y4, y5, y6, y7, y8, q⟩
   ·rw [q]
    have : ((C_u seen es).all fun e => (entV h es e).getD false) = false := by
     rw [List.all_eq_false]
     exact ⟨e, he, by rw [hr]; simp⟩
    rw [this]
   ·rw [q, ih (seen ++ [e.born]) h2 N y0 y1 y2 y3 y4 y5 y6 y7 y8 (by have := T_j he; omega) (by omega) hit2 hA2 hlo2]
    have : ((C_u (seen ++ [e.born]) es).all fun e => (entV h es e).getD false) = ((C_u seen es).all fun e => (entV h es e).getD false) := by
     rw [Bool.eq_iff_iff, List.all_eq_true, List.all_eq_true]
     constructor
     ·intro hh e' he'
      obtain ⟨p1, p2⟩ := F_r.1 he'
      by_cases hbb : e'.born = e.born
      ·have : e' = e := by
        have h1 := J_9 hnd p1
        rw [hbb, J_9 hnd hees] at h1
        injection h1 with h1
        exact h1.symm
       rw [this, hr]; rfl
      ·exact hh e' (F_r.2 ⟨p1, by simp only [List.mem_append, List.mem_singleton]; rintro (q | q); exact p2 q; exact hbb q⟩)
     ·intro hh e' he'
      obtain ⟨p1, p2⟩ := F_r.1 he'
      exact hh e' (F_r.2 ⟨p1, fun q => p2 (by simp [q])⟩)
    rw [this]
theorem d_3 {R : RnK} {N : Nat} (hN : 4000 ≤ N) {args : List Value} {h h' : Hs} {v : Value} (hg : R_2 args h = some (.val v h')) : R_r R N args h = some (.val v h') := by
 unfold R_2 at hg
 split at hg
 ·rename_i a0
  split at hg
  ·rename_i a hadr
   have hae := G_o hadr
   subst hae
   unfold f_i at hg
   split at hg
   ·rename_i m hcell
    split at hg
    ·rename_i k
     have ha : blkCell (a.2 + 1) (h.hp.get a.1) = some (.map (some k)) := hcell
     unfold f_z at hg
     split at hg
     ·rename_i es cl hk
      split at hg
      ·rename_i hck
       obtain ⟨c1, c2⟩ := A_v hck
       obtain ⟨c11, c12⟩ := A_v c1
       have hes := Nat.le_of_ble_eq_true c2
       have hnd : (es.map (·.born)).Nodup := by rw [← L_g]; exact H_r (fun a b h => beq_false.1 h) c12
       split at hg
       ·rename_i hb0
        split at hg
        ·rename_i b hv
         injection hg with hg
         injection hg with hg1 hg2
         subst hg1
         subst hg2
         obtain ⟨hall, hb⟩ := b_1 hv
         unfold R_r
         rw [c_7, f_u]
         rw [E_e, B_r, F_9 (h := ⟨h.hp, h.nx, h.nx⟩) ha]
         have hrg : range1 ⟨h.hp, h.nx, h.nx⟩ (.map (some k)) = some (.pointer (some ⟨h.nx, 0, none⟩), ⟨h.hp.set h.nx (some (.it (some k) cl [] cl)), Nat.succ h.nx, h.nx⟩) := by
          show range2 ⟨h.hp, h.nx, h.nx⟩ k (h.hp.get k) = _
          rw [hk]; rfl
         rw [hrg, B_8]
         simp only [c_t]
         have hl0 : C_u [] es = es := by
          have : ∀ l : List MapEntry, C_u [] l = l := by
           intro l
           induction l with
           | nil => rfl
           | cons x xs ih => show x :: C_u [] xs = _; rw [ih]
          exact this es
         rw [U_1 (h := h) (H0 := h) ha hk hes c11 hnd hall hb0 (Nat.le_refl _) (by omega) es.length [] _ N _ _ _ _ _ _ _ _ _ (by rw [hl0]; exact Nat.le_refl _) (by omega) (by show Tr.get (Tr.set _ _ _) _ = _; rw [Tr.get_set, if_pos rfl])
          (fun id blk hid => by show Tr.get (Tr.set _ _ _) _ = _; rw [Tr.get_set, if_neg (fun q => by subst q; rw [hb0] at hid; cases hid)]; exact hid) (Nat.le_refl _), hl0, ← hb]
        ·cases hg
       ·cases hg
      ·cases hg
     ·cases hg
    ·cases hg
   ·cases hg
  ·cases hg
 ·cases hg
theorem V_n {P : Program} (hm : P.follows .mixedOrders = true) (hN : Named P) {f : FuncId} (hne : Nat.beq f 1000000000 = false) (hf : (FF P f).isSome = true) (hq : ∀ R N args h, R_r R N args h = A_x P N R f args h) : SumOk P f R_2 :=
 SumOk.of_run hm hN (F := 4000) (tab := A_x P 4000) (fun _ _ _ _ _ hh => hh) hf 1 fun args h v h' hg => by
  show ifB (Nat.beq f 1000000000) none (A_x P 4000 (fun _ _ _ => none) f args h) = _
  rw [hne, ← hq]
  show R_r (fun _ _ _ => none) 4000 args h = _
  exact d_3 (Nat.le_refl _) hg
end Go.Gev
