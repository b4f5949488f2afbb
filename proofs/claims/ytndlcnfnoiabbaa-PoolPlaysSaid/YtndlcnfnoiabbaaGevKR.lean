/- The fast evaluator's operations are the evaluator's. -/
import Derived.Test.YtndlcnfnoiabbaaGevPS
import Derived.Test.YtndlcnfnoiabbaaGevMain
namespace Go.Gev
open Go.RowKit
def KRel (k : KOp) (g : GOp) : Prop := match k with
 | .pure pk => ∃ (gf : En → Hs → Rs) (pf : En → Option Value), g = .fn gf ∧ (∀ en h, gf en h = ret1 h (pf en)) ∧ ∀ en K o, pk en K = some o → ∃ v, pf en = some v ∧ K v = some o
 | .read rk => ∃ (gf : En → Hs → Rs) (rf : En → Hs → Option Value), g = .fn gf ∧ (∀ en h, gf en h = ret1 h (rf en h)) ∧ ∀ en h K o, rk en h K = some o → ∃ v, rf en h = some v ∧ K v = some o
 | .gen f => ∀ (R : RnK) en h K o, f R en h K = some o → ∀ K' : KV, (∀ v h1, K v h1 = some o → K' v h1 = some o) → doOp (toRn R) en h K' g = some o
theorem doOp_mono {R : Rn} {en : En} {h : Hs} {K K' : KV} {g : GOp} {o : Out} (hd : doOp R en h K g = some o) (hk : ∀ v h1, K v h1 = some o → K' v h1 = some o) : doOp R en h K' g = some o := by
 have val : ∀ x : Option Out, isVal K x = some o → isVal K' x = some o := fun x hx => by
  cases x with
  | none => cases hx
  | some y => cases y with
   | fin e fr h1 => cases hx
   | val v h1 => exact hk v h1 hx
 cases g with
 | fn g =>
  simp only [doOp] at hd ⊢
  cases hg : g en h with
  | none => rw [hg] at hd; cases hd
  | some p => rw [hg] at hd; exact hk _ _ hd
 | call f args => exact val _ hd
 | callv f args => exact val _ hd
theorem kopG_rel (P : Program) (cx : Cx) (o : Oper) : KRel (kopG P cx o) (gop P cx o) := fun _ _ _ _ _ hd _ hk => doOp_mono hd hk
theorem rel_pure {pk : En → (Value → An) → An} {gf : En → Hs → Rs} (pf : En → Option Value) (h1 : ∀ en h, gf en h = ret1 h (pf en)) (h2 : ∀ en K o, pk en K = some o → ∃ v, pf en = some v ∧ K v = some o) : KRel (.pure pk) (.fn gf) :=
 ⟨gf, pf, rfl, h1, h2⟩
theorem rel_kPure (pf : En → Option Value) {gf : En → Hs → Rs} (h1 : ∀ en h, gf en h = ret1 h (pf en)) : KRel (kPure pf) (.fn gf) :=
 ⟨gf, pf, rfl, h1, fun _ _ _ h => obK_some h⟩
theorem rel_after {gf : En → Hs → Rs} {f : En → Hs → Rs} (h1 : gf = f) : KRel (.gen fun _ en h K => after K (f en h)) (.fn gf) := fun _ _ _ _ _ hd _ hk => by
 subst h1
 exact doOp_mono (g := .fn gf) hd hk
noncomputable def gopN (P : Program) (cx : Cx) (o : Oper) : GOp := match gopS P cx o with
 | some g => g
 | none => .fn oBad
theorem gop_gopN {P : Program} {cx : Cx} {o : Oper} (h : gopX P cx o = none) : gop P cx o = gopN P cx o := by unfold gop gopN; rw [h]; rfl
theorem gop_of {P : Program} {cx : Cx} {o : Oper} {g : GOp} (h : gopS P cx o = some g) : gopN P cx o = g := by unfold gopN; rw [h]
theorem kBin_rel {P : Program} {cx : Cx} {o : Oper} {op : BinOp} {t yt : TypeId} {x y : Operand} {x' y' : GX} {k : KOp} (ho : o.op = .binOp op t x y yt) (hx : gx cx x = some x') (hy : gx cx y = some y') (hk : kBin P op (orB (cstB x) (cstB y)) t x' y' = some k) : KRel k (gopN P cx o) := by
 have hb : ∀ f, binF P op (orB (cstB x) (cstB y)) t = some f → gopN P cx o = .fn (oV2 f x' y') := fun f hf => gop_of (by simp [gopS, ho, hf, hx, hy])
 have hsh : op = .shl ∨ op = .shr ∨ (op ≠ .shl ∧ op ≠ .shr) := by cases op <;> simp
 rcases hsh with rfl | rfl | ⟨h1, h2⟩
 ·simp only [kBin, Option.some.injEq] at hk
  subst hk
  rw [hb (sh2 .shl) rfl]
  exact rel_pure _ (fun _ _ => rfl) fun _ _ _ h => kShl_some h
 ·simp only [kBin, Option.some.injEq] at hk
  subst hk
  rw [hb (sh2 .shr) rfl]
  exact rel_pure _ (fun _ _ => rfl) fun _ _ _ h => kShr_some h
 ·have hbin : ∀ kd, P.underlying t = some (.int kd) → binF P op (orB (cstB x) (cstB y)) t = some (i2 (fOf op)) := fun kd hu => by
   cases op <;> first | (exact absurd rfl h1) | (exact absurd rfl h2) | (simp only [binF, hu])
  have hkb : kBin P op (orB (cstB x) (cstB y)) t x' y' = (match P.underlying t with
   | some (.int .i64) => some (.pure fun en K => kI64 op (ev en x') (ev en y') K)
   | some (.int .u64) => some (.pure fun en K => kU64 op (ev en x') (ev en y') K)
   | some (.int .u8) => some (.pure fun en K => kU8 op (ev en x') (ev en y') K)
   | _ => match binF P op (orB (cstB x) (cstB y)) t with
    | some f => some (kPure fun en => f (ev en x') (ev en y'))
    | none => none) := by
   cases op <;> first | (exact absurd rfl h1) | (exact absurd rfl h2) | rfl
  rw [hkb] at hk
  split at hk
  ·rename_i hu
   simp only [Option.some.injEq] at hk
   subst hk
   rw [hb _ (hbin _ hu)]
   exact rel_pure _ (fun _ _ => rfl) fun _ _ _ h => kI64_some h
  ·rename_i hu
   simp only [Option.some.injEq] at hk
   subst hk
   rw [hb _ (hbin _ hu)]
   exact rel_pure _ (fun _ _ => rfl) fun _ _ _ h => kU64_some h
  ·rename_i hu
   simp only [Option.some.injEq] at hk
   subst hk
   rw [hb _ (hbin _ hu)]
   exact rel_pure _ (fun _ _ => rfl) fun _ _ _ h => kU8_some h
  ·split at hk
   ·rename_i f hf
    simp only [Option.some.injEq] at hk
    subst hk
    rw [hb f hf]
    exact rel_kPure _ fun _ _ => rfl
   ·cases hk
theorem kConv_rel {P : Program} {cx : Cx} {o : Oper} {s d : TypeId} {x : Operand} {x' : GX} {k : KOp} (ho : o.op = .convert s d x) (hx : gx cx x = some x') (hk : kConv P s d x' = some k) : KRel k (gopN P cx o) := by
 have hI : ∀ k0 kd, P.underlying s = some (.int k0) → P.underlying d = some (.int kd) → gopN P cx o = .fn (oConvI kd x') := fun k0 kd h1 h2 => gop_of (by simp [gopS, ho, hx, h1, h2])
 unfold kConv at hk
 split at hk
 ·rename_i h1 h2
  simp only [Option.some.injEq] at hk
  subst hk
  rw [hI _ _ h1 h2]
  exact rel_pure (fun en => convI1 .i64 (ev en x')) (fun _ _ => rfl) fun _ _ _ h => kTo_some mx_i64 h
 ·rename_i h1 h2
  simp only [Option.some.injEq] at hk
  subst hk
  rw [hI _ _ h1 h2]
  exact rel_pure (fun en => convI1 .u64 (ev en x')) (fun _ _ => rfl) fun _ _ _ h => kTo_some mx_u64 h
 ·rename_i h1 h2
  simp only [Option.some.injEq] at hk
  subst hk
  rw [hI _ _ h1 h2]
  exact rel_pure (fun en => convI1 .u8 (ev en x')) (fun _ _ => rfl) fun _ _ _ h => kTo_some mx_u8 h
 ·rename_i h1 h2
  simp only [Option.some.injEq] at hk
  subst hk
  rw [hI _ _ h1 h2]
  exact rel_kPure _ fun _ _ => rfl
 ·rename_i h1 h2
  simp only [Option.some.injEq] at hk
  subst hk
  have : gopN P cx o = .fn (oConvS x') := gop_of (by simp [gopS, ho, hx, h1, h2])
  rw [this]
  exact rel_kPure _ fun _ _ => rfl
 ·cases hk
set_option maxHeartbeats 1000000 in
theorem kopS_rel {P : Program} {cx : Cx} {o : Oper} {k : KOp} (hk : kopS P cx o = some k) : KRel k (gopN P cx o) := by
 unfold kopS at hk
 split at hk
 ·rename_i x ho
  simp only [Option.bind_eq_bind, Option.bind_eq_some_iff, Option.some.injEq] at hk
  obtain ⟨y, hy, rfl⟩ := hk
  rw [gop_of (show gopS P cx o = some (.fn (oMv y)) by simp [gopS, ho, hy])]
  exact rel_pure (fun en => some (ev en y)) (fun _ _ => rfl) fun _ _ _ h => ⟨_, rfl, h⟩
 ·rename_i x ho
  simp only [Option.bind_eq_bind, Option.bind_eq_some_iff, Option.some.injEq] at hk
  obtain ⟨y, hy, rfl⟩ := hk
  rw [gop_of (show gopS P cx o = some (.fn (oMv y)) by simp [gopS, ho, hy])]
  exact rel_pure (fun en => some (ev en y)) (fun _ _ => rfl) fun _ _ _ h => ⟨_, rfl, h⟩
 ·rename_i op t x y yt ho
  simp only [Option.bind_eq_bind, Option.bind_eq_some_iff] at hk
  obtain ⟨x', hx, y', hy, hb⟩ := hk
  exact kBin_rel ho hx hy hb
 ·rename_i op t x ho
  simp only [Option.bind_eq_bind, Option.bind_eq_some_iff] at hk
  obtain ⟨y, hy, hb⟩ := hk
  have hg : gopN P cx o = .fn (oUn op y) := gop_of (by simp [gopS, ho, hy])
  rw [hg]
  split at hb
  ·simp only [Option.some.injEq] at hb
   subst hb
   exact rel_pure (fun en => un .not (ev en y)) (fun _ _ => rfl) fun _ _ _ h => kNot_some h
  ·simp only [Option.some.injEq] at hb
   subst hb
   exact rel_kPure _ fun _ _ => rfl
 ·rename_i s d x ho
  simp only [Option.bind_eq_bind, Option.bind_eq_some_iff] at hk
  obtain ⟨y, hy, hb⟩ := hk
  exact kConv_rel ho hy hb
 ·rename_i t a ho
  simp only [Option.bind_eq_bind, Option.bind_eq_some_iff] at hk
  obtain ⟨y, hy, n, hn, b, hb, hk⟩ := hk
  cases b with
  | true =>
   simp only [Option.some.injEq] at hk
   subst hk
   rw [gop_of (show gopS P cx o = some (.fn (oLoads n y)) by simp [gopS, ho, hy, hn, hb])]
   exact ⟨_, fun en h => ldsV n (ev en y) h, rfl, fun en h => oLoads_ld n y en h, fun _ _ _ _ h => kLoads_some h⟩
  | false =>
   simp only [Option.some.injEq] at hk
   subst hk
   rw [gop_of (show gopS P cx o = some (.fn (oLoad y)) by simp [gopS, ho, hy, hn, hb])]
   exact ⟨_, fun en h => ldV (ev en y) h, rfl, fun en h => oLoad_ld y en h, fun _ _ _ _ h => kLoad_some h⟩
 ·rename_i t a x ho
  simp only [Option.bind_eq_bind, Option.bind_eq_some_iff] at hk
  obtain ⟨y, hy, z, hz, n, hn, hk⟩ := hk
  have hg : gopN P cx o = .fn (oStore n y z) := gop_of (by simp [gopS, ho, hy, hz, hn])
  rw [hg]
  split at hk
  ·simp only [Option.some.injEq] at hk
   subst hk
   intro R en h K out hd K' hK
   obtain ⟨h1, hs, hk1⟩ := kStore1_some hd
   show after K' (oStore 1 y z en h) = some out
   unfold oStore
   rw [hs]
   exact hK _ _ hk1
  ·simp only [Option.some.injEq] at hk
   subst hk
   exact rel_after rfl
 ·rename_i x ho
  simp only [Option.bind_eq_bind, Option.bind_eq_some_iff, Option.some.injEq] at hk
  obtain ⟨y, hy, rfl⟩ := hk
  rw [gop_of (show gopS P cx o = some (.fn (oNilc y)) by simp [gopS, ho, hy])]
  exact rel_pure (fun en => nilc1 (ev en y)) (fun _ _ => rfl) fun _ _ _ h => kNil_some h
 ·rename_i t x fk ho
  split at hk
  ·rename_i fs hu
   split at hk
   ·rename_i f hf
    simp only [Option.bind_eq_bind, Option.bind_eq_some_iff] at hk
    obtain ⟨y, hy, n, hn, hk⟩ := hk
    split at hk
    ·cases hk
    ·rename_i hne
     simp only [Option.some.injEq] at hk
     subst hk
     rw [gop_of (show gopS P cx o = some (.fn (oFieldA f.offset y)) by
      simp only [gopS, ho, hu, hf, hn, hy, Option.bind_eq_bind, Option.bind_some]
      rw [if_neg (fun e => hne e)])]
     exact rel_pure (fun en => fieldA1 f.offset (addrOf (ev en y))) (fun _ _ => rfl) fun _ _ _ h => kFieldA_some h
   ·cases hk
  ·cases hk
 ·rename_i t x fk ho
  split at hk
  ·rename_i fs hu
   split at hk
   ·rename_i f hf
    simp only [Option.bind_eq_bind, Option.bind_eq_some_iff] at hk
    obtain ⟨y, hy, b, hb, hk⟩ := hk
    cases b with
    | true =>
     simp only [Option.bind_eq_some_iff, Option.some.injEq] at hk
     obtain ⟨n, hn, rfl⟩ := hk
     rw [gop_of (show gopS P cx o = some (.fn (oFields f.offset n y)) by simp [gopS, ho, hu, hf, hn, hy, hb])]
     exact rel_kPure _ fun _ _ => rfl
    | false =>
     simp only [Option.some.injEq] at hk
     subst hk
     rw [gop_of (show gopS P cx o = some (.fn (oField f.offset y)) by simp [gopS, ho, hu, hf, hy, hb])]
     exact rel_pure (fun en => field1 f.offset (ev en y)) (fun _ _ => rfl) fun _ _ _ h => kField_some h
   ·cases hk
  ·cases hk
 ·rename_i t x i ho
  split at hk
  ·rename_i e hu
   simp only [Option.bind_eq_bind, Option.bind_eq_some_iff, Option.some.injEq] at hk
   obtain ⟨u, hsz, y, hy, z, hz, rfl⟩ := hk
   rw [gop_of (show gopS P cx o = some (.fn (oIdxA u y z)) by simp [gopS, ho, hu, hsz, hy, hz])]
   exact rel_pure (fun en => idxA1 u (natOf (ev en z)) (ev en y)) (fun _ _ => rfl) fun _ _ _ h => kIdxA_some h
  ·rename_i n e hu
   simp only [Option.bind_eq_bind, Option.bind_eq_some_iff, Option.some.injEq] at hk
   obtain ⟨u, hsz, y, hy, z, hz, rfl⟩ := hk
   rw [gop_of (show gopS P cx o = some (.fn (oIdxArr u n y z)) by simp [gopS, ho, hu, hsz, hy, hz])]
   exact rel_kPure _ fun _ _ => rfl
  ·cases hk
 ·rename_i x i ho
  simp only [Option.bind_eq_bind, Option.bind_eq_some_iff, Option.some.injEq] at hk
  obtain ⟨y, hy, rfl⟩ := hk
  rw [gop_of (show gopS P cx o = some (.fn (oExtr y i)) by simp [gopS, ho, hy])]
  exact rel_pure (fun en => extr1 i (ev en y)) (fun _ _ => rfl) fun _ _ _ h => kExtr_some h
 ·rename_i c ho
  split at hk
  ·rename_i f hc
   simp only [Option.bind_eq_bind, Option.bind_eq_some_iff, Option.some.injEq] at hk
   obtain ⟨xs, hxs, rfl⟩ := hk
   rw [gop_of (show gopS P cx o = some (.call f xs) by simp [gopS, ho, hc, hxs])]
   intro R en h K out hd K' hK
   obtain ⟨v, h1, hr, hk1⟩ := kCall_some hd
   show isVal K' (R f (evL en xs) h) = some out
   rw [hr]
   exact hK _ _ hk1
  ·rename_i hc
   split at hk
   ·rename_i x ha ht
    simp only [Option.bind_eq_bind, Option.bind_eq_some_iff, Option.some.injEq] at hk
    obtain ⟨y, hy, rfl⟩ := hk
    rw [gop_of (show gopS P cx o = some (.fn (oLenS y)) by simp [gopS, ho, hc, ha, ht, hy])]
    exact rel_pure (fun en => lenS1 (ev en y)) (fun _ _ => rfl) fun _ _ _ h => kLenS_some h
   ·rename_i x e ha ht
    simp only [Option.bind_eq_bind, Option.bind_eq_some_iff, Option.some.injEq] at hk
    obtain ⟨y, hy, rfl⟩ := hk
    rw [gop_of (show gopS P cx o = some (.fn (oLenV y)) by simp [gopS, ho, hc, ha, ht, hy])]
    exact rel_pure (fun en => lenV1 (ev en y)) (fun _ _ => rfl) fun _ _ _ h => kLenV_some h
   ·cases hk
  ·cases hk
 ·cases hk
theorem kop_rel (P : Program) (cx : Cx) (o : Oper) : KRel (kop P cx o) (gop P cx o) := by
 unfold kop
 cases hX : gopX P cx o with
 | some g =>
  have : gop P cx o = .fn g := by unfold gop; rw [hX]
  rw [this]
  exact rel_after rfl
 | none =>
  simp only
  cases h : kopS P cx o with
  | none => exact kopG_rel P cx o
  | some k => rw [gop_gopN hX]; exact kopS_rel h
end Go.Gev
